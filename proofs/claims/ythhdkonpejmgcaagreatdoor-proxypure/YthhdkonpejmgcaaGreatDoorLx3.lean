/-
  Several texts, joined.
-/
import Derived.Test.YthhdkonpejmgcaaGreatDoorLx2
import Derived.Laws.StructEq
import Derived.Lib.UnsafeStr
import Derived.Calls
import Derived.Test.YthhdkonpejmgcaaGreatDoorLx1
/-
  Each of the machine's operations is the model's, through the relation: operators.
-/
set_option linter.unusedSimpArgs false
set_option linter.unusedVariables false
namespace Go.Lx
section
variable {P : Program} {μ : Mu} {ν : Nat → Value} {s s' : St} {w : World}

theorem eqFlat_rel {t : TypeId} {d : TypeDesc} {n : Nat} {x y : V} {x' y' : Value} {b : Bool} {w2 : World} (hd : P.underlying t = some d) (hx : VRel μ ν x x') (hy : VRel μ ν y y') (h : eqFlat d x y = some b) : (Op.equalIn (n + 1) t x' y').run P w2 = .ok b w2 := by
  unfold Op.equalIn
  rw [run_pure_bind (run_underlying hd)]
  unfold eqFlat at h
  split at h
  case h_2 k k1 a k2 c =>
    cases hx; cases hy
    split at h
    · rename_i e; subst e
      injection h with h; subst h
      simp only [if_true]
      rfl
    · cases h
  case h_3 a c =>
    cases hx; cases hy
    injection h with h; subst h
    rw [eqNats_toNats]
    rfl
  all_goals first
    | (cases h; done)
    | (cases hx; cases hy; injection h with h; subst h; rfl)

theorem eqFlats_rel {n : Nat} {xs ys : List V} {xs' ys' : List Value} {w2 : World} (hx : VsRel μ ν xs xs') (hy : VsRel μ ν ys ys') : ∀ {fs : List Field} {b : Bool}, eqFlats P xs ys fs = some b → (Op.eqFields (n + 1) ⟨xs'⟩ ⟨ys'⟩ fs).run P w2 = .ok b w2
  | [], b, h => by injection h with h; subst h; rfl
  | f :: fs, b, h => by
    unfold eqFlats at h
    cases hn : f.name == "_"
    case true => rw [hn, cond_true] at h; cases h
    rw [hn, cond_false] at h
    have hne : f.name ≠ "_" := by simpa using hn
    cases hd : P.underlying f.type with
    | none => rw [hd] at h; cases h
    | some d =>
      rw [hd] at h
      simp only at h
      cases ha : isAggD d
      case true => rw [ha, cond_true] at h; cases h
      rw [ha, cond_false] at h
      cases hxv : xs[f.offset]? <;> cases hyv : ys[f.offset]? <;> simp only [hxv, hyv] at h <;> try (cases h; done)
      rename_i x y
      obtain ⟨x', hx1, hx2⟩ := hx.get hxv
      obtain ⟨y', hy1, hy2⟩ := hy.get hyv
      have px : (part f.type ⟨xs'⟩ f.offset).run P w2 = .ok x' w2 := by
        have e : (⟨xs'⟩ : Array Value)[f.offset]? = some x' := by simpa using hx1
        simp only [part, Sem.run_bind, run_isAgg hd, ha, Result.andThen_ok, Bool.false_eq_true, if_false, e, Sem.run_pure]
      have py : (part f.type ⟨ys'⟩ f.offset).run P w2 = .ok y' w2 := by
        have e : (⟨ys'⟩ : Array Value)[f.offset]? = some y' := by simpa using hy1
        simp only [part, Sem.run_bind, run_isAgg hd, ha, Result.andThen_ok, Bool.false_eq_true, if_false, e, Sem.run_pure]
      cases he : eqFlat d x y with
      | none => rw [he] at h; cases h
      | some c =>
        rw [he] at h
        have hq := eqFlat_rel (P := P) (n := n) (w2 := w2) hd hx2 hy2 he
        unfold Op.eqFields
        rw [if_pos hne, run_pure_bind px, run_pure_bind py, run_pure_bind hq]
        cases c with
        | true =>
          simp only at h
          simp only [Bool.not_true, Bool.false_eq_true, if_false]
          exact eqFlats_rel hx hy h
        | false =>
          injection h with h; subst h
          simp only [Bool.not_false, if_true, Sem.run_pure]

theorem eqFields_rel {n : Nat} {xs ys : List V} {xs' ys' : List Value} {w2 : World} (hx : VsRel μ ν xs xs') (hy : VsRel μ ν ys ys') : ∀ {fs : List Field} {b : Bool}, eqFields P xs ys fs = some b → (Op.eqFields (n + 1 + 1) ⟨xs'⟩ ⟨ys'⟩ fs).run P w2 = .ok b w2
  | [], b, h => by injection h with h; subst h; rfl
  | f :: fs, b, h => by
    unfold eqFields at h
    cases hn : f.name == "_"
    case true => rw [hn, cond_true] at h; cases h
    rw [hn, cond_false] at h
    have hne : f.name ≠ "_" := by simpa using hn
    cases hd : P.underlying f.type with
    | none => rw [hd] at h; cases h
    | some d =>
      rw [hd] at h
      simp only at h
      cases ha : isAggD d
      case true =>
        rw [ha, cond_true] at h
        cases d <;> try (cases h; done)
        rename_i gs
        cases hm : szT P f.type with
        | none => rw [hm] at h; cases h
        | some m =>
        rw [hm] at h
        simp only at h
        cases hst : P.stoodInHeld f.type
        case true => rw [hst, cond_true] at h; cases h
        rw [hst, cond_false] at h
        have ext : ∀ zs : List Value, (part f.type ⟨zs⟩ f.offset).run P w2 = .ok (.agg ⟨sub zs f.offset m⟩) w2 := fun zs => by
          have e : (⟨zs⟩ : Array Value).extract f.offset (f.offset + m) = ⟨sub zs f.offset m⟩ := by
            apply Array.ext'
            simp [sub]
          simp only [part, Sem.run_bind, run_isAgg hd, ha, Result.andThen_ok, if_true, run_sizeOf hm, Sem.run_pure, e]
        cases he : eqFlats P (sub xs f.offset m) (sub ys f.offset m) gs.toList with
        | none => rw [he] at h; cases h
        | some c =>
          rw [he] at h
          have hfo : P.fieldsOf f.type = gs := by simp [Program.fieldsOf, hd]
          have hq : (Op.equalIn (n + 1 + 1) f.type (.agg ⟨sub xs' f.offset m⟩) (.agg ⟨sub ys' f.offset m⟩)).run P w2 = .ok c w2 := by
            rw [run_equalIn_struct w2 (n + 1) f.type _ _ (by rw [hfo]; exact hd) hst, hfo]
            exact eqFlats_rel (hx.sub _ _) (hy.sub _ _) he
          unfold Op.eqFields
          rw [if_pos hne, run_pure_bind (ext xs'), run_pure_bind (ext ys'), run_pure_bind hq]
          cases c with
          | true =>
            simp only at h
            simp only [Bool.not_true, Bool.false_eq_true, if_false]
            exact eqFields_rel hx hy h
          | false =>
            injection h with h; subst h
            simp only [Bool.not_false, if_true, Sem.run_pure]
      rw [ha, cond_false] at h
      cases hxv : xs[f.offset]? <;> cases hyv : ys[f.offset]? <;> simp only [hxv, hyv] at h <;> try (cases h; done)
      rename_i x y
      obtain ⟨x', hx1, hx2⟩ := hx.get hxv
      obtain ⟨y', hy1, hy2⟩ := hy.get hyv
      have px : (part f.type ⟨xs'⟩ f.offset).run P w2 = .ok x' w2 := by
        have e : (⟨xs'⟩ : Array Value)[f.offset]? = some x' := by simpa using hx1
        simp only [part, Sem.run_bind, run_isAgg hd, ha, Result.andThen_ok, Bool.false_eq_true, if_false, e, Sem.run_pure]
      have py : (part f.type ⟨ys'⟩ f.offset).run P w2 = .ok y' w2 := by
        have e : (⟨ys'⟩ : Array Value)[f.offset]? = some y' := by simpa using hy1
        simp only [part, Sem.run_bind, run_isAgg hd, ha, Result.andThen_ok, Bool.false_eq_true, if_false, e, Sem.run_pure]
      cases he : eqFlat d x y with
      | none => rw [he] at h; cases h
      | some c =>
        rw [he] at h
        have hq := eqFlat_rel (P := P) (n := n + 1) (w2 := w2) hd hx2 hy2 he
        unfold Op.eqFields
        rw [if_pos hne, run_pure_bind px, run_pure_bind py, run_pure_bind hq]
        cases c with
        | true =>
          simp only at h
          simp only [Bool.not_true, Bool.false_eq_true, if_false]
          exact eqFields_rel hx hy h
        | false =>
          injection h with h; subst h
          simp only [Bool.not_false, if_true, Sem.run_pure]

theorem eqT_rel {t : TypeId} {x y : V} {x' y' : Value} {b : Bool} {w2 : World} (hx : VRel μ ν x x') (hy : VRel μ ν y y') (h : eqT P t x y = some b) :
    (Op.equal t x' y').run P w2 = .ok b w2 ∧ (∀ xs, x ≠ .agg xs ∨ P.eqGuardType P.depth t = false) := by
  have e : Op.maxDepth = 9998 + 1 + 1 := rfl
  unfold Op.equal
  rw [e]
  unfold eqT at h
  cases hd : P.underlying t with
  | none => simp only [hd] at h; cases h
  | some d =>
    simp only [hd] at h
    cases ha : isAggD d with
    | false =>
      by_cases hpp : ∃ e k o k2 o2, d = .pointer e ∧ x = .ptr k o ∧ y = .ptr k2 o2
      · obtain ⟨e, k, o, k2, o2, rfl, rfl, rfl⟩ := hpp
        simp only at h
        cases hc : (Nat.beq k k2 && Nat.beq o o2 && (szT P e).isSome)
        · rw [hc, cond_false] at h; cases h
        rw [hc, cond_true] at h
        injection h with h; subst h
        rw [Bool.and_eq_true, Bool.and_eq_true, nbeq_iff, nbeq_iff] at hc
        obtain ⟨⟨rfl, rfl⟩, hsz⟩ := hc
        obtain ⟨n, hn⟩ := Option.isSome_iff_exists.1 hsz
        refine ⟨?_, fun xs => .inl (by intro e; cases e)⟩
        cases hx with
        | ptr hp =>
          cases hy with
          | ptr hp2 =>
            rw [hp] at hp2; cases hp2
            unfold Op.equalIn
            rw [run_pure_bind (run_underlying hd)]
            simp only [Sem.run_bind, run_sizeOf hn, Result.andThen_ok]
            by_cases h0 : n = 0
            · subst h0
              simp
            · simp [h0, sameAddr]
      have h' : eqFlat d x y = some b := by
        cases d <;> simp only [isAggD] at ha <;> first | (cases ha; done) | (simp only [isAggD, cond_false] at h; exact h) | (cases x <;> (try (simp only [isAggD, cond_false] at h; exact h)) <;> cases y <;> first | (exact absurd ⟨_, _, _, _, _, rfl, rfl, rfl⟩ hpp) | (simp only [isAggD, cond_false] at h; exact h))
      refine ⟨eqFlat_rel hd hx hy h', fun xs => ?_⟩
      left
      intro e; subst e
      cases d <;> simp only [eqFlat] at h' <;> cases h'
    | true =>
      cases d <;> simp only [isAggD] at ha <;> try (cases ha; done)
      case array n e =>
        simp only [isAggD, cond_true] at h; cases h
      case struct fs =>
        cases x <;> (try (simp only [isAggD, cond_true] at h; cases h; done)) <;> cases y <;> simp only [isAggD, cond_true] at h <;> try (cases h; done)
        rename_i xs ys
        cases hx with
        | agg hx =>
          cases hy with
          | agg hy =>
            cases hc : (P.stoodInHeld t || P.eqGuardType P.depth t)
            case true => rw [hc, cond_true] at h; cases h
            rw [hc, cond_false] at h
            rw [Bool.or_eq_false_iff] at hc
            refine ⟨?_, fun _ => .inr hc.2⟩
            have hfo : P.fieldsOf t = fs := by simp [Program.fieldsOf, hd]
            rw [run_equalIn_struct w2 (9998 + 1) t _ _ (by rw [hfo]; exact hd) hc.1, hfo]
            exact eqFields_rel hx hy h

theorem run_eqGuard_plain {op : BinOp} {t : TypeId} {x y : Operand} {a b : Value} {w2 : World} (h1 : ¬ (a = .nilIface ∧ b = .nilIface)) (h2 : ∀ xs ys, a = .agg xs → b = .agg ys → P.eqGuardType P.depth t = false) : (eqGuard op t x y a b).run P w2 = .ok () w2 := by
  cases op <;> cases a <;> first
    | rfl
    | (cases b <;> first | rfl | exact absurd ⟨rfl, rfl⟩ h1 | (simp [eqGuard, run_program, h2 _ _ rfl rfl]))

end
end Go.Lx

/-
  Each of the machine's operations is the model's, through the relation: operators, and all operations but calls together.
-/
set_option linter.unusedSimpArgs false
set_option linter.unusedVariables false
namespace Go.Lx
noncomputable section

theorem ltNats_bytes : ∀ (a b : List UInt8), ltNats (a.map (·.toNat)) (b.map (·.toNat)) = Op.bytesLess a b
  | [], [] => rfl
  | [], b :: y => rfl
  | a :: x, [] => rfl
  | a :: x, b :: y => by
    simp only [List.map_cons, ltNats, Op.bytesLess, ltNats_bytes x y]
    have e1 : Nat.blt a.toNat b.toNat = decide (a < b) := by
      rw [Bool.eq_iff_iff, blt_iff, decide_eq_true_eq, UInt8.lt_iff_toNat_lt]
    have e2 : Nat.beq a.toNat b.toNat = (a == b) := by
      rw [Bool.eq_iff_iff, nbeq_iff, beq_iff_eq, UInt8.toNat_inj]
    rw [e1, e2]

theorem ltNats_lists {a b : ByteArray} : ltNats (toNats a) (toNats b) = Op.bytesLess a.toList b.toList := by
  rw [Go.ByteArray.toList_eq, Go.ByteArray.toList_eq]
  exact ltNats_bytes _ _

theorem toNats_append (a b : ByteArray) : toNats (a ++ b) = toNats a ++ toNats b := by
  simp [toNats, ByteArray.data_append]

section
variable {P : Program} {μ : Mu} {ν : Nat → Value} {s s' : St} {w : World}

theorem binInt_rel {op : BinOp} {t : TypeId} {k : IntKind} {a b : Int} {v : V} {w2 : World} (h1 : op ≠ .shl) (h2 : op ≠ .shr) (h : binInt op k a b = some v) : ∃ r, (binOp op t (.int k a) (.int k b)).run P w2 = .ok r w2 ∧ VRel μ ν v r := by
  cases op <;> simp only [binInt] at h <;> try (cases h; done)
  case quo =>
    split at h
    · cases h
    · rename_i hb
      injection h with h; subst h
      exact ⟨_, by simp only [binOp, ne_eq, not_true_eq_false, if_false, Op.intDiv, hb]; rfl, .int _ _⟩
  case rem =>
    split at h
    · cases h
    · rename_i hb
      injection h with h; subst h
      exact ⟨_, by simp only [binOp, ne_eq, not_true_eq_false, if_false, Op.intDiv, hb]; rfl, .int _ _⟩
  all_goals
    injection h with h; subst h
    first
      | exact ⟨_, by simp only [binOp, ne_eq, not_true_eq_false, if_false]; rfl, .int _ _⟩
      | exact ⟨_, by simp only [binOp, ne_eq, not_true_eq_false, if_false]; rfl, .bool _⟩

theorem binStr_rel {op : BinOp} {t : TypeId} {a b : ByteArray} {v : V} {w2 : World} (h : binStr op (toNats a) (toNats b) = some v) : ∃ r, (binOp op t (.string a) (.string b)).run P w2 = .ok r w2 ∧ VRel μ ν v r := by
  cases op <;> simp only [binStr] at h <;> try (cases h; done)
  case add =>
    rw [toNats_length, toNats_length] at h
    cases hb : Nat.ble (a.size + b.size) 9223372036854775807
    · rw [hb, cond_false] at h; cases h
    · rw [hb, cond_true] at h
      injection h with h; subst h
      rw [ble_iff] at hb
      have hm : IntKind.i64.max = 9223372036854775807 := by decide
      refine ⟨.string (a ++ b), ?_, by rw [← toNats_append]; exact .str _⟩
      simp only [binOp, Op.stringOp, hm]
      rw [if_neg (by omega)]
      rfl
  all_goals
    injection h with h; subst h
    simp only [eqNats_lists, ltNats_lists]
    exact ⟨_, by simp only [binOp, Op.stringOp]; rfl, .bool _⟩

theorem bin_int_eq {op : BinOp} {t : TypeId} {ox oy : Operand} {k k' : IntKind} {a b : Int} {w2 : World} : (do eqGuard op t ox oy (.int k a) (.int k' b); binOp op t (.int k a) (.int k' b) : Sem Value).run P w2 = (binOp op t (.int k a) (.int k' b)).run P w2 := by
  rw [run_pure_bind (run_eqGuard_plain (by simp) (by intro xs ys e; cases e))]

def plainEqV : Value → Bool
  | .int .. | .float .. | .complex .. | .string _ => false
  | _ => true

theorem binop_eql {t : TypeId} {x' y' : Value} (h : plainEqV x' = true) : binOp .eql t x' y' = (do pure (.bool (← Op.equal t x' y')) : Sem Value) := by
  cases x' <;> first | (cases h; done) | rfl | (cases y' <;> rfl)
theorem binop_neq {t : TypeId} {x' y' : Value} (h : plainEqV x' = true) : binOp .neq t x' y' = (do pure (.bool (!(← Op.equal t x' y'))) : Sem Value) := by
  cases x' <;> first | (cases h; done) | rfl | (cases y' <;> rfl)

theorem sim_eq {t : TypeId} {ox oy : Operand} {x y : V} {x' y' : Value} {b : Bool} (hx : VRel μ ν x x') (hy : VRel μ ν y y') (h : eqT P t x y = some b) (hni : ¬ (x = .nilIface ∧ y = .nilIface)) (hpl : plainEqV x' = true) :
    (do eqGuard .eql t ox oy x' y'; binOp .eql t x' y' : Sem Value).run P w = .ok (.bool b) w ∧ (do eqGuard .neq t ox oy x' y'; binOp .neq t x' y' : Sem Value).run P w = .ok (.bool (!b)) w := by
  obtain ⟨e1, e2⟩ := eqT_rel (P := P) (w2 := w) hx hy h
  have hs : ∀ i, x ≠ .sym i ∧ y ≠ .sym i := by
    intro i
    unfold eqT at h
    constructor
    · intro e; subst e
      cases hd : P.underlying t with
      | none => simp only [hd] at h; cases h
      | some d => simp only [hd] at h; cases d <;> simp [isAggD, eqFlat] at h
    · intro e; subst e
      cases hd : P.underlying t with
      | none => simp only [hd] at h; cases h
      | some d => simp only [hd] at h; cases d <;> cases x <;> simp [isAggD, eqFlat] at h
  have hg : ∀ op, (eqGuard op t ox oy x' y').run P w = .ok () w := fun op => run_eqGuard_plain (by
      rintro ⟨f1, f2⟩
      cases x <;> first | exact absurd rfl (hs _).1 | (cases hx; cases f1; done) | skip
      cases y <;> first | exact absurd rfl (hs _).2 | (cases hy; cases f2; done) | exact hni ⟨rfl, rfl⟩) (by
      intro xs ys hxs hys
      cases x <;> first | exact absurd rfl (hs _).1 | (cases hx; cases hxs; done) | skip
      rcases e2 _ with h | h
      · exact absurd rfl h
      · exact h)
  constructor
  · rw [run_pure_bind (hg _), binop_eql hpl, run_pure_bind e1]; rfl
  · rw [run_pure_bind (hg _), binop_neq hpl, run_pure_bind e1]; rfl

theorem sim_bin {op : BinOp} {t : TypeId} {ox oy : Operand} {x y v : V} {x' y' : Value} (hr : Rel P μ ν s.heap w.heap) (hx : VRel μ ν x x') (hy : VRel μ ν y y') (h : binV P op t (constO ox || constO oy) x y = some v) :
    SimV P μ ν s s w (do eqGuard op t ox oy x' y'; binOp op t x' y') v := by
  have rest : eqOpV P op t x y = some v → ¬ (x = .nilIface ∧ y = .nilIface) → plainEqV x' = true → SimV P μ ν s s w (do eqGuard op t ox oy x' y'; binOp op t x' y') v := by
    intro h hni hpl
    unfold eqOpV at h
    cases op <;> simp only at h <;> try (cases h; done)
    all_goals
      cases he : eqT P t x y with
      | none => rw [he] at h; cases h
      | some b =>
        rw [he] at h
        injection h with h; subst h
        obtain ⟨g1, g2⟩ := sim_eq (P := P) (w := w) (ox := ox) (oy := oy) hx hy he hni hpl
        first
          | exact .quiet hr g1 (.bool _) rfl rfl
          | exact .quiet hr g2 (.bool _) rfl rfl
  have other : ∀ {z : V}, x = z → (∀ k n, z ≠ .int k n) → (∀ l, z ≠ .str l) → z ≠ .nilIface → (∀ i, z ≠ .sym i) → SimV P μ ν s s w (do eqGuard op t ox oy x' y'; binOp op t x' y') v := by
    intro z hz h1 h2 h3 h4
    refine rest ?_ (fun e => h3 (hz ▸ e.1)) ?_
    · subst hz
      unfold binV at h
      cases x <;> first
        | exact absurd rfl (h1 _ _)
        | exact absurd rfl (h2 _)
        | exact absurd rfl h3
        | (cases y <;> exact h)
    · subst hz
      cases x <;> cases hx <;> first
        | rfl
        | exact absurd rfl (h1 _ _)
        | exact absurd rfl (h2 _)
        | exact absurd rfl (h4 _)
  cases x
  case int k a =>
    cases y
    case int k' b =>
      cases hx; cases hy
      simp only [binV] at h
      cases op <;> simp only at h
      case shl =>
        split at h
        · cases h
        · rename_i hb
          injection h with h; subst h
          refine .quiet (r := .int k (k.wrap (a * 2 ^ (min b.toNat k.bits)))) hr ?_ (.int _ _) rfl rfl
          rw [bin_int_eq]
          simp only [binOp, Op.shift, hb, if_false]
          rfl
      case shr =>
        split at h
        · cases h
        · rename_i hb
          injection h with h; subst h
          refine .quiet (r := .int k (a.fdiv (2 ^ (min b.toNat k.bits)))) hr ?_ (.int _ _) rfl rfl
          rw [bin_int_eq]
          simp only [binOp, Op.shift, hb, if_false]
          rfl
      all_goals
        split at h
        · rename_i e; subst e
          obtain ⟨r, g1, g2⟩ := binInt_rel (P := P) (μ := μ) (ν := ν) (t := t) (w2 := w) (by intro e; cases e) (by intro e; cases e) h
          exact .quiet hr (by rw [bin_int_eq]; exact g1) g2 rfl rfl
        · cases h
    all_goals
      simp only [binV, eqOpV] at h
      cases op <;> simp only at h <;> try (cases h; done)
      all_goals
        unfold eqT at h
        cases hd : P.underlying t with
        | none => simp only [hd] at h; cases h
        | some d => simp only [hd] at h; cases d <;> simp [isAggD, eqFlat] at h
  case str l =>
    cases y
    case str l' =>
      cases hx; cases hy
      rename_i a b
      obtain ⟨r, g1, g2⟩ := binStr_rel (P := P) (μ := μ) (ν := ν) (t := t) (w2 := w) h
      refine .quiet hr ?_ g2 rfl rfl
      rw [run_pure_bind (run_eqGuard_plain (by simp) (by intro xs ys e; cases e))]
      exact g1
    all_goals
      simp only [binV, eqOpV] at h
      cases op <;> simp only at h <;> try (cases h; done)
      all_goals
        unfold eqT at h
        cases hd : P.underlying t with
        | none => simp only [hd] at h; cases h
        | some d => simp only [hd] at h; cases d <;> simp [isAggD, eqFlat] at h
  case nilIface =>
    cases hy' : y
    case nilIface =>
      subst hy'
      cases hx; cases hy
      simp only [binV] at h
      cases hc : (constO ox || constO oy)
      · rw [hc, cond_false] at h; cases h
      rw [hc, cond_true] at h
      cases hd : P.underlying t with
      | none => simp only [hd] at h; cases h
      | some d =>
        simp only [hd] at h
        cases d <;> simp only at h <;> try (cases h; done)
        have hgu : ∀ op, (eqGuard op t ox oy .nilIface .nilIface).run P w = .ok () w := by
          intro op
          cases op <;> first | rfl | (cases ox <;> cases oy <;> first | rfl | cases hc)
        have heq : (Op.equal t .nilIface .nilIface).run P w = .ok true w := by
          have e : Op.maxDepth = 9999 + 1 := rfl
          unfold Op.equal
          rw [e]
          unfold Op.equalIn
          rw [run_pure_bind (run_underlying hd)]
          rfl
        cases op <;> simp only at h <;> try (cases h; done)
        · injection h with h; subst h
          refine .quiet (r := .bool true) hr ?_ (.bool _) rfl rfl
          rw [run_pure_bind (hgu _), binop_eql rfl, run_pure_bind heq]; rfl
        · injection h with h; subst h
          refine .quiet (r := .bool false) hr ?_ (.bool _) rfl rfl
          rw [run_pure_bind (hgu _), binop_neq rfl, run_pure_bind heq]; rfl
    all_goals
      refine rest ?_ (fun e => by rw [hy'] at e; cases e.2) (by cases hx; rfl)
      subst hy'
      exact h
  case sym i =>
    exfalso
    have : eqT P t (.sym i) y = none := by
      unfold eqT
      cases hd : P.underlying t with
      | none => rfl
      | some d => cases d <;> simp [isAggD, eqFlat]
    cases y <;> simp only [binV, eqOpV, this] at h <;> cases op <;> cases h
  all_goals
    exact other rfl (by intro _ _ e; cases e) (by intro _ e; cases e) (by intro e; cases e) (by intro _ e; cases e)

theorem sim_un {op : UnOp} {x v : V} {x' : Value} (hr : Rel P μ ν s.heap w.heap) (hx : VRel μ ν x x') (h : unV op x = some v) : SimV P μ ν s s w (Op.unary op x') v := by
  cases op <;> cases x <;> simp only [unV] at h <;> try (cases h; done)
  case neg.int k n =>
    cases hx
    injection h with h; subst h
    exact .quiet hr (by simp only [Op.unary, Op.intArith]; rfl) (.int _ _) rfl rfl
  case xor.int k n =>
    cases hx
    simp only [binInt] at h
    injection h with h; subst h
    exact .quiet hr (by simp only [Op.unary, Op.intBits]; rfl) (.int _ _) rfl rfl
  case not.bool b =>
    cases hx
    injection h with h; subst h
    exact .quiet hr (by simp only [Op.unary]; rfl) (.bool _) rfl rfl

end
end
end Go.Lx

/-
  One operation of the machine is one of the model's.
-/
set_option linter.unusedSimpArgs false
set_option linter.unusedVariables false
namespace Go.Lx
noncomputable section
section
variable {P : Program} {μ : Mu} {ν : Nat → Value} {s s' : St} {w : World}
def SimN (P : Program) (μ : Mu) (ν : Nat → Value) (s s' : St) (w : World) (m : Sem Next) (v : V) : Prop :=
  ∃ μ' w' r, (m.run P w = .ok (.value r) w' ∨ (m.run P w = .ok .skip w' ∧ r = undef)) ∧ VRel μ' ν v r ∧ StepOk P μ ν s.heap s.next w μ' s'.heap s'.next w'

theorem SimV.next {m : Sem Value} {v : V} (h : SimV P μ ν s s' w m v) : SimN P μ ν s s' w (do pure (.value (← m))) v := by
  obtain ⟨μ', w', r, h1, h2, h3⟩ := h
  exact ⟨μ', w', r, .inl (by rw [run_pure_bind h1]; rfl), h2, h3⟩

theorem SimN.value {v : V} {r : Value} (hr : Rel P μ ν s.heap w.heap) (hv : VRel μ ν v r) : SimN P μ ν s s w (pure (.value r)) v :=
  ⟨μ, w, r, .inl rfl, hv, StepOk.refl hr⟩

theorem sim_minInts {k : IntKind} : ∀ {l : List V} {rs : List Value} {a : Int} {v : V}, VsRel μ ν l rs → minInts k a l = some v → ∃ r, (rs.foldlM Builtin.min2 (.int k a)).run P w = .ok r w ∧ VRel μ ν v r
  | [], _, a, v, h, hv => by cases h; injection hv with hv; subst hv; exact ⟨_, rfl, .int _ _⟩
  | x :: l, _, a, v, h, hv => by
    cases h with
    | cons h hs =>
      cases x <;> simp only [minInts] at hv <;> try (cases hv; done)
      cases h
      obtain ⟨r, g1, g2⟩ := sim_minInts hs hv
      refine ⟨r, ?_, g2⟩
      simp only [List.foldlM_cons, Builtin.min2, pure_bind]
      exact g1

theorem sim_maxInts {k : IntKind} : ∀ {l : List V} {rs : List Value} {a : Int} {v : V}, VsRel μ ν l rs → maxInts k a l = some v → ∃ r, (rs.foldlM Builtin.max2 (.int k a)).run P w = .ok r w ∧ VRel μ ν v r
  | [], _, a, v, h, hv => by cases h; injection hv with hv; subst hv; exact ⟨_, rfl, .int _ _⟩
  | x :: l, _, a, v, h, hv => by
    cases h with
    | cons h hs =>
      cases x <;> simp only [maxInts] at hv <;> try (cases hv; done)
      cases h
      obtain ⟨r, g1, g2⟩ := sim_maxInts hs hv
      refine ⟨r, ?_, g2⟩
      simp only [List.foldlM_cons, Builtin.max2, pure_bind]
      exact g1
theorem liesAt_row {e u : TypeId} (hc : P.cellsOf e = 1) (hs : sameLayout P P.depth e u = true) (count off n : Nat) (hn : off + n ≤ count) : liesAt P P.depth e count off u n = true := by
  obtain ⟨D, hD⟩ : ∃ D, P.depth = D + 1 := ⟨_, rfl⟩
  have r : rowAt P (fun t => sameLayout P P.depth t u) (D + 1) e count off n = true := by
    unfold rowAt
    simp [hc, hn, hs]
    exact .inl (Nat.mod_one off)
  have r2 : rowAt P (fun t => sameLayout P P.depth t u) P.depth e count off n = true := (congrArg (fun d => rowAt P (fun t => sameLayout P P.depth t u) d e count off n) hD).trans r
  have key : ∀ d, liesAt P (d + 1) e count off u n = true := by
    intro d
    unfold liesAt
    rw [r2]
    rfl
  rw [hD]
  exact key D
theorem unsafeString_some {ts : Array TypeId} {ty : TypeId} {ky : IntKind} {n : Int} (a : Addr) : ∃ (e1 : Sem Value) (e2 e3 : Sem PUnit) (e4 : Sem Value), Builtin.unsafeString_ ts ty #[.pointer (some a), .int ky n] = (do
    let n ← asInt (.int ky n)
    let some pt := ts[0]? | e1
    if n < 0 then e2
    if n > IntKind.i64.max then e3
    if n = 0 then pure (.string .empty)
    else if ← variablesAt a (← elemOf pt) n.toNat then do
      let s ← loadBytes a .empty n.toNat
      freeze a n.toNat
      pure (.string s)
    else e4) := ⟨_, _, _, _, rfl⟩

theorem unsafeString_none {ts : Array TypeId} {ty : TypeId} {ky : IntKind} {n : Int} : ∃ (e1 : Sem Value) (e2 e3 : Sem PUnit) (e4 : Sem Value), Builtin.unsafeString_ ts ty #[.pointer none, .int ky n] = (do
    let n ← asInt (.int ky n)
    let some pt := ts[0]? | e1
    if n < 0 then e2
    if n > IntKind.i64.max then e3
    if n = 0 then pure (.string .empty)
    else e4) := ⟨_, _, _, _, rfl⟩

theorem natsV_get : ∀ {vs : List V} {l : List Nat} {j : Nat} {v : V}, natsV vs = some l → vs[j]? = some v → ∃ m : Nat, v = .int .u8 (Int.ofNat m)
  | [], l, j, v, _, h => by simp at h
  | x :: vs, l, j, v, hn, h => by
    unfold natsV at hn
    split at hn
    · simp_all
    · rename_i n rest heq
      injection heq with h1 h2
      subst h1; subst h2
      cases j with
      | zero => simp at h; exact ⟨n, h.symm⟩
      | succ j =>
        cases hr : natsV vs with
        | none => rw [hr] at hn; cases hn
        | some r => exact natsV_get hr (by simpa using h)
    · cases hn

theorem freeze_block {a : Addr} {n : Nat} {b : Nat} (h : b ≠ a.block) : (w.freeze a n).heap[b]? = w.heap[b]? := by
  unfold World.freeze
  split
  · rfl
  · simp only [Array.getElem?_modify]
    rw [if_neg (Ne.symm h)]

theorem freeze_size {a : Addr} {n : Nat} : (w.freeze a n).heap.size = w.heap.size := by
  unfold World.freeze
  split
  · rfl
  · simp

theorem freeze_rest {a : Addr} {n : Nat} : (w.freeze a n).os = w.os ∧ (w.freeze a n).tape = w.tape ∧ (w.freeze a n).output = w.output := by
  unfold World.freeze
  split <;> exact ⟨rfl, rfl, rfl⟩
theorem StepOk.frozen {h : T Ob} {n : Nat} {k : Nat} {p : Pl} {ob : Ob} {m : Nat} {o : Nat} (hr : Rel P μ ν h w.heap) (hk : h.get k = some ob) (hp : μ k = some p) (h0r : ob.isRo = false := by rfl) :
    StepOk P μ ν h n w μ (h.set k none) n (w.freeze ⟨p.blk, o, none⟩ m) where
  le := Mu.le_refl _
  new := fun _ _ => rfl
  rel := by
    refine ⟨fun j ob' hj => ?_, (hr.drop k).sep⟩
    rw [T.get_set] at hj
    split at hj
    · cases hj
    · rename_i e
      obtain ⟨q, hq, hor⟩ := hr.ob j ob' hj
      exact ⟨q, hq, hor.mono (Mu.le_refl _) (freeze_block (hr.sep j k ob' ob q p hj hk e (by rw [h0r, Bool.and_false]) hq hp))⟩
  os := freeze_rest.1
  tape := freeze_rest.2.1
  output := freeze_rest.2.2
  size := Nat.le_of_eq freeze_size.symm
  block := fun b _ hf => freeze_block fun e => hf k p hp e.symm
  newblk := fun k p h1 h2 => by rw [h1] at h2; cases h2
  ro := fun j c q h1 hq => by
    have hne : j ≠ k := fun e => by
      subst e
      rw [hk] at h1
      cases h1
      cases h0r
    exact ⟨by rw [T.get_set, if_neg hne]; exact h1, freeze_block (hr.sep j k _ ob q p h1 hk hne (by rw [h0r, Bool.and_false]) hq hp)⟩

theorem sim_unsafeString {t : TypeId} {x v : V} {x' : Value} {n : Nat} {ky : IntKind} {ts : Array TypeId} {ty : TypeId} (hr : Rel P μ ν s.heap w.heap) (ht : ts[0]? = some t) (hx : VRel μ ν x x') (h : unsafeStringM P t x n s = .ok v s') :
    SimV P μ ν s s' w (Builtin.unsafeString_ ts ty #[x', .int ky (n : Int)]) v := by
  unfold unsafeStringM at h
  cases hd : P.underlying t <;> simp only [hd] at h <;> try exact (err_ok h).elim
  rename_i d
  have hneg : ¬ ((n : Int) < 0) := by omega
  have hel : ∀ u, d = .pointer u → ∀ w2, (elemOf t).run P w2 = .ok u w2 := by
    intro u e w2; subst e
    simp only [elemOf, Sem.run_bind, run_underlying hd, Result.andThen_ok, Sem.run_pure]
  cases d <;> (try simp only at h) <;> try exact (err_ok h).elim
  rename_i u
  have hu := hel u rfl
  cases hx <;> (try simp only at h) <;> try exact (err_ok h).elim
  case nilptr =>
    cases h0 : Nat.beq n 0
    · rw [h0, cond_false] at h; exact (err_ok h).elim
    rw [h0, cond_true] at h
    rw [nbeq_iff] at h0; subst h0
    obtain ⟨rfl, rfl⟩ := ret_ok h
    refine .quiet (r := .string .empty) hr ?_ (.str .empty) rfl rfl
    obtain ⟨e1', e2', e3', e4', he⟩ := unsafeString_none (ts := ts) (ty := ty) (ky := ky) (n := ((0 : Nat) : Int))
    rw [he]
    simp only [asInt, asIntOf, ht, Sem.run_bind, Sem.run_pure, Result.andThen_ok]
    rfl
  case ptr k o p hp =>
    cases h0 : Nat.beq n 0
    case true =>
      rw [h0, cond_true] at h
      rw [nbeq_iff] at h0; subst h0
      obtain ⟨rfl, rfl⟩ := ret_ok h
      refine .quiet (r := .string .empty) hr ?_ (.str .empty) rfl rfl
      obtain ⟨e1', e2', e3', e4', he⟩ := unsafeString_some (ts := ts) (ty := ty) (ky := ky) (n := ((0 : Nat) : Int)) ⟨p.blk, p.off + o, none⟩
      rw [he]
      simp only [asInt, asIntOf, ht, Sem.run_bind, Sem.run_pure, Result.andThen_ok]
      rfl
    rw [h0, cond_false] at h
    rw [nbeq_false] at h0
    obtain ⟨⟨len, e, q⟩, s1, h1, h2⟩ := bnd_ok h
    obtain ⟨c, e1, q1, hg, hq, rfl⟩ := blk_ok h1
    injection hq with hq1 hq2
    injection hq2 with hq2 hq3
    subst hq1; subst hq2; subst hq3
    simp only at h2
    cases hc : (Nat.ble n 9223372036854775807 && Nat.blt 0 P.depth && Nat.beq (P.cellsOf e) 1 && sameLayout P P.depth e u)
    · rw [hc, cond_false] at h2; exact (err_ok h2).elim
    rw [hc, cond_true] at h2
    rw [Bool.and_eq_true, Bool.and_eq_true, Bool.and_eq_true, ble_iff, nbeq_iff] at hc
    obtain ⟨⟨⟨c1, _⟩, c2⟩, c3⟩ := hc
    obtain ⟨cs, s2, h3, h4⟩ := bnd_ok h2
    obtain ⟨c', hg', hq', rfl, rfl⟩ := ld_ok h3
    have hg1 : s.heap.get k = some (.cells c e q) := hg
    obtain rfl : c = c' := (HasRow.cells hg' hg1).symm
    cases hn : natsV (sub c o n) <;> simp only [hn] at h4
    · exact (err_ok h4).elim
    rename_i l
    obtain ⟨u', s3, h5, h6⟩ := bnd_ok h4
    obtain ⟨c3', e3, q3, hg3, rfl⟩ := kill_ok h5
    obtain ⟨rfl, rfl⟩ := ret_ok h6
    obtain ⟨rs, g1, g2⟩ := run_loads (P := P) hr (.of_cells hg1) hp hq'
    obtain ⟨f1, f2⟩ := natsV_rel g2 hn
    obtain ⟨p', hp', hor⟩ := hr.ob k _ hg1
    rw [hp] at hp'; cases hp'
    obtain ⟨_, _, rc, frz, r3, _, r4, r5, _, r7⟩ := hor
    have hshape : w.shape? p.blk = some (e, rc.size) := by simp [World.shape?, r3]
    have hlies : liesAt P P.depth e (rc.size / P.cellsOf e) (p.off + o) u n = true := by
      rw [c2, Nat.div_one]
      exact liesAt_row c2 c3 _ _ _ (by omega)
    have hll : l.length = n := by
      have := congrArg List.length f1
      rw [← g2.length, sub_length hq'] at this
      simpa using this.symm
    have hbytes : (loadBytes ⟨p.blk, p.off + o, none⟩ .empty n).run P w = .ok ⟨(l.map UInt8.ofNat).toArray⟩ w := by
      have := Lib.run_loadBytes (P := P) w (l.map UInt8.ofNat) ⟨p.blk, p.off + o, none⟩ .empty (fun j x hj => by
        rw [add_none, cell_at r3]
        rw [List.getElem?_map] at hj
        cases hlj : l[j]? with
        | none => rw [hlj] at hj; cases hj
        | some m =>
          rw [hlj] at hj
          injection hj with hj; subst hj
          have hjn : j < n := by rw [← hll]; exact (List.getElem?_eq_some_iff.1 hlj).1
          have hrs : rs[j]? = some (.int .u8 (Int.ofNat m)) := by rw [f1]; simp [hlj]
          obtain ⟨v0, hv0⟩ : ∃ v0, (sub c o n)[j]? = some v0 := ⟨_, List.getElem?_eq_getElem (by rw [sub_length hq']; exact hjn)⟩
          obtain ⟨r0, hr0, hv1⟩ := g2.get hv0
          rw [hrs] at hr0; injection hr0 with hr0; subst hr0
          rw [sub_get hjn] at hv0
          obtain ⟨r1, hr1, hv2⟩ := r7 _ _ hv0
          obtain ⟨m', rfl⟩ := natsV_get hn (show (sub c o n)[j]? = some v0 by rw [sub_get hjn]; exact hv0)
          cases hv1
          cases hv2
          rw [Nat.add_assoc]
          rw [hr1]
          have hm : m < 256 := f2 m (List.mem_of_getElem? hlj)
          have : (UInt8.ofNat m).toNat = m := by simp; omega
          rw [this]; rfl)
      rw [List.length_map, hll] at this
      rw [this]
      have e0 : (ByteArray.empty.data ++ (l.map UInt8.ofNat).toArray) = (l.map UInt8.ofNat).toArray := by
        show (#[] : Array UInt8) ++ _ = _
        simp
      rw [e0]
    have hmax : ¬ ((n : Int) > IntKind.i64.max) := by
      have : IntKind.i64.max = 9223372036854775807 := by decide
      rw [this]; omega
    refine ⟨μ, w.freeze ⟨p.blk, p.off + o, none⟩ n, .string ⟨(l.map UInt8.ofNat).toArray⟩, ?_, ?_, StepOk.frozen hr hg1 hp⟩
    · have hn0 : ¬ ((n : Int) = 0) := by omega
      obtain ⟨e1', e2', e3', e4', he⟩ := unsafeString_some (ts := ts) (ty := ty) (ky := ky) (n := (n : Int)) ⟨p.blk, p.off + o, none⟩
      rw [he]
      simp only [asInt, asIntOf, ht, Sem.run_bind, Sem.run_pure, Result.andThen_ok, hneg, hmax, if_false, hn0, hu, variablesAt, run_program, run_shape, hshape, Int.toNat_natCast, hlies, if_true, hbytes, run_freeze]
    · have e0 : toNats ⟨(l.map UInt8.ofNat).toArray⟩ = l := by
        simp only [toNats, List.map_map]
        conv => rhs; rw [← List.map_id l]
        apply List.map_congr_left
        intro m hm
        have := f2 m hm
        simp only [Function.comp, id]
        simp; omega
      have hv := VRel.str (μ := μ) (ν := ν) ⟨(l.map UInt8.ofNat).toArray⟩
      rw [e0] at hv
      exact hv

theorem sim_builtin {b : Builtin} {ts : Array TypeId} {ty : TypeId} {cs : Array Bool} {args : List V} {args' : List Value} {v : V} (hr : Rel P μ ν s.heap w.heap) (hf : Fresh μ s s') (ha : VsRel μ ν args args') (h : builtinM P b ts args s = .ok v s') :
    SimN P μ ν s s' w (builtin b ts ty cs ⟨args'⟩) v := by
  unfold builtinM at h
  have one : ∀ {x : V} {l' : List Value}, VsRel μ ν [x] l' → ∃ x', l' = [x'] ∧ VRel μ ν x x' := by
    intro x l' hl; cases hl with | cons h hs => cases hs; exact ⟨_, rfl, h⟩
  have two : ∀ {x y : V} {l' : List Value}, VsRel μ ν [x, y] l' → ∃ x' y', l' = [x', y'] ∧ VRel μ ν x x' ∧ VRel μ ν y y' := by
    intro x y l' hl; cases hl with | cons h hs => cases hs with | cons h' hs => cases hs; exact ⟨_, _, rfl, h, h'⟩
  cases b
  case len =>
    rcases args with _ | ⟨x, _ | ⟨y, l⟩⟩ <;> cases ht : ts[0]? <;> simp only [ht] at h <;> try exact (err_ok h).elim
    obtain ⟨x', rfl, hx⟩ := one ha
    exact (sim_len hr ht hx h).next
  case cap =>
    rcases args with _ | ⟨x, _ | ⟨y, l⟩⟩ <;> cases ht : ts[0]? <;> simp only [ht] at h <;> try exact (err_ok h).elim
    obtain ⟨x', rfl, hx⟩ := one ha
    exact (sim_cap hr ht hx h).next
  case clear =>
    rcases args with _ | ⟨x, _ | ⟨y, l⟩⟩ <;> cases ht : ts[0]? <;> simp only [ht] at h <;> try exact (err_ok h).elim
    obtain ⟨x', rfl, hx⟩ := one ha
    exact (sim_clear hr ht hx h).next
  case append =>
    rcases args with _ | ⟨x, _ | ⟨y, _ | ⟨z, l⟩⟩⟩ <;> cases ht : ts[0]? <;> simp only [ht] at h <;> try exact (err_ok h).elim
    cases htx : ts[1]? <;> simp only [htx] at h
    · exact (err_ok h).elim
    · obtain ⟨x', y', rfl, hx, hy⟩ := two ha
      exact (sim_append hr hf ht htx hx hy h).next
  case copy =>
    rcases args with _ | ⟨x, _ | ⟨y, _ | ⟨z, l⟩⟩⟩ <;> cases ht : ts[0]? <;> simp only [ht] at h <;> try exact (err_ok h).elim
    obtain ⟨x', y', rfl, hx, hy⟩ := two ha
    exact (sim_copy hr ht hx hy h).next
  case delete =>
    rcases args with _ | ⟨x, _ | ⟨y, _ | ⟨z, l⟩⟩⟩ <;> cases ht : ts[0]? <;> simp only [ht] at h <;> try exact (err_ok h).elim
    obtain ⟨x', y', rfl, hx, hy⟩ := two ha
    exact (sim_delete hr ht hx hy h).next
  case min =>
    rcases args with _ | ⟨x, l⟩
    · exact (err_ok h).elim
    · cases x <;> (try simp only at h) <;> try exact (err_ok h).elim
      obtain ⟨h1, rfl⟩ := opt_ok h
      cases ha with
      | cons hx hs =>
        cases hx
        obtain ⟨r, g1, g2⟩ := sim_minInts (P := P) (w := w) hs h1
        refine SimV.next (m := Builtin.min_ ts ty _) (.quiet hr ?_ g2 rfl rfl)
        simp only [Builtin.min_]
        exact g1
  case max =>
    rcases args with _ | ⟨x, l⟩
    · exact (err_ok h).elim
    · cases x <;> (try simp only at h) <;> try exact (err_ok h).elim
      obtain ⟨h1, rfl⟩ := opt_ok h
      cases ha with
      | cons hx hs =>
        cases hx
        obtain ⟨r, g1, g2⟩ := sim_maxInts (P := P) (w := w) hs h1
        refine SimV.next (m := Builtin.max_ ts ty _) (.quiet hr ?_ g2 rfl rfl)
        simp only [Builtin.max_]
        exact g1
  case unsafeSliceData =>
    rcases args with _ | ⟨x, _ | ⟨y, l⟩⟩
    · exact (err_ok h).elim
    · obtain ⟨x', rfl, hx⟩ := one ha
      cases hx <;> (try simp only at h) <;> try exact (err_ok h).elim
      case nilslice =>
        obtain ⟨rfl, rfl⟩ := ret_ok h
        exact SimV.next (m := Builtin.unsafeSliceData_ ts ty _) (.quiet (r := .pointer none) hr rfl .nilptr rfl rfl)
      case slice k o len cap cap' p a hp hl hs =>
        cases cap with
        | zero => exact (err_ok h).elim
        | succ cap =>
          obtain ⟨rfl, rfl⟩ := ret_ok h
          obtain ⟨h1, h2⟩ : a = ⟨p.blk, p.off + o, none⟩ ∧ cap' ≠ 0 := by
            rcases hs with ⟨h0, _⟩ | ⟨h1, h2 | ⟨_, h2, _⟩⟩
            · omega
            · exact ⟨h1, by omega⟩
            · exact ⟨h1, by omega⟩
          subst h1
          exact SimV.next (m := Builtin.unsafeSliceData_ ts ty _) (.quiet (r := .pointer (some ⟨p.blk, p.off + o, none⟩)) hr (Lib.run_unsafeSliceData_row w ts ty _ len cap' h2) (.ptr hp) rfl rfl)
    · cases x <;> (try exact (err_ok h).elim)
      rename_i cap
      cases cap <;> exact (err_ok h).elim
  case unsafeString =>
    rcases args with _ | ⟨x, _ | ⟨y, _ | ⟨z, l⟩⟩⟩ <;> cases ht : ts[0]? <;> simp only [ht] at h <;> try exact (err_ok h).elim
    rename_i t
    cases y <;> (try simp only at h) <;> try exact (err_ok h).elim
    rename_i ky i
    cases i <;> (try simp only at h) <;> try exact (err_ok h).elim
    rename_i n
    obtain ⟨x', y', rfl, hx, hy⟩ := two ha
    cases hy
    exact (sim_unsafeString hr ht hx h).next
  all_goals exact (err_ok h).elim
def CallsTo (P : Program) (f : FuncId) (args : Array Value) (w : World) (K : Value → World → Prop) : Prop :=
  ((callFunc f args).run P w = .ok (.enter f args) w ∧ Calls P f args w fun e w' => ∃ r, e = .returned r ∧ K r w') ∨ ∃ r w', (callFunc f args).run P w = .ok (.value r) w' ∧ K r w'
def CallSim (P : Program) (gl : T (List V)) (call : FuncId → List V → M V) : Prop :=
  ∀ (f : FuncId) (vs : List V) (v : V) (s s' : St) (w : World) (μ : Mu) (ν : Nat → Value) (rs : List Value), call f vs s = .ok v s' → Rel P μ ν s.heap w.heap → Fresh μ s s' → Globs gl μ s.heap w → VsRel μ ν vs rs →
    CallsTo P f ⟨rs⟩ w fun r w' => ∃ μ', VRel μ' ν v r ∧ StepOk P μ ν s.heap s.next w μ' s'.heap s'.next w'

theorem VsRel.map_ev {ev : Operand → V} {ρ : Operand → Value} : ∀ {l : List Operand}, (∀ x ∈ l, VRel μ ν (ev x) (ρ x)) → VsRel μ ν (l.map ev) (l.map ρ)
  | [], _ => .nil
  | x :: l, h => .cons (h x (by simp)) (VsRel.map_ev fun y hy => h y (by simp [hy]))

theorem PRel.map_ev {ev : Operand → V} {ρ : Operand → Value} : ∀ {l : List (Nat × Operand)}, (∀ x ∈ l, VRel μ ν (ev x.2) (ρ x.2)) → PRel μ ν (l.map fun p => (p.1, (ev p.2).cells)) (l.map fun p => (p.1, ρ p.2))
  | [], _ => .nil
  | x :: l, h => .cons (h x (by simp)) (PRel.map_ev fun y hy => h y (by simp [hy]))

theorem opRel_map {ev : Operand → V} {ρ : Operand → Value} {o : Option Operand} (h : ∀ x, o = some x → VRel μ ν (ev x) (ρ x)) : OpRel μ ν (o.map ev) (o.map ρ) := by
  cases o with
  | none => exact .none
  | some x => exact .some (h x rfl)

theorem map_list {ρ : Operand → Value} (a : Array Operand) : a.map ρ = ⟨a.toList.map ρ⟩ := by apply Array.ext'; simp
theorem map_list2 {ρ : Operand → Value} (a : Array (Nat × Operand)) : (a.map fun (i, x) => (i, ρ x)) = ⟨a.toList.map fun p => (p.1, ρ p.2)⟩ := by apply Array.ext'; simp
def OpOk (P : Program) (μ : Mu) (ν : Nat → Value) (s s' : St) (w : World) (ρ : Operand → Value) (o : Oper) (v : V) : Prop :=
  SimN P μ ν s s' w (execOp ρ o) v ∨
  ∃ f args, (execOp ρ o).run P w = (callFunc f args).run P w ∧ CallsTo P f args w fun r w' => ∃ μ', VRel μ' ν v r ∧ StepOk P μ ν s.heap s.next w μ' s'.heap s'.next w'

theorem run_loads_const {rc : Array Value} {g : Nat} {e : TypeId} {frz : Nat × Nat} (h3 : w.heap[g]? = some (.cells rc e frz)) (o : Nat) (c : List V) : ∀ (n : Nat) (j : Nat) (acc : List Value), (∀ (i : Nat) (v : V), c[i]? = some v → ∃ r, rc[i]? = some r ∧ ∀ μ ν, VRel μ ν v r) → o + j + n ≤ c.length →
    ∃ rs, (loadCellsFrom ⟨g, o, none⟩ j n ⟨acc⟩).run P w = .ok ⟨acc ++ rs⟩ w ∧ VsRel μ ν (sub c (o + j) n) rs
  | 0, j, acc, h, hl => ⟨[], by simp [loadCellsFrom], by simp only [sub, List.take_zero]; exact .nil⟩
  | n + 1, j, acc, h, hl => by
    obtain ⟨v, hv⟩ : ∃ v, c[o + j]? = some v := ⟨_, List.getElem?_eq_getElem (by omega)⟩
    obtain ⟨r, hr1, hr2⟩ := h _ v hv
    obtain ⟨rs, h1, h2⟩ := run_loads_const h3 o c n (j + 1) (acc ++ [r]) h (by omega)
    refine ⟨r :: rs, ?_, ?_⟩
    · simp only [loadCellsFrom, Sem.run_bind, run_load, add_none, cell_at h3, hr1, Result.andThen]
      have e1 : (⟨acc⟩ : Array Value).push r = ⟨acc ++ [r]⟩ := by apply Array.ext'; simp
      rw [e1, h1, List.append_assoc]
      rfl
    · have e1 : sub c (o + j) (n + 1) = v :: sub c (o + (j + 1)) n := by
        unfold sub
        rw [List.drop_eq_getElem_cons (by omega : o + j < c.length), List.take_succ_cons]
        rw [List.getElem?_eq_getElem (by omega)] at hv
        injection hv with hv
        rw [hv]
        rfl
      rw [e1]
      exact .cons (hr2 μ ν) h2
theorem sim_const {gl : T (List V)} {t : TypeId} {g o : Nat} {v : V} {a : Value} (hr : Rel P μ ν s.heap w.heap) (hg : Globs gl μ s.heap w) (ha : VRel μ ν (.gptr g o) a) (h : constM P gl t g o s = .ok v s') : SimV P μ ν s s' w (Instr.loadAt t a) v := by
  cases ha
  unfold constM at h
  cases hc : gl.get g <;> cases hd : P.underlying t <;> cases hn : szT P t <;> simp only [hc, hd, hn] at h <;> try exact (err_ok h).elim
  rename_i c d n
  obtain ⟨rc, e, frz, h3, h4⟩ := hg.there g c hc
  cases hag : isAggD d
  · rw [hag, cond_false] at h
    cases hv : c[o]? with
    | none => rw [hv] at h; exact (err_ok h).elim
    | some x =>
      rw [hv] at h
      obtain ⟨rfl, rfl⟩ := ret_ok h
      obtain ⟨r, hr1, hr2⟩ := h4 o v hv
      refine .quiet (r := r) hr ?_ (hr2 μ ν) rfl rfl
      simp only [Instr.loadAt, Instr.sureAddr, loadVar, Sem.run_bind, Sem.run_pure, run_isAgg hd, hag, Result.andThen_ok, Result.andThen, Bool.false_eq_true, if_false, run_load, cell_at h3, hr1]
  · rw [hag, cond_true] at h
    cases hb : Nat.ble (o + n) c.length
    · rw [hb, cond_false] at h; exact (err_ok h).elim
    rw [hb, cond_true] at h
    rw [ble_iff] at hb
    obtain ⟨rfl, rfl⟩ := ret_ok h
    obtain ⟨rs, h5, h6⟩ := run_loads_const (P := P) (μ := μ) (ν := ν) h3 o c n 0 [] h4 (by omega)
    refine .quiet (r := .agg ⟨rs⟩) hr ?_ (.agg (by rw [Nat.add_zero] at h6; exact h6)) rfl rfl
    have h5' : (loadCells ⟨g, o, none⟩ n).run P w = .ok ⟨rs⟩ w := by unfold loadCells; simpa using h5
    simp only [Instr.loadAt, Instr.sureAddr, loadVar, Sem.run_bind, Sem.run_pure, run_isAgg hd, hag, Result.andThen_ok, Result.andThen, if_true, run_sizeOf hn, h5']

theorem sim_op {call : FuncId → List V → M V} {gl : T (List V)} (hc : CallSim P gl call) {ev : Operand → V} {ρ : Operand → Value} {o : Oper} {v : V} (hr : Rel P μ ν s.heap w.heap) (hf : Fresh μ s s') (hg : Globs gl μ s.heap w)
    (hev : ∀ x ∈ o.op.operands, VRel μ ν (ev x) (ρ x)) (h : opM P gl call ev o.op s = .ok v s') : OpOk P μ ν s s' w ρ o v := by
  obtain ⟨dst, op, type, pos, after, guard⟩ := o
  simp only at hev h
  rw [opM_eq] at h
  cases op <;> (try simp only [opPick, opAlloc, opBox, opBuild, opBuildSlice, opLoad, opStore, opNilCheck, opMakeInterface, opMakeFunc, opMakeMap, opMakeSlice, opFieldAddr, opField, opIndexAddr, opIndex, opExtract, opCall] at h) <;> try exact (err_ok h).elim
  case move x =>
    obtain ⟨rfl, rfl⟩ := ret_ok h
    exact .inl (SimN.value hr (hev _ (by simp [Op.operands])))
  case assign x =>
    obtain ⟨rfl, rfl⟩ := ret_ok h
    exact .inl (SimN.value hr (hev _ (by simp [Op.operands])))
  case pick c a b =>
    have hvc := hev c (by simp [Op.operands])
    have hva := hev a (by simp [Op.operands])
    have hvb := hev b (by simp [Op.operands])
    cases hcv : ev c <;> (try simp only [hcv] at h) <;> try exact (err_ok h).elim
    rename_i t
    rw [hcv] at hvc
    obtain ⟨rfl, rfl⟩ := ret_ok h
    left
    refine ⟨μ, w, if t = true then ρ a else ρ b, .inl ?_, by cases t <;> assumption, StepOk.refl hr⟩
    cases hrc : ρ c <;> rw [hrc] at hvc <;> cases hvc
    simp only [execOp, hrc, asBool, pure_bind]
    rfl
  case alloc e =>
    cases hz : zeroT P e with
    | none => simp only [hz] at h; exact (err_ok h).elim
    | some z => simp only [hz] at h; exact .inl (sim_alloc hr hf hz h).next
  case box e x => exact .inl (sim_box hr hf (hev x (by simp [Op.operands])) h).next
  case build t parts =>
    left
    have hp := PRel.map_ev (l := parts.toList) (fun x hx => hev x.2 (by simp [Op.operands]; exact ⟨x.1, by simpa using hx⟩))
    have := (sim_build hr hp h).next
    simp only [execOp]
    rw [map_list2]
    exact this
  case buildSlice t len parts =>
    left
    have hp := PRel.map_ev (l := parts.toList) (fun x hx => hev x.2 (by simp [Op.operands]; exact ⟨x.1, by simpa using hx⟩))
    have := (sim_buildSlice hr hf hp h).next
    simp only [execOp]
    rw [map_list2]
    exact this
  case load t a =>
    have ha := hev a (by simp [Op.operands])
    cases hav : ev a <;> (try simp only [hav] at h) <;> try exact (err_ok h).elim
    · rw [hav] at ha
      exact .inl (sim_load hr ha h).next
    · rw [hav] at ha
      exact .inl (sim_const hr hg ha h).next
  case store t a x =>
    have ha := hev a (by simp [Op.operands])
    have hx := hev x (by simp [Op.operands])
    cases hav : ev a <;> (try simp only [hav] at h) <;> try exact (err_ok h).elim
    rw [hav] at ha
    obtain ⟨rfl, w', g1, g2⟩ := sim_store hr ha hx h
    left
    refine ⟨μ, w', undef, .inr ⟨?_, rfl⟩, VRel.undef, g2⟩
    simp only [execOp]
    rw [run_pure_bind g1]
    rfl
  case nilCheck x =>
    have hx := hev x (by simp [Op.operands])
    left
    cases hxv : ev x <;> (try simp only [hxv] at h) <;> try exact (err_ok h).elim
    all_goals
      rw [hxv] at hx
      obtain ⟨rfl, rfl⟩ := ret_ok h
      refine ⟨μ, w, ρ x, .inl ?_, hx, StepOk.refl hr⟩
      simp only [execOp]
      generalize ρ x = rx at hx
      cases hx
      rfl
  case binOp op t x y ty =>
    have hx := hev x (by simp [Op.operands])
    have hy := hev y (by simp [Op.operands])
    obtain ⟨h1, rfl⟩ := opt_ok h
    exact .inl (sim_bin hr hx hy h1).next
  case unOp op t x =>
    obtain ⟨h1, rfl⟩ := opt_ok h
    exact .inl (sim_un hr (hev x (by simp [Op.operands])) h1).next
  case convert src dst x => exact .inl (sim_convert hr hf (hev x (by simp [Op.operands])) h).next
  case makeInterface t x =>
    have hx := hev x (by simp [Op.operands])
    cases hd : P.underlying t with
    | none => simp only [hd] at h; exact (err_ok h).elim
    | some d =>
      simp only [hd] at h
      cases d <;> (try simp only at h) <;> first
        | exact (err_ok h).elim
        | (obtain ⟨rfl, rfl⟩ := ret_ok h
           left
           refine SimV.next (m := Instr.makeInterface t (ρ x)) (.quiet (r := .iface t (ρ x)) hr ?_ (.iface hx) rfl rfl)
           unfold Instr.makeInterface
           rw [run_pure_bind (run_underlying hd)]
           rfl)
  case makeFunc fn first captured =>
    cases fn <;> (try simp only at h) <;> try exact (err_ok h).elim
    rename_i f
    obtain ⟨rfl, rfl⟩ := ret_ok h
    left
    have h1 := VsRel.map_ev (μ := μ) (ν := ν) (l := first.toList) (ev := ev) (ρ := ρ) (fun x hx => hev x (by simp [Op.operands]; exact .inl (by simpa using hx)))
    have h2 := VsRel.map_ev (μ := μ) (ν := ν) (l := captured.toList) (ev := ev) (ρ := ρ) (fun x hx => hev x (by simp [Op.operands]; exact .inr (by simpa using hx)))
    refine SimV.next (m := Instr.makeFunc (.func f) (first.map ρ) (captured.map ρ)) (.quiet hr rfl ?_ rfl rfl)
    rw [map_list, map_list]
    exact .func h1 h2
  case makeMap t r =>
    left
    have key : ∀ (m : Sem Value), (m.run P w = .ok (.map (some w.heap.size)) { w with heap := w.heap.push (.map #[] 0) }) → bnd (alloc (.map [] 0)) (fun k => ret (.map k)) s = .ok v s' → SimV P μ ν s s' w m v := by
      intro m hm h
      obtain ⟨k, s1, h1, h2⟩ := bnd_ok h
      obtain ⟨rfl, rfl⟩ := ret_ok h2
      obtain ⟨rfl, rfl⟩ := alloc_ok h1
      have hk : μ s.next = none := hf _ (Nat.le_refl _) (Nat.lt_succ_self _)
      have hst := StepOk.alloc (P := P) (ν := ν) (d := w.drawn) (pl := ⟨w.heap.size, 0, false, 0, 0⟩) (O := .map #[] 0) (ob := .map [] 0) hr hk rfl ⟨[], by simp, .nil⟩
      exact ⟨_, _, _, hm, .map (upd_same _ _ _), hst⟩
    cases r with
    | none =>
      refine (key (Instr.makeMap t none) ?_ h).next
      simp [Instr.makeMap]
    | some x =>
      have hx := hev x (by simp [Op.operands])
      simp only [Option.map_some] at h
      cases hd : P.underlying t with
      | none => simp only [hd] at h; exact (err_ok h).elim
      | some d =>
        cases d <;> (try simp only [hd] at h) <;> try exact (err_ok h).elim
        cases hxv : ev x <;> (try simp only [hxv] at h) <;> try exact (err_ok h).elim
        rw [hxv] at hx
        refine (key (Instr.makeMap t (some (ρ x))) ?_ h).next
        generalize ρ x = rx at hx
        cases hx
        simp [Instr.makeMap, run_underlying hd, asInt, asIntOf]
  case makeSlice t l c =>
    have hl := hev l (by simp [Op.operands])
    have hcp := hev c (by simp [Op.operands])
    cases hd : P.underlying t with
    | none => simp only [hd] at h; exact (err_ok h).elim
    | some d =>
      cases d <;> (try simp only [hd] at h) <;> try exact (err_ok h).elim
      rename_i e
      cases hlv : ev l <;> (try simp only [hlv] at h) <;> try exact (err_ok h).elim
      rename_i kl il
      cases il <;> (try simp only at h) <;> try exact (err_ok h).elim
      rename_i nl
      cases hcv : ev c <;> (try simp only [hcv] at h) <;> try exact (err_ok h).elim
      rename_i kc ic
      cases ic <;> (try simp only at h) <;> try exact (err_ok h).elim
      rename_i nc
      rw [hlv] at hl; rw [hcv] at hcp
      cases hn : szT P e <;> cases hz : zeroT P e <;> cases hby : (P.info? e).map (·.bytes) <;> simp only [hn, hz, hby] at h <;> try exact (err_ok h).elim
      rename_i size z bytes
      cases hb : (Nat.ble nl nc && roomy nc bytes && Nat.beq z.cells.length size)
      · rw [hb, cond_false] at h; exact (err_ok h).elim
      rw [hb, cond_true] at h
      rw [Bool.and_eq_true, Bool.and_eq_true, ble_iff, nbeq_iff] at hb
      obtain ⟨⟨hb1, hb2⟩, hb3⟩ := hb
      obtain ⟨hb4, hb5⟩ := roomy_le hb2
      left
      refine SimV.next (m := Instr.makeSlice t (ρ l) (ρ c)) ?_
      obtain ⟨k, s1, h1, h2⟩ := bnd_ok h
      obtain ⟨rfl, rfl⟩ := ret_ok h2
      obtain ⟨z', hz1, hz2⟩ := zeroT_run (μ := μ) (ν := ν) (w := w) hz
      have hzl := hz2.cells.length
      simp only [Array.length_toList] at hzl
      obtain ⟨pl, p1, p2, p3, p4, p5, p6⟩ := sim_newRow hr hf (rep_rel hz2.cells nc) h1
      refine ⟨_, _, .slice (some ⟨w.heap.size, 0, none⟩) nl nc, ?_, slice_new p1 p2 hb1, p6⟩
      obtain ⟨ti, hti, htb⟩ : ∃ i, P.info? e = some i ∧ i.bytes = bytes := by
        cases hi : P.info? e with
        | none => rw [hi] at hby; cases hby
        | some i => rw [hi] at hby; injection hby with hby; exact ⟨i, rfl, hby⟩
      generalize ρ l = rl at hl
      generalize ρ c = rc at hcp
      cases hl; cases hcp
      have hwl : IntKind.i64.wrap (Int.ofNat nl) = (nl : Int) := wrap_i64 nl (by omega)
      have hwc : IntKind.i64.wrap (Int.ofNat nc) = (nc : Int) := wrap_i64 nc (by omega)
      have hsz : nc * size = nc * z'.cells.size := by rw [← hzl, hb3]
      have hbm : ¬ ((bytes : Int) * (nc : Int) > 2 ^ 48) := by
        have h0 : ((nc * bytes : Nat) : Int) ≤ 140737488355328 := Int.ofNat_le.2 hb5
        have h1 : (bytes : Int) * (nc : Int) = ((nc * bytes : Nat) : Int) := by rw [Int.natCast_mul, Int.mul_comm]
        rw [h1]; omega
      unfold Instr.makeSlice
      rw [run_pure_bind (run_underlying hd)]
      simp only [asInt, asIntOf, pure_bind, bind_assoc]
      rw [run_pure_bind (run_typeInfo hti), htb]
      simp only [hwl, hwc]
      have hcond : ¬ ((decide ((nc : Int) < 0) || decide ((bytes : Int) * (nc : Int) > 2 ^ 48) || decide ((nl : Int) < 0) || decide ((nl : Int) > (nc : Int))) = true) := by
        simp only [Bool.or_eq_true, decide_eq_true_eq]
        omega
      rw [if_neg hcond]
      rw [run_pure_bind (run_askRoom _ _ _), run_pure_bind (run_sizeOf hn)]
      simp only [Int.toNat_natCast]
      by_cases h0 : nc * size = 0
      · rw [if_pos h0]
        have hcells : (Array.range (nc * size)).map (fun x => (#[] : Array Value)[x % (#[] : Array Value).size]!) = ⟨((Array.range (nc * z'.cells.size)).map fun j => z'.cells[j % z'.cells.size]!).toList⟩ := by
          rw [← hsz, h0]; simp
        rw [hcells]
        rw [run_pure_bind p5]
        rfl
      · rw [if_neg h0, run_pure_bind hz1]
        have hcells : (Array.range (nc * size)).map (fun x => z'.cells[x % z'.cells.size]!) = ⟨((Array.range (nc * z'.cells.size)).map fun j => z'.cells[j % z'.cells.size]!).toList⟩ := by
          rw [hsz]
        rw [hcells]
        rw [run_pure_bind p5]
        rfl
  case slice t x lo hi mx =>
    have hx := hev x (by simp [Op.operands])
    left
    exact (sim_slice hr hx (opRel_map fun y hy => hev y (by subst hy; simp [Op.operands])) (opRel_map fun y hy => hev y (by subst hy; simp [Op.operands])) (opRel_map fun y hy => hev y (by subst hy; simp [Op.operands])) h).next
  case fieldAddr t x f =>
    have hx := hev x (by simp [Op.operands])
    cases hd : P.underlying t with
    | none => simp only [hd] at h; exact (err_ok h).elim
    | some d =>
      cases d <;> (try simp only [hd] at h) <;> try exact (err_ok h).elim
      rename_i fs
      cases hxv : ev x <;> (try simp only [hxv] at h) <;> try exact (err_ok h).elim
      rw [hxv] at hx
      cases hfd : fs[f]? with
      | none => simp only [hfd] at h; exact (err_ok h).elim
      | some fd =>
        simp only [hfd] at h
        cases hn : szT P fd.type with
        | none => simp only [hn] at h; exact (err_ok h).elim
        | some n =>
          cases n with
          | zero => simp only [hn] at h; exact (err_ok h).elim
          | succ n =>
            simp only [hn] at h
            obtain ⟨rfl, rfl⟩ := ret_ok h
            exact .inl (sim_fieldAddr hr hd hfd hn hx).next
  case field t x f =>
    have hx := hev x (by simp [Op.operands])
    cases hd : P.underlying t with
    | none => simp only [hd] at h; exact (err_ok h).elim
    | some d =>
      cases d <;> (try simp only [hd] at h) <;> try exact (err_ok h).elim
      rename_i fs
      cases hxv : ev x <;> (try simp only [hxv] at h) <;> try exact (err_ok h).elim
      rw [hxv] at hx
      cases hfd : fs[f]? with
      | none => simp only [hfd] at h; exact (err_ok h).elim
      | some fd => simp only [hfd] at h; exact .inl (sim_field hr hd hfd hx h).next
  case indexAddr t x ix =>
    have hx := hev x (by simp [Op.operands])
    have hi := hev ix (by simp [Op.operands])
    cases hd : P.underlying t with
    | none => simp only [hd] at h; exact (err_ok h).elim
    | some d =>
      cases d <;> (try simp only [hd] at h) <;> try exact (err_ok h).elim
      case array n e =>
        cases hxv : ev x <;> (try simp only [hxv] at h) <;> try exact (err_ok h).elim
        all_goals cases hiv : ev ix <;> (try simp only [hiv] at h) <;> try exact (err_ok h).elim
        · rename_i k o ki i
          cases i <;> (try simp only at h) <;> try exact (err_ok h).elim
          rename_i i
          rw [hxv] at hx; rw [hiv] at hi
          generalize hri : ρ ix = ri at hi
          cases hi
          cases hn : szT P e with
          | none => simp only [hn] at h; exact (err_ok h).elim
          | some sz =>
            simp only [hn] at h
            cases hlt : Nat.blt i n
            · rw [hlt, cond_false] at h; exact (err_ok h).elim
            · rw [hlt, cond_true] at h
              rw [blt_iff] at hlt
              obtain ⟨rfl, rfl⟩ := ret_ok h
              left
              have := (sim_indexAddr_array (ki := ki) hr hd hn hlt hx).next
              simp only [execOp, hri]
              exact this
        · rename_i k o ki i
          cases i <;> (try simp only at h) <;> try exact (err_ok h).elim
          rename_i i
          rw [hxv] at hx; rw [hiv] at hi
          generalize hri : ρ ix = ri at hi
          cases hi
          cases hn : szT P e with
          | none => simp only [hn] at h; exact (err_ok h).elim
          | some sz =>
            simp only [hn] at h
            cases hlt : Nat.blt i n
            · rw [hlt, cond_false] at h; exact (err_ok h).elim
            · rw [hlt, cond_true] at h
              rw [blt_iff] at hlt
              obtain ⟨rfl, rfl⟩ := ret_ok h
              left
              have := (sim_indexAddr_const (ki := ki) hr hd hn hlt hx).next
              simp only [execOp, hri]
              exact this
      case slice e =>
        cases hxv : ev x <;> (try simp only [hxv] at h) <;> try exact (err_ok h).elim
        cases hiv : ev ix <;> (try simp only [hiv] at h) <;> try exact (err_ok h).elim
        rename_i k o n c ki i
        cases i <;> (try simp only at h) <;> try exact (err_ok h).elim
        rename_i i
        rw [hxv] at hx; rw [hiv] at hi
        generalize hri : ρ ix = ri at hi
        cases hi
        cases hn : szT P e with
        | none => simp only [hn] at h; exact (err_ok h).elim
        | some sz =>
          simp only [hn] at h
          cases hlt : Nat.blt i n
          · rw [hlt, cond_false] at h; exact (err_ok h).elim
          · rw [hlt, cond_true] at h
            rw [blt_iff] at hlt
            obtain ⟨rfl, rfl⟩ := ret_ok h
            left
            have := (sim_indexAddr_slice (ki := ki) hr hd hn hlt hx).next
            simp only [execOp, hri]
            exact this
  case index t x ix =>
    have hx := hev x (by simp [Op.operands])
    have hi := hev ix (by simp [Op.operands])
    cases hd : P.underlying t with
    | none => simp only [hd] at h; exact (err_ok h).elim
    | some d =>
      cases d <;> (try simp only [hd] at h) <;> try exact (err_ok h).elim
      case array n e =>
        cases hxv : ev x <;> (try simp only [hxv] at h) <;> try exact (err_ok h).elim
        cases hiv : ev ix <;> (try simp only [hiv] at h) <;> try exact (err_ok h).elim
        rename_i cs ki i
        cases i <;> (try simp only at h) <;> try exact (err_ok h).elim
        rename_i i
        rw [hxv] at hx; rw [hiv] at hi
        generalize hri : ρ ix = ri at hi
        cases hi
        cases hn : szT P e with
        | none => simp only [hn] at h; exact (err_ok h).elim
        | some sz =>
          simp only [hn] at h
          cases hlt : Nat.blt i n
          · rw [hlt, cond_false] at h; exact (err_ok h).elim
          · rw [hlt, cond_true] at h
            rw [blt_iff] at hlt
            left
            have := (sim_index_array (ki := ki) hr hd hn hlt hx h).next
            simp only [execOp, hri]
            exact this
      case string =>
        cases hxv : ev x <;> (try simp only [hxv] at h) <;> try exact (err_ok h).elim
        cases hiv : ev ix <;> (try simp only [hiv] at h) <;> try exact (err_ok h).elim
        rename_i l ki i
        cases i <;> (try simp only at h) <;> try exact (err_ok h).elim
        rename_i i
        rw [hxv] at hx; rw [hiv] at hi
        generalize hri : ρ ix = ri at hi
        cases hi
        cases hlb : l[i]? with
        | none => simp only [hlb] at h; exact (err_ok h).elim
        | some b =>
          simp only [hlb] at h
          obtain ⟨rfl, rfl⟩ := ret_ok h
          left
          have := (sim_index_string (ki := ki) hr hd hlb hx).next
          simp only [execOp, hri]
          exact this
  case lookup t x ix ok => exact .inl (sim_lookup hr (hev x (by simp [Op.operands])) (hev ix (by simp [Op.operands])) h).next
  case mapUpdate t m k x =>
    obtain ⟨rfl, w', g1, g2⟩ := sim_mapUpdate hr (hev m (by simp [Op.operands])) (hev k (by simp [Op.operands])) (hev x (by simp [Op.operands])) h
    left
    refine ⟨μ, w', undef, .inr ⟨?_, rfl⟩, VRel.undef, g2⟩
    simp only [execOp]
    rw [run_pure_bind g1]
    rfl
  case insert t m k x =>
    obtain ⟨rfl, w', g1, g2⟩ := sim_mapUpdate hr (hev m (by simp [Op.operands])) (hev k (by simp [Op.operands])) (hev x (by simp [Op.operands])) h
    left
    refine ⟨μ, w', undef, .inr ⟨?_, rfl⟩, VRel.undef, g2⟩
    simp only [execOp]
    rw [run_pure_bind g1]
    rfl
  case range t x => exact .inl (sim_range hr hf (hev x (by simp [Op.operands])) h).next
  case next it isString => exact .inl (sim_next hr (hev it (by simp [Op.operands])) h).next
  case entry it => exact .inl (sim_entry hr (hev it (by simp [Op.operands])) h).next
  case extract t i =>
    have hx := hev t (by simp [Op.operands])
    cases hxv : ev t <;> (try simp only [hxv] at h) <;> try exact (err_ok h).elim
    obtain ⟨h1, rfl⟩ := opt_ok h
    rw [hxv] at hx
    left
    refine SimV.next (m := Instr.extract (ρ t) i) ?_
    generalize ρ t = rt at hx
    cases hx with
    | tuple hs =>
      obtain ⟨r, g1, g2⟩ := hs.get h1
      refine .quiet hr ?_ g2 rfl rfl
      unfold Instr.extract
      rename_i cs'
      have e : (⟨cs'⟩ : Array Value)[i]? = some r := by simpa using g1
      simp only [e]
      rfl
  case call c =>
    cases hcal : c.callee <;> (try simp only [hcal] at h) <;> try exact (err_ok h).elim
    case value f =>
      have hvf := hev f (by simp [Op.operands, Call.operands, hcal])
      have hargs : VsRel μ ν (c.args.toList.map ev) (c.args.toList.map ρ) := VsRel.map_ev fun x hx => hev x (by simp [Op.operands, Call.operands, hcal]; exact .inr (by simpa using hx))
      unfold callV at h
      cases hfv : ev f <;> (try simp only [hfv] at h) <;> try exact (err_ok h).elim
      rename_i g first captured
      rw [hfv] at hvf
      generalize hrf : ρ f = rf at hvf
      cases hvf with
      | func h1 h2 =>
        rename_i first' captured'
        right
        refine ⟨g, ⟨first' ++ c.args.toList.map ρ ++ captured'⟩, ?_, hc g _ _ _ _ _ _ _ _ h hr hf hg ((h1.append hargs).append h2)⟩
        simp only [execOp, resolve, hcal, hrf, Deferred.ofValue, pure_bind, invoke]
        congr 2
        apply Array.ext'
        simp
    case builtin b =>
      have hargs : VsRel μ ν (c.args.toList.map ev) (c.args.toList.map ρ) := VsRel.map_ev fun x hx => hev x (by simp [Op.operands, Call.operands, hcal]; simpa using hx)
      left
      have := sim_builtin (ty := type) (cs := c.args.map fun | .const _ => true | _ => false) hr hf hargs h
      simp only [execOp, resolve, hcal, pure_bind, invoke]
      rw [map_list]
      exact this

end
end
end Go.Lx

/-
  A region whose order is open comes to what its run in the order of the text comes to, in whatever order it is done.
-/
set_option linter.unusedSimpArgs false
set_option linter.unusedVariables false
namespace Go.Lx

theorem hits_of {e f : LE} {x : Lo} (hw : e.writes x) (hf : f.reads x ∨ f.writes x) : e.isW = true ∧ hits e f = true := by
  cases e <;> cases x <;> simp only [LE.writes] at hw <;> cases f <;> simp only [LE.reads, LE.writes, or_false, false_or, or_self] at hf <;> simp only [LE.isW, hits, true_and, nbeq_iff]
  all_goals first
    | (subst hw; exact hf.symm)
    | (obtain ⟨h1, h2, h3⟩ := hw
       obtain ⟨h4, h5, h6⟩ := hf
       subst h1
       rw [Bool.and_eq_true, nbeq_iff]
       refine ⟨h4, ?_⟩
       unfold meets
       rw [Bool.and_eq_true, blt_iff, blt_iff]
       omega)
    | (obtain ⟨h1, h2, h3⟩ := hw; subst h1; exact hf)
    | (subst hw; exact hf.1)
    | (subst hw; exact hf)
    | (subst hw; exact hf.1.symm)

theorem anyL_true {α : Type} {f : α → Bool} : ∀ {l : List α} {a : α}, a ∈ l → f a = true → anyL f l = true
  | b :: l, a, h, hf => by
    simp only [anyL, Bool.or_eq_true]
    rcases List.mem_cons.1 h with rfl | h
    · exact .inl hf
    · exact .inr (anyL_true h hf)

theorem hitsL_of {a b : List LE} {x : Lo} (hw : Wr a x) (hb : Rd b x ∨ Wr b x) : hitsL a b = true := by
  obtain ⟨e, he, hew⟩ := hw
  have : ∃ f ∈ b, f.reads x ∨ f.writes x := by
    rcases hb with ⟨f, hf, h⟩ | ⟨f, hf, h⟩
    · exact ⟨f, hf, .inl h⟩
    · exact ⟨f, hf, .inr h⟩
  obtain ⟨f, hf, h⟩ := this
  obtain ⟨h1, h2⟩ := hits_of hew h
  refine anyL_true he ?_
  rw [Bool.and_eq_true]
  exact ⟨h1, anyL_true hf h2⟩

theorem mem_memNat {n : Nat} : ∀ {l : List Nat}, n ∈ l → memNat n l = true
  | m :: l, h => by
    simp only [memNat, Bool.or_eq_true, nbeq_iff]
    rcases List.mem_cons.1 h with rfl | h
    · exact .inl rfl
    · exact .inr (mem_memNat h)
theorem last_below (p : Nat → Prop) : ∀ n, (∀ j, j < n → ¬ p j) ∨ ∃ j, j < n ∧ p j ∧ ∀ j', j < j' → j' < n → ¬ p j'
  | 0 => .inl fun j h => by omega
  | n + 1 => by
    by_cases h : p n
    · exact .inr ⟨n, by omega, h, fun j' h1 h2 => by omega⟩
    · rcases last_below p n with h0 | ⟨j, h1, h2, h3⟩
      · refine .inl fun j hj => ?_
        by_cases e : j = n
        · subst e; exact h
        · exact h0 j (by omega)
      · refine .inr ⟨j, by omega, h2, fun j' h4 h5 => ?_⟩
        by_cases e : j' = n
        · subst e; exact h
        · exact h3 j' h4 (by omega)
section
variable {ops : Array Oper}

theorem apartFrom_spec {m : Nat} {o : Oper} {lg : List LE} : ∀ {l : List (Oper × List LE)} {i : Nat}, apartFrom ops m o lg l i = true → ∀ k q lq, l[k]? = some (q, lq) → m.testBit (i + k) = true ∨ (tmpHits ops q o = false ∧ hitsL lq lg = false ∧ hitsL lg lq = false)
  | [], i, _, k, q, lq, h => by simp at h
  | (q0, lq0) :: l, i, ha, k, q, lq, h => by
    simp only [apartFrom, Bool.and_eq_true, Bool.or_eq_true, Bool.not_eq_true'] at ha
    cases k with
    | zero =>
      simp at h
      obtain ⟨e1, e2⟩ := h
      subst e1; subst e2
      rcases ha.1 with h1 | h1
      · exact .inl h1
      · exact .inr ⟨h1.1.1, h1.1.2, h1.2⟩
    | succ k =>
      have := apartFrom_spec ha.2 k q lq (by simpa using h)
      rwa [show i + 1 + k = i + (k + 1) by omega] at this

theorem apartAll_spec {b : Array Nat} : ∀ {l done : List (Oper × List LE)} {j : Nat}, apartAll ops b done j l = true → done.length = j →
    ∀ i k q lq o lg, i < j + k → (done ++ l)[i]? = some (q, lq) → l[k]? = some (o, lg) → (b.getD (j + k) 0).testBit i = true ∨ (tmpHits ops q o = false ∧ hitsL lq lg = false ∧ hitsL lg lq = false)
  | [], done, j, _, _, i, k, q, lq, o, lg, _, _, h => by simp at h
  | (o0, lg0) :: l, done, j, ha, hd, i, k, q, lq, o, lg, hlt, hi, hk => by
    simp only [apartAll, Bool.and_eq_true] at ha
    cases k with
    | zero =>
      simp at hk
      obtain ⟨e1, e2⟩ := hk
      subst e1; subst e2
      rw [List.getElem?_append_left (by omega)] at hi
      have := apartFrom_spec ha.1 i q lq hi
      rwa [Nat.zero_add] at this
    | succ k =>
      have := apartAll_spec ha.2 (by simp [hd]) i k q lq o lg (by omega) (by simpa using hi) (by simpa using hk)
      rwa [show j + 1 + k = j + (k + 1) by omega] at this

theorem edgesOk_spec : ∀ {l : List Oper} {j : Nat}, edgesOk l j = true → ∀ k o, l[k]? = some o → ∀ e ∈ o.after, Region.binds .any e = true → e.on < j + k
  | [], j, _, k, o, h => by simp at h
  | o0 :: l, j, ha, k, o, h => by
    simp only [edgesOk, Bool.and_eq_true] at ha
    cases k with
    | zero =>
      simp at h; subst h
      intro e he hb
      have := List.all_eq_true.1 ha.1 e (by simpa using he)
      simp only [hb, Bool.not_true, Bool.false_or, blt_iff] at this
      simpa using this
    | succ k =>
      intro e he hb
      have := edgesOk_spec ha.2 k o (by simpa using h) e he hb
      omega
end

theorem StepOk.wide {P : Program} {μ μ1 μ2 : Mu} {ν : Nat → Value} {h h1 h2 : T Ob} {n n' m m' : Nat} {w w1 w2 : World}
    (a : StepOk P μ ν h n w μ1 h1 n' w1) (b : StepOk P μ1 ν h1 m w1 μ2 h2 m' w2) (hn : n ≤ m) (hn' : m' ≤ n') : StepOk P μ ν h n w μ2 h2 n' w2 where
  le := Mu.le_trans a.le b.le
  new := fun k hk => by rw [b.new k (by omega), a.new k hk]
  rel := b.rel
  os := b.os.trans a.os
  tape := b.tape.trans a.tape
  output := b.output.trans a.output
  size := Nat.le_trans a.size b.size
  block := fun x hx hf => by
    rw [b.block x (Nat.lt_of_lt_of_le hx a.size), a.block x hx hf]
    intro k p hk he
    cases hm : μ k with
    | some q =>
      have := a.le k q hm
      rw [this] at hk; cases hk
      exact hf k _ hm he
    | none =>
      rcases a.newblk k p hk hm with hs | ⟨j, q, hj, hq⟩
      · omega
      · exact hf j q hj (hq.trans he)
  newblk := fun k p hk hm => by
    cases h1 : μ1 k with
    | some q =>
      have := b.le k q h1
      rw [this] at hk; cases hk
      exact a.newblk k _ h1 hm
    | none =>
      rcases b.newblk k p hk h1 with hs | ⟨j, q, hj, hq⟩
      · exact .inl (Nat.le_trans a.size hs)
      · cases hm' : μ j with
        | some q' =>
          have := a.le j q' hm'
          rw [this] at hj; cases hj
          exact .inr ⟨j, _, hm', hq⟩
        | none =>
          rcases a.newblk j q hj hm' with hs | ⟨i, r, hi, hr⟩
          · exact .inl (by omega)
          · exact .inr ⟨i, r, hi, hr.trans hq⟩
  ro := fun k c p h1 hp => by
    obtain ⟨q1, q2⟩ := a.ro k c p h1 hp
    obtain ⟨r1, r2⟩ := b.ro k c p q1 (a.le k p hp)
    exact ⟨r1, r2.trans q2⟩

theorem Rel.look {P : Program} {μ : Mu} {ν : Nat → Value} {h g : T Ob} {H : Array Obj} (hr : Rel P μ ν h H) (he : ∀ k, g.get k = h.get k) : Rel P μ ν g H :=
  ⟨fun k o hk => hr.ob k o (by rw [← he]; exact hk), fun k k' o o' p p' hk hk' => hr.sep k k' o o' p p' (by rw [← he]; exact hk) (by rw [← he]; exact hk')⟩

theorem StepOk.look {P : Program} {μ μ' : Mu} {ν : Nat → Value} {h h' g : T Ob} {n n' : Nat} {w w' : World} (a : StepOk P μ ν h n w μ' h' n' w') (he : ∀ k, g.get k = h'.get k) : StepOk P μ ν h n w μ' g n' w' :=
  ⟨a.le, a.new, a.rel.look he, a.os, a.tape, a.output, a.size, a.block, a.newblk, fun k c p h1 hp => ⟨by rw [he]; exact (a.ro k c p h1 hp).1, (a.ro k c p h1 hp).2⟩⟩

end Go.Lx

/-
  Regions: each operation of a region is the model's; a region whose order is open, in whatever order it is done.
-/
set_option linter.unusedSimpArgs false
set_option linter.unusedVariables false
namespace Go.Lx
noncomputable section

section
variable {μ : Mu} {ν : Nat → Value}

theorem evalO_rel {tm : T V} {a : Act} {x : Operand} (hok : operandOk x = true) (ht : ∀ t, x = .tmp t → VRel μ ν (tmGet tm t) (a.tmps.getD t undef)) : VRel μ ν (evalO tm x) (a.eval x) := by
  cases x with
  | tmp t => exact ht t rfl
  | const v =>
    simp only [operandOk] at hok
    cases hv : ofV v with
    | none => rw [hv] at hok; cases hok
    | some x => show VRel μ ν (constV v) v; unfold constV; rw [hv]; exact ofV_rel hv
  | global g => exact .gptr g 0
  | func f => exact .func .nil .nil

theorem wants_rel {ops : Array Oper} {tm : T V} {a : Act} {o : Oper} {b : Bool} (h : wants ops tm o = some b) (hg : ∀ j w d, o.guard = some (j, w) → (ops[j]?).bind (fun q => q.dst) = some d → VRel μ ν (tmGet tm d) (a.tmps.getD d undef)) :
    Region.wanted o (yielded ops a.tmps) = b := by
  rw [wants_eq] at h
  unfold Region.wanted
  cases hgu : o.guard with
  | none => rw [hgu] at h; injection h
  | some jw =>
    obtain ⟨j, want⟩ := jw
    rw [hgu] at h
    simp only at h ⊢
    cases hd : (ops[j]?).bind (fun q => q.dst) with
    | none => rw [hd] at h; cases h
    | some d =>
      rw [hd] at h
      simp only at h
      have hv := hg j want d hgu hd
      unfold yielded
      have hd' : (ops[j]?).bind (·.dst) = some d := hd
      rw [hd', Option.bind_some]
      cases ht : tmGet tm d <;> rw [ht] at h hv <;> (try simp only at h) <;> try (cases h; done)
      case bool x =>
        injection h with h; subst h
        cases hq : a.tmps[d]? with
        | none =>
          have e : a.tmps.getD d undef = undef := by rw [Array.getD_eq_getD_getElem?, hq]; rfl
          rw [e] at hv; cases hv
        | some r =>
          have e : a.tmps.getD d undef = r := by rw [Array.getD_eq_getD_getElem?, hq]; rfl
          rw [e] at hv; cases hv
          rfl
      case tuple l =>
        cases l with
        | cons _ _ => cases h
        | nil =>
          injection h with h; subst h
          cases hq : a.tmps[d]? with
          | none => rfl
          | some r =>
            have e : a.tmps.getD d undef = r := by rw [Array.getD_eq_getD_getElem?, hq]; rfl
            rw [e] at hv
            cases hv
            rfl
end

section
variable {c : Cfg} {call : FuncId → List V → M V} {ops : Array Oper} {Q : Exit → Act → World → Prop}
theorem looks_operand {o : Oper} {t : Nat} (h : Operand.tmp t ∈ o.op.operands) : t ∈ looksT ops o := by
  unfold looksT
  refine List.mem_append.2 (.inr (List.mem_filterMap.2 ⟨.tmp t, by simpa using h, rfl⟩))

theorem looks_guard {o : Oper} {j d : Nat} {w : Bool} (h : o.guard = some (j, w)) (hd : (ops[j]?).bind (fun q => q.dst) = some d) : d ∈ looksT ops o := by
  unfold looksT
  rw [h]
  simp only
  rw [hd]
  simp
theorem sim_step {μ : Mu} {ν : Nat → Value} {s s' : St} {w : World} (hc : CallSim c.P c.gl call) {o : Oper} {i : Nat} (ho : ops[i]? = some o) {tm : T V} {a : Act} {v : V} {K : Act → World → Prop} (hr : Rel c.P μ ν s.heap w.heap) (hf : Fresh μ s s') (hg : Globs c.gl μ s.heap w)
    (ht : ∀ t, t ∈ looksT ops o → VRel μ ν (tmGet tm t) (a.tmps.getD t undef)) (h : stepV c call ops o tm s = .ok v s')
    (hK : ∀ μ' w' r, VRel μ' ν v r → StepOk c.P μ ν s.heap s.next w μ' s'.heap s'.next w' → K (a.put o.dst r) w') : wpOp c.P ops Q i K a w := by
  rw [stepV_eq] at h
  unfold wpOp
  rw [ho]
  simp only
  cases hw : wants ops tm o with
  | none => rw [hw] at h; exact (err_ok h).elim
  | some b =>
    rw [hw] at h
    have hwr := wants_rel (μ := μ) (ν := ν) (a := a) hw fun j w' d h1 h2 => ht d (looks_guard h1 h2)
    cases b with
    | false =>
      simp only at h
      obtain ⟨rfl, rfl⟩ := ret_ok h
      rw [hwr]
      simp only [Bool.false_eq_true, if_false]
      exact hK μ w undef VRel.undef (StepOk.refl hr)
    | true =>
      simp only at h
      rw [hwr]
      simp only [if_true]
      cases hok : o.op.operands.toList.all (operandOk)
      · rw [hok, cond_false] at h; exact (err_ok h).elim
      rw [hok, cond_true] at h
      have hev : ∀ x ∈ o.op.operands, VRel μ ν (evalO tm x) (a.eval x) := fun x hx =>
        evalO_rel (List.all_eq_true.1 hok x (by simpa using hx)) fun t e => ht t (looks_operand (e ▸ hx))
      left
      unfold Oper.wp
      rcases sim_op hc hr hf hg hev h with ⟨μ', w', r, h1, h2, h3⟩ | ⟨f, args, h1, h2⟩
      · rcases h1 with h1 | ⟨h1, rfl⟩
        · rw [h1]; exact hK μ' w' r h2 h3
        · rw [h1]; exact hK μ' w' undef h2 h3
      · rw [h1]
        rcases h2 with ⟨h2, h3⟩ | ⟨r, w', h2, μ', h3, h4⟩
        · rw [h2]
          refine Calls.mono h3 ?_
          rintro e w' ⟨r, rfl, μ', h4, h5⟩
          exact hK μ' w' r h4 h5
        · rw [h2]; exact hK μ' w' r h3 h4
def TmRel (μ : Mu) (ν : Nat → Value) (nt : Nat) (tm : T V) (tmps : Array Value) : Prop := tmps.size = nt ∧ ∀ t, VRel μ ν (tmGet tm t) (tmps.getD t undef)

theorem TmRel.mono {μ μ' : Mu} {ν : Nat → Value} {nt : Nat} {tm : T V} {tmps : Array Value} (h : TmRel μ ν nt tm tmps) (hm : μ.le μ') : TmRel μ' ν nt tm tmps := ⟨h.1, fun t => (h.2 t).mono hm⟩

theorem putM_ok {nt : Nat} {dst : Option Tmp} {v : V} {tm tm' : T V} {s s' : St} (h : putM nt dst v tm s = .ok tm' s') : s' = s ∧ (dst = none ∧ tm' = tm ∨ ∃ d, dst = some d ∧ d < nt ∧ tm' = tm.set d (some v)) := by
  rw [putM_eq] at h
  cases dst with
  | none => obtain ⟨rfl, rfl⟩ := ret_ok h; exact ⟨rfl, .inl ⟨rfl, rfl⟩⟩
  | some d =>
    simp only at h
    cases hb : Nat.blt d nt
    · rw [hb, cond_false] at h; exact (err_ok h).elim
    · rw [hb, cond_true] at h
      rw [blt_iff] at hb
      obtain ⟨rfl, rfl⟩ := ret_ok h
      exact ⟨rfl, .inr ⟨d, rfl, hb, rfl⟩⟩

theorem tmGet_set {tm : T V} {d t : Nat} {v : V} : tmGet (tm.set d (some v)) t = if t = d then v else tmGet tm t := by
  unfold tmGet
  rw [T.get_set]
  by_cases e : t = d
  · rw [if_pos e, if_pos e]
  · rw [if_neg e, if_neg e]

theorem put_getD {a : Act} {d t : Nat} {r : Value} (hd : d < a.tmps.size) : (a.put (some d) r).tmps.getD t undef = if t = d then r else a.tmps.getD t undef := by
  simp only [Act.put, Array.getD_eq_getD_getElem?]
  by_cases e : t = d
  · subst e; simp [hd]
  · rw [Array.getElem?_setIfInBounds_ne (Ne.symm e), if_neg e]

theorem put_size {a : Act} {d : Option Tmp} {r : Value} : (a.put d r).tmps.size = a.tmps.size := by
  cases d <;> simp [Act.put]

theorem put_defers' {a : Act} {d : Option Tmp} {r : Value} : (a.put d r).defers = a.defers := by cases d <;> rfl

theorem TmRel.put {μ : Mu} {ν : Nat → Value} {nt : Nat} {tm tm' : T V} {a : Act} {dst : Option Tmp} {v : V} {r : Value} (h : TmRel μ ν nt tm a.tmps) (hv : VRel μ ν v r)
    (hp : dst = none ∧ tm' = tm ∨ ∃ d, dst = some d ∧ d < nt ∧ tm' = tm.set d (some v)) : TmRel μ ν nt tm' (a.put dst r).tmps := by
  refine ⟨put_size.trans h.1, fun t => ?_⟩
  rcases hp with ⟨rfl, rfl⟩ | ⟨d, rfl, hd, rfl⟩
  · exact h.2 t
  · rw [tmGet_set, put_getD (by rw [h.1]; exact hd)]
    split
    · exact hv
    · exact h.2 t
theorem sim_ops_then (hc : CallSim c.P c.gl call) (hl : ∀ f vs, Local (call f vs)) {nt : Nat} {ν : Nat → Value} : ∀ (rest : List Nat) (l : List Oper) (k : Nat) (tm tm' : T V) (s s' : St) (a : Act) (w : World) (μ : Mu), (∀ i o, l[i]? = some o → ops[k + i]? = some o) → runM c call ops nt l tm s = .ok tm' s' →
    Rel c.P μ ν s.heap w.heap → Fresh μ s s' → Globs c.gl μ s.heap w → TmRel μ ν nt tm a.tmps →
    (∀ μ' a' w', a'.defers = a.defers → TmRel μ' ν nt tm' a'.tmps → StepOk c.P μ ν s.heap s.next w μ' s'.heap s'.next w' → wpOps c.P ops Q rest a' w') → wpOps c.P ops Q ((List.range l.length).map (k + ·) ++ rest) a w
  | rest, [], k, tm, tm', s, s', a, w, μ, _, h, hr, hf, hg, ht, hK => by
    obtain ⟨rfl, rfl⟩ := ret_ok h
    simp only [List.length_nil, List.range_zero, List.map_nil, List.nil_append]
    exact hK μ a w rfl ht (StepOk.refl hr)
  | rest, o :: l, k, tm, tm', s, s', a, w, μ, hi, h, hr, hf, hg, ht, hK => by
    obtain ⟨tm1, s1, h1, h2⟩ := bnd_ok h
    obtain ⟨v, s2, h3, h4⟩ := bnd_ok h1
    obtain ⟨rfl, hp⟩ := putM_ok h4
    have hn1 : s.next ≤ s1.next := by obtain ⟨lg, d⟩ := local_stepV (c := c) hl o tm _ _ _ h3; exact d.next
    have hn2 : s1.next ≤ s'.next := by obtain ⟨lg, d⟩ := local_run (c := c) hl nt l tm1 _ _ _ h2; exact d.next
    have hlist : (List.range (o :: l).length).map (k + ·) = k :: (List.range l.length).map (k + 1 + ·) := by
      rw [List.length_cons, List.range_succ_eq_map, List.map_cons, List.map_map, Nat.add_zero]
      congr 1
      apply List.map_congr_left
      intro x _
      simp only [Function.comp]; omega
    rw [hlist, List.cons_append, wpOps_cons]
    refine sim_step hc (by simpa using hi 0 o (by simp)) hr (fun j h5 h6 => hf j h5 (by omega)) hg (fun t _ => ht.2 t) h3 fun μ1 w1 r hv st => ?_
    refine sim_ops_then hc hl rest l (k + 1) tm1 tm' s1 s' _ w1 μ1 (fun i o' ho' => by rw [show k + 1 + i = k + (i + 1) by omega]; exact hi (i + 1) o' (by simpa using ho')) h2 st.rel (fun j h5 h6 => ?_) (hg.step st) ((ht.mono st.le).put hv hp) fun μ2 a2 w2 e1 e2 e3 => hK μ2 a2 w2 (e1.trans put_defers') e2 (st.trans e3 hn1 hn2)
    rw [st.new j (by omega)]
    exact hf j (by omega) h6

theorem sim_ops (hc : CallSim c.P c.gl call) (hl : ∀ f vs, Local (call f vs)) {nt : Nat} {ν : Nat → Value} (l : List Oper) (k : Nat) (tm tm' : T V) (s s' : St) (a : Act) (w : World) (μ : Mu) (hi : ∀ i o, l[i]? = some o → ops[k + i]? = some o) (h : runM c call ops nt l tm s = .ok tm' s')
    (hr : Rel c.P μ ν s.heap w.heap) (hf : Fresh μ s s') (hg : Globs c.gl μ s.heap w) (ht : TmRel μ ν nt tm a.tmps)
    (hK : ∀ μ' a' w', a'.defers = a.defers → TmRel μ' ν nt tm' a'.tmps → StepOk c.P μ ν s.heap s.next w μ' s'.heap s'.next w' → Q .normal a' w') : wpOps c.P ops Q ((List.range l.length).map (k + ·)) a w := by
  have := sim_ops_then (ops := ops) (Q := Q) hc hl [] l k tm tm' s s' a w μ hi h hr hf hg ht (fun μ' a' w' h1 h2 h3 => by unfold wpOps; exact hK μ' a' w' h1 h2 h3)
  simpa using this

end
end
end Go.Lx

/-
  A region whose order is open, in whatever order it is done.
-/
set_option linter.unusedSimpArgs false
set_option linter.unusedVariables false
namespace Go.Lx
structure Canon (c : Cfg) (call : FuncId → List V → M V) (ops : Array Oper) (nt : Nat) (tmf : Nat → T V) (sf : Nat → St) (vf : Nat → V) : Prop where
  run : ∀ i o, ops[i]? = some o → stepV c call ops o (tmf i) { sf i with log := [] } = .ok (vf i) (sf (i + 1))
  put : ∀ i o, ops[i]? = some o → o.dst = none ∧ tmf (i + 1) = tmf i ∨ ∃ d, o.dst = some d ∧ d < nt ∧ tmf (i + 1) = (tmf i).set d (some (vf i))
  did : ∀ i o, ops[i]? = some o → Did (stepV c call ops o (tmf i)) { sf i with log := [] } (vf i) (sf (i + 1)) (sf (i + 1)).log
  edges : ∀ j o, ops[j]? = some o → ∀ e ∈ o.after, Region.binds .any e = true → e.on < j
  apart : ∀ i j o q, i < j → ops[j]? = some o → ops[i]? = some q → Ahead ops i j ∨ (tmpHits ops q o = false ∧ hitsL (sf (i + 1)).log (sf (j + 1)).log = false ∧ hitsL (sf (j + 1)).log (sf (i + 1)).log = false)

section
variable {c : Cfg} {call : FuncId → List V → M V} {ops : Array Oper} {nt : Nat}

theorem canon_of {tm tm' : T V} {s s' : St} (hl : ∀ f vs, Local (call f vs)) (h : drawM c call ops nt tm s = .ok tm' s') :
    ∃ tmf sf vf, Canon c call ops nt tmf sf vf ∧ tmf 0 = tm ∧ sf 0 = s ∧ tmf ops.size = tm' ∧ (sf ops.size).heap = s'.heap ∧ (sf ops.size).next = s'.next := by
  unfold drawM at h
  cases h1 : runL c call ops nt ops.toList tm s with
  | fail w => rw [h1] at h; cases h
  | ok r s1 =>
    obtain ⟨tm1, ls⟩ := r
    rw [h1] at h
    simp only at h
    cases hb : (edgesOk ops.toList 0 && apartAll ops (Region.before ops) [] 0 (ops.toList.zip ls))
    · rw [hb, cond_false] at h; cases h
    · rw [hb, cond_true] at h
      injection h with e1 e2
      subst e1; subst e2
      rw [Bool.and_eq_true] at hb
      obtain ⟨tmf, sf, g1, g2, g3, g4, g5, g6⟩ := runL_steps _ _ _ _ _ _ h1
      have hget : ∀ i o, ops[i]? = some o → ops.toList[i]? = some o := fun i o h => by rw [Array.getElem?_toList]; exact h
      have hst : ∀ i o, ops[i]? = some o → ∃ v, stepV c call ops o (tmf i) { sf i with log := [] } = .ok v (sf (i + 1)) ∧ (o.dst = none ∧ tmf (i + 1) = tmf i ∨ ∃ d, o.dst = some d ∧ d < nt ∧ tmf (i + 1) = (tmf i).set d (some v)) := by
        intro i o ho
        obtain ⟨lg, k1, k2, k3⟩ := g6 i o (hget i o ho)
        obtain ⟨v, s2, h3, h4⟩ := bnd_ok k2
        obtain ⟨rfl, hp⟩ := putM_ok h4
        exact ⟨v, h3, hp⟩
      refine ⟨tmf, sf, fun i => match ops[i]? with
        | some o => match stepV c call ops o (tmf i) { sf i with log := [] } with
          | .ok v _ => v
          | .fail _ => undefV
        | none => undefV, ?_, g1, g2, ?_, ?_, ?_⟩
      · refine ⟨fun i o ho => ?_, fun i o ho => ?_, fun i o ho => ?_, fun j o ho e he hbd => ?_, fun i j o q hij ho hq => ?_⟩
        · obtain ⟨v, k1, k2⟩ := hst i o ho
          simp only [ho, k1]
        · obtain ⟨v, k1, k2⟩ := hst i o ho
          simp only [ho, k1]; exact k2
        · obtain ⟨v, k1, k2⟩ := hst i o ho
          simp only [ho, k1]
          obtain ⟨lg, d⟩ := local_stepV (c := c) hl o (tmf i) _ _ _ k1
          have : (sf (i + 1)).log = lg := by rw [d.log]; simp
          rw [this]; exact d
        · have := edgesOk_spec hb.1 j o (hget j o ho) e he hbd
          omega
        · obtain ⟨lgi, a1, a2, a3⟩ := g6 i q (hget i q hq)
          obtain ⟨lgj, b1, b2, b3⟩ := g6 j o (hget j o ho)
          have zi : (ops.toList.zip ls)[i]? = some (q, lgi) := by rw [List.getElem?_zip_eq_some]; exact ⟨hget i q hq, a1⟩
          have zj : (ops.toList.zip ls)[j]? = some (o, lgj) := by rw [List.getElem?_zip_eq_some]; exact ⟨hget j o ho, b1⟩
          rcases apartAll_spec hb.2 rfl i j q lgi o lgj (by omega) (by simpa using zi) zj with h | h
          · rw [Nat.zero_add] at h
            exact .inl (before_ahead j i h)
          · rw [a3, b3]; exact .inr h
      · rw [← g3]; simp
      · have e : ops.size = ops.toList.length := by simp
        rw [e, g4]
      · have e : ops.size = ops.toList.length := by simp
        rw [e, g4]

variable {tmf : Nat → T V} {sf : Nat → St} {vf : Nat → V}

theorem Canon.op {n : Nat} (hn : n < ops.size) : ∃ o, ops[n]? = some o := ⟨ops[n], by simp [hn]⟩

theorem Canon.next_le (C : Canon c call ops nt tmf sf vf) {i : Nat} : ∀ {j : Nat}, i ≤ j → j ≤ ops.size → (sf i).next ≤ (sf j).next
  | 0, h, _ => by have : i = 0 := by omega
                  subst this; exact Nat.le_refl _
  | j + 1, h, hj => by
    by_cases e : i = j + 1
    · subst e; exact Nat.le_refl _
    · obtain ⟨o, ho⟩ := Canon.op (ops := ops) (n := j) (by omega)
      exact Nat.le_trans (C.next_le (by omega) (by omega)) (C.did j o ho).next

theorem Canon.heap_stays (C : Canon c call ops nt tmf sf vf) {x : Lo} {i : Nat} : ∀ {j : Nat}, i ≤ j → j ≤ ops.size → (∀ k, i ≤ k → k < j → ¬ Wr (sf (k + 1)).log x) → look (sf j).heap x = look (sf i).heap x
  | 0, h, _, _ => by have : i = 0 := by omega
                     subst this; rfl
  | j + 1, h, hj, hs => by
    by_cases e : i = j + 1
    · subst e; rfl
    · obtain ⟨o, ho⟩ := Canon.op (ops := ops) (n := j) (by omega)
      rw [(C.did j o ho).stays x (hs j (by omega) (by omega))]
      exact C.heap_stays (by omega) (by omega) fun k h1 h2 => hs k h1 (by omega)

theorem Canon.slot_stays (C : Canon c call ops nt tmf sf vf) {t : Nat} {i : Nat} : ∀ {j : Nat}, i ≤ j → j ≤ ops.size → (∀ k o, i ≤ k → k < j → ops[k]? = some o → o.dst ≠ some t) → tmGet (tmf j) t = tmGet (tmf i) t
  | 0, h, _, _ => by have : i = 0 := by omega
                     subst this; rfl
  | j + 1, h, hj, hs => by
    by_cases e : i = j + 1
    · subst e; rfl
    · obtain ⟨o, ho⟩ := Canon.op (ops := ops) (n := j) (by omega)
      have ih := C.slot_stays (t := t) (i := i) (j := j) (by omega) (by omega) fun k o h1 h2 => hs k o h1 (by omega)
      rcases C.put j o ho with ⟨_, h2⟩ | ⟨d, h1, _, h2⟩
      · rw [h2, ih]
      · rw [h2, tmGet_set, if_neg, ih]
        intro e
        exact hs j o (by omega) (by omega) ho (by rw [h1, e])

theorem tmp_of {a b : Oper} {t : Nat} (ha : a.dst = some t) (hb : t ∈ looksT ops b ∨ b.dst = some t) : tmpHits ops a b = true := by
  unfold tmpHits
  rw [Bool.or_eq_true, Bool.or_eq_true]
  rcases hb with h | h
  · exact .inl (.inl (by rw [ha]; exact mem_memNat h))
  · exact .inr (by rw [ha, h]; simp [dstIn, memNat])

theorem tmp_of' {a b : Oper} {t : Nat} (ha : b.dst = some t) (hb : t ∈ looksT ops a ∨ a.dst = some t) : tmpHits ops a b = true := by
  unfold tmpHits
  rw [Bool.or_eq_true, Bool.or_eq_true]
  rcases hb with h | h
  · exact .inl (.inr (by rw [ha]; exact mem_memNat h))
  · exact .inr (by rw [ha, h]; simp [dstIn, memNat])
structure Stand (c : Cfg) (ops : Array Oper) (nt : Nat) (tmf : Nat → T V) (sf : Nat → St) (ν : Nat → Value) (μ0 : Mu) (a0 : Act) (w0 : World) (S : Nat → Prop) (τ : T Ob) (μ : Mu) (a : Act) (w : World) : Prop where
  closed : ∀ j o, S j → ops[j]? = some o → ∀ e ∈ o.after, Region.binds .any e = true → S e.on
  size : a.tmps.size = nt
  defers : a.defers = a0.defers
  step : StepOk c.P μ0 ν (sf 0).heap (sf 0).next w0 μ τ (sf ops.size).next w
  heap : ∀ x i, S i → i < ops.size → Wr (sf (i + 1)).log x → (∀ j, S j → j < ops.size → i < j → ¬ Wr (sf (j + 1)).log x) → look τ x = look (sf (i + 1)).heap x
  heap0 : ∀ x, (∀ i, S i → i < ops.size → ¬ Wr (sf (i + 1)).log x) → look τ x = look (sf 0).heap x
  slot : ∀ t i o, S i → ops[i]? = some o → o.dst = some t → (∀ j q, S j → ops[j]? = some q → i < j → q.dst ≠ some t) → VRel μ ν (tmGet (tmf (i + 1)) t) (a.tmps.getD t undef)
  slot0 : ∀ t, (∀ i o, S i → ops[i]? = some o → o.dst ≠ some t) → VRel μ ν (tmGet (tmf 0) t) (a.tmps.getD t undef)
  fresh : ∀ i, i < ops.size → ¬ S i → ∀ k, (sf i).next ≤ k → k < (sf (i + 1)).next → μ k = none
theorem stand_step {Q : Exit → Act → World → Prop} {ν : Nat → Value} {μ0 : Mu} {a0 : Act} {w0 : World} {S : Nat → Prop} {τ : T Ob} {μ : Mu} {a : Act} {w : World} (hc : CallSim c.P c.gl call) (C : Canon c call ops nt tmf sf vf) (hg : Globs c.gl μ0 (sf 0).heap w0)
    (D : Stand c ops nt tmf sf ν μ0 a0 w0 S τ μ a w) {i : Nat} {o : Oper} (ho : ops[i]? = some o) (hi : ¬ S i) (hready : ∀ e ∈ o.after, Region.binds .any e = true → S e.on) {K : Act → World → Prop}
    (hK : ∀ τ' μ' a' w', Stand c ops nt tmf sf ν μ0 a0 w0 (fun j => S j ∨ j = i) τ' μ' a' w' → K a' w') : wpOp c.P ops Q i K a w := by
  have hin : i < ops.size := (Array.getElem?_eq_some_iff.1 ho).1
  have hahead : ∀ j, Ahead ops j i → S j := fun j h => ahead_in D.closed h fun o' ho' => by rw [ho] at ho'; cases ho'; exact hready
  have hlater : ∀ j, S j → ¬ Ahead ops i j := fun j hj h => hi (ahead_in D.closed h fun o' ho' => D.closed j o' hj ho')
  have clash : ∀ j x, j < ops.size → j ≠ i → (Wr (sf (j + 1)).log x ∧ (Rd (sf (i + 1)).log x ∨ Wr (sf (i + 1)).log x)) → j < i ∧ S j ∨ i < j ∧ ¬ S j := by
    intro j x hj hne ⟨h1, h2⟩
    obtain ⟨q, hq⟩ := Canon.op (ops := ops) hj
    rcases Nat.lt_or_gt_of_ne hne with hlt | hgt
    · rcases C.apart j i o q hlt ho hq with h | ⟨_, h, _⟩
      · exact .inl ⟨hlt, hahead j h⟩
      · rw [hitsL_of h1 h2] at h; cases h
    · rcases C.apart i j q o hgt hq ho with h | ⟨_, _, h⟩
      · exact .inr ⟨hgt, fun hs => hlater j hs h⟩
      · rw [hitsL_of h1 h2] at h; cases h
  have clashT : ∀ j q t, ops[j]? = some q → j ≠ i → q.dst = some t → (t ∈ looksT ops o ∨ o.dst = some t) → j < i ∧ S j ∨ i < j ∧ ¬ S j := by
    intro j q t hq hne h1 h2
    rcases Nat.lt_or_gt_of_ne hne with hlt | hgt
    · rcases C.apart j i o q hlt ho hq with h | ⟨h, _, _⟩
      · exact .inl ⟨hlt, hahead j h⟩
      · rw [tmp_of h1 h2] at h; cases h
    · rcases C.apart i j q o hgt hq ho with h | ⟨h, _, _⟩
      · exact .inr ⟨hgt, fun hs => hlater j hs h⟩
      · rw [tmp_of' h1 h2] at h; cases h
  -- what is looked at reads as in the run in the text's order
  have hread : ∀ x, Rd (sf (i + 1)).log x → look τ x = look (sf i).heap x := by
    intro x hx
    rcases last_below (fun j => Wr (sf (j + 1)).log x) i with hnone | ⟨j, hj, hwj, hlast⟩
    · rw [C.heap_stays (i := 0) (j := i) (Nat.zero_le _) (by omega) fun k _ hk => hnone k hk]
      refine D.heap0 x fun j hs hj hw => ?_
      have hne : j ≠ i := fun e => hi (e ▸ hs)
      rcases clash j x hj hne ⟨hw, .inl hx⟩ with ⟨h1, _⟩ | ⟨_, h2⟩
      · exact hnone j h1 hw
      · exact h2 hs
    · rw [C.heap_stays (i := j + 1) (j := i) (by omega) (by omega) fun k h1 h2 => hlast k (by omega) h2]
      have hsj : S j := by
        rcases clash j x (by omega) (by omega) ⟨hwj, .inl hx⟩ with ⟨_, h⟩ | ⟨h, _⟩
        · exact h
        · omega
      refine D.heap x j hsj (by omega) hwj fun k hk hkn hjk hwk => ?_
      have hne : k ≠ i := fun e => hi (e ▸ hk)
      rcases clash k x hkn hne ⟨hwk, .inl hx⟩ with ⟨h1, _⟩ | ⟨_, h2⟩
      · exact hlast k hjk h1 hwk
      · exact h2 hk
  have hslot : ∀ t, t ∈ looksT ops o → VRel μ ν (tmGet (tmf i) t) (a.tmps.getD t undef) := by
    intro t ht
    rcases last_below (fun j => ∃ q, ops[j]? = some q ∧ q.dst = some t) i with hnone | ⟨j, hj, ⟨q, hq, hqd⟩, hlast⟩
    · rw [C.slot_stays (i := 0) (j := i) (Nat.zero_le _) (by omega) fun k q _ hk hq hd => hnone k hk ⟨q, hq, hd⟩]
      refine D.slot0 t fun j q hs hq hd => ?_
      have hne : j ≠ i := fun e => hi (e ▸ hs)
      rcases clashT j q t hq hne hd (.inl ht) with ⟨h1, _⟩ | ⟨_, h2⟩
      · exact hnone j h1 ⟨q, hq, hd⟩
      · exact h2 hs
    · rw [C.slot_stays (i := j + 1) (j := i) (by omega) (by omega) fun k q' h1 h2 hq' hd => hlast k (by omega) h2 ⟨q', hq', hd⟩]
      have hsj : S j := by
        rcases clashT j q t hq (by omega) hqd (.inl ht) with ⟨_, h⟩ | ⟨h, _⟩
        · exact h
        · omega
      refine D.slot t j q hsj hq hqd fun k q' hk hq' hjk hd => ?_
      have hne : k ≠ i := fun e => hi (e ▸ hk)
      rcases clashT k q' t hq' hne hd (.inl ht) with ⟨h1, _⟩ | ⟨_, h2⟩
      · exact hlast k hjk h1 ⟨q', hq', hd⟩
      · exact h2 hk
  obtain ⟨s2, r1, r2, r3, r4, r5⟩ := (C.did i o ho).again { heap := τ, next := (sf i).next, log := [] } rfl hread
  refine sim_step (s := { heap := τ, next := (sf i).next, log := [] }) (s' := s2) hc ho D.step.rel (fun k h1 h2 => D.fresh i hin hi k h1 (by rw [← r3]; exact h2)) (hg.step D.step) hslot r1 fun μ' w' r hv st => ?_
  have hle0 : (sf 0).next ≤ (sf i).next := C.next_le (Nat.zero_le _) (by omega)
  have hlen : (sf (i + 1)).next ≤ (sf ops.size).next := C.next_le (by omega) (Nat.le_refl _)
  refine hK s2.heap μ' _ w' ⟨?_, put_size.trans D.size, put_defers'.trans D.defers, D.step.wide st hle0 (by rw [r3]; exact hlen), ?_, ?_, ?_, ?_, ?_⟩
  · intro j q hj hq e he hb
    rcases hj with hj | rfl
    · exact .inl (D.closed j q hj hq e he hb)
    · rw [ho] at hq; cases hq; exact .inl (hready e he hb)
  · intro x j hj hjn hw hlast
    by_cases hwi : Wr (sf (i + 1)).log x
    · have hji : j = i := by
        apply Classical.byContradiction
        intro hne
        have hs : S j := hj.resolve_right hne
        rcases clash j x hjn hne ⟨hw, .inr hwi⟩ with ⟨h1, _⟩ | ⟨_, h2⟩
        · exact hlast i (.inr rfl) hin h1 hwi
        · exact h2 hs
      subst hji
      exact r4 x hwi
    · rw [r5 x hwi]
      have hne : j ≠ i := fun e => hwi (e ▸ hw)
      exact D.heap x j (hj.resolve_right hne) hjn hw fun k hk hkn hjk => hlast k (.inl hk) hkn hjk
  · intro x hno
    rw [r5 x (hno i (.inr rfl) hin)]
    exact D.heap0 x fun j hj hjn => hno j (.inl hj) hjn
  · intro t j q hj hq hd hlast
    by_cases hti : o.dst = some t
    · have hji : j = i := by
        apply Classical.byContradiction
        intro hne
        have hs : S j := hj.resolve_right hne
        rcases clashT j q t hq hne hd (.inr hti) with ⟨h1, _⟩ | ⟨_, h2⟩
        · exact hlast i o (.inr rfl) ho h1 hti
        · exact h2 hs
      subst hji
      rcases C.put j o ho with ⟨h1, _⟩ | ⟨d, h1, h2, h3⟩
      · rw [h1] at hti; cases hti
      · rw [h1] at hti; cases hti
        rw [h3, tmGet_set, if_pos rfl, h1, put_getD (by rw [D.size]; exact h2), if_pos rfl]
        exact hv
    · have hne : j ≠ i := fun e => by subst e; rw [ho] at hq; cases hq; exact hti hd
      have hold := D.slot t j q (hj.resolve_right hne) hq hd fun k q' hk hq' hjk => hlast k q' (.inl hk) hq' hjk
      have hsame : (a.put o.dst r).tmps.getD t undef = a.tmps.getD t undef := by
        rcases C.put i o ho with ⟨h1, _⟩ | ⟨d, h1, h2, h3⟩
        · rw [h1]; rfl
        · rw [h1, put_getD (by rw [D.size]; exact h2), if_neg]
          intro e; exact hti (by rw [h1, e])
      rw [hsame]; exact hold.mono st.le
  · intro t hno
    have hsame : (a.put o.dst r).tmps.getD t undef = a.tmps.getD t undef := by
      rcases C.put i o ho with ⟨h1, _⟩ | ⟨d, h1, h2, h3⟩
      · rw [h1]; rfl
      · rw [h1, put_getD (by rw [D.size]; exact h2), if_neg]
        intro e; exact hno i o (.inr rfl) ho (by rw [h1, e])
    rw [hsame]
    exact (D.slot0 t fun j q hj hq => hno j q (.inl hj) hq).mono st.le
  · intro j hj hnj k h1 h2
    have hne : j ≠ i := fun e => hnj (.inr e)
    rw [st.new k ?_]
    · exact D.fresh j hj (fun h => hnj (.inl h)) k h1 h2
    · rw [r3]
      rintro ⟨h3, h4⟩
      rcases Nat.lt_or_gt_of_ne hne with hlt | hgt
      · have := C.next_le (i := j + 1) (j := i) (by omega) (by omega)
        simp only at h3
        omega
      · have := C.next_le (i := i + 1) (j := j) (by omega) (by omega)
        omega
theorem stand_end {ν : Nat → Value} {μ0 : Mu} {a0 : Act} {w0 : World} {S : Nat → Prop} {τ : T Ob} {μ : Mu} {a : Act} {w : World} (C : Canon c call ops nt tmf sf vf)
    (D : Stand c ops nt tmf sf ν μ0 a0 w0 S τ μ a w) (hall : ∀ i, i < ops.size → S i) : TmRel μ ν nt (tmf ops.size) a.tmps ∧ StepOk c.P μ0 ν (sf 0).heap (sf 0).next w0 μ (sf ops.size).heap (sf ops.size).next w := by
  constructor
  · refine ⟨D.size, fun t => ?_⟩
    rcases last_below (fun j => ∃ q, ops[j]? = some q ∧ q.dst = some t) ops.size with hnone | ⟨j, hj, ⟨q, hq, hqd⟩, hlast⟩
    · rw [C.slot_stays (i := 0) (Nat.zero_le _) (Nat.le_refl _) fun k q _ hk hq hd => hnone k hk ⟨q, hq, hd⟩]
      exact D.slot0 t fun j q hs hq hd => hnone j (Array.getElem?_eq_some_iff.1 hq).1 ⟨q, hq, hd⟩
    · rw [C.slot_stays (i := j + 1) (j := ops.size) (by omega) (Nat.le_refl _) fun k q' h1 h2 hq' hd => hlast k (by omega) h2 ⟨q', hq', hd⟩]
      exact D.slot t j q (hall j hj) hq hqd fun k q' hk hq' hjk hd => hlast k hjk (Array.getElem?_eq_some_iff.1 hq').1 ⟨q', hq', hd⟩
  · refine D.step.look fun k => get_of_look fun x => ?_
    rcases last_below (fun j => Wr (sf (j + 1)).log x) ops.size with hnone | ⟨j, hj, hwj, hlast⟩
    · rw [C.heap_stays (i := 0) (Nat.zero_le _) (Nat.le_refl _) fun k _ hk => hnone k hk]
      exact (D.heap0 x fun j _ hj => hnone j hj).symm
    · rw [C.heap_stays (i := j + 1) (j := ops.size) (by omega) (Nat.le_refl _) fun k h1 h2 => hlast k (by omega) h2]
      exact (D.heap x j (hall j hj) hj hwj fun k _ hkn hjk => hlast k hjk hkn).symm

end
end Go.Lx
