/-
  Regions: each operation of a region is the model's; a region whose order is open, in whatever order it is done.
-/
import Derived.Test.YtfgnpegkcmkeaaaGreatDoorLxU
set_option linter.unusedSimpArgs false
set_option linter.unusedVariables false
namespace Go.Lx
noncomputable section
section
variable {μ : Mu} {ν : Nat → Value}
theorem evalO_rel {tm : T V} {a : Act} {x : Operand} (hok : operandOk x = true) (ht : ∀ t, x = .tmp t → VRel μ ν (tmGet tm t) (a.tmps.getD t undef)) : VRel μ ν (evalO tm x) (a.eval x) := by
 cases x with
 | tmp t => exact ht t rfl
 | const v =>
   simp only [operandOk] at hok
   cases hv : ofV v with
   | none => rw [hv] at hok; cases hok
   | some x => show VRel μ ν (constV v) v; unfold constV; rw [hv]; exact ofV_rel hv
 | global g => exact .gptr g 0
 | func f => exact .func .nil .nil
theorem wants_rel {ops : Array Oper} {tm : T V} {a : Act} {o : Oper} {b : Bool} (h : wants ops tm o = some b) (hg : ∀ j w d, o.guard = some (j, w) → (ops[j]?).bind (fun q => q.dst) = some d → VRel μ ν (tmGet tm d) (a.tmps.getD d undef)) :
  Region.wanted o (yielded ops a.tmps) = b := by
 rw [wants_eq] at h
 unfold Region.wanted
 cases hgu : o.guard with
 | none => rw [hgu] at h; injection h
 | some jw =>
   obtain ⟨j, want⟩ := jw
   rw [hgu] at h
   simp only at h ⊢
   cases hd : (ops[j]?).bind (fun q => q.dst) with
   | none => rw [hd] at h; cases h
   | some d =>
     rw [hd] at h
     simp only at h
     have hv := hg j want d hgu hd
     unfold yielded
     have hd' : (ops[j]?).bind (·.dst) = some d := hd
     rw [hd', Option.bind_some]
     cases ht : tmGet tm d <;> rw [ht] at h hv <;> (try simp only at h) <;> try (cases h; done)
     case bool x =>
      injection h with h; subst h
      cases hq : a.tmps[d]? with
      | none =>
        have e : a.tmps.getD d undef = undef := by rw [Array.getD_eq_getD_getElem?, hq]; rfl
        rw [e] at hv; cases hv
      | some r =>
        have e : a.tmps.getD d undef = r := by rw [Array.getD_eq_getD_getElem?, hq]; rfl
        rw [e] at hv; cases hv
        rfl
     case tuple l =>
      cases l with
      | cons _ _ => cases h
      | nil =>
        injection h with h; subst h
        cases hq : a.tmps[d]? with
        | none => rfl
        | some r =>
          have e : a.tmps.getD d undef = r := by rw [Array.getD_eq_getD_getElem?, hq]; rfl
          rw [e] at hv
          cases hv
          rfl
end
section
variable {c : Cfg} {call : FuncId → List V → M V} {ops : Array Oper} {Q : Exit → Act → World → Prop}
theorem looks_operand {o : Oper} {t : Nat} (h : Operand.tmp t ∈ o.op.operands) : t ∈ looksT ops o := by
 unfold looksT
 refine List.mem_append.2 (.inr (List.mem_filterMap.2 ⟨.tmp t, by simpa using h, rfl⟩))
theorem looks_guard {o : Oper} {j d : Nat} {w : Bool} (h : o.guard = some (j, w)) (hd : (ops[j]?).bind (fun q => q.dst) = some d) : d ∈ looksT ops o := by
 unfold looksT
 rw [h]
 simp only
 rw [hd]
 simp
theorem sim_step {μ : Mu} {ν : Nat → Value} {s s' : St} {w : World} (hc : CallSim c.P c.gl call) {o : Oper} {i : Nat} (ho : ops[i]? = some o) {tm : T V} {a : Act} {v : V} {K : Act → World → Prop} (hr : Rel c.P μ ν s.heap w.heap) (hf : Fresh μ s s') (hg : Globs c.gl μ s.heap w)
  (ht : ∀ t, t ∈ looksT ops o → VRel μ ν (tmGet tm t) (a.tmps.getD t undef)) (h : stepV c call ops o tm s = .ok v s')
  (hK : ∀ μ' w' r, VRel μ' ν v r → StepOk c.P μ ν s.heap s.next w μ' s'.heap s'.next w' → K (a.put o.dst r) w') : wpOp c.P ops Q i K a w := by
 rw [stepV_eq] at h
 unfold wpOp
 rw [ho]
 simp only
 cases hw : wants ops tm o with
 | none => rw [hw] at h; exact (err_ok h).elim
 | some b =>
   rw [hw] at h
   have hwr := wants_rel (μ := μ) (ν := ν) (a := a) hw fun j w' d h1 h2 => ht d (looks_guard h1 h2)
   cases b with
   | false =>
     simp only at h
     obtain ⟨rfl, rfl⟩ := ret_ok h
     rw [hwr]
     simp only [Bool.false_eq_true, if_false]
     exact hK μ w undef VRel.undef (StepOk.refl hr)
   | true =>
     simp only at h
     rw [hwr]
     simp only [if_true]
     cases hok : o.op.operands.toList.all (operandOk)
     ·rw [hok, cond_false] at h; exact (err_ok h).elim
     rw [hok, cond_true] at h
     have hev : ∀ x ∈ o.op.operands, VRel μ ν (evalO tm x) (a.eval x) := fun x hx =>
      evalO_rel (List.all_eq_true.1 hok x (by simpa using hx)) fun t e => ht t (looks_operand (e ▸ hx))
     left
     unfold Oper.wp
     rcases sim_op hc hr hf hg hev h with ⟨μ', w', r, h1, h2, h3⟩ | ⟨f, args, h1, h2⟩
     ·rcases h1 with h1 | ⟨h1, rfl⟩
      ·rw [h1]; exact hK μ' w' r h2 h3
      ·rw [h1]; exact hK μ' w' undef h2 h3
     ·rw [h1]
      rcases h2 with ⟨h2, h3⟩ | ⟨r, w', h2, μ', h3, h4⟩
      ·rw [h2]
       refine Calls.mono h3 ?_
       rintro e w' ⟨r, rfl, μ', h4, h5⟩
       exact hK μ' w' r h4 h5
      ·rw [h2]; exact hK μ' w' r h3 h4
def TmRel (μ : Mu) (ν : Nat → Value) (nt : Nat) (tm : T V) (tmps : Array Value) : Prop := tmps.size = nt ∧ ∀ t, VRel μ ν (tmGet tm t) (tmps.getD t undef)
theorem TmRel.mono {μ μ' : Mu} {ν : Nat → Value} {nt : Nat} {tm : T V} {tmps : Array Value} (h : TmRel μ ν nt tm tmps) (hm : μ.le μ') : TmRel μ' ν nt tm tmps := ⟨h.1, fun t => (h.2 t).mono hm⟩
theorem putM_ok {nt : Nat} {dst : Option Tmp} {v : V} {tm tm' : T V} {s s' : St} (h : putM nt dst v tm s = .ok tm' s') : s' = s ∧ (dst = none ∧ tm' = tm ∨ ∃ d, dst = some d ∧ d < nt ∧ tm' = tm.set d (some v)) := by
 rw [putM_eq] at h
 cases dst with
 | none => obtain ⟨rfl, rfl⟩ := ret_ok h; exact ⟨rfl, .inl ⟨rfl, rfl⟩⟩
 | some d =>
   simp only at h
   cases hb : Nat.blt d nt
   ·rw [hb, cond_false] at h; exact (err_ok h).elim
   ·rw [hb, cond_true] at h
    rw [blt_iff] at hb
    obtain ⟨rfl, rfl⟩ := ret_ok h
    exact ⟨rfl, .inr ⟨d, rfl, hb, rfl⟩⟩
theorem tmGet_set {tm : T V} {d t : Nat} {v : V} : tmGet (tm.set d (some v)) t = if t = d then v else tmGet tm t := by
 unfold tmGet
 rw [T.get_set]
 by_cases e : t = d
 ·rw [if_pos e, if_pos e]
 ·rw [if_neg e, if_neg e]
theorem put_getD {a : Act} {d t : Nat} {r : Value} (hd : d < a.tmps.size) : (a.put (some d) r).tmps.getD t undef = if t = d then r else a.tmps.getD t undef := by
 simp only [Act.put, Array.getD_eq_getD_getElem?]
 by_cases e : t = d
 ·subst e; simp [hd]
 ·rw [Array.getElem?_setIfInBounds_ne (Ne.symm e), if_neg e]
theorem put_size {a : Act} {d : Option Tmp} {r : Value} : (a.put d r).tmps.size = a.tmps.size := by
 cases d <;> simp [Act.put]
theorem put_defers' {a : Act} {d : Option Tmp} {r : Value} : (a.put d r).defers = a.defers := by cases d <;> rfl
theorem TmRel.put {μ : Mu} {ν : Nat → Value} {nt : Nat} {tm tm' : T V} {a : Act} {dst : Option Tmp} {v : V} {r : Value} (h : TmRel μ ν nt tm a.tmps) (hv : VRel μ ν v r)
  (hp : dst = none ∧ tm' = tm ∨ ∃ d, dst = some d ∧ d < nt ∧ tm' = tm.set d (some v)) : TmRel μ ν nt tm' (a.put dst r).tmps := by
 refine ⟨put_size.trans h.1, fun t => ?_⟩
 rcases hp with ⟨rfl, rfl⟩ | ⟨d, rfl, hd, rfl⟩
 ·exact h.2 t
 ·rw [tmGet_set, put_getD (by rw [h.1]; exact hd)]
  split
  ·exact hv
  ·exact h.2 t
theorem sim_ops_then (hc : CallSim c.P c.gl call) (hl : ∀ f vs, Local (call f vs)) {nt : Nat} {ν : Nat → Value} : ∀ (rest : List Nat) (l : List Oper) (k : Nat) (tm tm' : T V) (s s' : St) (a : Act) (w : World) (μ : Mu), (∀ i o, l[i]? = some o → ops[k + i]? = some o) → runM c call ops nt l tm s = .ok tm' s' →
  Rel c.P μ ν s.heap w.heap → Fresh μ s s' → Globs c.gl μ s.heap w → TmRel μ ν nt tm a.tmps →
  (∀ μ' a' w', a'.defers = a.defers → TmRel μ' ν nt tm' a'.tmps → StepOk c.P μ ν s.heap s.next w μ' s'.heap s'.next w' → wpOps c.P ops Q rest a' w') → wpOps c.P ops Q ((List.range l.length).map (k + ·) ++ rest) a w
 | rest, [], k, tm, tm', s, s', a, w, μ, _, h, hr, hf, hg, ht, hK => by
   obtain ⟨rfl, rfl⟩ := ret_ok h
   simp only [List.length_nil, List.range_zero, List.map_nil, List.nil_append]
   exact hK μ a w rfl ht (StepOk.refl hr)
 | rest, o :: l, k, tm, tm', s, s', a, w, μ, hi, h, hr, hf, hg, ht, hK => by
   obtain ⟨tm1, s1, h1, h2⟩ := bnd_ok h
   obtain ⟨v, s2, h3, h4⟩ := bnd_ok h1
   obtain ⟨rfl, hp⟩ := putM_ok h4
   have hn1 : s.next ≤ s1.next := by obtain ⟨lg, d⟩ := local_stepV (c := c) hl o tm _ _ _ h3; exact d.next
   have hn2 : s1.next ≤ s'.next := by obtain ⟨lg, d⟩ := local_run (c := c) hl nt l tm1 _ _ _ h2; exact d.next
   have hlist : (List.range (o :: l).length).map (k + ·) = k :: (List.range l.length).map (k + 1 + ·) := by
    rw [List.length_cons, List.range_succ_eq_map, List.map_cons, List.map_map, Nat.add_zero]
    congr 1
    apply List.map_congr_left
    intro x _
    simp only [Function.comp]; omega
   rw [hlist, List.cons_append, wpOps_cons]
   refine sim_step hc (by simpa using hi 0 o (by simp)) hr (fun j h5 h6 => hf j h5 (by omega)) hg (fun t _ => ht.2 t) h3 fun μ1 w1 r hv st => ?_
   refine sim_ops_then hc hl rest l (k + 1) tm1 tm' s1 s' _ w1 μ1 (fun i o' ho' => by rw [show k + 1 + i = k + (i + 1) by omega]; exact hi (i + 1) o' (by simpa using ho')) h2 st.rel (fun j h5 h6 => ?_) (hg.step st) ((ht.mono st.le).put hv hp) fun μ2 a2 w2 e1 e2 e3 => hK μ2 a2 w2 (e1.trans put_defers') e2 (st.trans e3 hn1 hn2)
   rw [st.new j (by omega)]
   exact hf j (by omega) h6
theorem sim_ops (hc : CallSim c.P c.gl call) (hl : ∀ f vs, Local (call f vs)) {nt : Nat} {ν : Nat → Value} (l : List Oper) (k : Nat) (tm tm' : T V) (s s' : St) (a : Act) (w : World) (μ : Mu) (hi : ∀ i o, l[i]? = some o → ops[k + i]? = some o) (h : runM c call ops nt l tm s = .ok tm' s')
  (hr : Rel c.P μ ν s.heap w.heap) (hf : Fresh μ s s') (hg : Globs c.gl μ s.heap w) (ht : TmRel μ ν nt tm a.tmps)
  (hK : ∀ μ' a' w', a'.defers = a.defers → TmRel μ' ν nt tm' a'.tmps → StepOk c.P μ ν s.heap s.next w μ' s'.heap s'.next w' → Q .normal a' w') : wpOps c.P ops Q ((List.range l.length).map (k + ·)) a w := by
 have := sim_ops_then (ops := ops) (Q := Q) hc hl [] l k tm tm' s s' a w μ hi h hr hf hg ht (fun μ' a' w' h1 h2 h3 => by unfold wpOps; exact hK μ' a' w' h1 h2 h3)
 simpa using this
end
end
end Go.Lx
