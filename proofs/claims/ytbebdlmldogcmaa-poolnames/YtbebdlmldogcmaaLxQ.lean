/-
  One operation of the machine is one of the model's.
-/
import Derived.Test.YtbebdlmldogcmaaLxP
import Derived.Calls
set_option linter.unusedSimpArgs false
set_option linter.unusedVariables false
namespace Go.Lx
theorem wrap_i64 (n : Nat) (h : n < 9223372036854775808) : IntKind.i64.wrap (n : Int) = n := by
  have hmod : (n : Int) % (2 ^ IntKind.i64.bits : Int) = n := Int.emod_eq_of_lt (by omega) (by show (n : Int) < 2 ^ 64; omega)
  unfold IntKind.wrap
  simp only [hmod]
  rw [if_neg]
  simp [IntKind.signed, IntKind.bits]
  omega

section
variable {P : Program} {μ : Mu} {ν : Nat → Value} {s s' : St} {w : World}

/-- as SimV, for what an operation comes to -/
def SimN (P : Program) (μ : Mu) (ν : Nat → Value) (s s' : St) (w : World) (m : Sem Next) (v : V) : Prop :=
  ∃ μ' w' r, (m.run P w = .ok (.value r) w' ∨ (m.run P w = .ok .skip w' ∧ r = undef)) ∧ VRel μ' ν v r ∧ StepOk P μ ν s.heap s.next w μ' s'.heap s'.next w'

theorem SimV.next {m : Sem Value} {v : V} (h : SimV P μ ν s s' w m v) : SimN P μ ν s s' w (do pure (.value (← m))) v := by
  obtain ⟨μ', w', r, h1, h2, h3⟩ := h
  exact ⟨μ', w', r, .inl (by rw [run_pure_bind h1]; rfl), h2, h3⟩

theorem SimN.value {v : V} {r : Value} (hr : Rel P μ ν s.heap w.heap) (hv : VRel μ ν v r) : SimN P μ ν s s w (pure (.value r)) v :=
  ⟨μ, w, r, .inl rfl, hv, StepOk.refl hr⟩

theorem sim_minInts {k : IntKind} : ∀ {l : List V} {rs : List Value} {a : Int} {v : V}, VsRel μ ν l rs → minInts k a l = some v → ∃ r, (rs.foldlM Builtin.min2 (.int k a)).run P w = .ok r w ∧ VRel μ ν v r
  | [], _, a, v, h, hv => by cases h; injection hv with hv; subst hv; exact ⟨_, rfl, .int _ _⟩
  | x :: l, _, a, v, h, hv => by
    cases h with
    | cons h hs =>
      cases x <;> simp only [minInts] at hv <;> try (cases hv; done)
      cases h
      obtain ⟨r, g1, g2⟩ := sim_minInts hs hv
      refine ⟨r, ?_, g2⟩
      simp only [List.foldlM_cons, Builtin.min2, pure_bind]
      exact g1

theorem sim_maxInts {k : IntKind} : ∀ {l : List V} {rs : List Value} {a : Int} {v : V}, VsRel μ ν l rs → maxInts k a l = some v → ∃ r, (rs.foldlM Builtin.max2 (.int k a)).run P w = .ok r w ∧ VRel μ ν v r
  | [], _, a, v, h, hv => by cases h; injection hv with hv; subst hv; exact ⟨_, rfl, .int _ _⟩
  | x :: l, _, a, v, h, hv => by
    cases h with
    | cons h hs =>
      cases x <;> simp only [maxInts] at hv <;> try (cases hv; done)
      cases h
      obtain ⟨r, g1, g2⟩ := sim_maxInts hs hv
      refine ⟨r, ?_, g2⟩
      simp only [List.foldlM_cons, Builtin.max2, pure_bind]
      exact g1

theorem sim_builtin {b : Builtin} {ts : Array TypeId} {ty : TypeId} {cs : Array Bool} {args : List V} {args' : List Value} {v : V} (hr : Rel P μ ν s.heap w.heap) (hf : Fresh μ s s') (ha : VsRel μ ν args args') (h : builtinM P b ts args s = .ok v s') :
    SimN P μ ν s s' w (builtin b ts ty cs ⟨args'⟩) v := by
  unfold builtinM at h
  have one : ∀ {x : V} {l' : List Value}, VsRel μ ν [x] l' → ∃ x', l' = [x'] ∧ VRel μ ν x x' := by
    intro x l' hl; cases hl with | cons h hs => cases hs; exact ⟨_, rfl, h⟩
  have two : ∀ {x y : V} {l' : List Value}, VsRel μ ν [x, y] l' → ∃ x' y', l' = [x', y'] ∧ VRel μ ν x x' ∧ VRel μ ν y y' := by
    intro x y l' hl; cases hl with | cons h hs => cases hs with | cons h' hs => cases hs; exact ⟨_, _, rfl, h, h'⟩
  cases b
  case len =>
    rcases args with _ | ⟨x, _ | ⟨y, l⟩⟩ <;> cases ht : ts[0]? <;> simp only [ht] at h <;> try exact (err_ok h).elim
    obtain ⟨x', rfl, hx⟩ := one ha
    exact (sim_len hr ht hx h).next
  case cap =>
    rcases args with _ | ⟨x, _ | ⟨y, l⟩⟩ <;> cases ht : ts[0]? <;> simp only [ht] at h <;> try exact (err_ok h).elim
    obtain ⟨x', rfl, hx⟩ := one ha
    exact (sim_cap hr ht hx h).next
  case clear =>
    rcases args with _ | ⟨x, _ | ⟨y, l⟩⟩ <;> cases ht : ts[0]? <;> simp only [ht] at h <;> try exact (err_ok h).elim
    obtain ⟨x', rfl, hx⟩ := one ha
    exact (sim_clear hr ht hx h).next
  case append =>
    rcases args with _ | ⟨x, _ | ⟨y, _ | ⟨z, l⟩⟩⟩ <;> cases ht : ts[0]? <;> simp only [ht] at h <;> try exact (err_ok h).elim
    cases htx : ts[1]? <;> simp only [htx] at h
    · exact (err_ok h).elim
    · obtain ⟨x', y', rfl, hx, hy⟩ := two ha
      exact (sim_append hr hf ht htx hx hy h).next
  case copy =>
    rcases args with _ | ⟨x, _ | ⟨y, _ | ⟨z, l⟩⟩⟩ <;> cases ht : ts[0]? <;> simp only [ht] at h <;> try exact (err_ok h).elim
    obtain ⟨x', y', rfl, hx, hy⟩ := two ha
    exact (sim_copy hr ht hx hy h).next
  case delete =>
    rcases args with _ | ⟨x, _ | ⟨y, _ | ⟨z, l⟩⟩⟩ <;> cases ht : ts[0]? <;> simp only [ht] at h <;> try exact (err_ok h).elim
    obtain ⟨x', y', rfl, hx, hy⟩ := two ha
    exact (sim_delete hr ht hx hy h).next
  case min =>
    rcases args with _ | ⟨x, l⟩
    · exact (err_ok h).elim
    · cases x <;> (try simp only at h) <;> try exact (err_ok h).elim
      obtain ⟨h1, rfl⟩ := opt_ok h
      cases ha with
      | cons hx hs =>
        cases hx
        obtain ⟨r, g1, g2⟩ := sim_minInts (P := P) (w := w) hs h1
        refine SimV.next (m := Builtin.min_ ts ty _) (.quiet hr ?_ g2 rfl rfl)
        simp only [Builtin.min_]
        exact g1
  case max =>
    rcases args with _ | ⟨x, l⟩
    · exact (err_ok h).elim
    · cases x <;> (try simp only at h) <;> try exact (err_ok h).elim
      obtain ⟨h1, rfl⟩ := opt_ok h
      cases ha with
      | cons hx hs =>
        cases hx
        obtain ⟨r, g1, g2⟩ := sim_maxInts (P := P) (w := w) hs h1
        refine SimV.next (m := Builtin.max_ ts ty _) (.quiet hr ?_ g2 rfl rfl)
        simp only [Builtin.max_]
        exact g1
  all_goals exact (err_ok h).elim

/-! ### Calls -/

/-- A function's call, from what 'callFunc' makes of it. -/
def CallsTo (P : Program) (f : FuncId) (args : Array Value) (w : World) (K : Value → World → Prop) : Prop :=
  ((callFunc f args).run P w = .ok (.enter f args) w ∧ Calls P f args w fun e w' => ∃ r, e = .returned r ∧ K r w') ∨ ∃ r w', (callFunc f args).run P w = .ok (.value r) w' ∧ K r w'

/-- the machine's calls are the model's -/
def CallSim (P : Program) (ng : Nat) (call : FuncId → List V → M V) : Prop :=
  ∀ (f : FuncId) (vs : List V) (v : V) (s s' : St) (w : World) (μ : Mu) (ν : Nat → Value) (rs : List Value), call f vs s = .ok v s' → Rel P μ ν s.heap w.heap → Fresh μ s s' → Globs ng μ → VsRel μ ν vs rs →
    CallsTo P f ⟨rs⟩ w fun r w' => ∃ μ', VRel μ' ν v r ∧ StepOk P μ ν s.heap s.next w μ' s'.heap s'.next w'

theorem VsRel.map_ev {ev : Operand → V} {ρ : Operand → Value} : ∀ {l : List Operand}, (∀ x ∈ l, VRel μ ν (ev x) (ρ x)) → VsRel μ ν (l.map ev) (l.map ρ)
  | [], _ => .nil
  | x :: l, h => .cons (h x (by simp)) (VsRel.map_ev fun y hy => h y (by simp [hy]))

theorem PRel.map_ev {ev : Operand → V} {ρ : Operand → Value} : ∀ {l : List (Nat × Operand)}, (∀ x ∈ l, VRel μ ν (ev x.2) (ρ x.2)) → PRel μ ν (l.map fun p => (p.1, (ev p.2).cells)) (l.map fun p => (p.1, ρ p.2))
  | [], _ => .nil
  | x :: l, h => .cons (h x (by simp)) (PRel.map_ev fun y hy => h y (by simp [hy]))

theorem opRel_map {ev : Operand → V} {ρ : Operand → Value} {o : Option Operand} (h : ∀ x, o = some x → VRel μ ν (ev x) (ρ x)) : OpRel μ ν (o.map ev) (o.map ρ) := by
  cases o with
  | none => exact .none
  | some x => exact .some (h x rfl)

theorem map_list {ρ : Operand → Value} (a : Array Operand) : a.map ρ = ⟨a.toList.map ρ⟩ := by apply Array.ext'; simp
theorem map_list2 {ρ : Operand → Value} (a : Array (Nat × Operand)) : (a.map fun (i, x) => (i, ρ x)) = ⟨a.toList.map fun p => (p.1, ρ p.2)⟩ := by apply Array.ext'; simp

/-- what an operation needs to be done as ours is -/
def OpOk (P : Program) (μ : Mu) (ν : Nat → Value) (s s' : St) (w : World) (ρ : Operand → Value) (o : Oper) (v : V) : Prop :=
  SimN P μ ν s s' w (execOp ρ o) v ∨
  ∃ f args, (execOp ρ o).run P w = (callFunc f args).run P w ∧ CallsTo P f args w fun r w' => ∃ μ', VRel μ' ν v r ∧ StepOk P μ ν s.heap s.next w μ' s'.heap s'.next w'

theorem sim_op {call : FuncId → List V → M V} {ng : Nat} (hc : CallSim P ng call) {ev : Operand → V} {ρ : Operand → Value} {o : Oper} {v : V} (hr : Rel P μ ν s.heap w.heap) (hf : Fresh μ s s') (hg : Globs ng μ)
    (hev : ∀ x ∈ o.op.operands, VRel μ ν (ev x) (ρ x)) (h : opM P call ev o.op s = .ok v s') : OpOk P μ ν s s' w ρ o v := by
  obtain ⟨dst, op, type, pos, after, guard⟩ := o
  simp only at hev h
  unfold opM at h
  cases op <;> (try simp only at h) <;> try exact (err_ok h).elim
  case move x =>
    obtain ⟨rfl, rfl⟩ := ret_ok h
    exact .inl (SimN.value hr (hev _ (by simp [Op.operands])))
  case assign x =>
    obtain ⟨rfl, rfl⟩ := ret_ok h
    exact .inl (SimN.value hr (hev _ (by simp [Op.operands])))
  case pick c a b =>
    have hvc := hev c (by simp [Op.operands])
    have hva := hev a (by simp [Op.operands])
    have hvb := hev b (by simp [Op.operands])
    cases hcv : ev c <;> (try simp only [hcv] at h) <;> try exact (err_ok h).elim
    rename_i t
    rw [hcv] at hvc
    obtain ⟨rfl, rfl⟩ := ret_ok h
    left
    refine ⟨μ, w, if t = true then ρ a else ρ b, .inl ?_, by cases t <;> assumption, StepOk.refl hr⟩
    cases hrc : ρ c <;> rw [hrc] at hvc <;> cases hvc
    simp only [execOp, hrc, asBool, pure_bind]
    rfl
  case alloc e =>
    cases hz : zeroT P e with
    | none => simp only [hz] at h; exact (err_ok h).elim
    | some z => simp only [hz] at h; exact .inl (sim_alloc hr hf hz h).next
  case box e x => exact .inl (sim_box hr hf (hev x (by simp [Op.operands])) h).next
  case build t parts =>
    left
    have hp := PRel.map_ev (l := parts.toList) (fun x hx => hev x.2 (by simp [Op.operands]; exact ⟨x.1, by simpa using hx⟩))
    have := (sim_build hr hp h).next
    simp only [execOp]
    rw [map_list2]
    exact this
  case buildSlice t len parts =>
    left
    have hp := PRel.map_ev (l := parts.toList) (fun x hx => hev x.2 (by simp [Op.operands]; exact ⟨x.1, by simpa using hx⟩))
    have := (sim_buildSlice hr hf hp h).next
    simp only [execOp]
    rw [map_list2]
    exact this
  case load t a =>
    have ha := hev a (by simp [Op.operands])
    cases hav : ev a <;> (try simp only [hav] at h) <;> try exact (err_ok h).elim
    rw [hav] at ha
    exact .inl (sim_load hr ha h).next
  case store t a x =>
    have ha := hev a (by simp [Op.operands])
    have hx := hev x (by simp [Op.operands])
    cases hav : ev a <;> (try simp only [hav] at h) <;> try exact (err_ok h).elim
    rw [hav] at ha
    obtain ⟨rfl, w', g1, g2⟩ := sim_store hr ha hx h
    left
    refine ⟨μ, w', undef, .inr ⟨?_, rfl⟩, VRel.undef, g2⟩
    simp only [execOp]
    rw [run_pure_bind g1]
    rfl
  case nilCheck x =>
    have hx := hev x (by simp [Op.operands])
    left
    cases hxv : ev x <;> (try simp only [hxv] at h) <;> try exact (err_ok h).elim
    all_goals
      rw [hxv] at hx
      obtain ⟨rfl, rfl⟩ := ret_ok h
      refine ⟨μ, w, ρ x, .inl ?_, hx, StepOk.refl hr⟩
      simp only [execOp]
      generalize ρ x = rx at hx
      cases hx
      rfl
  case binOp op t x y ty =>
    have hx := hev x (by simp [Op.operands])
    have hy := hev y (by simp [Op.operands])
    obtain ⟨h1, rfl⟩ := opt_ok h
    exact .inl (sim_bin hr hx hy h1).next
  case unOp op t x =>
    obtain ⟨h1, rfl⟩ := opt_ok h
    exact .inl (sim_un hr (hev x (by simp [Op.operands])) h1).next
  case convert src dst x => exact .inl (sim_convert hr hf (hev x (by simp [Op.operands])) h).next
  case makeInterface t x =>
    have hx := hev x (by simp [Op.operands])
    cases hd : P.underlying t with
    | none => simp only [hd] at h; exact (err_ok h).elim
    | some d =>
      simp only [hd] at h
      cases d <;> (try simp only at h) <;> first
        | exact (err_ok h).elim
        | (obtain ⟨rfl, rfl⟩ := ret_ok h
           left
           refine SimV.next (m := Instr.makeInterface t (ρ x)) (.quiet (r := .iface t (ρ x)) hr ?_ (.iface hx) rfl rfl)
           unfold Instr.makeInterface
           rw [run_pure_bind (run_underlying hd)]
           rfl)
  case makeFunc fn first captured =>
    cases fn <;> (try simp only at h) <;> try exact (err_ok h).elim
    rename_i f
    obtain ⟨rfl, rfl⟩ := ret_ok h
    left
    have h1 := VsRel.map_ev (μ := μ) (ν := ν) (l := first.toList) (ev := ev) (ρ := ρ) (fun x hx => hev x (by simp [Op.operands]; exact .inl (by simpa using hx)))
    have h2 := VsRel.map_ev (μ := μ) (ν := ν) (l := captured.toList) (ev := ev) (ρ := ρ) (fun x hx => hev x (by simp [Op.operands]; exact .inr (by simpa using hx)))
    refine SimV.next (m := Instr.makeFunc (.func f) (first.map ρ) (captured.map ρ)) (.quiet hr rfl ?_ rfl rfl)
    rw [map_list, map_list]
    exact .func h1 h2
  case makeMap t r =>
    left
    have key : ∀ (m : Sem Value), (m.run P w = .ok (.map (some w.heap.size)) { w with heap := w.heap.push (.map #[] 0) }) → bnd (alloc (.map [] 0)) (fun k => ret (.map k)) s = .ok v s' → SimV P μ ν s s' w m v := by
      intro m hm h
      obtain ⟨k, s1, h1, h2⟩ := bnd_ok h
      obtain ⟨rfl, rfl⟩ := ret_ok h2
      obtain ⟨rfl, rfl⟩ := alloc_ok h1
      have hk : μ s.next = none := hf _ (Nat.le_refl _) (Nat.lt_succ_self _)
      have hst := StepOk.alloc (P := P) (ν := ν) (d := w.drawn) (pl := ⟨w.heap.size, 0, false, 0, 0⟩) (O := .map #[] 0) (ob := .map [] 0) hr hk rfl ⟨[], by simp, .nil⟩
      exact ⟨_, _, _, hm, .map (upd_same _ _ _), hst⟩
    cases r with
    | none =>
      refine (key (Instr.makeMap t none) ?_ h).next
      simp [Instr.makeMap]
    | some x =>
      have hx := hev x (by simp [Op.operands])
      cases hd : P.underlying t with
      | none => simp only [hd] at h; exact (err_ok h).elim
      | some d =>
        cases d <;> (try simp only [hd] at h) <;> try exact (err_ok h).elim
        cases hxv : ev x <;> (try simp only [hxv] at h) <;> try exact (err_ok h).elim
        rw [hxv] at hx
        refine (key (Instr.makeMap t (some (ρ x))) ?_ h).next
        generalize ρ x = rx at hx
        cases hx
        simp [Instr.makeMap, run_underlying hd, asInt, asIntOf]
  case makeSlice t l c =>
    have hl := hev l (by simp [Op.operands])
    have hcp := hev c (by simp [Op.operands])
    cases hd : P.underlying t with
    | none => simp only [hd] at h; exact (err_ok h).elim
    | some d =>
      cases d <;> (try simp only [hd] at h) <;> try exact (err_ok h).elim
      rename_i e
      cases hlv : ev l <;> (try simp only [hlv] at h) <;> try exact (err_ok h).elim
      rename_i kl il
      cases il <;> (try simp only at h) <;> try exact (err_ok h).elim
      rename_i nl
      cases hcv : ev c <;> (try simp only [hcv] at h) <;> try exact (err_ok h).elim
      rename_i kc ic
      cases ic <;> (try simp only at h) <;> try exact (err_ok h).elim
      rename_i nc
      rw [hlv] at hl; rw [hcv] at hcp
      cases hn : szT P e <;> cases hz : zeroT P e <;> cases hby : (P.info? e).map (·.bytes) <;> simp only [hn, hz, hby] at h <;> try exact (err_ok h).elim
      rename_i size z bytes
      cases hb : (Nat.ble nl nc && roomy nc bytes && Nat.beq z.cells.length size)
      · rw [hb, cond_false] at h; exact (err_ok h).elim
      rw [hb, cond_true] at h
      rw [Bool.and_eq_true, Bool.and_eq_true, ble_iff, nbeq_iff] at hb
      obtain ⟨⟨hb1, hb2⟩, hb3⟩ := hb
      obtain ⟨hb4, hb5⟩ := roomy_le hb2
      left
      refine SimV.next (m := Instr.makeSlice t (ρ l) (ρ c)) ?_
      obtain ⟨k, s1, h1, h2⟩ := bnd_ok h
      obtain ⟨rfl, rfl⟩ := ret_ok h2
      obtain ⟨z', hz1, hz2⟩ := zeroT_run (μ := μ) (ν := ν) (w := w) hz
      have hzl := hz2.cells.length
      simp only [Array.length_toList] at hzl
      obtain ⟨pl, p1, p2, p3, p4, p5, p6⟩ := sim_newRow hr hf (rep_rel hz2.cells nc) h1
      refine ⟨_, _, .slice (some ⟨w.heap.size, 0, none⟩) nl nc, ?_, slice_new p1 p2 hb1, p6⟩
      obtain ⟨ti, hti, htb⟩ : ∃ i, P.info? e = some i ∧ i.bytes = bytes := by
        cases hi : P.info? e with
        | none => rw [hi] at hby; cases hby
        | some i => rw [hi] at hby; injection hby with hby; exact ⟨i, rfl, hby⟩
      generalize ρ l = rl at hl
      generalize ρ c = rc at hcp
      cases hl; cases hcp
      have hwl : IntKind.i64.wrap (Int.ofNat nl) = (nl : Int) := wrap_i64 nl (by omega)
      have hwc : IntKind.i64.wrap (Int.ofNat nc) = (nc : Int) := wrap_i64 nc (by omega)
      have hsz : nc * size = nc * z'.cells.size := by rw [← hzl, hb3]
      have hbm : ¬ ((bytes : Int) * (nc : Int) > 2 ^ 48) := by
        have h0 : ((nc * bytes : Nat) : Int) ≤ 140737488355328 := Int.ofNat_le.2 hb5
        have h1 : (bytes : Int) * (nc : Int) = ((nc * bytes : Nat) : Int) := by rw [Int.natCast_mul, Int.mul_comm]
        rw [h1]; omega
      unfold Instr.makeSlice
      rw [run_pure_bind (run_underlying hd)]
      simp only [asInt, asIntOf, pure_bind, bind_assoc]
      rw [run_pure_bind (run_typeInfo hti), htb]
      simp only [hwl, hwc]
      have hcond : ¬ ((decide ((nc : Int) < 0) || decide ((bytes : Int) * (nc : Int) > 2 ^ 48) || decide ((nl : Int) < 0) || decide ((nl : Int) > (nc : Int))) = true) := by
        simp only [Bool.or_eq_true, decide_eq_true_eq]
        omega
      rw [if_neg hcond]
      rw [run_pure_bind (run_askRoom _ _ _), run_pure_bind (run_sizeOf hn)]
      simp only [Int.toNat_natCast]
      by_cases h0 : nc * size = 0
      · rw [if_pos h0]
        have hcells : (Array.range (nc * size)).map (fun x => (#[] : Array Value)[x % (#[] : Array Value).size]!) = ⟨((Array.range (nc * z'.cells.size)).map fun j => z'.cells[j % z'.cells.size]!).toList⟩ := by
          rw [← hsz, h0]; simp
        rw [hcells]
        rw [run_pure_bind p5]
        rfl
      · rw [if_neg h0, run_pure_bind hz1]
        have hcells : (Array.range (nc * size)).map (fun x => z'.cells[x % z'.cells.size]!) = ⟨((Array.range (nc * z'.cells.size)).map fun j => z'.cells[j % z'.cells.size]!).toList⟩ := by
          rw [hsz]
        rw [hcells]
        rw [run_pure_bind p5]
        rfl
  case slice t x lo hi mx =>
    have hx := hev x (by simp [Op.operands])
    left
    exact (sim_slice hr hx (opRel_map fun y hy => hev y (by subst hy; simp [Op.operands])) (opRel_map fun y hy => hev y (by subst hy; simp [Op.operands])) (opRel_map fun y hy => hev y (by subst hy; simp [Op.operands])) h).next
  case fieldAddr t x f =>
    have hx := hev x (by simp [Op.operands])
    cases hd : P.underlying t with
    | none => simp only [hd] at h; exact (err_ok h).elim
    | some d =>
      cases d <;> (try simp only [hd] at h) <;> try exact (err_ok h).elim
      rename_i fs
      cases hxv : ev x <;> (try simp only [hxv] at h) <;> try exact (err_ok h).elim
      rw [hxv] at hx
      cases hfd : fs[f]? with
      | none => simp only [hfd] at h; exact (err_ok h).elim
      | some fd =>
        simp only [hfd] at h
        cases hn : szT P fd.type with
        | none => simp only [hn] at h; exact (err_ok h).elim
        | some n =>
          cases n with
          | zero => simp only [hn] at h; exact (err_ok h).elim
          | succ n =>
            simp only [hn] at h
            obtain ⟨rfl, rfl⟩ := ret_ok h
            exact .inl (sim_fieldAddr hr hd hfd hn hx).next
  case field t x f =>
    have hx := hev x (by simp [Op.operands])
    cases hd : P.underlying t with
    | none => simp only [hd] at h; exact (err_ok h).elim
    | some d =>
      cases d <;> (try simp only [hd] at h) <;> try exact (err_ok h).elim
      rename_i fs
      cases hxv : ev x <;> (try simp only [hxv] at h) <;> try exact (err_ok h).elim
      rw [hxv] at hx
      cases hfd : fs[f]? with
      | none => simp only [hfd] at h; exact (err_ok h).elim
      | some fd => simp only [hfd] at h; exact .inl (sim_field hr hd hfd hx h).next
  case indexAddr t x ix =>
    have hx := hev x (by simp [Op.operands])
    have hi := hev ix (by simp [Op.operands])
    cases hd : P.underlying t with
    | none => simp only [hd] at h; exact (err_ok h).elim
    | some d =>
      cases d <;> (try simp only [hd] at h) <;> try exact (err_ok h).elim
      case array n e =>
        cases hxv : ev x <;> (try simp only [hxv] at h) <;> try exact (err_ok h).elim
        cases hiv : ev ix <;> (try simp only [hiv] at h) <;> try exact (err_ok h).elim
        rename_i k o ki i
        cases i <;> (try simp only at h) <;> try exact (err_ok h).elim
        rename_i i
        rw [hxv] at hx; rw [hiv] at hi
        generalize hri : ρ ix = ri at hi
        cases hi
        cases hn : szT P e with
        | none => simp only [hn] at h; exact (err_ok h).elim
        | some sz =>
          simp only [hn] at h
          cases hlt : Nat.blt i n
          · rw [hlt, cond_false] at h; exact (err_ok h).elim
          · rw [hlt, cond_true] at h
            rw [blt_iff] at hlt
            obtain ⟨rfl, rfl⟩ := ret_ok h
            left
            have := (sim_indexAddr_array (ki := ki) hr hd hn hlt hx).next
            simp only [execOp, hri]
            exact this
      case slice e =>
        cases hxv : ev x <;> (try simp only [hxv] at h) <;> try exact (err_ok h).elim
        cases hiv : ev ix <;> (try simp only [hiv] at h) <;> try exact (err_ok h).elim
        rename_i k o n c ki i
        cases i <;> (try simp only at h) <;> try exact (err_ok h).elim
        rename_i i
        rw [hxv] at hx; rw [hiv] at hi
        generalize hri : ρ ix = ri at hi
        cases hi
        cases hn : szT P e with
        | none => simp only [hn] at h; exact (err_ok h).elim
        | some sz =>
          simp only [hn] at h
          cases hlt : Nat.blt i n
          · rw [hlt, cond_false] at h; exact (err_ok h).elim
          · rw [hlt, cond_true] at h
            rw [blt_iff] at hlt
            obtain ⟨rfl, rfl⟩ := ret_ok h
            left
            have := (sim_indexAddr_slice (ki := ki) hr hd hn hlt hx).next
            simp only [execOp, hri]
            exact this
  case index t x ix =>
    have hx := hev x (by simp [Op.operands])
    have hi := hev ix (by simp [Op.operands])
    cases hd : P.underlying t with
    | none => simp only [hd] at h; exact (err_ok h).elim
    | some d =>
      cases d <;> (try simp only [hd] at h) <;> try exact (err_ok h).elim
      case array n e =>
        cases hxv : ev x <;> (try simp only [hxv] at h) <;> try exact (err_ok h).elim
        cases hiv : ev ix <;> (try simp only [hiv] at h) <;> try exact (err_ok h).elim
        rename_i cs ki i
        cases i <;> (try simp only at h) <;> try exact (err_ok h).elim
        rename_i i
        rw [hxv] at hx; rw [hiv] at hi
        generalize hri : ρ ix = ri at hi
        cases hi
        cases hn : szT P e with
        | none => simp only [hn] at h; exact (err_ok h).elim
        | some sz =>
          simp only [hn] at h
          cases hlt : Nat.blt i n
          · rw [hlt, cond_false] at h; exact (err_ok h).elim
          · rw [hlt, cond_true] at h
            rw [blt_iff] at hlt
            left
            have := (sim_index_array (ki := ki) hr hd hn hlt hx h).next
            simp only [execOp, hri]
            exact this
      case string =>
        cases hxv : ev x <;> (try simp only [hxv] at h) <;> try exact (err_ok h).elim
        cases hiv : ev ix <;> (try simp only [hiv] at h) <;> try exact (err_ok h).elim
        rename_i l ki i
        cases i <;> (try simp only at h) <;> try exact (err_ok h).elim
        rename_i i
        rw [hxv] at hx; rw [hiv] at hi
        generalize hri : ρ ix = ri at hi
        cases hi
        cases hlb : l[i]? with
        | none => simp only [hlb] at h; exact (err_ok h).elim
        | some b =>
          simp only [hlb] at h
          obtain ⟨rfl, rfl⟩ := ret_ok h
          left
          have := (sim_index_string (ki := ki) hr hd hlb hx).next
          simp only [execOp, hri]
          exact this
  case lookup t x ix ok => exact .inl (sim_lookup hr (hev x (by simp [Op.operands])) (hev ix (by simp [Op.operands])) h).next
  case mapUpdate t m k x =>
    obtain ⟨rfl, w', g1, g2⟩ := sim_mapUpdate hr (hev m (by simp [Op.operands])) (hev k (by simp [Op.operands])) (hev x (by simp [Op.operands])) h
    left
    refine ⟨μ, w', undef, .inr ⟨?_, rfl⟩, VRel.undef, g2⟩
    simp only [execOp]
    rw [run_pure_bind g1]
    rfl
  case insert t m k x =>
    obtain ⟨rfl, w', g1, g2⟩ := sim_mapUpdate hr (hev m (by simp [Op.operands])) (hev k (by simp [Op.operands])) (hev x (by simp [Op.operands])) h
    left
    refine ⟨μ, w', undef, .inr ⟨?_, rfl⟩, VRel.undef, g2⟩
    simp only [execOp]
    rw [run_pure_bind g1]
    rfl
  case range t x => exact .inl (sim_range hr hf (hev x (by simp [Op.operands])) h).next
  case next it isString => exact .inl (sim_next hr (hev it (by simp [Op.operands])) h).next
  case entry it => exact .inl (sim_entry hr (hev it (by simp [Op.operands])) h).next
  case extract t i =>
    have hx := hev t (by simp [Op.operands])
    cases hxv : ev t <;> (try simp only [hxv] at h) <;> try exact (err_ok h).elim
    obtain ⟨h1, rfl⟩ := opt_ok h
    rw [hxv] at hx
    left
    refine SimV.next (m := Instr.extract (ρ t) i) ?_
    generalize ρ t = rt at hx
    cases hx with
    | tuple hs =>
      obtain ⟨r, g1, g2⟩ := hs.get h1
      refine .quiet hr ?_ g2 rfl rfl
      unfold Instr.extract
      rename_i cs'
      have e : (⟨cs'⟩ : Array Value)[i]? = some r := by simpa using g1
      simp only [e]
      rfl
  case call c =>
    cases hcal : c.callee <;> (try simp only [hcal] at h) <;> try exact (err_ok h).elim
    case value f =>
      have hvf := hev f (by simp [Op.operands, Call.operands, hcal])
      have hargs : VsRel μ ν (c.args.toList.map ev) (c.args.toList.map ρ) := VsRel.map_ev fun x hx => hev x (by simp [Op.operands, Call.operands, hcal]; exact .inr (by simpa using hx))
      unfold callV at h
      cases hfv : ev f <;> (try simp only [hfv] at h) <;> try exact (err_ok h).elim
      rename_i g first captured
      rw [hfv] at hvf
      generalize hrf : ρ f = rf at hvf
      cases hvf with
      | func h1 h2 =>
        rename_i first' captured'
        right
        refine ⟨g, ⟨first' ++ c.args.toList.map ρ ++ captured'⟩, ?_, hc g _ _ _ _ _ _ _ _ h hr hf hg ((h1.append hargs).append h2)⟩
        simp only [execOp, resolve, hcal, hrf, Deferred.ofValue, pure_bind, invoke]
        congr 2
        apply Array.ext'
        simp
    case builtin b =>
      have hargs : VsRel μ ν (c.args.toList.map ev) (c.args.toList.map ρ) := VsRel.map_ev fun x hx => hev x (by simp [Op.operands, Call.operands, hcal]; simpa using hx)
      left
      have := sim_builtin (ty := type) (cs := c.args.map fun | .const _ => true | _ => false) hr hf hargs h
      simp only [execOp, resolve, hcal, pure_bind, invoke]
      rw [map_list]
      exact this

end
end Go.Lx
