/-
  Code and calls: what the machine gives, the model gives.
-/
import Derived.Test.YtbebdlmldogcmaaLxW
set_option linter.unusedSimpArgs false
set_option linter.unusedVariables false
namespace Go.Lx
section
variable {c : Cfg} {call : FuncId → List V → M V} {nt : Nat}

theorem ready_mem {ops : Array Oper} {listed : Array Bool} (hs : listed.size = ops.size) {i : Nat} : i ∈ Region.ready .any ops listed ↔ i < ops.size ∧ listed.getD i false = false ∧ ∃ o, ops[i]? = some o ∧ ∀ e ∈ o.after, Region.binds .any e = true → listed.getD e.on false = true := by
  rw [mem_ready]
  constructor
  · rintro ⟨h1, o, h2, h3⟩
    have hi : i < ops.size := (Array.getElem?_eq_some_iff.1 h2).1
    refine ⟨hi, ?_, o, h2, h3⟩
    rw [Array.getD_eq_getD_getElem?] at h1 ⊢
    have : listed[i]? = some listed[i] := by simp [hs, hi]
    rw [this] at h1 ⊢; exact h1
  · rintro ⟨hi, h1, o, h2, h3⟩
    refine ⟨?_, o, h2, h3⟩
    rw [Array.getD_eq_getD_getElem?] at h1 ⊢
    have : listed[i]? = some listed[i] := by simp [hs, hi]
    rw [this] at h1 ⊢; exact h1

/-- a region whose order is open, from wherever it stands -/
theorem any_of_stand {ops : Array Oper} {tmf : Nat → T V} {sf : Nat → St} {vf : Nat → V} {Q : Exit → Act → World → Prop} {ν : Nat → Value} {μ0 : Mu} {a0 : Act} {w0 : World} (hc : CallSim c.P c.ng call) (C : Canon c call ops nt tmf sf vf) (hg : Globs c.ng μ0)
    (hQ : ∀ μ a w, a.defers = a0.defers → TmRel μ ν nt (tmf ops.size) a.tmps → StepOk c.P μ0 ν (sf 0).heap (sf 0).next w0 μ (sf ops.size).heap (sf ops.size).next w → Q .normal a w) :
    ∀ (fuel : Nat) (todo : List Nat) (listed : Array Bool) (τ : T Ob) (μ : Mu) (a : Act) (w : World), todo.length = fuel → todo.Nodup → listed.size = ops.size → (∀ i, i ∈ todo ↔ i < ops.size ∧ listed.getD i false = false) →
      Stand c ops nt tmf sf ν μ0 a0 w0 (fun i => listed.getD i false = true) τ μ a w → wpAny c.P .any ops Q fuel listed a w := by
  intro fuel
  have least : ∀ (listed : Array Bool), listed.size = ops.size → Region.ready .any ops listed = [] → ∀ i, i < ops.size → listed.getD i false = true := by
    intro listed hs hr i
    induction i using Nat.strongRecOn with
    | _ i ih =>
      intro hi
      apply Classical.byContradiction
      intro hn
      obtain ⟨o, ho⟩ := Canon.op (ops := ops) hi
      have : i ∈ Region.ready .any ops listed := (ready_mem hs).2 ⟨hi, by simpa using hn, o, ho, fun e he hb => by
        have := C.edges i o ho e he hb
        exact ih e.on this (by omega)⟩
      rw [hr] at this; simp at this
  induction fuel with
  | zero =>
    intro todo listed τ μ a w hlen hnd hs hm D
    have htodo : todo = [] := List.length_eq_zero_iff.1 hlen
    subst htodo
    have hall : ∀ i, i < ops.size → listed.getD i false = true := by
      intro i hi
      cases hl : listed.getD i false
      · have := (hm i).2 ⟨hi, hl⟩; simp at this
      · rfl
    obtain ⟨h1, h2⟩ := stand_end C D hall
    refine ⟨?_, hQ μ a w D.defers h1 h2⟩
    apply List.eq_nil_iff_forall_not_mem.2
    intro i hi
    have := (ready_mem hs).1 hi
    rw [hall i this.1] at this; simp at this
  | succ fuel ih =>
    intro todo listed τ μ a w hlen hnd hs hm D
    refine ⟨fun hr => ?_, fun i hi => ?_⟩
    · obtain ⟨h1, h2⟩ := stand_end C D (least listed hs hr)
      exact hQ μ a w D.defers h1 h2
    · obtain ⟨hin, hli, o, ho, hready⟩ := (ready_mem hs).1 hi
      refine stand_step hc C hg D ho (by rw [hli]; simp) hready fun τ' μ' a' w' D' => ?_
      have hset : ∀ j, (listed.setIfInBounds i true).getD j false = (if j = i then true else listed.getD j false) := by
        intro j
        by_cases e : j = i
        · subst e
          rw [if_pos rfl, Array.getD_eq_getD_getElem?]
          simp [hs, hin]
        · rw [if_neg e, Array.getD_eq_getD_getElem?, Array.getD_eq_getD_getElem?, Array.getElem?_setIfInBounds_ne (Ne.symm e)]
      have hmem : i ∈ todo := (hm i).2 ⟨hin, hli⟩
      refine ih (todo.erase i) _ τ' μ' a' w' (by rw [List.length_erase_of_mem hmem]; omega) (hnd.erase i) (by simpa using hs) (fun j => ?_) ?_
      · rw [hset, hnd.mem_erase_iff, hm]
        constructor
        · rintro ⟨h1, h2, h3⟩; exact ⟨h2, by rw [if_neg h1]; exact h3⟩
        · rintro ⟨h1, h2⟩
          by_cases e : j = i
          · rw [if_pos e] at h2; cases h2
          · rw [if_neg e] at h2; exact ⟨e, h1, h2⟩
      · have hS : (fun j => (listed.setIfInBounds i true).getD j false = true) = fun j => listed.getD j false = true ∨ j = i := by
          funext j
          rw [hset]
          apply propext
          by_cases e : j = i
          · rw [if_pos e]; exact ⟨fun _ => .inr e, fun _ => rfl⟩
          · rw [if_neg e]; exact ⟨.inl, fun h => h.resolve_right e⟩
        rw [hS]; exact D'

/-- a region whose order is open -/
theorem sim_draw {id : Nat} {ops : Array Oper} {Q : Exit → Act → World → Prop} {ν : Nat → Value} {μ : Mu} {tm tm' : T V} {s s' : St} {a : Act} {w : World} (hm : c.P.follows .mixedOrders = true) (hc : CallSim c.P c.ng call) (hl : ∀ f vs, Local (call f vs)) (h : drawM c call ops nt tm s = .ok tm' s')
    (hr : Rel c.P μ ν s.heap w.heap) (hf : Fresh μ s s') (hg : Globs c.ng μ) (ht : TmRel μ ν nt tm a.tmps)
    (hK : ∀ μ' a' w', a'.defers = a.defers → TmRel μ' ν nt tm' a'.tmps → StepOk c.P μ ν s.heap s.next w μ' s'.heap s'.next w' → Q .normal a' w') : (Code.region id ops true).wp c.P Q a w := by
  obtain ⟨tmf, sf, vf, C, rfl, rfl, rfl, e1, e2⟩ := canon_of hl h
  refine wp_region_any hm ?_
  have hn0 : ∀ i, (Array.replicate ops.size false).getD i false = false := by
    intro i
    rw [Array.getD_eq_getD_getElem?, Array.getElem?_replicate]
    split <;> rfl
  refine any_of_stand (μ0 := μ) (a0 := a) (w0 := { w with drawn := w.drawn + 1 }) (ν := ν) hc C hg (fun μ' a' w' h1 h2 h3 => hK μ' a' w' h1 h2 (by rw [← e1, ← e2]; exact h3.drew (w.drawn + 1))) ops.size (List.range ops.size) (Array.replicate ops.size false) (sf 0).heap μ a { w with drawn := w.drawn + 1 } (by simp) List.nodup_range (by simp) (fun i => by rw [hn0]; simp) ?_
  refine ⟨?_, ht.1, rfl, ?_, ?_, ?_, ?_, ?_, ?_⟩
  · intro j o hj; rw [hn0] at hj; cases hj
  · have := StepOk.refl (P := c.P) (n := (sf 0).next) (w := { w with drawn := w.drawn + 1 }) (μ := μ) (ν := ν) (h := (sf 0).heap) hr
    exact ⟨this.le, fun _ _ => rfl, this.rel, rfl, rfl, rfl, Nat.le_refl _, fun _ _ _ => rfl, this.newblk⟩
  · intro x i hi; rw [hn0] at hi; cases hi
  · intro x _; rfl
  · intro t i o hi; rw [hn0] at hi; cases hi
  · intro t _; exact ht.2 t
  · intro i hi _ k h1 h2
    refine hf k (Nat.le_trans (C.next_le (Nat.zero_le _) (by omega)) h1) ?_
    rw [← e2]
    exact Nat.lt_of_lt_of_le h2 (C.next_le (by omega) (Nat.le_refl _))

/-! ### Code -/

/-- how code may end, ours and the model's -/
def exOf : Ex → Exit
  | .normal => .normal
  | .exit i => .exit i
  | .ret => .ret

theorem local_iter {f : T V → M (Ex × T V)} (hf : ∀ tm, Local (f tm)) : ∀ n tm, Local (iter f n tm)
  | 0, _ => Local.err _
  | n + 1, tm => by
    unfold iter
    refine Local.bnd (hf tm) fun r => ?_
    obtain ⟨e, tm'⟩ := r
    cases e
    · exact local_iter hf n tm'
    · exact Local.ret _
    · exact Local.ret _

theorem local_code (hl : ∀ f vs, Local (call f vs)) : ∀ (code : Code) (tm : T V), Local (codeM c call nt code tm) := by
  intro code
  induction code with
  | region id ops d =>
    intro tm
    unfold codeM
    refine Local.bnd (Local.cond (local_draw hl tm) (local_run hl nt _ tm)) fun _ => Local.ret _
  | seq x y ihx ihy =>
    intro tm
    unfold codeM
    refine Local.bnd (ihx tm) fun r => ?_
    obtain ⟨e, tm'⟩ := r
    cases e
    · exact ihy tm'
    · exact Local.ret _
    · exact Local.ret _
  | cond x a b iha ihb =>
    intro tm
    unfold codeM
    refine Local.cond ?_ (Local.err _)
    split
    · exact Local.cond (iha tm) (ihb tm)
    · exact Local.err _
  | block id a iha =>
    intro tm
    unfold codeM
    refine Local.bnd (iha tm) fun r => ?_
    obtain ⟨e, tm'⟩ := r
    cases e <;> exact Local.ret _
  | loop a iha =>
    intro tm
    unfold codeM
    exact local_iter iha _ tm
  | skip => intro tm; exact Local.ret _
  | label l => intro tm; exact Local.ret _
  | exit i => intro tm; exact Local.ret _
  | ret => intro tm; exact Local.ret _
  | goto l => intro tm; exact Local.err _
  | rangeFunc f p a b _ _ => intro tm; exact Local.err _
  | scope b _ => intro tm; exact Local.err _
  | refuse w => intro tm; exact Local.err _

theorem local_results {P : Program} {tm : T V} : ∀ l, Local (resultsM P tm l)
  | [] => Local.ret _
  | .tmp t :: l => Local.bnd (local_results l) fun _ => Local.ret _
  | .cell a t :: l => by
    unfold resultsM
    split
    · exact Local.bnd (local_loadVar _ _ _) fun _ => Local.bnd (local_results l) fun _ => Local.ret _
    · exact Local.err _

theorem local_body (hl : ∀ f vs, Local (call f vs)) (fn : Func) (code : Code) (args : List V) : Local (bodyM c call fn code args) := by
  unfold bodyM
  refine Local.bnd (local_code hl code _) fun r => ?_
  obtain ⟨e, tm⟩ := r
  cases e
  · exact Local.bnd (local_results _) fun _ => Local.ret _
  · exact Local.err _
  · exact Local.bnd (local_results _) fun _ => Local.ret _

theorem local_call (hs : ∀ f g, c.sum f = some g → ∀ vs, Local (g vs)) : ∀ n f vs, Local (callM c n f vs)
  | 0, _, _ => Local.err _
  | n + 1, f, vs => by
    unfold callM
    split
    · rename_i g hg; exact hs f g hg vs
    · split
      · refine Local.cond (Local.err _) ?_
        split
        · exact local_body (local_call hs n) _ _ _
        · exact Local.err _
      · exact Local.err _

/-- a loop, from the head of a round -/
def LoopAt (P : Program) (b0 : Code) (Q : Exit → Act → World → Prop) (a : Act) (w : World) : Prop :=
  ∀ (b : Frame) (k : List Item) (cs : List Frame), ∃ e a' w', Q e a' w' ∧ Arrives P (lone (b.at a (.code b0 :: .inLoop b0 :: k)) cs w) b k cs e a' w'

theorem loopAt_wp {P : Program} {b0 : Code} {Q : Exit → Act → World → Prop} {a : Act} {w : World} (h : LoopAt P b0 Q a w) : (Code.loop b0).wp P Q a w := by
  intro b k cs
  obtain ⟨e, a', w', hq, harr⟩ := h b k cs
  exact ⟨e, a', w', hq, .of_steps (.one step_loop) harr⟩

theorem loopAt_round {P : Program} {b0 : Code} {Q : Exit → Act → World → Prop} {a : Act} {w : World} (h : b0.wp P (Exit.then (LoopAt P b0 Q) Q) a w) : LoopAt P b0 Q a w := by
  intro b k cs
  obtain ⟨e, a₁, w₁, hq, harr⟩ := h b (.inLoop b0 :: k) cs
  cases e with
  | normal =>
    obtain ⟨e₂, a₂, w₂, hq₂, harr₂⟩ := hq b k cs
    exact ⟨e₂, a₂, w₂, hq₂, .of_steps (Steps.trans harr (.one step_inLoop)) harr₂⟩
  | exit id => exact ⟨_, a₁, w₁, hq, .pass (x := .inLoop b0) rfl (fun _ _ => .inl (by simp)) harr⟩
  | goto l => exact ⟨_, a₁, w₁, hq, .pass (x := .inLoop b0) rfl (fun _ _ => .inl (by simp)) harr⟩
  | ret => exact ⟨_, a₁, w₁, hq, .pass (x := .inLoop b0) rfl (fun _ _ => .inl (by simp)) harr⟩
  | panic ch => exact ⟨_, a₁, w₁, hq, .pass (x := .inLoop b0) rfl (fun _ _ => .inl (by simp)) harr⟩
  | outgrown => exact ⟨_, a₁, w₁, hq, .pass (x := .inLoop b0) rfl (fun _ _ => .inl (by simp)) harr⟩

/-- what code does, the model's does -/
theorem sim_code (hm : c.P.follows .mixedOrders = true) (hc : CallSim c.P c.ng call) (hl : ∀ f vs, Local (call f vs)) {ν : Nat → Value} : ∀ (code : Code) (tm : T V) (e : Ex) (tm' : T V) (s s' : St) (a : Act) (w : World) (μ : Mu) (Q : Exit → Act → World → Prop), codeM c call nt code tm s = .ok (e, tm') s' →
    Rel c.P μ ν s.heap w.heap → Fresh μ s s' → Globs c.ng μ → TmRel μ ν nt tm a.tmps →
    (∀ μ' a' w', a'.defers = a.defers → TmRel μ' ν nt tm' a'.tmps → StepOk c.P μ ν s.heap s.next w μ' s'.heap s'.next w' → Q (exOf e) a' w') → code.wp c.P Q a w := by
  intro code
  induction code with
  | skip =>
    intro tm e tm' s s' a w μ Q h hr hf hg ht hK
    obtain ⟨he, rfl⟩ := ret_ok h
    injection he with h1 h2; subst h1; subst h2
    exact wp_skip (hK μ a w rfl ht (StepOk.refl hr))
  | label l =>
    intro tm e tm' s s' a w μ Q h hr hf hg ht hK
    obtain ⟨he, rfl⟩ := ret_ok h
    injection he with h1 h2; subst h1; subst h2
    exact wp_label (hK μ a w rfl ht (StepOk.refl hr))
  | exit i =>
    intro tm e tm' s s' a w μ Q h hr hf hg ht hK
    obtain ⟨he, rfl⟩ := ret_ok h
    injection he with h1 h2; subst h1; subst h2
    exact wp_exit (hK μ a w rfl ht (StepOk.refl hr))
  | ret =>
    intro tm e tm' s s' a w μ Q h hr hf hg ht hK
    obtain ⟨he, rfl⟩ := ret_ok h
    injection he with h1 h2; subst h1; subst h2
    exact wp_ret (hK μ a w rfl ht (StepOk.refl hr))
  | region id ops d =>
    intro tm e tm' s s' a w μ Q h hr hf hg ht hK
    unfold codeM at h
    obtain ⟨tm1, s1, h1, h2⟩ := bnd_ok h
    obtain ⟨he, rfl⟩ := ret_ok h2
    injection he with h3 h4; subst h3; subst h4
    cases d
    · rw [cond_false] at h1
      refine wp_region ?_
      have := sim_ops (ops := ops) (Q := Q) hc hl ops.toList 0 tm _ s _ a w μ (fun i o ho => by rw [Nat.zero_add]; rw [Array.getElem?_toList] at ho; exact ho) h1 hr hf hg ht hK
      simpa using this
    · rw [cond_true] at h1
      exact sim_draw hm hc hl h1 hr hf hg ht hK
  | seq x y ihx ihy =>
    intro tm e tm' s s' a w μ Q h hr hf hg ht hK
    unfold codeM at h
    obtain ⟨⟨e1, tm1⟩, s1, h1, h2⟩ := bnd_ok h
    have hn1 : s.next ≤ s1.next := by obtain ⟨lg, d⟩ := local_code (c := c) (nt := nt) hl x tm _ _ _ h1; exact d.next
    refine wp_seq ?_
    cases e1
    · simp only at h2
      have hn2 : s1.next ≤ s'.next := by obtain ⟨lg, d⟩ := local_code (c := c) (nt := nt) hl y tm1 _ _ _ h2; exact d.next
      refine ihx tm .normal tm1 s s1 a w μ _ h1 hr (fun j h5 h6 => hf j h5 (by omega)) hg ht fun μ1 a1 w1 d1 t1 st1 => ?_
      refine ihy tm1 e tm' s1 s' a1 w1 μ1 Q h2 st1.rel (fun j h5 h6 => ?_) (hg.mono st1.le) t1 fun μ2 a2 w2 d2 t2 st2 => hK μ2 a2 w2 (d2.trans d1) t2 (st1.trans st2 hn1 hn2)
      rw [st1.new j (by omega)]
      exact hf j (by omega) h6
    all_goals
      obtain ⟨he, rfl⟩ := ret_ok h2
      injection he with h3 h4; subst h3; subst h4
      exact ihx tm _ _ s _ a w μ _ h1 hr hf hg ht fun μ1 a1 w1 d1 t1 st1 => hK μ1 a1 w1 d1 t1 st1
  | cond x y z ihy ihz =>
    intro tm e tm' s s' a w μ Q h hr hf hg ht hK
    unfold codeM at h
    cases hok : operandOk c.ng x
    · rw [hok, cond_false] at h; exact (err_ok h).elim
    rw [hok, cond_true] at h
    have hx := evalO_rel (μ := μ) (ν := ν) (a := a) hg hok fun t _ => ht.2 t
    cases hv : evalO tm x <;> rw [hv] at h hx <;> (try simp only at h) <;> try exact (err_ok h).elim
    rename_i b
    generalize hre : a.eval x = r at hx
    cases hx
    refine wp_cond hre ?_
    cases b
    · rw [cond_false] at h
      simp only [Bool.false_eq_true, if_false]
      exact ihz tm e tm' s s' a w μ Q h hr hf hg ht hK
    · rw [cond_true] at h
      simp only [if_true]
      exact ihy tm e tm' s s' a w μ Q h hr hf hg ht hK
  | block id x ihx =>
    intro tm e tm' s s' a w μ Q h hr hf hg ht hK
    unfold codeM at h
    obtain ⟨⟨e1, tm1⟩, s1, h1, h2⟩ := bnd_ok h
    refine wp_block ?_
    cases e1
    · simp only at h2
      obtain ⟨he, rfl⟩ := ret_ok h2
      injection he with h3 h4; subst h3; subst h4
      exact ihx tm _ _ s _ a w μ _ h1 hr hf hg ht fun μ1 a1 w1 d1 t1 st1 => hK μ1 a1 w1 d1 t1 st1
    · rename_i i
      simp only at h2
      obtain ⟨he, rfl⟩ := ret_ok h2
      injection he with h3 h4; subst h3; subst h4
      refine ihx tm _ _ s _ a w μ _ h1 hr hf hg ht fun μ1 a1 w1 d1 t1 st1 => ?_
      have := hK μ1 a1 w1 d1 t1 st1
      show (if i = id then Q .normal a1 w1 else Q (.exit i) a1 w1)
      by_cases e : i = id
      · subst e
        rw [if_pos rfl]
        rw [Nat.beq_refl] at this
        exact this
      · rw [if_neg e]
        rw [nbeq_ne e] at this
        exact this
    · simp only at h2
      obtain ⟨he, rfl⟩ := ret_ok h2
      injection he with h3 h4; subst h3; subst h4
      exact ihx tm _ _ s _ a w μ _ h1 hr hf hg ht fun μ1 a1 w1 d1 t1 st1 => hK μ1 a1 w1 d1 t1 st1
  | loop x ihx =>
    intro tm e tm' s s' a w μ Q h hr hf hg ht hK
    unfold codeM at h
    refine loopAt_wp ?_
    have key : ∀ (n : Nat) (tm : T V) (s : St) (a : Act) (w : World) (μ : Mu), iter (fun tm => codeM c call nt x tm) n tm s = .ok (e, tm') s' → Rel c.P μ ν s.heap w.heap → Fresh μ s s' → Globs c.ng μ → TmRel μ ν nt tm a.tmps →
        (∀ μ' a' w', a'.defers = a.defers → TmRel μ' ν nt tm' a'.tmps → StepOk c.P μ ν s.heap s.next w μ' s'.heap s'.next w' → Q (exOf e) a' w') → LoopAt c.P x Q a w := by
      intro n
      induction n with
      | zero => intro tm s a w μ h; exact (err_ok h).elim
      | succ n ih =>
        intro tm s a w μ h hr hf hg ht hK
        unfold iter at h
        obtain ⟨⟨e1, tm1⟩, s1, h1, h2⟩ := bnd_ok h
        have hn1 : s.next ≤ s1.next := by obtain ⟨lg, d⟩ := local_code (c := c) (nt := nt) hl x tm _ _ _ h1; exact d.next
        refine loopAt_round ?_
        cases e1
        · simp only at h2
          have hn2 : s1.next ≤ s'.next := by obtain ⟨lg, d⟩ := local_iter (fun tm => local_code (c := c) (nt := nt) hl x tm) n tm1 _ _ _ h2; exact d.next
          refine ihx tm .normal tm1 s s1 a w μ _ h1 hr (fun j h5 h6 => hf j h5 (by omega)) hg ht fun μ1 a1 w1 d1 t1 st1 => ?_
          refine ih tm1 s1 a1 w1 μ1 h2 st1.rel (fun j h5 h6 => ?_) (hg.mono st1.le) t1 fun μ2 a2 w2 d2 t2 st2 => hK μ2 a2 w2 (d2.trans d1) t2 (st1.trans st2 hn1 hn2)
          rw [st1.new j (by omega)]
          exact hf j (by omega) h6
        all_goals
          obtain ⟨he, rfl⟩ := ret_ok h2
          injection he with h3 h4; subst h3; subst h4
          exact ihx tm _ _ s _ a w μ _ h1 hr hf hg ht fun μ1 a1 w1 d1 t1 st1 => hK μ1 a1 w1 d1 t1 st1
    exact key c.lf tm s a w μ h hr hf hg ht hK
  | goto l => intro tm e tm' s s' a w μ Q h; exact (err_ok h).elim
  | rangeFunc f p x y _ _ => intro tm e tm' s s' a w μ Q h; exact (err_ok h).elim
  | scope x _ => intro tm e tm' s s' a w μ Q h; exact (err_ok h).elim
  | refuse why => intro tm e tm' s s' a w μ Q h; exact (err_ok h).elim

/-! ### Calls -/

theorem setArgs_get : ∀ (args : List V) (i : Nat) (tm : T V) (t : Nat), tmGet (setArgs args i tm) t = if i ≤ t ∧ t < i + args.length then args.getD (t - i) undefV else tmGet tm t
  | [], i, tm, t => by simp only [setArgs, List.length_nil]; rw [if_neg (by omega)]
  | v :: l, i, tm, t => by
    simp only [setArgs, List.length_cons]
    rw [setArgs_get l (i + 1) _ t, tmGet_set]
    by_cases h1 : i + 1 ≤ t ∧ t < i + 1 + l.length
    · rw [if_pos h1, if_pos (by omega), show t - i = (t - (i + 1)) + 1 by omega]
      simp
    · rw [if_neg h1]
      by_cases h2 : t = i
      · subst h2; rw [if_pos rfl, if_pos (by omega)]; simp
      · rw [if_neg h2, if_neg (by omega)]

theorem tm_start {μ : Mu} {ν : Nat → Value} {args : List V} {rs : List Value} {ntmps : Nat} (h : VsRel μ ν args rs) :
    TmRel μ ν (max args.length ntmps) (setArgs args 0 .leaf) ((⟨rs⟩ : Array Value) ++ Array.replicate (ntmps - (⟨rs⟩ : Array Value).size) undef) := by
  have hl := h.length
  refine ⟨by simp only [Array.size_append, Array.size_replicate]; show rs.length + (ntmps - rs.length) = _; omega, fun t => ?_⟩
  rw [setArgs_get, Array.getD_eq_getD_getElem?, Array.getElem?_append]
  show VRel μ ν _ ((if t < rs.length then _ else _ : Option Value).getD undef)
  by_cases ht : t < rs.length
  · rw [if_pos (by omega), if_pos ht, Nat.sub_zero]
    have hv : args[t]? = some (args.getD t undefV) := by rw [List.getD_eq_getElem?_getD, List.getElem?_eq_getElem (by omega)]; rfl
    obtain ⟨r, h1, h2⟩ := h.get hv
    have : (⟨rs⟩ : Array Value)[t]? = some r := by simpa using h1
    rw [this]; exact h2
  · rw [if_neg (by omega), if_neg ht]
    have e : tmGet (T.leaf : T V) t = undefV := rfl
    rw [e, Array.getElem?_replicate]
    split <;> exact VRel.undef

/-- one result of a function -/
def resOne (tmps : Array Value) : ResultVar → Sem Value
  | .tmp t => pure (tmps.getD t undef)
  | .cell a t => do loadVar t (← asAddr (tmps.getD a undef))

theorem sim_results {P : Program} {μ : Mu} {ν : Nat → Value} {tm : T V} {tmps : Array Value} {w : World} (ht : ∀ t, VRel μ ν (tmGet tm t) (tmps.getD t undef)) : ∀ (l : List ResultVar) (vs : List V) (s s' : St), resultsM P tm l s = .ok vs s' → Rel P μ ν s.heap w.heap →
    ∃ rs : List Value, (l.mapM (resOne tmps)).run P w = .ok rs w ∧ VsRel μ ν vs rs ∧ s'.heap = s.heap ∧ s'.next = s.next
  | [], vs, s, s', h, hr => by
    obtain ⟨rfl, rfl⟩ := ret_ok h
    exact ⟨[], rfl, .nil, rfl, rfl⟩
  | .tmp t :: l, vs, s, s', h, hr => by
    unfold resultsM at h
    obtain ⟨vs1, s1, h1, h2⟩ := bnd_ok h
    obtain ⟨rfl, rfl⟩ := ret_ok h2
    obtain ⟨rs, g1, g2, g3, g4⟩ := sim_results ht l vs1 s _ h1 hr
    refine ⟨tmps.getD t undef :: rs, ?_, .cons (ht t) g2, g3, g4⟩
    simp only [List.mapM_cons, resOne, pure_bind]
    rw [run_pure_bind g1]
    rfl
  | .cell a t :: l, vs, s, s', h, hr => by
    unfold resultsM at h
    have ha := ht a
    cases hv : tmGet tm a <;> rw [hv] at h ha <;> (try simp only at h) <;> try exact (err_ok h).elim
    rename_i k o
    obtain ⟨v1, s1, h1, h2⟩ := bnd_ok h
    obtain ⟨vs1, s2, h3, h4⟩ := bnd_ok h2
    obtain ⟨rfl, rfl⟩ := ret_ok h4
    generalize hra : tmps.getD a undef = ra at ha
    cases ha with
    | ptr hp =>
      obtain ⟨⟨r, q1, q2⟩, q3, q4⟩ := sim_loadVar hr hp h1
      obtain ⟨rs, g1, g2, g3, g4⟩ := sim_results ht l vs1 s1 _ h3 (by rw [q3]; exact hr)
      refine ⟨r :: rs, ?_, .cons q2 g2, by rw [g3, q3], by rw [g4, q4]⟩
      simp only [List.mapM_cons, resOne, hra, asAddr, pure_bind, bind_assoc]
      rw [run_pure_bind q1, run_pure_bind g1]
      rfl

theorem oneOf_rel {μ : Mu} {ν : Nat → Value} {vs : List V} {rs : List Value} (h : VsRel μ ν vs rs) : VRel μ ν (oneOf vs) (if h : (⟨rs⟩ : Array Value).size = 1 then (⟨rs⟩ : Array Value)[0] else .tuple ⟨rs⟩) := by
  cases h with
  | nil => exact .tuple .nil
  | cons h hs =>
    cases hs with
    | nil => exact h
    | cons h' hs =>
      rw [dif_neg (by simp)]
      exact .tuple (.cons h (.cons h' hs))

/-- a function of the program's own -/
theorem sim_body (hm : c.P.follows .mixedOrders = true) (hc : CallSim c.P c.ng call) (hl : ∀ f vs, Local (call f vs)) {f : FuncId} {fn : Func} {code : Code} {args : List V} {rs : List Value} {v : V} {s s' : St} {w : World} {μ : Mu} {ν : Nat → Value} (hfn : c.P.funcs[f]? = some fn) (hb : fn.body = some code)
    (h : bodyM c call fn code args s = .ok v s') (hr : Rel c.P μ ν s.heap w.heap) (hf : Fresh μ s s') (hg : Globs c.ng μ) (ha : VsRel μ ν args rs) :
    Calls c.P f ⟨rs⟩ w fun e w' => ∃ r, e = .returned r ∧ ∃ μ', VRel μ' ν v r ∧ StepOk c.P μ ν s.heap s.next w μ' s'.heap s'.next w' := by
  unfold bodyM at h
  obtain ⟨⟨e, tm⟩, s1, h1, h2⟩ := bnd_ok h
  refine calls_of_wp hfn hb ?_
  have key : ∀ (s1 : St), bnd (resultsM c.P tm fn.results.toList) (fun vs => Lx.ret (oneOf vs)) s1 = .ok v s' → ∀ (μ' : Mu) (a' : Act) (w' : World), a'.defers = [] → TmRel μ' ν (max args.length fn.ntmps) tm a'.tmps → StepOk c.P μ ν s.heap s.next w μ' s1.heap s1.next w' →
      a'.defers = [] ∧ ∃ r, (results fn a'.tmps).run c.P w' = .ok r w' ∧ ∃ r', Ending.returned r = .returned r' ∧ ∃ μ', VRel μ' ν v r' ∧ StepOk c.P μ ν s.heap s.next w μ' s'.heap s'.next w' := by
    intro s1 h3 μ' a' w' d1 t1 st1
    obtain ⟨vs, s2, h4, h5⟩ := bnd_ok h3
    obtain ⟨rfl, rfl⟩ := ret_ok h5
    obtain ⟨rs', g1, g2, g3, g4⟩ := sim_results t1.2 _ _ _ _ h4 st1.rel
    refine ⟨d1, _, ?_, _, rfl, μ', oneOf_rel g2, by rw [g3, g4]; exact st1⟩
    have hres : results fn a'.tmps = (do
        let vs ← fn.results.mapM (resOne a'.tmps)
        pure (if h : vs.size = 1 then vs[0] else .tuple vs)) := rfl
    rw [hres, Array.mapM_eq_mapM_toList]
    rw [Sem.run_bind, Sem.run_map]
    rw [g1]
    rfl
  cases e with
  | exit i => exact (err_ok h2).elim
  | normal =>
    refine sim_code hm hc hl code _ _ _ _ _ _ _ _ _ h1 hr (fun j h5 h6 => hf j h5 ?_) hg (tm_start ha) fun μ' a' w' d1 t1 st1 => key s1 h2 μ' a' w' d1 t1 st1
    obtain ⟨vs, s2, h4, h5⟩ := bnd_ok h2
    obtain ⟨rfl, rfl⟩ := ret_ok h5
    obtain ⟨lg, d⟩ := local_results (P := c.P) (tm := tm) _ _ _ _ h4
    exact Nat.lt_of_lt_of_le h6 d.next
  | ret =>
    refine sim_code hm hc hl code _ _ _ _ _ _ _ _ _ h1 hr (fun j h5 h6 => hf j h5 ?_) hg (tm_start ha) fun μ' a' w' d1 t1 st1 => key s1 h2 μ' a' w' d1 t1 st1
    obtain ⟨vs, s2, h4, h5⟩ := bnd_ok h2
    obtain ⟨rfl, rfl⟩ := ret_ok h5
    obtain ⟨lg, d⟩ := local_results (P := c.P) (tm := tm) _ _ _ _ h4
    exact Nat.lt_of_lt_of_le h6 d.next

end

/-- what is taken for a function that is not gone into -/
def SumOk (c : Cfg) : Prop := ∀ f g, c.sum f = some g → (∀ vs, Local (g vs)) ∧
  ∀ (vs : List V) (v : V) (s s' : St) (w : World) (μ : Mu) (ν : Nat → Value) (rs : List Value), g vs s = .ok v s' → Rel c.P μ ν s.heap w.heap → Fresh μ s s' → Globs c.ng μ → VsRel μ ν vs rs →
    CallsTo c.P f ⟨rs⟩ w fun r w' => ∃ μ', VRel μ' ν v r ∧ StepOk c.P μ ν s.heap s.next w μ' s'.heap s'.next w'

theorem sumOk_none (c : Cfg) (h : c.sum = fun _ => none) : SumOk c := by
  intro f g hg; rw [h] at hg; cases hg

/-- THE MACHINE'S CALLS ARE THE MODEL'S. -/
theorem callM_sim (c : Cfg) (hm : c.P.follows .mixedOrders = true) (hs : SumOk c) : ∀ n, CallSim c.P c.ng (callM c n)
  | 0 => by intro f vs v s s' w μ ν rs h; exact (err_ok h).elim
  | n + 1 => by
    intro f vs v s s' w μ ν rs h hr hf hg ha
    unfold callM at h
    cases hsu : c.sum f with
    | some g => rw [hsu] at h; exact (hs f g hsu).2 vs v s s' w μ ν rs h hr hf hg ha
    | none =>
      rw [hsu] at h
      simp only at h
      cases hfn : c.P.funcs[f]? with
      | none => rw [hfn] at h; exact (err_ok h).elim
      | some fn =>
        rw [hfn] at h
        simp only at h
        cases hnm : fn.name == "runtime.NumGoroutine"
        case true => rw [hnm, cond_true] at h; exact (err_ok h).elim
        rw [hnm, cond_false] at h
        cases hb : fn.body with
        | none => rw [hb] at h; exact (err_ok h).elim
        | some code =>
          rw [hb] at h
          simp only at h
          left
          refine ⟨?_, sim_body hm (callM_sim c hm hs n) (local_call (fun f g hg => (hs f g hg).1) n) hfn hb h hr hf hg ha⟩
          unfold callFunc
          rw [run_pure_bind (show program.run c.P w = .ok c.P w from rfl)]
          simp only [hfn, hnm, hb, Bool.false_eq_true, if_false, Option.isNone_some]
          rfl

end Go.Lx
