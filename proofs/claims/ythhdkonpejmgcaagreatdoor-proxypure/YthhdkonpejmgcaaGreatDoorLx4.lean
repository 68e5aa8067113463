/-
  Several texts, joined.
-/
import Derived.Test.YthhdkonpejmgcaaGreatDoorLx3
import Derived.ScopeJumps
import Derived.Defers
import Derived.WalkKit
import Derived.ProofKit
import Derived.OpenShut
import Derived.Lib.Bytealg
/-
  Code and calls: what the machine gives, the model gives.
-/
set_option linter.unusedSimpArgs false
set_option linter.unusedVariables false
namespace Go.Lx
noncomputable section
section
variable {c : Cfg} {call : FuncId → List V → M V} {nt : Nat}

theorem ready_mem {ops : Array Oper} {listed : Array Bool} (hs : listed.size = ops.size) {i : Nat} : i ∈ Region.ready .any ops listed ↔ i < ops.size ∧ listed.getD i false = false ∧ ∃ o, ops[i]? = some o ∧ ∀ e ∈ o.after, Region.binds .any e = true → listed.getD e.on false = true := by
  rw [mem_ready]
  constructor
  · rintro ⟨h1, o, h2, h3⟩
    have hi : i < ops.size := (Array.getElem?_eq_some_iff.1 h2).1
    refine ⟨hi, ?_, o, h2, h3⟩
    rw [Array.getD_eq_getD_getElem?] at h1 ⊢
    have : listed[i]? = some listed[i] := by simp [hs, hi]
    rw [this] at h1 ⊢; exact h1
  · rintro ⟨hi, h1, o, h2, h3⟩
    refine ⟨?_, o, h2, h3⟩
    rw [Array.getD_eq_getD_getElem?] at h1 ⊢
    have : listed[i]? = some listed[i] := by simp [hs, hi]
    rw [this] at h1 ⊢; exact h1
theorem any_of_stand {ops : Array Oper} {tmf : Nat → T V} {sf : Nat → St} {vf : Nat → V} {Q : Exit → Act → World → Prop} {ν : Nat → Value} {μ0 : Mu} {a0 : Act} {w0 : World} (hc : CallSim c.P c.gl call) (C : Canon c call ops nt tmf sf vf) (hg : Globs c.gl μ0 (sf 0).heap w0)
    (hQ : ∀ μ a w, a.defers = a0.defers → TmRel μ ν nt (tmf ops.size) a.tmps → StepOk c.P μ0 ν (sf 0).heap (sf 0).next w0 μ (sf ops.size).heap (sf ops.size).next w → Q .normal a w) :
    ∀ (fuel : Nat) (todo : List Nat) (listed : Array Bool) (τ : T Ob) (μ : Mu) (a : Act) (w : World), todo.length = fuel → todo.Nodup → listed.size = ops.size → (∀ i, i ∈ todo ↔ i < ops.size ∧ listed.getD i false = false) →
      Stand c ops nt tmf sf ν μ0 a0 w0 (fun i => listed.getD i false = true) τ μ a w → wpAny c.P .any ops Q fuel listed a w := by
  intro fuel
  have least : ∀ (listed : Array Bool), listed.size = ops.size → Region.ready .any ops listed = [] → ∀ i, i < ops.size → listed.getD i false = true := by
    intro listed hs hr i
    induction i using Nat.strongRecOn with
    | _ i ih =>
      intro hi
      apply Classical.byContradiction
      intro hn
      obtain ⟨o, ho⟩ := Canon.op (ops := ops) hi
      have : i ∈ Region.ready .any ops listed := (ready_mem hs).2 ⟨hi, by simpa using hn, o, ho, fun e he hb => by
        have := C.edges i o ho e he hb
        exact ih e.on this (by omega)⟩
      rw [hr] at this; simp at this
  induction fuel with
  | zero =>
    intro todo listed τ μ a w hlen hnd hs hm D
    have htodo : todo = [] := List.length_eq_zero_iff.1 hlen
    subst htodo
    have hall : ∀ i, i < ops.size → listed.getD i false = true := by
      intro i hi
      cases hl : listed.getD i false
      · have := (hm i).2 ⟨hi, hl⟩; simp at this
      · rfl
    obtain ⟨h1, h2⟩ := stand_end C D hall
    refine ⟨?_, hQ μ a w D.defers h1 h2⟩
    apply List.eq_nil_iff_forall_not_mem.2
    intro i hi
    have := (ready_mem hs).1 hi
    rw [hall i this.1] at this; simp at this
  | succ fuel ih =>
    intro todo listed τ μ a w hlen hnd hs hm D
    refine ⟨fun hr => ?_, fun i hi => ?_⟩
    · obtain ⟨h1, h2⟩ := stand_end C D (least listed hs hr)
      exact hQ μ a w D.defers h1 h2
    · obtain ⟨hin, hli, o, ho, hready⟩ := (ready_mem hs).1 hi
      refine stand_step hc C hg D ho (by rw [hli]; simp) hready fun τ' μ' a' w' D' => ?_
      have hset : ∀ j, (listed.setIfInBounds i true).getD j false = (if j = i then true else listed.getD j false) := by
        intro j
        by_cases e : j = i
        · subst e
          rw [if_pos rfl, Array.getD_eq_getD_getElem?]
          simp [hs, hin]
        · rw [if_neg e, Array.getD_eq_getD_getElem?, Array.getD_eq_getD_getElem?, Array.getElem?_setIfInBounds_ne (Ne.symm e)]
      have hmem : i ∈ todo := (hm i).2 ⟨hin, hli⟩
      refine ih (todo.erase i) _ τ' μ' a' w' (by rw [List.length_erase_of_mem hmem]; omega) (hnd.erase i) (by simpa using hs) (fun j => ?_) ?_
      · rw [hset, hnd.mem_erase_iff, hm]
        constructor
        · rintro ⟨h1, h2, h3⟩; exact ⟨h2, by rw [if_neg h1]; exact h3⟩
        · rintro ⟨h1, h2⟩
          by_cases e : j = i
          · rw [if_pos e] at h2; cases h2
          · rw [if_neg e] at h2; exact ⟨e, h1, h2⟩
      · have hS : (fun j => (listed.setIfInBounds i true).getD j false = true) = fun j => listed.getD j false = true ∨ j = i := by
          funext j
          rw [hset]
          apply propext
          by_cases e : j = i
          · rw [if_pos e]; exact ⟨fun _ => .inr e, fun _ => rfl⟩
          · rw [if_neg e]; exact ⟨.inl, fun h => h.resolve_right e⟩
        rw [hS]; exact D'
theorem sim_draw {id : Nat} {ops : Array Oper} {Q : Exit → Act → World → Prop} {ν : Nat → Value} {μ : Mu} {tm tm' : T V} {s s' : St} {a : Act} {w : World} (hm : c.P.follows .mixedOrders = true) (hc : CallSim c.P c.gl call) (hl : ∀ f vs, Local (call f vs)) (h : drawM c call ops nt tm s = .ok tm' s')
    (hr : Rel c.P μ ν s.heap w.heap) (hf : Fresh μ s s') (hg : Globs c.gl μ s.heap w) (ht : TmRel μ ν nt tm a.tmps)
    (hK : ∀ μ' a' w', a'.defers = a.defers → TmRel μ' ν nt tm' a'.tmps → StepOk c.P μ ν s.heap s.next w μ' s'.heap s'.next w' → Q .normal a' w') : (Code.region id ops true).wp c.P Q a w := by
  obtain ⟨tmf, sf, vf, C, rfl, rfl, rfl, e1, e2⟩ := canon_of hl h
  refine wp_region_any hm ?_
  have hn0 : ∀ i, (Array.replicate ops.size false).getD i false = false := by
    intro i
    rw [Array.getD_eq_getD_getElem?, Array.getElem?_replicate]
    split <;> rfl
  refine any_of_stand (μ0 := μ) (a0 := a) (w0 := { w with drawn := w.drawn + 1 }) (ν := ν) hc C ⟨hg.there, hg.apart, hg.face, hg.tab⟩ (fun μ' a' w' h1 h2 h3 => hK μ' a' w' h1 h2 (by rw [← e1, ← e2]; exact h3.drew (w.drawn + 1))) ops.size (List.range ops.size) (Array.replicate ops.size false) (sf 0).heap μ a { w with drawn := w.drawn + 1 } (by simp) List.nodup_range (by simp) (fun i => by rw [hn0]; simp) ?_
  refine ⟨?_, ht.1, rfl, ?_, ?_, ?_, ?_, ?_, ?_⟩
  · intro j o hj; rw [hn0] at hj; cases hj
  · have := StepOk.refl (P := c.P) (n := (sf 0).next) (w := { w with drawn := w.drawn + 1 }) (μ := μ) (ν := ν) (h := (sf 0).heap) hr
    exact ⟨this.le, fun _ _ => rfl, this.rel, rfl, rfl, rfl, Nat.le_refl _, fun _ _ _ => rfl, this.newblk, this.ro⟩
  · intro x i hi; rw [hn0] at hi; cases hi
  · intro x _; rfl
  · intro t i o hi; rw [hn0] at hi; cases hi
  · intro t _; exact ht.2 t
  · intro i hi _ k h1 h2
    refine hf k (Nat.le_trans (C.next_le (Nat.zero_le _) (by omega)) h1) ?_
    rw [← e2]
    exact Nat.lt_of_lt_of_le h2 (C.next_le (by omega) (Nat.le_refl _))
def exOf : Ex → Exit
  | .normal => .normal
  | .exit i => .exit i
  | .ret => .ret
  | .goto l => .goto l

theorem local_iter {f : T V → M (Ex × T V)} (hf : ∀ tm, Local (f tm)) : ∀ n tm, Local (iter f n tm)
  | 0, _ => Local.err _
  | n + 1, tm => by
    unfold iter
    refine Local.bnd (hf tm) fun r => ?_
    obtain ⟨e, tm'⟩ := r
    cases e
    · exact local_iter hf n tm'
    all_goals exact Local.ret _

theorem local_andThen {r : M (Ex × T V)} {k : T V → M (Ex × T V)} (hr : Local r) (hk : ∀ tm, Local (k tm)) : Local (andThen r k) := by
  unfold andThen
  refine Local.bnd hr fun r => ?_
  obtain ⟨e, tm'⟩ := r
  cases e
  · exact hk tm'
  all_goals exact Local.ret _

theorem local_jumps {fr : Nat → Option (T V → M (Ex × T V))} (hf : ∀ l k, fr l = some k → ∀ tm, Local (k tm)) : ∀ n r, Local (jumps fr n r)
  | 0, _ => Local.err _
  | n + 1, (e, tm) => by
    unfold jumps
    cases e
    case goto l =>
      simp only
      cases hl : fr l with
      | none => exact Local.ret _
      | some k => exact Local.bnd (hf l k hl tm) fun r => local_jumps hf n r
    all_goals exact Local.ret _
theorem codeB_label : ∀ (code : Code) (l : Nat), (codeB c call nt code).2 l = (findLabel code l).map fun rest => (codeB c call nt rest).1 := by
  intro code
  induction code with
  | seq x y ihx ihy =>
    intro l
    show (match (codeB c call nt x).2 l with
      | some k => some (fun tm => andThen (k tm) (codeB c call nt y).1)
      | none => (codeB c call nt y).2 l) = _
    rw [ihx l]
    cases hx : findLabel x l with
    | none => simp only [Option.map_none, findLabel, hx]; exact ihy l
    | some r => simp only [Option.map_some, findLabel, hx]; rfl
  | label l' =>
    intro l
    show (bif Nat.beq l' l then some (fun tm => Lx.ret (Ex.normal, tm)) else none) = _
    unfold findLabel
    by_cases h : l' = l
    · subst h; simp; rfl
    · rw [nbeq_ne h]; simp [h]
  | skip => intro l; rfl
  | region id ops d => intro l; rfl
  | cond x a b _ _ => intro l; rfl
  | block id a _ => intro l; rfl
  | loop a _ => intro l; rfl
  | exit i => intro l; rfl
  | ret => intro l; rfl
  | goto l => intro l; rfl
  | rangeFunc f p a b _ _ => intro l; rfl
  | scope b _ => intro l; rfl
  | refuse w => intro l; rfl

theorem codeM_region (id : Nat) (ops : Array Oper) (d : Bool) (tm : T V) : codeM c call nt (.region id ops d) tm = bnd (bif d then drawM c call ops nt tm else runM c call ops nt ops.toList tm) fun tm' => Lx.ret (.normal, tm') := rfl
theorem codeM_seq (a b : Code) (tm : T V) : codeM c call nt (.seq a b) tm = bnd (codeM c call nt a tm) fun r => match r with
    | (.normal, tm') => codeM c call nt b tm'
    | (e, tm') => Lx.ret (e, tm') := rfl
theorem codeM_cond (x : Operand) (a b : Code) (tm : T V) : codeM c call nt (.cond x a b) tm = bif operandOk x then (match evalO tm x with
    | .bool t => bif t then codeM c call nt a tm else codeM c call nt b tm
    | _ => err "cond") else err "cond" := rfl
theorem codeM_block (id : Nat) (a : Code) (tm : T V) : codeM c call nt (.block id a) tm = bnd (codeM c call nt a tm) fun r => match r with
    | (.exit i, tm') => Lx.ret (bif Nat.beq i id then .normal else .exit i, tm')
    | (e, tm') => Lx.ret (e, tm') := rfl
theorem codeM_loop (a : Code) (tm : T V) : codeM c call nt (.loop a) tm = iter (fun tm => codeM c call nt a tm) c.lf tm := rfl
theorem codeM_scope (a : Code) (tm : T V) : codeM c call nt (.scope a) tm = bnd (codeM c call nt a tm) (jumps (codeB c call nt a).2 c.lf) := rfl

theorem local_code (hl : ∀ f vs, Local (call f vs)) (code : Code) (tm : T V) : Local (codeM c call nt code tm) := by
  suffices h : ∀ code : Code, (∀ tm, Local (codeM c call nt code tm)) ∧ ∀ l k, (codeB c call nt code).2 l = some k → ∀ tm, Local (k tm) from (h code).1 tm
  intro code
  induction code with
  | region id ops d =>
    refine ⟨fun tm => ?_, fun l k h => by cases h⟩
    rw [codeM_region]
    exact Local.bnd (Local.cond (local_draw hl tm) (local_run hl nt _ tm)) fun _ => Local.ret _
  | seq x y ihx ihy =>
    refine ⟨fun tm => local_andThen (ihx.1 tm) ihy.1, fun l k h tm => ?_⟩
    have h' : (match (codeB c call nt x).2 l with
      | some k => some (fun tm => andThen (k tm) (codeB c call nt y).1)
      | none => (codeB c call nt y).2 l) = some k := h
    cases hx : (codeB c call nt x).2 l with
    | none => rw [hx] at h'; exact ihy.2 l k h' tm
    | some q =>
      rw [hx] at h'
      injection h' with h'; subst h'
      exact local_andThen (ihx.2 l q hx tm) ihy.1
  | cond x a b iha ihb =>
    refine ⟨fun tm => ?_, fun l k h => by cases h⟩
    rw [codeM_cond]
    refine Local.cond ?_ (Local.err _)
    split
    · exact Local.cond (iha.1 tm) (ihb.1 tm)
    · exact Local.err _
  | block id a iha =>
    refine ⟨fun tm => ?_, fun l k h => by cases h⟩
    rw [codeM_block]
    refine Local.bnd (iha.1 tm) fun r => ?_
    obtain ⟨e, tm'⟩ := r
    cases e <;> exact Local.ret _
  | loop a iha =>
    refine ⟨fun tm => ?_, fun l k h => by cases h⟩
    rw [codeM_loop]
    exact local_iter iha.1 _ tm
  | scope a iha =>
    refine ⟨fun tm => ?_, fun l k h => by cases h⟩
    rw [codeM_scope]
    exact Local.bnd (iha.1 tm) fun r => local_jumps iha.2 _ r
  | skip => exact ⟨fun tm => Local.ret _, fun l k h => by cases h⟩
  | label l' =>
    refine ⟨fun tm => Local.ret _, fun l k h tm => ?_⟩
    have h' : (bif Nat.beq l' l then some (fun tm => Lx.ret (Ex.normal, tm)) else none) = some k := h
    cases hb : Nat.beq l' l
    · rw [hb, cond_false] at h'; cases h'
    · rw [hb, cond_true] at h'; injection h' with h'; subst h'; exact Local.ret _
  | exit i => exact ⟨fun tm => Local.ret _, fun l k h => by cases h⟩
  | ret => exact ⟨fun tm => Local.ret _, fun l k h => by cases h⟩
  | goto l => exact ⟨fun tm => Local.ret _, fun l k h => by cases h⟩
  | rangeFunc f p a b _ _ => exact ⟨fun tm => Local.err _, fun l k h => by cases h⟩
  | refuse w => exact ⟨fun tm => Local.err _, fun l k h => by cases h⟩

theorem local_defer (hl : ∀ f vs, Local (call f vs)) (code : Code) : ∀ tm, Local (deferM c call nt code tm) := by
  induction code with
  | seq x y ihx ihy =>
    intro tm
    unfold deferM
    refine Local.bnd (ihx tm) fun r => ?_
    obtain ⟨⟨e, tm'⟩, d⟩ := r
    cases e
    · cases d
      · exact ihy tm'
      · exact Local.bnd (local_code hl y tm') fun _ => Local.ret _
    all_goals exact Local.ret _
  | region id ops d =>
    intro tm
    unfold deferM
    split
    · refine Local.bnd (local_run hl nt _ tm) fun tm' => ?_
      split
      · exact Local.cond (Local.ret _) (Local.err _)
      · exact Local.err _
    · exact Local.bnd (local_code hl _ tm) fun _ => Local.ret _
  | _ => intro tm; unfold deferM; exact Local.bnd (local_code hl _ tm) fun _ => Local.ret _

theorem local_results {P : Program} {tm : T V} : ∀ l, Local (resultsM P tm l)
  | [] => Local.ret _
  | .tmp t :: l => Local.bnd (local_results l) fun _ => Local.ret _
  | .cell a t :: l => by
    unfold resultsM
    split
    · exact Local.bnd (local_loadVar _ _ _) fun _ => Local.bnd (local_results l) fun _ => Local.ret _
    · exact Local.err _

theorem local_plain (hl : ∀ f vs, Local (call f vs)) (fn : Func) (code : Code) (args : List V) : Local (plainM c call fn code args) := by
  unfold plainM
  refine Local.bnd (local_code hl code _) fun r => ?_
  obtain ⟨e, tm⟩ := r
  cases e
  case exit => exact Local.err _
  case goto => exact Local.err _
  all_goals exact Local.bnd (local_results _) fun _ => Local.ret _

theorem local_later (hl : ∀ f vs, Local (call f vs)) (d : Option (FuncId × List V)) : Local (laterM c call d) := by
  cases d with
  | none => exact Local.ret _
  | some p =>
    obtain ⟨f, vs⟩ := p
    unfold laterM
    simp only
    cases c.P.funcs[f]? with
    | none => exact Local.err _
    | some fn =>
      refine Local.cond (Local.err _) ?_
      cases fn.body with
      | none => exact Local.err _
      | some code => exact local_plain hl _ _ _

theorem local_body (hl : ∀ f vs, Local (call f vs)) (fn : Func) (code : Code) (args : List V) : Local (bodyM c call fn code args) := by
  unfold bodyM
  refine Local.bnd (local_defer hl code _) fun r => ?_
  obtain ⟨⟨e, tm⟩, d⟩ := r
  cases e
  case exit => exact Local.err _
  case goto => exact Local.err _
  all_goals exact Local.bnd (local_later hl d) fun _ => Local.bnd (local_results _) fun _ => Local.ret _

theorem local_call (hs : ∀ f g, c.sum f = some g → ∀ vs, Local (g vs)) : ∀ n f vs, Local (callM c n f vs)
  | 0, _, _ => Local.err _
  | n + 1, f, vs => by
    unfold callM
    split
    · rename_i g hg; exact hs f g hg vs
    · split
      · refine Local.cond (Local.err _) ?_
        split
        · exact local_body (local_call hs n) _ _ _
        · exact Local.err _
      · exact Local.err _
def LoopAt (P : Program) (b0 : Code) (Q : Exit → Act → World → Prop) (a : Act) (w : World) : Prop :=
  ∀ (b : Frame) (k : List Item) (cs : List Frame), ∃ e a' w', Q e a' w' ∧ Arrives P (lone (b.at a (.code b0 :: .inLoop b0 :: k)) cs w) b k cs e a' w'

theorem loopAt_wp {P : Program} {b0 : Code} {Q : Exit → Act → World → Prop} {a : Act} {w : World} (h : LoopAt P b0 Q a w) : (Code.loop b0).wp P Q a w := by
  intro b k cs
  obtain ⟨e, a', w', hq, harr⟩ := h b k cs
  exact ⟨e, a', w', hq, .of_steps (.one step_loop) harr⟩

theorem loopAt_round {P : Program} {b0 : Code} {Q : Exit → Act → World → Prop} {a : Act} {w : World} (h : b0.wp P (Exit.then (LoopAt P b0 Q) Q) a w) : LoopAt P b0 Q a w := by
  intro b k cs
  obtain ⟨e, a₁, w₁, hq, harr⟩ := h b (.inLoop b0 :: k) cs
  cases e with
  | normal =>
    obtain ⟨e₂, a₂, w₂, hq₂, harr₂⟩ := hq b k cs
    exact ⟨e₂, a₂, w₂, hq₂, .of_steps (Steps.trans harr (.one step_inLoop)) harr₂⟩
  | exit id => exact ⟨_, a₁, w₁, hq, .pass (x := .inLoop b0) rfl (fun _ _ => .inl (by simp)) harr⟩
  | goto l => exact ⟨_, a₁, w₁, hq, .pass (x := .inLoop b0) rfl (fun _ _ => .inl (by simp)) harr⟩
  | ret => exact ⟨_, a₁, w₁, hq, .pass (x := .inLoop b0) rfl (fun _ _ => .inl (by simp)) harr⟩
  | panic ch => exact ⟨_, a₁, w₁, hq, .pass (x := .inLoop b0) rfl (fun _ _ => .inl (by simp)) harr⟩
  | outgrown => exact ⟨_, a₁, w₁, hq, .pass (x := .inLoop b0) rfl (fun _ _ => .inl (by simp)) harr⟩
def InScope (P : Program) (b0 : Code) (Q : Exit → Act → World → Prop) (rest : Code) (a : Act) (w : World) : Prop :=
  ∀ (b : Frame) (k : List Item) (cs : List Frame), ∃ e a' w', Q e a' w' ∧ Arrives P (lone (b.at a (.code rest :: .inScope b0 :: k)) cs w) b k cs e a' w'
def ScopeQ (P : Program) (b0 : Code) (Q : Exit → Act → World → Prop) : Exit → Act → World → Prop
  | .goto l, a, w => (findLabel b0 l = none ∧ Q (.goto l) a w) ∨ ∃ rest, findLabel b0 l = some rest ∧ InScope P b0 Q rest a w
  | e, a, w => Q e a w

theorem inScope_of {P : Program} {b0 rest : Code} {Q : Exit → Act → World → Prop} {a : Act} {w : World} (h : rest.wp P (ScopeQ P b0 Q) a w) : InScope P b0 Q rest a w := by
  intro b k cs
  obtain ⟨e, a₁, w₁, hq, harr⟩ := h b (.inScope b0 :: k) cs
  cases e with
  | normal => exact ⟨.normal, a₁, w₁, hq, Steps.trans harr (.one step_inScope)⟩
  | exit id => exact ⟨.exit id, a₁, w₁, hq, fun k' hk => harr k' (by simp [exitTo, hk])⟩
  | goto l =>
    rcases hq with ⟨hf, hq⟩ | ⟨r, hf, hq⟩
    · exact ⟨.goto l, a₁, w₁, hq, fun k' hk => harr k' (by simp [gotoIn, hf, hk])⟩
    · obtain ⟨e₂, a₂, w₂, hq₂, harr₂⟩ := hq b k cs
      exact ⟨e₂, a₂, w₂, hq₂, .of_steps (harr _ (by simp [gotoIn, hf])) harr₂⟩
  | ret => exact ⟨_, a₁, w₁, hq, harr⟩
  | panic ch => exact ⟨_, a₁, w₁, hq, harr⟩
  | outgrown => exact ⟨_, a₁, w₁, hq, harr⟩

theorem wp_scope_of {P : Program} {b0 : Code} {Q : Exit → Act → World → Prop} {a : Act} {w : World} (h : b0.wp P (ScopeQ P b0 Q) a w) : (Code.scope b0).wp P Q a w := by
  intro b k cs
  obtain ⟨e, a', w', hq, harr⟩ := inScope_of h b k cs
  exact ⟨e, a', w', hq, .of_steps (.one step_scope) harr⟩
def SimC (c : Cfg) (call : FuncId → List V → M V) (nt : Nat) (code : Code) : Prop :=
  ∀ (ν : Nat → Value) (tm : T V) (e : Ex) (tm' : T V) (s s' : St) (a : Act) (w : World) (μ : Mu) (Q : Exit → Act → World → Prop), codeM c call nt code tm s = .ok (e, tm') s' →
    Rel c.P μ ν s.heap w.heap → Fresh μ s s' → Globs c.gl μ s.heap w → TmRel μ ν nt tm a.tmps →
    (∀ μ' a' w', a'.defers = a.defers → TmRel μ' ν nt tm' a'.tmps → StepOk c.P μ ν s.heap s.next w μ' s'.heap s'.next w' → Q (exOf e) a' w') → code.wp c.P Q a w

theorem simC_seq (hl : ∀ f vs, Local (call f vs)) {x y : Code} (hx : SimC c call nt x) (hy : SimC c call nt y) : SimC c call nt (.seq x y) := by
  intro ν tm e tm' s s' a w μ Q h hr hf hg ht hK
  rw [codeM_seq] at h
  obtain ⟨⟨e1, tm1⟩, s1, h1, h2⟩ := bnd_ok h
  have hn1 : s.next ≤ s1.next := by obtain ⟨lg, d⟩ := local_code (c := c) (nt := nt) hl x tm _ _ _ h1; exact d.next
  refine wp_seq ?_
  cases e1
  case normal =>
    simp only at h2
    have hn2 : s1.next ≤ s'.next := by obtain ⟨lg, d⟩ := local_code (c := c) (nt := nt) hl y tm1 _ _ _ h2; exact d.next
    refine hx ν tm .normal tm1 s s1 a w μ _ h1 hr (fun j h5 h6 => hf j h5 (by omega)) hg ht fun μ1 a1 w1 d1 t1 st1 => ?_
    refine hy ν tm1 e tm' s1 s' a1 w1 μ1 Q h2 st1.rel (fun j h5 h6 => ?_) (hg.step st1) t1 fun μ2 a2 w2 d2 t2 st2 => hK μ2 a2 w2 (d2.trans d1) t2 (st1.trans st2 hn1 hn2)
    rw [st1.new j (by omega)]
    exact hf j (by omega) h6
  all_goals
    obtain ⟨he, rfl⟩ := ret_ok h2
    injection he with h3 h4; subst h3; subst h4
    exact hx ν tm _ _ s _ a w μ _ h1 hr hf hg ht fun μ1 a1 w1 d1 t1 st1 => hK μ1 a1 w1 d1 t1 st1

theorem simC_all (hm : c.P.follows .mixedOrders = true) (hc : CallSim c.P c.gl call) (hl : ∀ f vs, Local (call f vs)) : ∀ (code : Code), SimC c call nt code ∧ ∀ l rest, findLabel code l = some rest → SimC c call nt rest := by
  have hskip : SimC c call nt .skip := by
    intro ν tm e tm' s s' a w μ Q h hr hf hg ht hK
    obtain ⟨he, rfl⟩ := ret_ok h
    injection he with h1 h2; subst h1; subst h2
    exact wp_skip (hK μ a w rfl ht (StepOk.refl hr))
  intro code
  induction code with
  | skip => exact ⟨hskip, fun l rest h => by cases h⟩
  | label l =>
    refine ⟨?_, fun l' rest h => ?_⟩
    · intro ν tm e tm' s s' a w μ Q h hr hf hg ht hK
      obtain ⟨he, rfl⟩ := ret_ok h
      injection he with h1 h2; subst h1; subst h2
      exact wp_label (hK μ a w rfl ht (StepOk.refl hr))
    · unfold findLabel at h
      split at h
      · injection h with h; subst h; exact hskip
      · cases h
  | exit i =>
    refine ⟨?_, fun l rest h => by cases h⟩
    intro ν tm e tm' s s' a w μ Q h hr hf hg ht hK
    obtain ⟨he, rfl⟩ := ret_ok h
    injection he with h1 h2; subst h1; subst h2
    exact wp_exit (hK μ a w rfl ht (StepOk.refl hr))
  | goto i =>
    refine ⟨?_, fun l rest h => by cases h⟩
    intro ν tm e tm' s s' a w μ Q h hr hf hg ht hK
    obtain ⟨he, rfl⟩ := ret_ok h
    injection he with h1 h2; subst h1; subst h2
    exact wp_goto (hK μ a w rfl ht (StepOk.refl hr))
  | ret =>
    refine ⟨?_, fun l rest h => by cases h⟩
    intro ν tm e tm' s s' a w μ Q h hr hf hg ht hK
    obtain ⟨he, rfl⟩ := ret_ok h
    injection he with h1 h2; subst h1; subst h2
    exact wp_ret (hK μ a w rfl ht (StepOk.refl hr))
  | region id ops d =>
    refine ⟨?_, fun l rest h => by cases h⟩
    intro ν tm e tm' s s' a w μ Q h hr hf hg ht hK
    rw [codeM_region] at h
    obtain ⟨tm1, s1, h1, h2⟩ := bnd_ok h
    obtain ⟨he, rfl⟩ := ret_ok h2
    injection he with h3 h4; subst h3; subst h4
    cases d
    · rw [cond_false] at h1
      refine wp_region ?_
      have := sim_ops (ops := ops) (Q := Q) hc hl ops.toList 0 tm _ s _ a w μ (fun i o ho => by rw [Nat.zero_add]; rw [Array.getElem?_toList] at ho; exact ho) h1 hr hf hg ht hK
      simpa using this
    · rw [cond_true] at h1
      exact sim_draw hm hc hl h1 hr hf hg ht hK
  | seq x y ihx ihy =>
    refine ⟨simC_seq hl ihx.1 ihy.1, fun l rest h => ?_⟩
    unfold findLabel at h
    cases hx : findLabel x l with
    | none => rw [hx] at h; exact ihy.2 l rest h
    | some r =>
      rw [hx] at h
      injection h with h; subst h
      exact simC_seq hl (ihx.2 l r hx) ihy.1
  | cond x y z ihy ihz =>
    refine ⟨?_, fun l rest h => by cases h⟩
    intro ν tm e tm' s s' a w μ Q h hr hf hg ht hK
    rw [codeM_cond] at h
    cases hok : operandOk x
    · rw [hok, cond_false] at h; exact (err_ok h).elim
    rw [hok, cond_true] at h
    have hx := evalO_rel (μ := μ) (ν := ν) (a := a) hok fun t _ => ht.2 t
    cases hv : evalO tm x <;> rw [hv] at h hx <;> (try simp only at h) <;> try exact (err_ok h).elim
    rename_i b
    generalize hre : a.eval x = r at hx
    cases hx
    refine wp_cond hre ?_
    cases b
    · rw [cond_false] at h
      simp only [Bool.false_eq_true, if_false]
      exact ihz.1 ν tm e tm' s s' a w μ Q h hr hf hg ht hK
    · rw [cond_true] at h
      simp only [if_true]
      exact ihy.1 ν tm e tm' s s' a w μ Q h hr hf hg ht hK
  | block id x ihx =>
    refine ⟨?_, fun l rest h => by cases h⟩
    intro ν tm e tm' s s' a w μ Q h hr hf hg ht hK
    rw [codeM_block] at h
    obtain ⟨⟨e1, tm1⟩, s1, h1, h2⟩ := bnd_ok h
    refine wp_block ?_
    cases e1
    case exit i =>
      simp only at h2
      obtain ⟨he, rfl⟩ := ret_ok h2
      injection he with h3 h4; subst h3; subst h4
      refine ihx.1 ν tm _ _ s _ a w μ _ h1 hr hf hg ht fun μ1 a1 w1 d1 t1 st1 => ?_
      have := hK μ1 a1 w1 d1 t1 st1
      show (if i = id then Q .normal a1 w1 else Q (.exit i) a1 w1)
      by_cases e : i = id
      · subst e
        rw [if_pos rfl]
        rw [Nat.beq_refl] at this
        exact this
      · rw [if_neg e]
        rw [nbeq_ne e] at this
        exact this
    all_goals
      simp only at h2
      obtain ⟨he, rfl⟩ := ret_ok h2
      injection he with h3 h4; subst h3; subst h4
      exact ihx.1 ν tm _ _ s _ a w μ _ h1 hr hf hg ht fun μ1 a1 w1 d1 t1 st1 => hK μ1 a1 w1 d1 t1 st1
  | loop x ihx =>
    refine ⟨?_, fun l rest h => by cases h⟩
    intro ν tm e tm' s s' a w μ Q h hr hf hg ht hK
    rw [codeM_loop] at h
    refine loopAt_wp ?_
    have key : ∀ (n : Nat) (tm : T V) (s : St) (a : Act) (w : World) (μ : Mu), iter (fun tm => codeM c call nt x tm) n tm s = .ok (e, tm') s' → Rel c.P μ ν s.heap w.heap → Fresh μ s s' → Globs c.gl μ s.heap w → TmRel μ ν nt tm a.tmps →
        (∀ μ' a' w', a'.defers = a.defers → TmRel μ' ν nt tm' a'.tmps → StepOk c.P μ ν s.heap s.next w μ' s'.heap s'.next w' → Q (exOf e) a' w') → LoopAt c.P x Q a w := by
      intro n
      induction n with
      | zero => intro tm s a w μ h; exact (err_ok h).elim
      | succ n ih =>
        intro tm s a w μ h hr hf hg ht hK
        unfold iter at h
        obtain ⟨⟨e1, tm1⟩, s1, h1, h2⟩ := bnd_ok h
        have hn1 : s.next ≤ s1.next := by obtain ⟨lg, d⟩ := local_code (c := c) (nt := nt) hl x tm _ _ _ h1; exact d.next
        refine loopAt_round ?_
        cases e1
        case normal =>
          simp only at h2
          have hn2 : s1.next ≤ s'.next := by obtain ⟨lg, d⟩ := local_iter (fun tm => local_code (c := c) (nt := nt) hl x tm) n tm1 _ _ _ h2; exact d.next
          refine ihx.1 ν tm .normal tm1 s s1 a w μ _ h1 hr (fun j h5 h6 => hf j h5 (by omega)) hg ht fun μ1 a1 w1 d1 t1 st1 => ?_
          refine ih tm1 s1 a1 w1 μ1 h2 st1.rel (fun j h5 h6 => ?_) (hg.step st1) t1 fun μ2 a2 w2 d2 t2 st2 => hK μ2 a2 w2 (d2.trans d1) t2 (st1.trans st2 hn1 hn2)
          rw [st1.new j (by omega)]
          exact hf j (by omega) h6
        all_goals
          obtain ⟨he, rfl⟩ := ret_ok h2
          injection he with h3 h4; subst h3; subst h4
          exact ihx.1 ν tm _ _ s _ a w μ _ h1 hr hf hg ht fun μ1 a1 w1 d1 t1 st1 => hK μ1 a1 w1 d1 t1 st1
    exact key c.lf tm s a w μ h hr hf hg ht hK
  | scope x ihx =>
    refine ⟨?_, fun l rest h => by cases h⟩
    intro ν tm e tm' s s' a w μ Q h hr hf hg ht hK
    rw [codeM_scope] at h
    obtain ⟨⟨e1, tm1⟩, s1, h1, h2⟩ := bnd_ok h
    refine wp_scope_of ?_
    have hlj : ∀ l k, (codeB c call nt x).2 l = some k → ∀ tm, Local (k tm) := by
      intro l k hk tm
      rw [codeB_label] at hk
      cases hfl : findLabel x l with
      | none => rw [hfl] at hk; cases hk
      | some r => rw [hfl] at hk; injection hk with hk; subst hk; exact local_code hl r tm
    have key : ∀ (n : Nat) (e1 : Ex) (tm1 : T V) (s1 : St) (a1 : Act) (w1 : World) (μ1 : Mu), jumps (codeB c call nt x).2 n (e1, tm1) s1 = .ok (e, tm') s' → Rel c.P μ1 ν s1.heap w1.heap → Fresh μ1 s1 s' → Globs c.gl μ1 s1.heap w1 → TmRel μ1 ν nt tm1 a1.tmps →
        (∀ μ' a' w', a'.defers = a1.defers → TmRel μ' ν nt tm' a'.tmps → StepOk c.P μ1 ν s1.heap s1.next w1 μ' s'.heap s'.next w' → Q (exOf e) a' w') → ScopeQ c.P x Q (exOf e1) a1 w1 := by
      intro n
      induction n with
      | zero => intro e1 tm1 s1 a1 w1 μ1 h; exact (err_ok h).elim
      | succ n ih =>
        intro e1 tm1 s1 a1 w1 μ1 h hr hf hg ht hK
        unfold jumps at h
        cases e1
        case goto l =>
          simp only at h
          have hb := codeB_label (c := c) (call := call) (nt := nt) x l
          cases hfl : findLabel x l with
          | none =>
            rw [hfl] at hb
            rw [hb] at h
            simp only [Option.map_none] at h
            obtain ⟨he, rfl⟩ := ret_ok h
            injection he with h3 h4; subst h3; subst h4
            exact .inl ⟨hfl, hK μ1 a1 w1 rfl ht (StepOk.refl hr)⟩
          | some r =>
            rw [hfl] at hb
            rw [hb] at h
            simp only [Option.map_some] at h
            obtain ⟨⟨e2, tm2⟩, s2, h3, h4⟩ := bnd_ok h
            have hn1 : s1.next ≤ s2.next := by obtain ⟨lg, d⟩ := local_code (c := c) (nt := nt) hl r tm1 _ _ _ h3; exact d.next
            have hn2 : s2.next ≤ s'.next := by obtain ⟨lg, d⟩ := local_jumps hlj n (e2, tm2) _ _ _ h4; exact d.next
            refine .inr ⟨r, hfl, inScope_of ?_⟩
            refine ihx.2 l r hfl ν tm1 e2 tm2 s1 s2 a1 w1 μ1 _ h3 hr (fun j h5 h6 => hf j h5 (by omega)) hg ht fun μ2 a2 w2 d2 t2 st2 => ?_
            refine ih e2 tm2 s2 a2 w2 μ2 h4 st2.rel (fun j h5 h6 => ?_) (hg.step st2) t2 fun μ3 a3 w3 d3 t3 st3 => hK μ3 a3 w3 (d3.trans d2) t3 (st2.trans st3 hn1 hn2)
            rw [st2.new j (by omega)]
            exact hf j (by omega) h6
        all_goals
          obtain ⟨he, rfl⟩ := ret_ok h
          injection he with h3 h4; subst h3; subst h4
          exact hK μ1 a1 w1 rfl ht (StepOk.refl hr)
    have hn1 : s.next ≤ s1.next := by obtain ⟨lg, d⟩ := local_code (c := c) (nt := nt) hl x tm _ _ _ h1; exact d.next
    have hn2 : s1.next ≤ s'.next := by obtain ⟨lg, d⟩ := local_jumps hlj c.lf (e1, tm1) _ _ _ h2; exact d.next
    refine ihx.1 ν tm e1 tm1 s s1 a w μ _ h1 hr (fun j h5 h6 => hf j h5 (by omega)) hg ht fun μ1 a1 w1 d1 t1 st1 => ?_
    refine key c.lf e1 tm1 s1 a1 w1 μ1 h2 st1.rel (fun j h5 h6 => ?_) (hg.step st1) t1 fun μ2 a2 w2 d2 t2 st2 => hK μ2 a2 w2 (d2.trans d1) t2 (st1.trans st2 hn1 hn2)
    rw [st1.new j (by omega)]
    exact hf j (by omega) h6
  | rangeFunc f p x y _ _ => exact ⟨fun ν tm e tm' s s' a w μ Q h => (err_ok (s := s) h).elim, fun l rest h => by cases h⟩
  | refuse why => exact ⟨fun ν tm e tm' s s' a w μ Q h => (err_ok (s := s) h).elim, fun l rest h => by cases h⟩

theorem sim_code (hm : c.P.follows .mixedOrders = true) (hc : CallSim c.P c.gl call) (hl : ∀ f vs, Local (call f vs)) (code : Code) : SimC c call nt code := (simC_all hm hc hl code).1
def laterOf (c : Cfg) (μ : Mu) (ν : Nat → Value) (d : Option (FuncId × List V)) (ds : List Deferred) : Prop := match d with
  | none => ds = []
  | some (f, vs) => ∃ rs, VsRel μ ν vs rs ∧ ds = [{ target := .fn (.func f) #[], args := ⟨rs⟩ }]

theorem laterOf_mono {μ μ' : Mu} {ν : Nat → Value} {d : Option (FuncId × List V)} {ds : List Deferred} (h : laterOf c μ ν d ds) (hm : μ.le μ') : laterOf c μ' ν d ds := by
  cases d with
  | none => exact h
  | some p => obtain ⟨f, vs⟩ := p; obtain ⟨rs, h1, h2⟩ := h; exact ⟨rs, h1.mono hm, h2⟩

theorem lastDefer_ok : ∀ {l pre : List Oper} {k : Call}, lastDefer l = some (pre, k) → ∃ o : Oper, l = pre ++ [o] ∧ o.op = .defer k ∧ o.guard = none ∧ o.dst = none
  | [], pre, k, h => by cases h
  | [o], pre, k, h => by
    unfold lastDefer at h
    simp only at h
    split at h
    · rename_i h1 h2 h3
      injection h with h
      injection h with h4 h5
      subst h4; subst h5
      exact ⟨o, rfl, h1, h2, h3⟩
    · cases h
  | o :: q :: l, pre, k, h => by
    unfold lastDefer at h
    simp only at h
    cases hr : lastDefer (q :: l) with
    | none => rw [hr] at h; cases h
    | some p =>
      obtain ⟨pre', k'⟩ := p
      rw [hr] at h
      injection h with h
      injection h with h4 h5
      subst h4; subst h5
      obtain ⟨o', h6, h7⟩ := lastDefer_ok hr
      exact ⟨o', by rw [h6]; rfl, h7⟩

theorem sim_defer (hm : c.P.follows .mixedOrders = true) (hc : CallSim c.P c.gl call) (hl : ∀ f vs, Local (call f vs)) {ν : Nat → Value} : ∀ (code : Code) (tm : T V) (e : Ex) (tm' : T V) (d : Option (FuncId × List V)) (s s' : St) (a : Act) (w : World) (μ : Mu) (Q : Exit → Act → World → Prop), deferM c call nt code tm s = .ok ((e, tm'), d) s' →
    Rel c.P μ ν s.heap w.heap → Fresh μ s s' → Globs c.gl μ s.heap w → TmRel μ ν nt tm a.tmps → a.defers = [] →
    (∀ μ' a' w', laterOf c μ' ν d a'.defers → TmRel μ' ν nt tm' a'.tmps → StepOk c.P μ ν s.heap s.next w μ' s'.heap s'.next w' → Q (exOf e) a' w') → code.wp c.P Q a w := by
  have plain : ∀ (code : Code) (tm : T V) (e : Ex) (tm' : T V) (d : Option (FuncId × List V)) (s s' : St) (a : Act) (w : World) (μ : Mu) (Q : Exit → Act → World → Prop), bnd (codeM c call nt code tm) (fun q => Lx.ret (q, (none : Option (FuncId × List V)))) s = .ok ((e, tm'), d) s' →
    Rel c.P μ ν s.heap w.heap → Fresh μ s s' → Globs c.gl μ s.heap w → TmRel μ ν nt tm a.tmps → a.defers = [] →
    (∀ μ' a' w', laterOf c μ' ν d a'.defers → TmRel μ' ν nt tm' a'.tmps → StepOk c.P μ ν s.heap s.next w μ' s'.heap s'.next w' → Q (exOf e) a' w') → code.wp c.P Q a w := by
    intro code tm e tm' d s s' a w μ Q h hr hf hg ht hd hK
    obtain ⟨⟨e1, tm1⟩, s1, h1, h2⟩ := bnd_ok h
    obtain ⟨he, rfl⟩ := ret_ok h2
    injection he with h3 h4
    injection h3 with h5 h6
    subst h4; subst h5; subst h6
    exact sim_code hm hc hl code ν tm _ _ s _ a w μ Q h1 hr hf hg ht fun μ1 a1 w1 d1 t1 st1 => hK μ1 a1 w1 (by show a1.defers = []; rw [d1, hd]) t1 st1
  intro code
  induction code with
  | seq x y ihx ihy =>
    intro tm e tm' d s s' a w μ Q h hr hf hg ht hd hK
    unfold deferM at h
    obtain ⟨⟨⟨e1, tm1⟩, d1⟩, s1, h1, h2⟩ := bnd_ok h
    have hn1 : s.next ≤ s1.next := by obtain ⟨lg, dd⟩ := local_defer (c := c) (nt := nt) hl x tm _ _ _ h1; exact dd.next
    refine wp_seq ?_
    cases e1
    case normal =>
      cases d1 with
      | none =>
        simp only at h2
        have hn2 : s1.next ≤ s'.next := by obtain ⟨lg, dd⟩ := local_defer (c := c) (nt := nt) hl y tm1 _ _ _ h2; exact dd.next
        refine ihx tm .normal tm1 none s s1 a w μ _ h1 hr (fun j h5 h6 => hf j h5 (by omega)) hg ht hd fun μ1 a1 w1 l1 t1 st1 => ?_
        refine ihy tm1 e tm' d s1 s' a1 w1 μ1 Q h2 st1.rel (fun j h5 h6 => ?_) (hg.step st1) t1 l1 fun μ2 a2 w2 l2 t2 st2 => hK μ2 a2 w2 l2 t2 (st1.trans st2 hn1 hn2)
        rw [st1.new j (by omega)]
        exact hf j (by omega) h6
      | some dd =>
        simp only at h2
        obtain ⟨q, s2, h3, h4⟩ := bnd_ok h2
        obtain ⟨he, rfl⟩ := ret_ok h4
        injection he with h5 h6
        subst h5; subst h6
        have hn2 : s1.next ≤ s'.next := by obtain ⟨lg, dd⟩ := local_code (c := c) (nt := nt) hl y tm1 _ _ _ h3; exact dd.next
        refine ihx tm .normal tm1 (some dd) s s1 a w μ _ h1 hr (fun j h5 h6 => hf j h5 (by omega)) hg ht hd fun μ1 a1 w1 l1 t1 st1 => ?_
        refine sim_code hm hc hl y ν tm1 e tm' s1 s' a1 w1 μ1 Q h3 st1.rel (fun j h5 h6 => ?_) (hg.step st1) t1 fun μ2 a2 w2 d2 t2 st2 => hK μ2 a2 w2 (by rw [d2]; exact laterOf_mono l1 st2.le) t2 (st1.trans st2 hn1 hn2)
        rw [st1.new j (by omega)]
        exact hf j (by omega) h6
    all_goals
      obtain ⟨he, rfl⟩ := ret_ok h2
      injection he with h3 h4
      injection h3 with h5 h6
      subst h4; subst h5; subst h6
      exact ihx tm _ _ _ s _ a w μ _ h1 hr hf hg ht hd fun μ1 a1 w1 l1 t1 st1 => hK μ1 a1 w1 l1 t1 st1
  | region id ops dr =>
    intro tm e tm' d s s' a w μ Q h hr hf hg ht hd hK
    unfold deferM at h
    cases hld : lastDefer ops.toList with
    | none =>
      rw [hld] at h
      exact plain _ tm e tm' d s s' a w μ Q (by cases dr <;> exact h) hr hf hg ht hd hK
    | some p =>
      obtain ⟨pre, k⟩ := p
      rw [hld] at h
      cases dr with
      | true => exact plain _ tm e tm' d s s' a w μ Q h hr hf hg ht hd hK
      | false =>
        simp only at h
        obtain ⟨tm1, s1, h1, h2⟩ := bnd_ok h
        cases hcal : k.callee <;> (try simp only [hcal] at h2) <;> try exact (err_ok h2).elim
        rename_i cv
        cases cv <;> (try simp only at h2) <;> try exact (err_ok h2).elim
        rename_i f
        cases hok : k.args.toList.all (operandOk)
        · rw [hok, cond_false] at h2; exact (err_ok h2).elim
        rw [hok, cond_true] at h2
        obtain ⟨he, rfl⟩ := ret_ok h2
        injection he with h3 h4
        injection h3 with h5 h6
        subst h4; subst h5; subst h6
        obtain ⟨o, ho1, ho2, ho3, ho4⟩ := lastDefer_ok hld
        refine wp_region ?_
        have hlist : List.range ops.size = (List.range pre.length).map (0 + ·) ++ [pre.length] := by
          have : ops.size = pre.length + 1 := by rw [← Array.length_toList, ho1]; simp
          rw [this, List.range_succ]
          simp
        rw [hlist]
        refine sim_ops_then (ops := ops) (Q := Q) hc hl [pre.length] pre 0 tm _ s _ a w μ (fun i q hq => ?_) h1 hr hf hg ht fun μ1 a1 w1 d1 t1 st1 => ?_
        · rw [Nat.zero_add, ← Array.getElem?_toList, ho1, List.getElem?_append_left (List.getElem?_eq_some_iff.1 hq).1]
          exact hq
        · have hoi : ops[pre.length]? = some o := by rw [← Array.getElem?_toList, ho1]; simp
          have hev : VsRel μ1 ν (k.args.toList.map (evalO tm')) (k.args.toList.map a1.eval) := VsRel.map_ev fun x hx =>
            evalO_rel (List.all_eq_true.1 hok x hx) fun t _ => t1.2 t
          have hrun : (execOp a1.eval o).run c.P w1 = .ok (.defer { target := .fn (.func f) #[], args := ⟨k.args.toList.map a1.eval⟩ }) w1 := by
            obtain ⟨odst, oop, otype, opos, oafter, oguard⟩ := o
            simp only at ho2; subst ho2
            have e1 : a1.eval (.func f) = .func (.func f) #[] #[] := rfl
            simp only [execOp, resolve, hcal, e1, Deferred.ofValue, pure_bind]
            rw [map_list]
            simp
          rw [wpOps_cons]
          unfold wpOp
          rw [hoi]
          have hw : Region.wanted o (yielded ops a1.tmps) = true := by unfold Region.wanted; rw [ho3]
          simp only [hw, if_true]
          left
          unfold Oper.wp
          rw [hrun, Oper.upon_defer, ho4]
          unfold wpOps
          exact hK μ1 _ w1 ⟨_, hev, by show _ :: a1.defers = _; rw [d1, hd]⟩ t1 st1
  | _ => intro tm e tm' d s s' a w μ Q h hr hf hg ht hd hK; unfold deferM at h; exact plain _ tm e tm' d s s' a w μ Q h hr hf hg ht hd hK

theorem setArgs_get : ∀ (args : List V) (i : Nat) (tm : T V) (t : Nat), tmGet (setArgs args i tm) t = if i ≤ t ∧ t < i + args.length then args.getD (t - i) undefV else tmGet tm t
  | [], i, tm, t => by simp only [setArgs, List.length_nil]; rw [if_neg (by omega)]
  | v :: l, i, tm, t => by
    simp only [setArgs, List.length_cons]
    rw [setArgs_get l (i + 1) _ t, tmGet_set]
    by_cases h1 : i + 1 ≤ t ∧ t < i + 1 + l.length
    · rw [if_pos h1, if_pos (by omega), show t - i = (t - (i + 1)) + 1 by omega]
      simp
    · rw [if_neg h1]
      by_cases h2 : t = i
      · subst h2; rw [if_pos rfl, if_pos (by omega)]; simp
      · rw [if_neg h2, if_neg (by omega)]

theorem tm_start {μ : Mu} {ν : Nat → Value} {args : List V} {rs : List Value} {ntmps : Nat} (h : VsRel μ ν args rs) :
    TmRel μ ν (max args.length ntmps) (setArgs args 0 .leaf) ((⟨rs⟩ : Array Value) ++ Array.replicate (ntmps - (⟨rs⟩ : Array Value).size) undef) := by
  have hl := h.length
  refine ⟨by simp only [Array.size_append, Array.size_replicate]; show rs.length + (ntmps - rs.length) = _; omega, fun t => ?_⟩
  rw [setArgs_get, Array.getD_eq_getD_getElem?, Array.getElem?_append]
  show VRel μ ν _ ((if t < rs.length then _ else _ : Option Value).getD undef)
  by_cases ht : t < rs.length
  · rw [if_pos (by omega), if_pos ht, Nat.sub_zero]
    have hv : args[t]? = some (args.getD t undefV) := by rw [List.getD_eq_getElem?_getD, List.getElem?_eq_getElem (by omega)]; rfl
    obtain ⟨r, h1, h2⟩ := h.get hv
    have : (⟨rs⟩ : Array Value)[t]? = some r := by simpa using h1
    rw [this]; exact h2
  · rw [if_neg (by omega), if_neg ht]
    have e : tmGet (T.leaf : T V) t = undefV := rfl
    rw [e, Array.getElem?_replicate]
    split <;> exact VRel.undef
def resOne (tmps : Array Value) : ResultVar → Sem Value
  | .tmp t => pure (tmps.getD t undef)
  | .cell a t => do loadVar t (← asAddr (tmps.getD a undef))

theorem sim_results {P : Program} {μ : Mu} {ν : Nat → Value} {tm : T V} {tmps : Array Value} {w : World} (ht : ∀ t, VRel μ ν (tmGet tm t) (tmps.getD t undef)) : ∀ (l : List ResultVar) (vs : List V) (s s' : St), resultsM P tm l s = .ok vs s' → Rel P μ ν s.heap w.heap →
    ∃ rs : List Value, (l.mapM (resOne tmps)).run P w = .ok rs w ∧ VsRel μ ν vs rs ∧ s'.heap = s.heap ∧ s'.next = s.next
  | [], vs, s, s', h, hr => by
    obtain ⟨rfl, rfl⟩ := ret_ok h
    exact ⟨[], rfl, .nil, rfl, rfl⟩
  | .tmp t :: l, vs, s, s', h, hr => by
    unfold resultsM at h
    obtain ⟨vs1, s1, h1, h2⟩ := bnd_ok h
    obtain ⟨rfl, rfl⟩ := ret_ok h2
    obtain ⟨rs, g1, g2, g3, g4⟩ := sim_results ht l vs1 s _ h1 hr
    refine ⟨tmps.getD t undef :: rs, ?_, .cons (ht t) g2, g3, g4⟩
    simp only [List.mapM_cons, resOne, pure_bind]
    rw [run_pure_bind g1]
    rfl
  | .cell a t :: l, vs, s, s', h, hr => by
    unfold resultsM at h
    have ha := ht a
    cases hv : tmGet tm a <;> rw [hv] at h ha <;> (try simp only at h) <;> try exact (err_ok h).elim
    rename_i k o
    obtain ⟨v1, s1, h1, h2⟩ := bnd_ok h
    obtain ⟨vs1, s2, h3, h4⟩ := bnd_ok h2
    obtain ⟨rfl, rfl⟩ := ret_ok h4
    generalize hra : tmps.getD a undef = ra at ha
    cases ha with
    | ptr hp =>
      obtain ⟨⟨r, q1, q2⟩, q3, q4⟩ := sim_loadVar hr hp h1
      obtain ⟨rs, g1, g2, g3, g4⟩ := sim_results ht l vs1 s1 _ h3 (by rw [q3]; exact hr)
      refine ⟨r :: rs, ?_, .cons q2 g2, by rw [g3, q3], by rw [g4, q4]⟩
      simp only [List.mapM_cons, resOne, hra, asAddr, pure_bind, bind_assoc]
      rw [run_pure_bind q1, run_pure_bind g1]
      rfl

theorem oneOf_rel {μ : Mu} {ν : Nat → Value} {vs : List V} {rs : List Value} (h : VsRel μ ν vs rs) : VRel μ ν (oneOf vs) (if h : (⟨rs⟩ : Array Value).size = 1 then (⟨rs⟩ : Array Value)[0] else .tuple ⟨rs⟩) := by
  cases h with
  | nil => exact .tuple .nil
  | cons h hs =>
    cases hs with
    | nil => exact h
    | cons h' hs =>
      rw [dif_neg (by simp)]
      exact .tuple (.cons h (.cons h' hs))
theorem sim_ends {fn : Func} {nt : Nat} {tm : T V} {v : V} {s s1 s' : St} {w : World} {μ : Mu} {ν : Nat → Value} (h3 : bnd (resultsM c.P tm fn.results.toList) (fun vs => Lx.ret (oneOf vs)) s1 = .ok v s') {μ' : Mu} {tmps : Array Value} {w' : World} (t1 : TmRel μ' ν nt tm tmps) (st1 : StepOk c.P μ ν s.heap s.next w μ' s1.heap s1.next w') :
    ∃ r, (results fn tmps).run c.P w' = .ok r w' ∧ VRel μ' ν v r ∧ StepOk c.P μ ν s.heap s.next w μ' s'.heap s'.next w' := by
  obtain ⟨vs, s2, h4, h5⟩ := bnd_ok h3
  obtain ⟨rfl, rfl⟩ := ret_ok h5
  obtain ⟨rs', g1, g2, g3, g4⟩ := sim_results t1.2 _ _ _ _ h4 st1.rel
  refine ⟨_, ?_, oneOf_rel g2, by rw [g3, g4]; exact st1⟩
  have hres : results fn tmps = (do
      let vs ← fn.results.mapM (resOne tmps)
      pure (if h : vs.size = 1 then vs[0] else .tuple vs)) := rfl
  rw [hres, Array.mapM_eq_mapM_toList]
  rw [Sem.run_bind, Sem.run_map]
  rw [g1]
  rfl
theorem sim_plain (hm : c.P.follows .mixedOrders = true) (hc : CallSim c.P c.gl call) (hl : ∀ f vs, Local (call f vs)) {fn : Func} {code : Code} {args : List V} {rs : List Value} {v : V} {s s' : St} {w : World} {μ : Mu} {ν : Nat → Value}
    (h : plainM c call fn code args s = .ok v s') (hr : Rel c.P μ ν s.heap w.heap) (hf : Fresh μ s s') (hg : Globs c.gl μ s.heap w) (ha : VsRel μ ν args rs) :
    code.wp c.P (bodyPost c.P fn fun e w' => ∃ r, e = .returned r ∧ ∃ μ', VRel μ' ν v r ∧ StepOk c.P μ ν s.heap s.next w μ' s'.heap s'.next w') { tmps := ⟨rs⟩ ++ Array.replicate (fn.ntmps - (⟨rs⟩ : Array Value).size) undef, defers := [] } w := by
  unfold plainM at h
  obtain ⟨⟨e, tm⟩, s1, h1, h2⟩ := bnd_ok h
  cases e
  case exit i => exact (err_ok h2).elim
  case goto l => exact (err_ok h2).elim
  all_goals
    refine sim_code hm hc hl code _ _ _ _ _ _ _ _ _ _ h1 hr (fun j h5 h6 => hf j h5 ?_) hg (tm_start ha) fun μ' a' w' d1 t1 st1 => ?_
    · obtain ⟨vs, s2, h4, h5⟩ := bnd_ok h2
      obtain ⟨rfl, rfl⟩ := ret_ok h5
      obtain ⟨lg, d⟩ := local_results (P := c.P) (tm := tm) _ _ _ _ h4
      exact Nat.lt_of_lt_of_le h6 d.next
    · obtain ⟨r, g1, g2, g3⟩ := sim_ends h2 t1 st1
      exact ⟨d1, r, g1, r, rfl, μ', g2, g3⟩
theorem sim_body (hm : c.P.follows .mixedOrders = true) (hc : CallSim c.P c.gl call) (hl : ∀ f vs, Local (call f vs)) {f : FuncId} {fn : Func} {code : Code} {args : List V} {rs : List Value} {v : V} {s s' : St} {w : World} {μ : Mu} {ν : Nat → Value} (hfn : c.P.funcs[f]? = some fn) (hb : fn.body = some code)
    (h : bodyM c call fn code args s = .ok v s') (hr : Rel c.P μ ν s.heap w.heap) (hf : Fresh μ s s') (hg : Globs c.gl μ s.heap w) (ha : VsRel μ ν args rs) :
    Calls c.P f ⟨rs⟩ w fun e w' => ∃ r, e = .returned r ∧ ∃ μ', VRel μ' ν v r ∧ StepOk c.P μ ν s.heap s.next w μ' s'.heap s'.next w' := by
  unfold bodyM at h
  obtain ⟨⟨⟨e, tm⟩, d⟩, s1, h1, h2⟩ := bnd_ok h
  refine calls_of_wp_defers hfn hb ?_
  have key : ∀ (h3 : bnd (laterM c call d) (fun _ => bnd (resultsM c.P tm fn.results.toList) fun vs => Lx.ret (oneOf vs)) s1 = .ok v s'), s.next ≤ s1.next → s1.next ≤ s'.next ∧ ∀ (μ' : Mu) (a' : Act) (w' : World), laterOf c μ' ν d a'.defers → TmRel μ' ν (max args.length fn.ntmps) tm a'.tmps → StepOk c.P μ ν s.heap s.next w μ' s1.heap s1.next w' →
      Leaves c.P fn a'.tmps (fun e w' => ∃ r, e = .returned r ∧ ∃ μ', VRel μ' ν v r ∧ StepOk c.P μ ν s.heap s.next w μ' s'.heap s'.next w') a'.defers .returning w' := by
    intro h3 hn0
    obtain ⟨u, s2, h4, h5⟩ := bnd_ok h3
    have hn1 : s1.next ≤ s2.next := by obtain ⟨lg, dd⟩ := local_later (c := c) hl d _ _ _ h4; exact dd.next
    have hn2 : s2.next ≤ s'.next := by
      obtain ⟨vs, s3, h6, h7⟩ := bnd_ok h5
      obtain ⟨rfl, rfl⟩ := ret_ok h7
      obtain ⟨lg, dd⟩ := local_results (P := c.P) (tm := tm) _ _ _ _ h6
      exact dd.next
    refine ⟨by omega, fun μ' a' w' l1 t1 st1 => ?_⟩
    cases d with
    | none =>
      obtain ⟨rfl, rfl⟩ := ret_ok h4
      have l1' : a'.defers = [] := l1
      rw [l1']
      obtain ⟨r, g1, g2, g3⟩ := sim_ends h5 t1 st1
      exact ⟨r, g1, r, rfl, μ', g2, g3⟩
    | some p =>
      obtain ⟨f2, vs⟩ := p
      obtain ⟨rs2, hvs, hds⟩ := l1
      rw [hds]
      unfold laterM at h4
      simp only at h4
      cases hf2 : c.P.funcs[f2]? with
      | none => rw [hf2] at h4; exact (err_ok h4).elim
      | some fn2 =>
        rw [hf2] at h4
        simp only at h4
        cases hnm : fn2.name == "runtime.NumGoroutine"
        case true => rw [hnm, cond_true] at h4; exact (err_ok h4).elim
        rw [hnm, cond_false] at h4
        cases hb2 : fn2.body with
        | none => rw [hb2] at h4; exact (err_ok h4).elim
        | some code2 =>
          rw [hb2] at h4
          simp only at h4
          have hinv : (invoke (.fn (.func f2) #[]) ⟨rs2⟩).run c.P w' = .ok (.enter f2 ⟨rs2⟩) w' := by
            have e1 : (⟨rs2⟩ : Array Value) ++ (#[] : Array Value) = ⟨rs2⟩ := by simp
            simp only [invoke, e1]
            unfold callFunc
            rw [run_pure_bind (show program.run c.P w' = .ok c.P w' from rfl)]
            simp only [hf2, hnm, hb2, Bool.false_eq_true, if_false, Option.isNone_some]
            rfl
          refine leaves_cons (by simp) hinv (CallsD.mono (callsD_of_wp hf2 hb2 (sim_plain hm hc hl h4 st1.rel (fun j h5 h6 => ?_) (hg.step st1) hvs)) ?_)
          · rw [st1.new j (by omega)]
            exact hf j (by omega) (by omega)
          · rintro e2 u2 w2 ⟨rfl, r2, rfl, μ2, g2, st2⟩
            obtain ⟨r, k1, k2, k3⟩ := sim_ends h5 (t1.mono st2.le) (st1.trans st2 hn0 hn1)
            exact ⟨r, k1, r, rfl, μ2, k2, k3⟩
  have hn0 : s.next ≤ s1.next := by obtain ⟨lg, dd⟩ := local_defer (c := c) hl code _ _ _ _ h1; exact dd.next
  cases e
  case exit i => exact (err_ok h2).elim
  case goto l => exact (err_ok h2).elim
  all_goals
    have k := key h2 hn0
    exact sim_defer hm hc hl code _ _ _ _ _ _ _ _ _ _ h1 hr (fun j h5 h6 => hf j h5 (Nat.lt_of_lt_of_le h6 k.1)) hg (tm_start ha) rfl fun μ' a' w' d1 t1 st1 => k.2 μ' a' w' d1 t1 st1

end
def SumOk (c : Cfg) : Prop := ∀ f g, c.sum f = some g → (∀ vs, Local (g vs)) ∧
  ∀ (vs : List V) (v : V) (s s' : St) (w : World) (μ : Mu) (ν : Nat → Value) (rs : List Value), g vs s = .ok v s' → Rel c.P μ ν s.heap w.heap → Fresh μ s s' → Globs c.gl μ s.heap w → VsRel μ ν vs rs →
    CallsTo c.P f ⟨rs⟩ w fun r w' => ∃ μ', VRel μ' ν v r ∧ StepOk c.P μ ν s.heap s.next w μ' s'.heap s'.next w'

theorem sumOk_none (c : Cfg) (h : c.sum = fun _ => none) : SumOk c := by
  intro f g hg; rw [h] at hg; cases hg
theorem callM_sim (c : Cfg) (hm : c.P.follows .mixedOrders = true) (hs : SumOk c) : ∀ n, CallSim c.P c.gl (callM c n)
  | 0 => by intro f vs v s s' w μ ν rs h; exact (err_ok h).elim
  | n + 1 => by
    intro f vs v s s' w μ ν rs h hr hf hg ha
    unfold callM at h
    cases hsu : c.sum f with
    | some g => rw [hsu] at h; exact (hs f g hsu).2 vs v s s' w μ ν rs h hr hf hg ha
    | none =>
      rw [hsu] at h
      simp only at h
      cases hfn : c.P.funcs[f]? with
      | none => rw [hfn] at h; exact (err_ok h).elim
      | some fn =>
        rw [hfn] at h
        simp only at h
        cases hnm : fn.name == "runtime.NumGoroutine"
        case true => rw [hnm, cond_true] at h; exact (err_ok h).elim
        rw [hnm, cond_false] at h
        cases hb : fn.body with
        | none => rw [hb] at h; exact (err_ok h).elim
        | some code =>
          rw [hb] at h
          simp only at h
          left
          refine ⟨?_, sim_body hm (callM_sim c hm hs n) (local_call (fun f g hg => (hs f g hg).1) n) hfn hb h hr hf hg ha⟩
          unfold callFunc
          rw [run_pure_bind (show program.run c.P w = .ok c.P w from rfl)]
          simp only [hfn, hnm, hb, Bool.false_eq_true, if_false, Option.isNone_some]
          rfl

end
end Go.Lx

/-
  From a run of the machine to a given statement: a law's call returns true, and nothing that was there turns.
-/
set_option linter.unusedSimpArgs false
set_option linter.unusedVariables false
namespace Go.Lx
noncomputable section
open Go.ChangeShapes Go.WideShapes Go.ChangeAt Go.RowKit

def st0 : St := ⟨.leaf, 0, []⟩

def yes (r : R V) : Bool := match r with
  | .ok (.bool b) _ => b
  | _ => false

theorem yes_ok {r : R V} (h : yes r = true) : ∃ s, r = .ok (.bool true) s := by
  cases r with
  | fail w => cases h
  | ok v s =>
    cases v <;> first | (cases h; done) | skip
    rename_i b
    have : b = true := h
    subst this
    exact ⟨s, rfl⟩
theorem callM_calls (c : Cfg) (hm : c.P.follows .mixedOrders = true) (hs : SumOk c) {n : Nat} {f : FuncId} {vs : List V} {v : V} {s s' : St} {w : World} {μ : Mu} {ν : Nat → Value} {rs : List Value} (h : callM c (n + 1) f vs s = .ok v s') (hsu : c.sum f = none)
    (hr : Rel c.P μ ν s.heap w.heap) (hf : Fresh μ s s') (hg : Globs c.gl μ s.heap w) (ha : VsRel μ ν vs rs) :
    Calls c.P f ⟨rs⟩ w fun e w' => ∃ r, e = .returned r ∧ ∃ μ', VRel μ' ν v r ∧ StepOk c.P μ ν s.heap s.next w μ' s'.heap s'.next w' := by
  unfold callM at h
  rw [hsu] at h
  simp only at h
  cases hfn : c.P.funcs[f]? with
  | none => rw [hfn] at h; exact (err_ok h).elim
  | some fn =>
    rw [hfn] at h
    simp only at h
    cases hnm : fn.name == "runtime.NumGoroutine"
    case true => rw [hnm, cond_true] at h; exact (err_ok h).elim
    rw [hnm, cond_false] at h
    cases hb : fn.body with
    | none => rw [hb] at h; exact (err_ok h).elim
    | some code =>
      rw [hb] at h
      exact sim_body hm (callM_sim c hm hs n) (local_call (fun f g hg => (hs f g hg).1) n) hfn hb h hr hf hg ha

theorem rel_empty {P : Program} {μ : Mu} {ν : Nat → Value} {H : Array Obj} : Rel P μ ν .leaf H :=
  ⟨fun k o h => by simp [T.get] at h, fun k k' o o' p p' h => by simp [T.get] at h⟩
theorem law_calls_r (c : Cfg) (hm : c.P.follows .mixedOrders = true) (hs : SumOk c) {n n0 : Nat} {f : FuncId} {vs : List V} {ν : Nat → Value} {rs : List Value} {h0 : T Ob} {s' : St} {μ : Mu} (h : callM c (n + 1) f vs ⟨h0, n0, []⟩ = .ok (.bool true) s') (hsu : c.sum f = none) (w : World)
    (hr : Rel c.P μ ν h0 w.heap) (hfr : ∀ k, n0 ≤ k → μ k = none) (hro : ∀ k p, μ k = some p → ∃ x, h0.get k = some (.ro x)) (ha : VsRel μ ν vs rs) (hg : Globs c.gl μ h0 w) : Calls c.P f ⟨rs⟩ w fun e w' => e = .returned (.bool true) ∧ Below w.heap.size w w' := by
  refine (callM_calls c hm hs h hsu hr (fun k hk _ => hfr k hk) hg ha).mono ?_
  rintro e w' ⟨r, rfl, μ', hv, st⟩
  cases hv
  refine ⟨rfl, st.os, st.tape, st.output, st.size, fun b hb => ?_⟩
  by_cases hx : ∃ k p, μ k = some p ∧ p.blk = b
  · obtain ⟨k, p, hp, rfl⟩ := hx
    obtain ⟨x, hx⟩ := hro k p hp
    exact (st.ro k x p hx hp).2
  · exact st.block b hb fun k p hp e => hx ⟨k, p, hp, e⟩

section
variable {H : Type} {enc : TypeId × Value → H} {P : Program}

theorem trodAll_below (hl : laidOutB P = true) {W W' : World} (hb : Below W.heap.size W W') : ∀ {ts : List TypeId} {vs : List Value} {ds : List (DataW H)} {ps : List MemPlace},
    (∀ t ∈ ts, P.readableRec t = true ∧ t < P.types.size) → DataW.TrodAll enc P W 0 (fun _ => true) true ts vs ds ps → (∀ x ∈ ps, x.block < W.heap.size) → DataW.TrodAll enc P W' 0 (fun b => decide (b < W.heap.size)) true ts vs ds ps
  | [], [], [], ps, _, h, _ => h
  | t :: ts, v :: vs, d :: ds, ps, hr, h, hlt => by
    obtain ⟨p, q, h1, h2, rfl⟩ := h
    have ht := hr t (by simp)
    exact ⟨p, q, Below.trod hl ht.1 ht.2 h1 hb (fun x hx => hlt x (by simp [hx])), trodAll_below hl hb (fun u hu => hr u (by simp [hu])) h2 fun x hx => hlt x (by simp [hx]), rfl⟩
  | [], [], _ :: _, _, _, h, _ => h.elim
  | [], _ :: _, _, _, _, h, _ => h.elim
  | _ :: _, [], _, _, _, h, _ => h.elim
  | _ :: _, _ :: _, [], _, _, h, _ => h.elim
theorem post_true (hl : laidOutB P = true) {f : Func} {s : ChangeSpec} {W W' : World} {args : Array Value} {ds gs : List (DataW H)} {before : List MemPlace} {t : TypeId}
    (hW : DataW.Whole enc P f.params.toList s.vars false W args.toList ds gs before) (hb : Below W.heap.size W W') (hv : s.vars = []) (hf : ∀ t ∈ f.params.toList, P.readableRec t = true ∧ t < P.types.size)
    (ht : f.resultTypes = #[t]) (hd : P.underlying t = some .bool) (hres : (s.fn H ds).results = [.lit (.bool true)]) (hargs : (s.fn H ds).args = ds) (hvars : (s.fn H ds).vars = []) :
    s.post enc P f false true false false W args (.bool true) W' := by
  have hlt := hW.lt
  have hW' := hW
  obtain ⟨p, q, hA, hV, rfl, hfz, hnd⟩ := hW
  rw [hv] at hV
  obtain ⟨rfl, rfl⟩ := trodVars_none hV
  refine ⟨ds, [], _, [], p, [], hW', ?_, ?_, ?_, hb.frame _, fun h => by cases h⟩
  · rw [List.append_nil, hres, ht]
    exact trodAll_cons_mk (shut_bool hd true) trodAll_mk0
  · rw [List.append_nil, hargs]
    exact trodAll_below hl hb hf hA fun x hx => hlt x (by simp [hx])
  · rw [List.append_nil, hvars, hv]
    exact rfl
end

end
end Go.Lx

/-
  Functions that are not gone into: the library's externs at strings.
-/
set_option linter.unusedSimpArgs false
set_option linter.unusedVariables false
namespace Go.Lx
noncomputable section
def ExtSum (P : Program) (gl : T (List V)) (f : FuncId) (g : List V → M V) : Prop := (∀ vs, Local (g vs)) ∧
  ∀ (vs : List V) (v : V) (s s' : St) (w : World) (μ : Mu) (ν : Nat → Value) (rs : List Value), g vs s = .ok v s' → Rel P μ ν s.heap w.heap → Fresh μ s s' → Globs gl μ s.heap w → VsRel μ ν vs rs →
    CallsTo P f ⟨rs⟩ w fun r w' => ∃ μ', VRel μ' ν v r ∧ StepOk P μ ν s.heap s.next w μ' s'.heap s'.next w'
def sums : List (FuncId × (List V → M V)) → FuncId → Option (List V → M V)
  | [], _ => none
  | p :: l, f => bif f == p.1 then some p.2 else sums l f

theorem sums_ok {P : Program} {gl : T (List V)} : ∀ {l : List (FuncId × (List V → M V))} (hl : ∀ p ∈ l, ExtSum P gl p.1 p.2) {f : FuncId} {g : List V → M V}, sums l f = some g → ExtSum P gl f g
  | [], _, _, _, h => by cases h
  | p :: l, hl, f, g, h => by
    unfold sums at h
    cases hf : f == p.1
    · rw [hf, cond_false] at h
      exact sums_ok (fun q hq => hl q (by simp [hq])) h
    · rw [hf, cond_true] at h
      cases h
      rw [beq_iff_eq.1 hf]
      exact hl p (by simp)

theorem sumOk_list (c : Cfg) (l : List (FuncId × (List V → M V))) (h : c.sum = sums l) (hl : ∀ p ∈ l, ExtSum c.P c.gl p.1 p.2) : SumOk c := by
  intro f g hg
  rw [h] at hg
  exact sums_ok hl hg
def pureM (F : List V → Option V) (vs : List V) : M V := match F vs with
  | some v => Lx.ret v
  | none => err "extern"

theorem local_pureM (F : List V → Option V) (vs : List V) : Local (pureM F vs) := by
  unfold pureM
  cases F vs with
  | none => exact Local.err _
  | some v => exact Local.ret _

theorem extSum_pure {P : Program} {gl : T (List V)} {f : FuncId} {fn : Func} {e : Array Value → Sem Value} {F : List V → Option V} (hf : P.funcs[f]? = some fn) (hname : (fn.name == "runtime.NumGoroutine") = false)
    (hb : fn.body.isNone = true) (hn : Extern.findNext fn = none) (he : Extern.find fn = some e)
    (h : ∀ (μ : Mu) (ν : Nat → Value) (vs : List V) (rs : List Value) (v : V) (w : World), VsRel μ ν vs rs → F vs = some v → ∃ r, (e ⟨rs⟩).run P w = .ok r w ∧ VRel μ ν v r) :
    ExtSum P gl f (pureM F) := by
  refine ⟨local_pureM F, ?_⟩
  intro vs v s s' w μ ν rs hg hr _ _ hv
  unfold pureM at hg
  cases hF : F vs with
  | none => rw [hF] at hg; exact (err_ok hg).elim
  | some v0 =>
    rw [hF] at hg
    obtain ⟨rfl, rfl⟩ := ret_ok hg
    obtain ⟨r, h1, h2⟩ := h μ ν vs rs _ w hv hF
    refine .inr ⟨r, w, ?_, μ, h2, StepOk.refl hr⟩
    rw [run_callFunc_extern hf hname hb hn he, h1]
    rfl
def idxNats : List Nat → Nat → Int
  | [], _ => -1
  | b :: l, c => bif b == c then 0 else bif idxNats l c == -1 then -1 else idxNats l c + 1

theorem nat_byte_eq (b : UInt8) (n : Int) (h0 : 0 ≤ n) (h : n < 256) : (b.toNat == n.toNat) = (b == n.toNat.toUInt8) := by
  rw [Bool.eq_iff_iff, beq_iff_eq, beq_iff_eq]
  constructor
  · intro e
    rw [← e]
    simp
  · intro e
    rw [e]
    show (UInt8.ofNat n.toNat).toNat = _
    rw [UInt8.toNat_ofNat_of_lt']
    show n.toNat < 256
    omega

theorem idxNats_eq (c : Int) (h0 : 0 ≤ c) (h : c < 256) : ∀ l : List UInt8, idxNats (l.map (·.toNat)) c.toNat = Lib.indexByte l c.toNat.toUInt8
  | [] => rfl
  | b :: l => by
    simp only [List.map_cons, idxNats, Lib.indexByte, idxNats_eq c h0 h l, nat_byte_eq b c h0 h]
    cases b == c.toNat.toUInt8 <;> simp <;> split <;> simp_all
def idxStr : List V → Option V
  | [.str l, .int .u8 c] => bif decide (0 ≤ c) && decide (c < 256) then some (.int .i64 (idxNats l c.toNat)) else none
  | _ => none

theorem idxStr_ok {P : Program} (μ : Mu) (ν : Nat → Value) (vs : List V) (rs : List Value) (v : V) (w : World) (h : VsRel μ ν vs rs) (hv : idxStr vs = some v) : ∃ r, (Extern.BytealgIndexByte.indexByte ⟨rs⟩).run P w = .ok r w ∧ VRel μ ν v r := by
  unfold idxStr at hv
  split at hv
  · rename_i l c
    cases hd : (decide (0 ≤ c) && decide (c < 256))
    · rw [hd, cond_false] at hv; cases hv
    · rw [hd, cond_true] at hv
      cases hv
      have hd' : 0 ≤ c ∧ c < 256 := by simpa using hd
      cases h with
      | cons h1 h =>
        cases h with
        | cons h2 h =>
          cases h
          cases h1
          cases h2
          rename_i b
          refine ⟨_, Lib.run_indexByteString b c w, ?_⟩
          rw [← idxNats_eq c hd'.1 hd'.2]
          exact .int _ _
  · cases hv
def byteV : V → Option Nat
  | .int .u8 n => bif decide (0 ≤ n) && decide (n < 256) then some n.toNat else none
  | _ => none

def bytesOfV : List V → Option (List Nat)
  | [] => some []
  | v :: l => match byteV v, bytesOfV l with
    | some n, some ns => some (n :: ns)
    | _, _ => none
def idxM (vs : List V) : M V := match vs with
  | [.slice b o len _, .int .u8 c] => bif decide (0 ≤ c) && decide (c < 256) then Lx.bnd (ld b o len) fun cs => Lx.bnd (Lx.opt (bytesOfV cs) "bytes") fun ns => Lx.ret (.int .i64 (idxNats ns c.toNat)) else err "byte"
  | [.nilslice, .int .u8 _] => Lx.ret (.int .i64 (-1))
  | _ => err "index"

theorem local_idxM (vs : List V) : Local (idxM vs) := by
  unfold idxM
  split
  · exact Local.cond (Local.bnd (Local.ld _ _ _) fun _ => Local.bnd (Local.opt _ _) fun _ => Local.ret _) (Local.err _)
  · exact Local.ret _
  · exact Local.err _

theorem byteV_ok {v : V} {n : Nat} (h : byteV v = some n) : v = .int .u8 n ∧ n < 256 := by
  unfold byteV at h
  split at h
  · rename_i c
    cases hd : (decide (0 ≤ c) && decide (c < 256))
    · rw [hd, cond_false] at h; cases h
    · rw [hd, cond_true] at h
      have hd' : 0 ≤ c ∧ c < 256 := by simpa using hd
      cases h
      refine ⟨?_, by omega⟩
      congr 1
      omega
  · cases h

theorem toNats_push (b : ByteArray) (x : UInt8) : toNats (b.push x) = toNats b ++ [x.toNat] := by
  simp [toNats, ByteArray.push]

theorem run_loadBytes {P : Program} {μ : Mu} {ν : Nat → Value} {w : World} {h : T Ob} (hr : Rel P μ ν h w.heap) {k : Nat} {c : List V} (hk : HasRow h k c) {pl : Pl} (hp : μ k = some pl) :
    ∀ (vs : List V) (ns : List Nat) (o : Nat) (acc : ByteArray), bytesOfV vs = some ns → (∀ (j : Nat) v, vs[j]? = some v → c[o + j]? = some v) →
      ∃ b, (Extern.Bytes.loadBytes ⟨pl.blk, pl.off + o, none⟩ vs.length acc).run P w = .ok b w ∧ toNats b = toNats acc ++ ns
  | [], ns, o, acc, hb, _ => by
    cases hb
    exact ⟨acc, rfl, by simp⟩
  | v :: vs, ns, o, acc, hb, hc => by
    unfold bytesOfV at hb
    cases hv : byteV v with
    | none => rw [hv] at hb; cases hb
    | some n =>
      cases hvs : bytesOfV vs with
      | none => rw [hv, hvs] at hb; cases hb
      | some ms =>
        rw [hv, hvs] at hb
        cases hb
        obtain ⟨rfl, hn⟩ := byteV_ok hv
        obtain ⟨r, h1, h2⟩ := run_loadCell (P := P) hr hk hp (hc 0 _ rfl)
        cases h2
        rw [Nat.add_zero] at h1
        obtain ⟨b, g1, g2⟩ := run_loadBytes hr hk hp vs ms (o + 1) (acc.push (Int.ofNat n).toNat.toUInt8) hvs (fun j v hj => by
          have := hc (j + 1) v (by simpa using hj)
          rwa [show o + 1 + j = o + (j + 1) by omega])
        refine ⟨b, ?_, ?_⟩
        · rw [List.length_cons, Extern.Bytes.loadBytes, run_pure_bind h1]
          exact g1
        · rw [g2, toNats_push]
          have : (UInt8.ofNat n).toNat = n := UInt8.toNat_ofNat_of_lt' hn
          simp [this]

theorem run_indexByte_of {P : Program} {x : Value} {b : ByteArray} {w : World} (c : Int) (h : (Extern.Bytes.bytesOf x).run P w = .ok b w) :
    (Extern.BytealgIndexByte.indexByte #[x, .int .u8 c]).run P w = .ok (.int .i64 (firstIdx b c.toNat.toUInt8)) w := by
  change Sem.run P (do
    let b ← Extern.Bytes.bytesOf x
    let c' ← Extern.Bytes.asByte (.int .u8 c)
    match (List.range b.size).find? fun i => b[i]! == c' with
    | some i => pure (goInt i)
    | none => pure (goInt (-1))) w = _
  simp only [Extern.Bytes.asByte, firstIdx, Sem.run_bind, Sem.run_pure, Result.andThen, h]
  generalize (List.range b.size).find? _ = o
  cases o <;> rfl

theorem extSum_idx {P : Program} {gl : T (List V)} {f : FuncId} {fn : Func} (hf : P.funcs[f]? = some fn) (hname : (fn.name == "runtime.NumGoroutine") = false)
    (hb : fn.body.isNone = true) (hn : Extern.findNext fn = none) (he : Extern.find fn = some Extern.BytealgIndexByte.indexByte) : ExtSum P gl f idxM := by
  refine ⟨local_idxM, ?_⟩
  intro vs v s s' w μ ν rs hg hr _ _ hv
  have fin : ∀ {r : Value}, (Extern.BytealgIndexByte.indexByte ⟨rs⟩).run P w = .ok r w → VRel μ ν v r → s'.heap = s.heap → s'.next = s.next →
      CallsTo P f ⟨rs⟩ w fun r w' => ∃ μ', VRel μ' ν v r ∧ StepOk P μ ν s.heap s.next w μ' s'.heap s'.next w' := by
    intro r h1 h2 h3 h4
    refine .inr ⟨r, w, ?_, μ, h2, by rw [h3, h4]; exact StepOk.refl hr⟩
    rw [run_callFunc_extern hf hname hb hn he, h1]
    rfl
  unfold idxM at hg
  split at hg
  · rename_i b o len cap c
    cases hd : (decide (0 ≤ c) && decide (c < 256))
    · rw [hd, cond_false] at hg; exact (err_ok hg).elim
    · rw [hd, cond_true] at hg
      have hd' : 0 ≤ c ∧ c < 256 := by simpa using hd
      obtain ⟨cs, s1, g1, g2⟩ := bnd_ok hg
      obtain ⟨ns, s2, g3, g4⟩ := bnd_ok g2
      obtain ⟨cl, hk, hlen, rfl, rfl⟩ := ld_ok g1
      obtain ⟨hns, rfl⟩ := opt_ok g3
      obtain ⟨rfl, rfl⟩ := ret_ok g4
      cases hv with
      | cons h1 h =>
        cases h with
        | cons h2 h =>
          cases h
          cases h2
          cases h1
          rename_i cap' pl a hp hs hl
          have key : ∃ ba, (Extern.Bytes.bytesOf (.slice (some a) len cap')).run P w = .ok ba w ∧ toNats ba = ns := by
            rcases hs with ⟨h0, _⟩ | ⟨h0, _⟩
            · have : len = 0 := by omega
              subst this
              have : ns = [] := by
                have : sub cl o 0 = [] := by simp [sub]
                rw [this] at hns
                cases hns; rfl
              exact ⟨.empty, rfl, by rw [this]; rfl⟩
            · subst h0
              have hlen' : (sub cl o len).length = len := sub_length hlen
              obtain ⟨ba, k1, k2⟩ := run_loadBytes (P := P) hr hk hp (sub cl o len) ns o .empty hns (fun j v hj => by
                have hj' : j < len := by rw [← hlen']; exact (List.getElem?_eq_some_iff.1 hj).1
                rwa [sub_get hj'] at hj)
              rw [hlen'] at k1
              exact ⟨ba, k1, by rw [k2]; rfl⟩
          obtain ⟨ba, k1, k2⟩ := key
          refine fin (run_indexByte_of c k1) ?_ rfl rfl
          rw [Lib.firstIdx_eq, ← idxNats_eq c hd'.1 hd'.2]
          have : ba.data.toList.map (·.toNat) = ns := k2
          rw [this]
          exact .int _ _
  · obtain ⟨rfl, rfl⟩ := ret_ok hg
    cases hv with
    | cons h1 h =>
      cases h with
      | cons h2 h =>
        cases h
        cases h2
        cases h1
        refine fin (run_indexByte_of _ (b := .empty) rfl) ?_ rfl rfl
        exact .int _ _
  · exact (err_ok hg).elim

end
end Go.Lx
