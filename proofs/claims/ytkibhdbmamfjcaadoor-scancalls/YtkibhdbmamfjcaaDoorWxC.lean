/-
  The machine does what the predicate says: operations, regions.
-/
import Derived.Test.YtkibhdbmamfjcaaDoorWxB
set_option linter.unusedSimpArgs false
set_option linter.unusedVariables false
namespace Go.Wx
open Go.Lx

theorem evalO_eq (tm : T V) (x : Operand) : evalO tm x = evalE (tmGet tm) x := by cases x <;> rfl
theorem evalO_fun (tm : T V) : evalO tm = evalE (tmGet tm) := funext (evalO_eq tm)

theorem wantsE_eq (A : Array Oper) (tm : T V) (o : Oper) : wants A tm o = wantsE A (tmGet tm) o := by
  rw [wants_eq]
  rfl

/-- an operation that is no call of a function asks nothing of the calls -/
theorem opM_noCall (P : Program) (gl : T (List V)) (call : FuncId → List V → M V) (ev : Operand → V) (o : Op) (h : ∀ k, o = .call k → ∀ f, k.callee ≠ .value f) : opM P gl call ev o = opM P gl noCall ev o := by
  cases o with
  | call k =>
    rw [opM_eq, opM_eq]
    show opCall P call ev k = opCall P noCall ev k
    unfold opCall
    cases hk : k.callee with
    | value f => exact (h k rfl f hk).elim
    | invoke r m => rfl
    | builtin b => rfl
  | _ => rfl

/-- an operation was run -/
def OpRan (c : Cfg) (Ok : Nat → Prop) (o : Op) (env : Env) (h : H) (v : V) (h' : H) (fp : Fp) : Prop :=
  WF h.heap h.nx → ∃ N, ∀ lf, N ≤ lf → ∀ n, N ≤ n → ∀ l0, ∃ l, opM c.P c.gl (callM (c.at lf) n) (evalE env) o ⟨h.heap, h.nx, l0⟩ = .ok v ⟨h'.heap, h'.nx, l ++ l0⟩ ∧ Ran Ok h h' l ∧ FpIs fp l

theorem plain_ran {c : Cfg} {Ok : Nat → Prop} {o : Op} {env : Env} {h : H} {v : V} {s : St} (hn : ∀ k, o = .call k → ∀ f, k.callee ≠ .value f)
    (he : opM c.P c.gl noCall (evalE env) o h.st = .ok v s) (hl : LogOk Ok h.nx s.log) : OpRan c Ok o env h v (ofSt s) (.lg s.log) := by
  intro hw
  refine ⟨0, fun lf _ n _ l0 => ⟨s.log, ?_, ?_, rfl⟩⟩
  · rw [opM_noCall _ _ _ _ _ hn, (nice_op nice_noCall (evalE env) o).irr]
    change addLog l0 (opM c.P c.gl noCall (evalE env) o h.st) = _
    rw [he]
    rfl
  · exact ⟨(nice_op nice_noCall (evalE env) o).mono _ _ _ _ he, hl, fun w => (nice_op nice_noCall (evalE env) o).wf _ _ _ _ he w⟩

/-! ### What an operation writes, by its kind -/

def LogIs {α : Type} (p : LE → Prop) (F : M α) : Prop := ∀ s a s', F s = .ok a s' → ∃ l, s'.log = l ++ s.log ∧ ∀ e ∈ l, p e

section
variable {p : LE → Prop} {α β : Type}
theorem LogIs.ret (a : α) : LogIs p (Lx.ret a) := by
  intro s b s' h
  obtain ⟨rfl, rfl⟩ := ret_ok h
  exact ⟨[], rfl, fun e he => by simp at he⟩
theorem LogIs.err (w : String) : LogIs p (Lx.err w : M α) := fun s a s' h => (err_ok h).elim
theorem LogIs.opt (o : Option α) (w : String) : LogIs p (Lx.opt o w) := by
  cases o with
  | none => exact LogIs.err w
  | some a => exact LogIs.ret a
theorem LogIs.cond {b : Bool} {x y : M α} (hx : LogIs p x) (hy : LogIs p y) : LogIs p (bif b then x else y) := by
  cases b
  · exact hy
  · exact hx
theorem LogIs.bnd {F : M α} {G : α → M β} (hF : LogIs p F) (hG : ∀ a, LogIs p (G a)) : LogIs p (Lx.bnd F G) := by
  intro s b s' h
  obtain ⟨a, s1, h1, h2⟩ := bnd_ok h
  obtain ⟨l1, e1, q1⟩ := hF _ _ _ h1
  obtain ⟨l2, e2, q2⟩ := hG a _ _ _ h2
  refine ⟨l2 ++ l1, by rw [e2, e1, List.append_assoc], fun e he => ?_⟩
  rcases List.mem_append.1 he with he | he
  · exact q2 e he
  · exact q1 e he
end

theorem LogIs.ld (k o n : Nat) : LogIs (fun e => e.isW = false) (Lx.ld k o n) := by
  intro s a s' h
  obtain ⟨c, e', p, hg, hl, rfl, rfl⟩ := ld_ok h
  exact ⟨[.rd k o n], rfl, fun e he => by simp at he; subst he; rfl⟩
theorem LogIs.blk (k : Nat) : LogIs (fun e => e.isW = false) (Lx.blk k) := by
  intro s a s' h
  obtain ⟨c, e', p, hg, rfl, rfl⟩ := blk_ok h
  exact ⟨[.rdd k], rfl, fun e he => by simp at he; subst he; rfl⟩
theorem LogIs.getO (k : Nat) : LogIs (fun e => e.isW = false) (Lx.getO k) := by
  intro s a s' h
  obtain ⟨hg, hc, rfl⟩ := getO_ok h
  exact ⟨[.rdd k], rfl, fun e he => by simp at he; subst he; rfl⟩

def FpCls (P : Program) (o : Op) (fp : Fp) : Prop := (cls P o = 0 → fp = .lg []) ∧ (cls P o ≤ 1 → ∃ l, fp = .lg l ∧ ∀ e ∈ l, e.isW = false)

theorem silent_cls {P : Program} {o : Op} {F : M V} {h : H} {v : V} {s : St} (hs : LogIs (fun _ => False) F) (e : F h.st = .ok v s) : FpCls P o (.lg s.log) := by
  obtain ⟨l, e1, e2⟩ := hs _ _ _ e
  have : s.log = [] := by
    rw [e1]
    cases l with
    | nil => rfl
    | cons x l => exact (e2 x (by simp)).elim
  rw [this]
  exact ⟨fun _ => rfl, fun _ => ⟨[], rfl, fun e he => by simp at he⟩⟩

theorem reads_cls {P : Program} {o : Op} {F : M V} {h : H} {v : V} {s : St} (hc : cls P o ≠ 0) (hs : LogIs (fun e => e.isW = false) F) (e : F h.st = .ok v s) : FpCls P o (.lg s.log) := by
  obtain ⟨l, e1, e2⟩ := hs _ _ _ e
  have e1 : s.log = l := by rw [e1]; exact List.append_nil l
  rw [e1]
  exact ⟨fun h => (hc h).elim, fun _ => ⟨l, rfl, e2⟩⟩

theorem other_cls {P : Program} {o : Op} {fp : Fp} (hc : cls P o = 2) : FpCls P o fp := ⟨fun h => by omega, fun h => by omega⟩

theorem cls_slice {P : Program} {t : TypeId} {x : V} {lo hi mx : Option V} : (clsS (P.underlying t) = 0 → LogIs (fun _ => False) (sliceM P t x lo hi mx)) ∧ LogIs (fun e => e.isW = false) (sliceM P t x lo hi mx) := by
  unfold sliceM
  refine ⟨fun hc => ?_, ?_⟩
  · cases hu : P.underlying t with
    | none => exact LogIs.err _
    | some d =>
      rw [hu] at hc
      cases d <;> try (cases hc; done)
      cases x <;> first | exact LogIs.err _ | skip
      simp only
      repeat' (first | exact LogIs.ret _ | exact LogIs.err _ | refine LogIs.cond ?_ ?_ | split)
  · repeat' (first | exact LogIs.ret _ | exact LogIs.err _ | exact LogIs.blk _ | refine LogIs.cond ?_ ?_ | refine LogIs.bnd ?_ (fun _ => ?_) | split)

theorem cls_convert {P : Program} {a b : TypeId} {x : V} : (clsC (P.underlying b) = 0 → LogIs (fun _ => False) (convertM P a b x)) ∧ (clsC (P.underlying b) = 1 → LogIs (fun e => e.isW = false) (convertM P a b x)) := by
  unfold convertM
  refine ⟨fun hc => ?_, fun hc => ?_⟩
  · cases hu : P.underlying b with
    | none => rw [hu] at hc; cases hc
    | some d =>
      rw [hu] at hc
      cases d <;> try (cases hc; done)
      cases hs : P.underlying a with
      | none => exact LogIs.err _
      | some d' => cases d' <;> cases x <;> first | exact LogIs.ret _ | exact LogIs.err _
  · cases hu : P.underlying b with
    | none => rw [hu] at hc; cases hc
    | some d =>
      rw [hu] at hc
      cases d <;> try (cases hc; done)
      cases hs : P.underlying a with
      | none => exact LogIs.err _
      | some d' =>
        cases d' <;> cases x <;> first | exact LogIs.ret _ | exact LogIs.err _ | skip
        all_goals simp only
        all_goals (repeat' (first | exact LogIs.ret _ | exact LogIs.err _ | exact LogIs.ld _ _ _ | refine LogIs.cond ?_ ?_ | refine LogIs.bnd ?_ (fun _ => ?_) | split))

theorem cls_len {P : Program} {t : TypeId} {x : V} : (clsL (P.underlying t) = 0 → LogIs (fun _ => False) (lenM P t x)) ∧ LogIs (fun e => e.isW = false) (lenM P t x) := by
  unfold lenM
  refine ⟨fun hc => ?_, ?_⟩
  · cases hu : P.underlying t with
    | none => exact LogIs.err _
    | some d =>
      rw [hu] at hc
      cases d <;> try (cases hc; done)
      all_goals (cases x <;> first | exact LogIs.ret _ | exact LogIs.err _)
  · repeat' (first | exact LogIs.ret _ | exact LogIs.err _ | exact LogIs.getO _ | refine LogIs.cond ?_ ?_ | refine LogIs.bnd ?_ (fun _ => ?_) | split)

theorem cls_entries (x : V) : LogIs (fun e => e.isW = false) (entriesOf x) := by
  unfold entriesOf
  repeat' (first | exact LogIs.ret _ | exact LogIs.err _ | exact LogIs.getO _ | refine LogIs.cond ?_ ?_ | refine LogIs.bnd ?_ (fun _ => ?_) | split)

theorem cls_call {P : Program} {gl : T (List V)} {ev : Operand → V} {k : Call} {h : H} {v : V} {s : St} (e : opCall P noCall ev k h.st = .ok v s) : FpCls P (.call k) (.lg s.log) := by
  unfold opCall at e
  cases hk : k.callee with
  | value f => exact other_cls (by simp [cls, hk])
  | invoke r m => exact other_cls (by simp [cls, hk])
  | builtin b =>
    rw [hk] at e
    simp only at e
    unfold builtinM at e
    by_cases hc : cls P (.call k) = 2
    · exact other_cls hc
    cases b <;> simp [cls, hk] at hc
    case len =>
      cases ht : k.argTypes[0]? with
      | none => rw [ht] at e; simp only at e; exact (err_ok e).elim
      | some t =>
        rw [ht] at e
        cases ha : k.args.toList.map ev with
        | nil => rw [ha] at e; exact (err_ok e).elim
        | cons x l =>
          cases l with
          | cons y l => rw [ha] at e; exact (err_ok e).elim
          | nil =>
            rw [ha] at e
            simp only at e
            have hcl : cls P (.call k) = clsL (P.underlying t) := by simp [cls, hk, ht]
            by_cases h0 : clsL (P.underlying t) = 0
            · exact silent_cls (cls_len.1 h0) e
            · exact reads_cls (by rw [hcl]; exact h0) cls_len.2 e
    case cap =>
      cases ht : k.argTypes[0]? with
      | none => rw [ht] at e; simp only at e; exact (err_ok e).elim
      | some t =>
        rw [ht] at e
        cases ha : k.args.toList.map ev with
        | nil => rw [ha] at e; exact (err_ok e).elim
        | cons x l =>
          cases l with
          | cons y l => rw [ha] at e; exact (err_ok e).elim
          | nil =>
            rw [ha] at e
            simp only at e
            refine reads_cls (by simp [cls, hk]) (F := capM P t x) ?_ e
            unfold capM
            repeat' (first | exact LogIs.ret _ | exact LogIs.err _ | exact LogIs.blk _ | refine LogIs.cond ?_ ?_ | refine LogIs.bnd ?_ (fun _ => ?_) | split)
    all_goals
      cases ht : k.argTypes[0]? <;> rw [ht] at e <;> cases ha : k.args.toList.map ev <;> rw [ha] at e
      all_goals first | (exact (err_ok e).elim) | skip
      all_goals
        rename_i x l
        cases x <;> first | (exact (err_ok e).elim) | exact silent_cls (LogIs.opt _ _) e

theorem cls_ok {P : Program} {gl : T (List V)} {ev : Operand → V} {o : Op} {h : H} {v : V} {s : St} (e : opM P gl noCall ev o h.st = .ok v s) : FpCls P o (.lg s.log) := by
  rw [opM_eq] at e
  cases o <;> simp only at e <;> first
    | exact other_cls rfl
    | exact cls_call (gl := gl) e
    | exact silent_cls (LogIs.ret _) e
    | exact silent_cls (LogIs.opt _ _) e
    | exact silent_cls (LogIs.err _) e
    | skip
  case slice t x lo hi mx =>
    by_cases h0 : clsS (P.underlying t) = 0
    · exact silent_cls (cls_slice.1 h0) e
    · exact reads_cls h0 cls_slice.2 e
  case convert a b x =>
    by_cases h0 : clsC (P.underlying b) = 0
    · exact silent_cls (cls_convert.1 h0) e
    · by_cases h1 : clsC (P.underlying b) = 1
      · exact reads_cls h0 (cls_convert.2 h1) e
      · refine other_cls ?_
        show clsC (P.underlying b) = 2
        unfold clsC at h0 h1 ⊢
        split at h0 <;> simp_all
  case load t a =>
    refine reads_cls (by simp [cls]) ?_ e
    unfold opLoad loadVarM constM
    repeat' (first | exact LogIs.ret _ | exact LogIs.err _ | exact LogIs.ld _ _ _ | refine LogIs.cond ?_ ?_ | refine LogIs.bnd ?_ (fun _ => ?_) | split)
  case lookup t x k ok =>
    refine reads_cls (by simp [cls]) ?_ e
    unfold lookupM
    repeat' (first | exact LogIs.ret _ | exact LogIs.err _ | exact cls_entries _ | refine LogIs.cond ?_ ?_ | refine LogIs.bnd ?_ (fun _ => ?_) | split)
  case entry it =>
    refine reads_cls (by simp [cls]) ?_ e
    unfold entryM
    repeat' (first | exact LogIs.ret _ | exact LogIs.err _ | exact LogIs.getO _ | refine LogIs.cond ?_ ?_ | refine LogIs.bnd ?_ (fun _ => ?_) | split)
  all_goals
    refine silent_cls (F := _) ?_ e
    first | unfold opPick | unfold opBuild buildM | unfold opNilCheck | unfold opMakeInterface | unfold opMakeFunc | unfold opFieldAddr | unfold opField partM | unfold opIndexAddr | unfold opIndex partM | unfold opExtract
    repeat' (first | exact LogIs.ret _ | exact LogIs.err _ | exact LogIs.opt _ _ | refine LogIs.cond ?_ ?_ | split)

theorem opW_ok {c : Cfg} {Ok : Nat → Prop} {o : Op} {env : Env} {h : H} {K : V → H → Fp → Prop} (hw : opW c Ok o env h K) : ∃ v h' fp, K v h' fp ∧ OpRan c Ok o env h v h' fp ∧ FpCls c.P o fp := by
  have plain : ∀ o : Op, (∀ k, o = .call k → ∀ f, k.callee ≠ .value f) → (match opM c.P c.gl noCall (evalE env) o h.st with
      | .ok v s => LogOk Ok h.nx s.log ∧ K v (ofSt s) (.lg s.log)
      | .fail _ => False) → ∃ v h' fp, K v h' fp ∧ OpRan c Ok o env h v h' fp ∧ FpCls c.P o fp := by
    intro o hn hm
    cases he : opM c.P c.gl noCall (evalE env) o h.st with
    | fail w => rw [he] at hm; exact hm.elim
    | ok v s =>
      rw [he] at hm
      exact ⟨v, ofSt s, .lg s.log, hm.2, plain_ran hn he hm.1, cls_ok he⟩
  cases o with
  | call k =>
    unfold opW at hw
    simp only at hw
    cases hk : k.callee with
    | value f =>
      rw [hk] at hw
      simp only at hw
      cases hf : evalE env f <;> rw [hf] at hw <;> simp only at hw
      rename_i g first cap
      obtain ⟨Ok', hsub, v, h', hr, hK⟩ := hw
      refine ⟨v, h', _, hK, fun hwf => ?_, other_cls (by simp [cls, hk])⟩
      obtain ⟨N, hN⟩ := hr hwf
      refine ⟨N, fun lf hlf n hn l0 => ?_⟩
      obtain ⟨l, h1, h2⟩ := hN lf hlf n hn l0
      refine ⟨l, ?_, h2.weak hsub, fun e he => ⟨(h2.wf hwf).2 e he, fun hw' => h2.log e he hw'⟩⟩
      rw [opM_eq]
      show opCall c.P (callM (c.at lf) n) (evalE env) k _ = _
      unfold opCall
      rw [hk]
      simp only [callV, hf]
      exact h1
    | invoke r m => rw [hk] at hw; simp only at hw; exact plain _ (fun k' e f => by cases e; rw [hk]; simp) hw
    | builtin b => rw [hk] at hw; simp only at hw; exact plain _ (fun k' e f => by cases e; rw [hk]; simp) hw
  | _ => exact plain _ (fun k e => by cases e) hw

/-! ### One operation with its guard -/

def StepRan (c : Cfg) (Ok : Nat → Prop) (A : Array Oper) (nt : Nat) (o : Oper) (env : Env) (h : H) (env' : Env) (h' : H) (fp : Fp) : Prop :=
  WF h.heap h.nx → ∃ N, ∀ lf, N ≤ lf → ∀ n, N ≤ n → ∀ tm, tmGet tm = env → ∀ l0, ∃ tm' l, stepM (c.at lf) (callM (c.at lf) n) A nt o tm ⟨h.heap, h.nx, l0⟩ = .ok tm' ⟨h'.heap, h'.nx, l ++ l0⟩ ∧ tmGet tm' = env' ∧ Ran Ok h h' l ∧ FpIs fp l

def okOper (nt : Nat) (o : Oper) : Bool := o.op.operands.toList.all operandOk && (match o.dst with
  | none => true
  | some d => Nat.blt d nt)

theorem put_ran {nt : Nat} {dst : Option Tmp} {v : V} {tm : T V} {s : St} (hd : (match dst with
  | none => true
  | some d => Nat.blt d nt) = true) : ∃ tm', putM nt dst v tm s = .ok tm' s ∧ tmGet tm' = putE dst v (tmGet tm) := by
  rw [putM_eq]
  cases dst with
  | none => exact ⟨tm, rfl, rfl⟩
  | some d =>
    simp only at hd
    refine ⟨tm.set d (some v), ?_, ?_⟩
    · simp only [hd, cond_true]; rfl
    · funext t
      rw [tmGet_set]
      rfl

theorem stepW_ok {c : Cfg} {Ok : Nat → Prop} {A : Array Oper} {nt : Nat} {o : Oper} {env : Env} {h : H} {K : Env → H → Fp → Prop} (hok : okOper nt o = true) (hw : stepW c Ok A o env h K) :
    ∃ env' h' fp, K env' h' fp ∧ StepRan c Ok A nt o env h env' h' fp ∧ FpCls c.P o.op fp := by
  obtain ⟨b, hb, hf, ht⟩ := hw
  simp only [okOper, Bool.and_eq_true] at hok
  obtain ⟨ho1, ho2⟩ := hok
  cases b with
  | false =>
    refine ⟨_, _, _, hf rfl, fun hwf => ⟨0, fun lf _ n _ tm htm l0 => ?_⟩, ⟨fun _ => rfl, fun _ => ⟨[], rfl, fun e he => by simp at he⟩⟩⟩
    obtain ⟨tm', h1, h2⟩ := put_ran (nt := nt) (dst := o.dst) (v := undefV) (tm := tm) (s := ⟨h.heap, h.nx, l0⟩) ho2
    refine ⟨tm', [], ?_, by rw [h2, htm], Ran.refl, rfl⟩
    unfold stepM
    rw [stepV_eq, wantsE_eq, htm, hb]
    exact h1
  | true =>
    obtain ⟨v, h', fp, hK, hr, hcl⟩ := opW_ok (ht rfl)
    refine ⟨_, _, _, hK, fun hwf => ?_, hcl⟩
    obtain ⟨N, hN⟩ := hr hwf
    refine ⟨N, fun lf hlf n hn tm htm l0 => ?_⟩
    obtain ⟨l, h1, h2, h3⟩ := hN lf hlf n hn l0
    obtain ⟨tm', h4, h5⟩ := put_ran (nt := nt) (dst := o.dst) (v := v) (tm := tm) (s := ⟨h'.heap, h'.nx, l ++ l0⟩) ho2
    refine ⟨tm', l, ?_, by rw [h5, htm], h2, h3⟩
    unfold stepM
    rw [stepV_eq, wantsE_eq, htm, hb]
    simp only [ho1, cond_true]
    unfold Lx.bnd
    rw [show opM (c.at lf).P (c.at lf).gl (callM (c.at lf) n) (evalO tm) o.op = opM c.P c.gl (callM (c.at lf) n) (evalE env) o.op by rw [evalO_fun, htm]; rfl, h1]
    exact h4

/-! ### A region, in the order of the text -/

def OpsRan (c : Cfg) (Ok : Nat → Prop) (A : Array Oper) (nt : Nat) (l : List Oper) (env : Env) (h : H) (env' : Env) (h' : H) : Prop :=
  WF h.heap h.nx → ∃ N, ∀ lf, N ≤ lf → ∀ n, N ≤ n → ∀ tm, tmGet tm = env → ∀ l0, ∃ tm' lg, runM (c.at lf) (callM (c.at lf) n) A nt l tm ⟨h.heap, h.nx, l0⟩ = .ok tm' ⟨h'.heap, h'.nx, lg ++ l0⟩ ∧ tmGet tm' = env' ∧ Ran Ok h h' lg

theorem step_wf {c : Cfg} {Ok : Nat → Prop} {A : Array Oper} {nt : Nat} {o : Oper} {env env' : Env} {h h' : H} {fp : Fp} (hs : StepRan c Ok A nt o env h env' h' fp) (hwf : WF h.heap h.nx) (tm : T V) (htm : tmGet tm = env) : WF h'.heap h'.nx := by
  obtain ⟨N, hN⟩ := hs hwf
  obtain ⟨_, _, _, _, hr, _⟩ := hN N (Nat.le_refl _) N (Nat.le_refl _) tm htm []
  exact (hr.wf hwf).1

theorem step_wf' {c : Cfg} {Ok : Nat → Prop} {o : Op} {env : Env} {h h' : H} {fp : Fp} {v : V} (hs : OpRan c Ok o env h v h' fp) (hwf : WF h.heap h.nx) : WF h'.heap h'.nx := by
  obtain ⟨N, hN⟩ := hs hwf
  obtain ⟨_, _, hr, _⟩ := hN N (Nat.le_refl _) N (Nat.le_refl _) []
  exact (hr.wf hwf).1

theorem wpOps_ok {c : Cfg} {Ok : Nat → Prop} {A : Array Oper} {nt : Nat} : ∀ {l : List Oper} {env : Env} {h : H} {K : Env → H → Prop}, l.all (okOper nt) = true → wpOps c Ok A l env h K → ∃ env' h', K env' h' ∧ OpsRan c Ok A nt l env h env' h'
  | [], env, h, K, _, hw => ⟨env, h, hw, fun _ => ⟨0, fun lf _ n _ tm htm l0 => ⟨tm, [], rfl, htm, Ran.refl⟩⟩⟩
  | o :: l, env, h, K, hok, hw => by
    simp only [List.all_cons, Bool.and_eq_true] at hok
    obtain ⟨env1, h1, fp, hK, hs, _⟩ := stepW_ok hok.1 hw
    obtain ⟨env2, h2, hK2, hr⟩ := wpOps_ok hok.2 hK
    refine ⟨env2, h2, hK2, fun hwf => ?_⟩
    obtain ⟨N1, hN1⟩ := hs hwf
    by_cases htm0 : ∃ tm : T V, tmGet tm = env
    · obtain ⟨tm0, htm0⟩ := htm0
      obtain ⟨N2, hN2⟩ := hr (step_wf hs hwf tm0 htm0)
      refine ⟨max N1 N2, fun lf hlf n hn tm htm l0 => ?_⟩
      obtain ⟨tm1, l1, e1, t1, r1, _⟩ := hN1 lf (by omega) n (by omega) tm htm l0
      obtain ⟨tm2, l2, e2, t2, r2⟩ := hN2 lf (by omega) n (by omega) tm1 t1 (l1 ++ l0)
      refine ⟨tm2, l2 ++ l1, ?_, t2, r1.trans r2⟩
      show Lx.bnd (stepM (c.at lf) (callM (c.at lf) n) A nt o tm) (runM (c.at lf) (callM (c.at lf) n) A nt l) _ = _
      unfold Lx.bnd
      rw [e1, List.append_assoc]
      exact e2
    · exact ⟨0, fun lf _ n _ tm htm => (htm0 ⟨tm, htm⟩).elim⟩

end Go.Wx
