/-
  Into a function; and the predicate in a form that rewriting works out: the rest of the code as a list, operations one by one.
-/
import Derived.Test.YtkibhdbmamfjcaaDoorWxD
set_option linter.unusedSimpArgs false
set_option linter.unusedVariables false
namespace Go.Wx
open Go.Lx
noncomputable section

/-! ### Values of a heap, read -/

def rdC (ob : Option Ob) (o n : Nat) : Option (List V) := match ob with
  | some (.cells c _ _) => bif Nat.ble (o + n) c.length then some (sub c o n) else none
  | _ => none
def oneV : Option (List V) → Option V
  | some [v] => some v
  | _ => none
/-- a type's size, and whether its values lie in several places -/
def tyR (P : Program) (t : TypeId) : Option (Nat × Bool) := match P.underlying t, szT P t with
  | some d, some n => some (n, isAggD d)
  | _, _ => none
def rdV (r : Option (Nat × Bool)) (ob : Option Ob) (o : Nat) : Option V := match r with
  | some (n, true) => (rdC ob o n).map V.agg
  | some (_, false) => oneV (rdC ob o 1)
  | none => none

theorem ld_rdC {k o n : Nat} {s : St} {cs : List V} (h : rdC (s.heap.get k) o n = some cs) : Lx.ld k o n s = .ok cs { s with log := .rd k o n :: s.log } := by
  unfold rdC at h
  unfold Lx.ld
  cases hg : s.heap.get k with
  | none => rw [hg] at h; cases h
  | some ob =>
    rw [hg] at h
    cases ob <;> simp only at h <;> try (cases h; done)
    rename_i c e p
    cases hb : Nat.ble (o + n) c.length with
    | false => rw [hb] at h; cases h
    | true => rw [hb] at h; cases h; simp [hb]

theorem loadVar_rdV {P : Program} {t : TypeId} {k o : Nat} {s : St} {v : V} (h : rdV (tyR P t) (s.heap.get k) o = some v) : ∃ n, loadVarM P t k o s = .ok v { s with log := .rd k o n :: s.log } := by
  unfold tyR at h
  unfold loadVarM
  cases hd : P.underlying t with
  | none => rw [hd] at h; cases h
  | some d =>
    cases hz : szT P t with
    | none => rw [hd, hz] at h; cases h
    | some n =>
      rw [hd, hz] at h
      simp only at h
      cases ha : isAggD d with
      | true =>
        rw [ha] at h
        simp only [rdV] at h
        cases hc : rdC (s.heap.get k) o n with
        | none => rw [hc] at h; cases h
        | some cs =>
          rw [hc] at h; cases h
          refine ⟨n, ?_⟩
          simp only [ha, cond_true]
          rw [bnd_eq (ld_rdC hc)]
          rfl
      | false =>
        rw [ha] at h
        simp only [rdV] at h
        cases hc : rdC (s.heap.get k) o 1 with
        | none => rw [hc] at h; cases h
        | some cs =>
          rw [hc] at h
          refine ⟨1, ?_⟩
          simp only [ha, cond_false]
          rw [bnd_eq (ld_rdC hc)]
          unfold oneV at h
          split at h
          · rename_i v' e; cases e; cases h; rfl
          · cases h

/-! ### Into a function -/

def resV (P : Program) (hp : T Ob) (env : Env) : List ResultVar → Option (List V)
  | [] => some []
  | .tmp t :: l => (resV P hp env l).map (env t :: ·)
  | .cell a t :: l => match env a with
    | .ptr k o => (rdV (tyR P t) (hp.get k) o).bind fun v => (resV P hp env l).map (v :: ·)
    | _ => none

def resW (r : Option (List V)) (h : H) (K : V → H → Prop) : Prop := match r with
  | some vs => K (oneOf vs) h
  | none => False

def endQ (c : Cfg) (rs : List ResultVar) (K : V → H → Prop) : Ex → Env → H → Prop
  | .exit _, _, _ => False
  | .goto _, _, _ => False
  | _, env, h => resW (resV c.P h.heap env rs) h K

def argE' : List V → Nat → Env → Env
  | [], _, env => env
  | v :: l, i, env => argE' l (i + 1) (upd env i v)
def argE (l : List V) : Env := argE' l 0 fun _ => undefV

theorem setArgs_env : ∀ (l : List V) (i : Nat) (tm : T V), tmGet (setArgs l i tm) = argE' l i (tmGet tm)
  | [], i, tm => rfl
  | v :: l, i, tm => by
    show tmGet (setArgs l (i + 1) (tm.set i (some v))) = argE' l (i + 1) (upd (tmGet tm) i v)
    rw [setArgs_env]
    congr 1
    funext t
    rw [tmGet_set]
    rfl

theorem okOps_mono {n m : Nat} (hm : n ≤ m) {A : Array Oper} (h : okOps n A = true) : okOps m A = true := by
  unfold okOps at h ⊢
  rw [List.all_eq_true] at h ⊢
  intro o ho
  have := h o ho
  simp only [Bool.and_eq_true] at this ⊢
  refine ⟨this.1, ?_⟩
  have h2 := this.2
  cases hd : o.dst with
  | none => rfl
  | some d =>
    rw [hd] at h2
    simp only [Nat.blt_eq] at h2 ⊢
    omega

theorem okCode_mono {n m : Nat} (hm : n ≤ m) : ∀ {x : Code}, okCode n x = true → okCode m x = true
  | .region _ A _, h => okOps_mono hm h
  | .seq a b, h => by simp only [okCode, Bool.and_eq_true] at h ⊢; exact ⟨okCode_mono hm h.1, okCode_mono hm h.2⟩
  | .cond x a b, h => by simp only [okCode, Bool.and_eq_true] at h ⊢; exact ⟨⟨h.1.1, okCode_mono hm h.1.2⟩, okCode_mono hm h.2⟩
  | .block _ a, h => okCode_mono (x := a) hm h
  | .loop a, h => okCode_mono (x := a) hm h
  | .skip, _ | .label _, _ | .exit _, _ | .ret, _ | .rangeFunc .., _ | .scope _, _ | .goto _, _ | .refuse _, _ => rfl

theorem deferM_none {c : Cfg} {call : FuncId → List V → M V} {nt : Nat} : ∀ {x : Code} {tm : T V} {s : St}, noDefer x = true → deferM c call nt x tm s = Lx.bnd (codeM c call nt x tm) (fun q => Lx.ret (q, none)) s
  | .seq a b, tm, s, h => by
    simp only [noDefer, Bool.and_eq_true] at h
    show Lx.bnd (deferM c call nt a tm) _ s = Lx.bnd (andThen (codeM c call nt a tm) (codeM c call nt b)) _ s
    unfold Lx.bnd andThen
    rw [deferM_none h.1]
    unfold Lx.bnd
    cases codeM c call nt a tm s with
    | fail w => rfl
    | ok r s1 =>
      obtain ⟨ex, tm1⟩ := r
      cases ex with
      | normal =>
        show deferM c call nt b tm1 s1 = _
        rw [deferM_none h.2]
        rfl
      | exit i => rfl
      | ret => rfl
      | goto l => rfl
  | .region id A d, tm, s, h => by
    simp only [noDefer, Bool.or_eq_true] at h
    unfold deferM
    cases d with
    | true => rfl
    | false =>
      have h : (lastDefer A.toList).isNone = true := by simpa using h
      cases hl : lastDefer A.toList with
      | none => rfl
      | some p => rw [hl] at h; cases h
  | .skip, _, _, _ | .label _, _, _, _ | .exit _, _, _, _ | .ret, _, _, _ | .rangeFunc .., _, _, _ | .scope _, _, _, _ | .goto _, _, _, _ | .refuse _, _, _, _ | .cond .., _, _, _ | .block .., _, _, _ | .loop _, _, _, _ => rfl

theorem resultsM_ok {P : Program} : ∀ {rs : List ResultVar} {tm : T V} {s : St} {vs : List V}, resV P s.heap (tmGet tm) rs = some vs → ∃ l, resultsM P tm rs s = .ok vs { s with log := l ++ s.log } ∧ ∀ e ∈ l, e.isW = false ∧ s.heap.get (blkOf e) ≠ none
  | [], tm, s, vs, h => by cases h; exact ⟨[], rfl, fun e he => by simp at he⟩
  | .tmp t :: l, tm, s, vs, h => by
    simp only [resV] at h
    cases hr : resV P s.heap (tmGet tm) l with
    | none => rw [hr] at h; cases h
    | some ws =>
      rw [hr] at h; cases h
      obtain ⟨lg, h1, h2⟩ := resultsM_ok hr
      exact ⟨lg, by show Lx.bnd _ _ _ = _; rw [bnd_eq h1]; rfl, h2⟩
  | .cell a t :: l, tm, s, vs, h => by
    simp only [resV] at h
    show ∃ lg, (match tmGet tm a with
      | .ptr k o => bnd (loadVarM P t k o) fun v => bnd (resultsM P tm l) fun vs => Lx.ret (v :: vs)
      | _ => err "result") s = _ ∧ _
    cases ha : tmGet tm a <;> rw [ha] at h <;> simp only at h <;> try (cases h; done)
    rename_i k o
    cases hv : rdV (tyR P t) (s.heap.get k) o with
    | none => rw [hv] at h; cases h
    | some v =>
      rw [hv] at h
      cases hr : resV P s.heap (tmGet tm) l with
      | none => rw [hr] at h; cases h
      | some ws =>
        rw [hr] at h; cases h
        obtain ⟨n, h0⟩ := loadVar_rdV hv
        obtain ⟨lg, h1, h2⟩ := resultsM_ok (s := { s with log := .rd k o n :: s.log }) hr
        refine ⟨lg ++ [.rd k o n], ?_, fun e he => ?_⟩
        · simp only
          rw [bnd_eq h0, bnd_eq h1]
          simp [Lx.ret]
        · rcases List.mem_append.1 he with he | he
          · exact h2 e he
          · simp at he; subst he
            refine ⟨rfl, fun hn => ?_⟩
            have hn : s.heap.get k = none := hn
            rw [hn] at hv
            unfold rdV at hv
            split at hv <;> simp [rdC, oneV] at hv

/-- a function is gone into -/
theorem callW_intro {c : Cfg} {Ok : Nat → Prop} {f : FuncId} {fn : Func} {code : Code} {args : List V} {h : H} {K : V → H → Prop}
    (hf : c.P.funcs[f]? = some fn) (hs : c.sum f = none) (hn : (fn.name == "runtime.NumGoroutine") = false) (hb : fn.body = some code) (hok : okCode fn.ntmps code = true) (hd : noDefer code = true)
    (hw : wpC c Ok code (argE args) h (endQ c fn.results.toList K)) : callW c Ok f args h K := by
  obtain ⟨ex, env', h', hQ, hr⟩ := wpC_ok (nt := max args.length fn.ntmps) (okCode_mono (Nat.le_max_right _ _) hok) hw
  have hres : ∃ vs, resV c.P h'.heap env' fn.results.toList = some vs ∧ K (oneOf vs) h' ∧ (ex = .normal ∨ ex = .ret) := by
    have key : resW (resV c.P h'.heap env' fn.results.toList) h' K → ∃ vs, resV c.P h'.heap env' fn.results.toList = some vs ∧ K (oneOf vs) h' := by
      intro hq
      cases hv : resV c.P h'.heap env' fn.results.toList with
      | none => rw [hv] at hq; exact hq.elim
      | some vs => rw [hv] at hq; exact ⟨vs, rfl, hq⟩
    cases ex with
    | normal => obtain ⟨vs, a, b⟩ := key hQ; exact ⟨vs, a, b, .inl rfl⟩
    | ret => obtain ⟨vs, a, b⟩ := key hQ; exact ⟨vs, a, b, .inr rfl⟩
    | exit i => exact hQ.elim
    | goto l => exact hQ.elim
  obtain ⟨vs, hvs, hK, hex⟩ := hres
  refine ⟨oneOf vs, h', fun hwf => ?_, hK⟩
  obtain ⟨N, hN⟩ := hr hwf
  refine ⟨N + 1, fun lf hlf n hn' l0 => ?_⟩
  obtain ⟨n', rfl⟩ : ∃ n', n = n' + 1 := ⟨n - 1, by omega⟩
  have hN := hN lf (by omega) n' (by omega)
  obtain ⟨tm', l, e1, t1, r1⟩ := hN (setArgs args 0 .leaf) (by rw [setArgs_env]; rfl) l0
  obtain ⟨lg, e2, w2⟩ := resultsM_ok (P := c.P) (rs := fn.results.toList) (tm := tm') (s := ⟨h'.heap, h'.nx, l ++ l0⟩) (vs := vs) (by rw [t1]; exact hvs)
  refine ⟨lg ++ l, ?_, ?_⟩
  · show (match (c.at lf).sum f with
      | some g => g args
      | none => match (c.at lf).P.funcs[f]? with
        | some fn => bif fn.name == "runtime.NumGoroutine" then err "goroutines" else match fn.body with
          | some code => bodyM (c.at lf) (callM (c.at lf) n') fn code args
          | none => err "no body"
        | none => err "no function") _ = _
    rw [show (c.at lf).sum f = none from hs]
    simp only
    rw [show (c.at lf).P.funcs[f]? = some fn from hf]
    simp only [hn, cond_false, hb]
    have e1' : deferM (c.at lf) (callM (c.at lf) n') (max args.length fn.ntmps) code (setArgs args 0 .leaf) ⟨h.heap, h.nx, l0⟩ = .ok ((ex, tm'), none) ⟨h'.heap, h'.nx, l ++ l0⟩ := by
      rw [deferM_none hd]
      rw [bnd_eq (show codeM (c.at lf) (callM (c.at lf) n') (max args.length fn.ntmps) code (setArgs args 0 .leaf) ⟨h.heap, h.nx, l0⟩ = _ from e1)]
      rfl
    unfold bodyM
    rw [bnd_eq e1']
    have e3 : resultsM (c.at lf).P tm' fn.results.toList ⟨h'.heap, h'.nx, l ++ l0⟩ = .ok vs ⟨h'.heap, h'.nx, lg ++ (l ++ l0)⟩ := e2
    rcases hex with rfl | rfl
    · show Lx.bnd (laterM _ _ none) _ _ = _
      rw [bnd_eq (show laterM (c.at lf) (callM (c.at lf) n') none ⟨h'.heap, h'.nx, l ++ l0⟩ = .ok undefV ⟨h'.heap, h'.nx, l ++ l0⟩ from rfl), bnd_eq e3, List.append_assoc]
      rfl
    · show Lx.bnd (laterM _ _ none) _ _ = _
      rw [bnd_eq (show laterM (c.at lf) (callM (c.at lf) n') none ⟨h'.heap, h'.nx, l ++ l0⟩ = .ok undefV ⟨h'.heap, h'.nx, l ++ l0⟩ from rfl), bnd_eq e3, List.append_assoc]
      rfl
  · refine r1.trans ⟨Nat.le_refl _, fun e he hw => ?_, fun w => ⟨w, fun e he => w _ (w2 e he).2⟩⟩
    rw [(w2 e he).1] at hw
    cases hw

/-- a function that another one stands in for -/
theorem callW_sum {c : Cfg} {Ok : Nat → Prop} {f : FuncId} {g : List V → M V} {args : List V} {h : H} {K : V → H → Prop} {v : V} {s : St} (hs : c.sum f = some g) (hn : Nice (g args)) (he : g args h.st = .ok v s) (hl : LogOk Ok h.nx s.log) (hK : K v (ofSt s)) : callW c Ok f args h K := by
  refine ⟨v, ofSt s, fun hwf => ⟨1, fun lf _ n hn' l0 => ⟨s.log, ?_, hn.mono _ _ _ _ he, hl, fun w => hn.wf _ _ _ _ he w⟩⟩, hK⟩
  obtain ⟨n', rfl⟩ : ∃ n', n = n' + 1 := ⟨n - 1, by omega⟩
  show (match (c.at lf).sum f with
      | some g => g args
      | none => _) _ = _
  rw [show (c.at lf).sum f = some g from hs]
  show g args _ = _
  rw [hn.irr]
  change addLog l0 (g args h.st) = _
  rw [he]
  rfl

theorem callW_mono {c : Cfg} {Ok Ok' : Nat → Prop} {f : FuncId} {args : List V} {h : H} {K K' : V → H → Prop} (hw : callW c Ok f args h K) (ho : ∀ k, Ok k → Ok' k) (hk : ∀ v h', K v h' → K' v h') : callW c Ok' f args h K' := by
  obtain ⟨v, h', hr, hK⟩ := hw
  refine ⟨v, h', fun hwf => ?_, hk _ _ hK⟩
  obtain ⟨N, hN⟩ := hr hwf
  refine ⟨N, fun lf hlf n hn l0 => ?_⟩
  obtain ⟨l, h1, h2⟩ := hN lf hlf n hn l0
  exact ⟨l, h1, h2.weak ho⟩

/-- what comes of it: the machine's run -/
theorem callW_run {c : Cfg} {Ok : Nat → Prop} {f : FuncId} {args : List V} {K : V → H → Prop} (hw : callW c Ok f args ⟨.leaf, 0⟩ K) : ∃ v h' lf n l, callM (c.at lf) (n + 1) f args ⟨.leaf, 0, []⟩ = .ok v ⟨h'.heap, h'.nx, l⟩ ∧ K v h' := by
  obtain ⟨v, h', hr, hK⟩ := hw
  obtain ⟨N, hN⟩ := hr fun k hk => by simp [T.get_leaf] at hk
  obtain ⟨l, h1, _⟩ := hN N (Nat.le_refl _) (N + 1) (by omega) []
  exact ⟨v, h', N, N, l ++ [], h1, hK⟩

end
end Go.Wx
