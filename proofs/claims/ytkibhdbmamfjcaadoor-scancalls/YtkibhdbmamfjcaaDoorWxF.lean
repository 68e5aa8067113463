/-
  The predicate in a form that rewriting works out: the rest of the code as a list, operations one by one, what stands under a guard.
-/
import Derived.Test.YtkibhdbmamfjcaaDoorWxE
set_option linter.unusedSimpArgs false
set_option linter.unusedVariables false
namespace Go.Wx
open Go.Lx
noncomputable section

/-! ### The rest of the code -/

inductive Kt where
  | seq (b : Code)
  | blk (id : Nat)
  | lp (J : Env → H → Prop)

def kont (c : Cfg) (Ok : Nat → Prop) : List Kt → (Ex → Env → H → Prop) → Ex → Env → H → Prop
  | [], Q => Q
  | .seq b :: k, Q => fun ex env h => match ex with
    | .normal => wpC c Ok b env h (kont c Ok k Q)
    | e => kont c Ok k Q e env h
  | .blk id :: k, Q => fun ex env h => match ex with
    | .exit i => kont c Ok k Q (bif Nat.beq i id then .normal else .exit i) env h
    | e => kont c Ok k Q e env h
  | .lp J :: k, Q => fun ex env h => match ex with
    | .normal => J env h
    | e => kont c Ok k Q e env h

def run (c : Cfg) (Ok : Nat → Prop) (k : List Kt) (x : Code) (env : Env) (h : H) (Q : Ex → Env → H → Prop) : Prop := wpC c Ok x env h (kont c Ok k Q)
def runOps (c : Cfg) (Ok : Nat → Prop) (k : List Kt) (Q : Ex → Env → H → Prop) (A : Array Oper) (l : List Oper) (env : Env) (h : H) : Prop := wpOps c Ok A l env h fun env' h' => kont c Ok k Q .normal env' h'
def runD (c : Cfg) (Ok : Nat → Prop) (k : List Kt) (Q : Ex → Env → H → Prop) (pairs : List (Nat × Nat)) (A : Array Oper) (l : List Oper) (acc : List Fp) (env : Env) (h : H) : Prop :=
  wpOpsL c Ok A l acc env h fun fps env' h' => (∀ p ∈ pairs, ∀ a b, fps[p.1]? = some a → fps[p.2]? = some b → fpApart a b) ∧ kont c Ok k Q .normal env' h'
/-- a region whose order is open, not yet looked at -/
def runDraw (c : Cfg) (Ok : Nat → Prop) (k : List Kt) (Q : Ex → Env → H → Prop) (A : Array Oper) (env : Env) (h : H) : Prop := wpDraw c Ok A env h fun env' h' => kont c Ok k Q .normal env' h'
def kOps (c : Cfg) (Ok : Nat → Prop) (k : List Kt) (Q : Ex → Env → H → Prop) (A : Array Oper) (l : List Oper) (dst : Option Tmp) (env : Env) : V → H → Fp → Prop := fun v h _ => runOps c Ok k Q A l (putE dst v env) h
def kOpsD (c : Cfg) (Ok : Nat → Prop) (k : List Kt) (Q : Ex → Env → H → Prop) (pairs : List (Nat × Nat)) (A : Array Oper) (l : List Oper) (acc : List Fp) (dst : Option Tmp) (env : Env) : V → H → Fp → Prop := fun v h fp => runD c Ok k Q pairs A l (acc ++ [fp]) (putE dst v env) h

/-- true or false, by a statement -/
def bo (p : Prop) : V := .bool (@decide p (Classical.propDecidable p))
/-- a value that is there where p holds -/
def gv (p : Prop) (v : V) : V := @ite V p (Classical.propDecidable p) v undefV
def pk (p : Prop) (a b : V) : V := @ite V p (Classical.propDecidable p) a b
def imp (p q : Prop) : Prop := p → q
def glog (p : Prop) (l : List LE) : List LE := @ite _ p (Classical.propDecidable p) l []
def optP (ok : Prop) (v : V) (lg : List LE) (h : H) (K : V → H → Fp → Prop) : Prop := ok ∧ K v h (.lg lg)

def condW (v : V) (A B : Prop) : Prop := ∃ t, v = .bool t ∧ (t = true → A) ∧ (t = false → B)
/-- the value of a guard's slot -/
def slotL : List Oper → Nat → Env → V
  | [], _, _ => .nilptr
  | o :: _, 0, env => match o.dst with
    | some d => env d
    | none => .nilptr
  | _ :: l, n + 1, env => slotL l n env
def slotV (A : Array Oper) (n : Nat) (env : Env) : V := slotL A.toList n env
def guardOk (v : V) : Prop := (∃ b, v = .bool b) ∨ v = undefV
def guardP (v : V) (w : Bool) : Prop := v = .bool w
def gOp (c : Cfg) (Ok : Nat → Prop) (p : Prop) (op : Op) (env : Env) (h : H) (K : V → H → Fp → Prop) : Prop := (p → opW c Ok op env h K) ∧ (¬ p → K undefV h (.lg []))
def gOpIf (c : Cfg) (Ok : Nat → Prop) (v : V) (w : Bool) (op : Op) (env : Env) (h : H) (K : V → H → Fp → Prop) : Prop := guardOk v ∧ gOp c Ok (guardP v w) op env h K

@[congr] theorem gv_congr {p p' : Prop} {v v' : V} (hp : p = p') (hv : p' → v = v') : gv p v = gv p' v' := by
  subst hp
  unfold gv
  by_cases h : p
  · simp [h, hv h]
  · simp [h]
@[congr] theorem imp_congr' {p p' q q' : Prop} (hp : p = p') (hq : p' → q = q') : imp p q = imp p' q' := by
  subst hp
  unfold imp
  exact propext ⟨fun h a => (hq a) ▸ h a, fun h a => (hq a).symm ▸ h a⟩
@[congr] theorem pk_congr {p p' : Prop} {a a' b b' : V} (hp : p = p') (ha : p' → a = a') (hb : ¬ p' → b = b') : pk p a b = pk p' a' b' := by
  subst hp
  unfold pk
  by_cases h : p
  · simp [h, ha h]
  · simp [h, hb h]

section
variable {c : Cfg} {Ok : Nat → Prop} {k : List Kt} {Q : Ex → Env → H → Prop} {env : Env} {h : H}

theorem run_skip : run c Ok k .skip env h Q = kont c Ok k Q .normal env h := rfl
theorem run_label (l : Nat) : run c Ok k (.label l) env h Q = kont c Ok k Q .normal env h := rfl
theorem run_seq (a b : Code) : run c Ok k (.seq a b) env h Q = run c Ok (.seq b :: k) a env h Q := rfl
theorem run_block (id : Nat) (a : Code) : run c Ok k (.block id a) env h Q = run c Ok (.blk id :: k) a env h Q := rfl
theorem run_exit (i : Nat) : run c Ok k (.exit i) env h Q = kont c Ok k Q (.exit i) env h := rfl
theorem run_ret : run c Ok k .ret env h Q = kont c Ok k Q .ret env h := rfl
theorem run_region (id : Nat) (l : List Oper) : run c Ok k (.region id ⟨l⟩ false) env h Q = runOps c Ok k Q ⟨l⟩ l env h := rfl
theorem run_regionA (id : Nat) (l : List Oper) : run c Ok k (.region id l.toArray false) env h Q = runOps c Ok k Q ⟨l⟩ l env h := rfl
theorem run_region0 (id : Nat) : run c Ok k (.region id #[] false) env h Q = kont c Ok k Q .normal env h := rfl
theorem run_draw (id : Nat) (A : Array Oper) : run c Ok k (.region id A true) env h Q = runDraw c Ok k Q A env h := rfl
theorem run_cond (x : Operand) (a b : Code) : run c Ok k (.cond x a b) env h Q = condW (evalE env x) (run c Ok k a env h Q) (run c Ok k b env h Q) := rfl
theorem kont_nil (ex : Ex) : kont c Ok [] Q ex env h = Q ex env h := rfl
theorem kont_seq (b : Code) : kont c Ok (.seq b :: k) Q .normal env h = run c Ok k b env h Q := rfl
theorem kont_seq_exit (b : Code) (i : Nat) : kont c Ok (.seq b :: k) Q (.exit i) env h = kont c Ok k Q (.exit i) env h := rfl
theorem kont_seq_ret (b : Code) : kont c Ok (.seq b :: k) Q .ret env h = kont c Ok k Q .ret env h := rfl
theorem kont_blk (id : Nat) : kont c Ok (.blk id :: k) Q .normal env h = kont c Ok k Q .normal env h := rfl
theorem kont_blk_ret (id : Nat) : kont c Ok (.blk id :: k) Q .ret env h = kont c Ok k Q .ret env h := rfl
theorem kont_blk_exit (id i : Nat) : kont c Ok (.blk id :: k) Q (.exit i) env h = if i = id then kont c Ok k Q .normal env h else kont c Ok k Q (.exit i) env h := by
  show kont c Ok k Q (bif Nat.beq i id then .normal else .exit i) env h = _
  by_cases hi : i = id
  · simp [hi]
  · have : Nat.beq i id = false := by
      cases hb : Nat.beq i id with
      | false => rfl
      | true => exact (hi (Nat.eq_of_beq_eq_true hb)).elim
    simp [hi, this]
theorem kont_lp (J : Env → H → Prop) : kont c Ok (.lp J :: k) Q .normal env h = J env h := rfl
theorem kont_lp_exit (J : Env → H → Prop) (i : Nat) : kont c Ok (.lp J :: k) Q (.exit i) env h = kont c Ok k Q (.exit i) env h := rfl
theorem kont_lp_ret (J : Env → H → Prop) : kont c Ok (.lp J :: k) Q .ret env h = kont c Ok k Q .ret env h := rfl

/-- a loop, with what holds at its head -/
theorem run_loop {a : Code} (I : Nat → Env → H → Prop) (m : Nat) (hI : I m env h) (hs : ∀ m env h, I m env h → run c Ok (.lp (fun env' h' => ∃ m', m' < m ∧ I m' env' h') :: k) a env h Q) : run c Ok k (.loop a) env h Q := by
  refine ⟨I, ⟨m, hI⟩, fun m env1 h1 hI1 => ?_⟩
  have := hs m env1 h1 hI1
  unfold run at this
  have e : kont c Ok (.lp (fun env' h' => ∃ m', m' < m ∧ I m' env' h') :: k) Q = fun ex env' h' => match ex with
    | .normal => ∃ m', m' < m ∧ I m' env' h'
    | e => kont c Ok k Q e env' h' := rfl
  rw [e] at this
  exact this

theorem runOps_nil (A : Array Oper) : runOps c Ok k Q A [] env h = kont c Ok k Q .normal env h := rfl
theorem stepW_none {A : Array Oper} {dst : Option Tmp} {op : Op} {ty : TypeId} {pos : String} {af : Array Edge} {K : Env → H → Fp → Prop} : stepW c Ok A ⟨dst, op, ty, pos, af, none⟩ env h K = opW c Ok op env h fun v h' fp => K (putE dst v env) h' fp := by
  unfold stepW
  refine propext ⟨fun ⟨b, h1, h2, h3⟩ => ?_, fun h0 => ⟨true, rfl, fun e => (by cases e), fun _ => h0⟩⟩
  have : b = true := by simpa [wantsE] using h1.symm
  exact h3 this
theorem slotL_get : ∀ (l : List Oper) (j : Nat) (env : Env), (match (l[j]?).bind (fun q => q.dst) with
    | some d => env d
    | none => .nilptr) = slotL l j env
  | [], j, env => by simp [slotL]
  | o :: l, 0, env => by simp only [List.getElem?_cons_zero, Option.bind_some, slotL]
  | o :: l, j + 1, env => by rw [List.getElem?_cons_succ]; exact slotL_get l j env

theorem stepW_some {A : Array Oper} {dst : Option Tmp} {op : Op} {ty : TypeId} {pos : String} {af : Array Edge} {j : Nat} {w : Bool} {K : Env → H → Fp → Prop} :
    stepW c Ok A ⟨dst, op, ty, pos, af, some (j, w)⟩ env h K = gOpIf c Ok (slotV A j env) w op env h fun v h' fp => K (putE dst v env) h' fp := by
  have hsl := slotL_get A.toList j env
  unfold gOpIf gOp slotV
  have hw : wantsE A env ⟨dst, op, ty, pos, af, some (j, w)⟩ = (match slotL A.toList j env with
      | .bool b => some (b == w)
      | .tuple [] => some false
      | _ => none) := by
    rw [← hsl]
    unfold wantsE
    have hA : A[j]? = A.toList[j]? := by simp
    dsimp only
    rw [hA]
    cases (A.toList[j]?).bind (fun q => q.dst) <;> rfl
  unfold stepW
  rw [hw]
  generalize slotL A.toList j env = v
  unfold guardOk guardP
  refine propext ⟨fun hh => ?_, fun ⟨h1, h2, h3⟩ => ?_⟩
  · obtain ⟨b, h1, h2, h3⟩ := hh
    cases v <;> try (cases h1; done)
    · rename_i b'
      cases h1
      refine ⟨.inl ⟨b', rfl⟩, fun e => h3 (by cases e; simp), fun e => h2 ?_⟩
      cases hb : (b' == w) with
      | false => rfl
      | true => exact (e (by rw [eq_of_beq hb])).elim
    · rename_i vs
      cases vs with
      | nil => cases h1; exact ⟨.inr rfl, fun e => (by cases e), fun _ => h2 rfl⟩
      | cons x l => cases h1
  · rcases h1 with ⟨b, rfl⟩ | rfl
    · refine ⟨b == w, rfl, fun e => h3 fun e' => ?_, fun e => h2 (by rw [eq_of_beq e])⟩
      cases e'
      simp at e
    · exact ⟨false, rfl, fun _ => h3 fun e => (by cases e), fun e => (by cases e)⟩

variable {A : Array Oper} {l : List Oper} {dst : Option Tmp} {op : Op} {ty : TypeId} {pos : String} {af : Array Edge} {j : Nat} {w : Bool}
theorem runOps_cons : runOps c Ok k Q A (⟨dst, op, ty, pos, af, none⟩ :: l) env h = opW c Ok op env h (kOps c Ok k Q A l dst env) := by
  unfold runOps; exact stepW_none
theorem runOps_guard : runOps c Ok k Q A (⟨dst, op, ty, pos, af, some (j, w)⟩ :: l) env h = gOpIf c Ok (slotV A j env) w op env h (kOps c Ok k Q A l dst env) := by
  unfold runOps; exact stepW_some
theorem kOps_def {v : V} {fp : Fp} : kOps c Ok k Q A l dst env v h fp = runOps c Ok k Q A l (putE dst v env) h := rfl
variable {pairs : List (Nat × Nat)} {acc : List Fp}
theorem runD_nil : runD c Ok k Q pairs A [] acc env h = ((∀ p ∈ pairs, ∀ a b, acc[p.1]? = some a → acc[p.2]? = some b → fpApart a b) ∧ kont c Ok k Q .normal env h) := rfl
theorem runD_cons : runD c Ok k Q pairs A (⟨dst, op, ty, pos, af, none⟩ :: l) acc env h = opW c Ok op env h (kOpsD c Ok k Q pairs A l acc dst env) := by
  unfold runD; exact stepW_none
theorem runD_guard : runD c Ok k Q pairs A (⟨dst, op, ty, pos, af, some (j, w)⟩ :: l) acc env h = gOpIf c Ok (slotV A j env) w op env h (kOpsD c Ok k Q pairs A l acc dst env) := by
  unfold runD; exact stepW_some
theorem kOpsD_def {v : V} {fp : Fp} : kOpsD c Ok k Q pairs A l acc dst env v h fp = runD c Ok k Q pairs A l (acc ++ [fp]) (putE dst v env) h := rfl
/-- a region whose order is open: 'pairs' are those that must be looked at -/
theorem draw_by (pairs : List (Nat × Nat)) (hd : drawOk c.P A pairs = true) (hr : runD c Ok k Q pairs A A.toList [] env h) : runDraw c Ok k Q A env h := ⟨pairs, hd, hr⟩
end

theorem putE_some (d : Tmp) (v : V) (env : Env) : putE (some d) v env = upd env d v := rfl
theorem putE_none (v : V) (env : Env) : putE none v env = env := rfl
theorem upd_app (env : Env) (d : Nat) (v : V) (t : Nat) : upd env d v t = if t = d then v else env t := rfl
theorem evalE_tmp (env : Env) (t : Tmp) : evalE env (.tmp t) = env t := rfl
theorem evalE_func (env : Env) (f : FuncId) : evalE env (.func f) = .func f [] [] := rfl
theorem evalE_global (env : Env) (g : Nat) : evalE env (.global g) = .gptr g 0 := rfl
theorem evalE_int (env : Env) (k : IntKind) (n : Int) : evalE env (.const (.int k n)) = .int k n := rfl
theorem evalE_true (env : Env) : evalE env (.const (.bool true)) = bo True := by simp [bo]; rfl
theorem evalE_false (env : Env) : evalE env (.const (.bool false)) = bo False := by simp [bo]; rfl
theorem evalE_str (env : Env) (l : List UInt8) : evalE env (.const (.string ⟨⟨l⟩⟩)) = .str (l.map (·.toNat)) := rfl
theorem evalE_nilslice (env : Env) : evalE env (.const (.slice none 0 0)) = .nilslice := rfl
theorem evalE_nilptr (env : Env) : evalE env (.const (.pointer none)) = .nilptr := rfl
theorem evalE_nilmap (env : Env) : evalE env (.const (.map none)) = .nilmap := rfl
theorem evalE_nilfunc (env : Env) : evalE env (.const .nilFunc) = .nilfunc := rfl
theorem slotV_def (l : List Oper) (n : Nat) (env : Env) : slotV ⟨l⟩ n env = slotL l n env := rfl
theorem slotL_zero (d : Tmp) (op : Op) (ty : TypeId) (pos : String) (af : Array Edge) (g : Option (Nat × Bool)) (l : List Oper) (env : Env) : slotL (⟨some d, op, ty, pos, af, g⟩ :: l) 0 env = env d := rfl
theorem slotL_succ (o : Oper) (l : List Oper) (n : Nat) (env : Env) : slotL (o :: l) (n + 1) env = slotL l n env := rfl

/-! ### true and false, guards -/

theorem bo_bool (b : Bool) : V.bool b = bo (b = true) := by unfold bo; cases b <;> simp
theorem bo_true : bo True = .bool true := by simp [bo]
theorem bo_false : bo False = .bool false := by simp [bo]
theorem bo_eq {p q : Prop} (h : p ↔ q) : bo p = bo q := by rw [propext h]
theorem bo_dec (p : Prop) [Decidable p] : V.bool (decide p) = bo p := by unfold bo; congr
theorem bo_inj {p : Prop} {b : Bool} : bo p = .bool b ↔ (p ↔ b = true) := by
  unfold bo
  by_cases hp : p <;> cases b <;> simp [hp]
theorem condW_bo {p A B : Prop} : condW (bo p) A B = ((p → A) ∧ (¬ p → B)) := by
  unfold condW bo
  by_cases hp : p
  · simp [hp]
  · simp [hp]
theorem condW_bool {b : Bool} {A B : Prop} : condW (.bool b) A B = ((b = true → A) ∧ (b = false → B)) := by
  unfold condW; cases b <;> simp
theorem guardOk_bo {p : Prop} : guardOk (bo p) = True := by unfold guardOk bo; simp
theorem guardOk_gv {p : Prop} {v : V} : guardOk (gv p v) = imp p (guardOk v) := by
  unfold gv imp
  by_cases hp : p
  · simp [hp]
  · simp [hp, guardOk]
theorem guardOk_bool {b : Bool} : guardOk (.bool b) = True := by unfold guardOk; simp
theorem guardP_true {p : Prop} : guardP (bo p) true = p := by unfold guardP; rw [bo_inj]; simp
theorem guardP_false {p : Prop} : guardP (bo p) false = ¬ p := by unfold guardP; rw [bo_inj]; simp
theorem guardP_bool {b w : Bool} : guardP (.bool b) w = (b = w) := by unfold guardP; simp
theorem guardP_gv {p : Prop} {v : V} {w : Bool} : guardP (gv p v) w = (p ∧ guardP v w) := by
  unfold guardP gv
  by_cases hp : p
  · simp [hp]
  · simp [hp, undefV]
theorem guardOk_undef : guardOk undefV = True := by simp [guardOk]
theorem guardP_undef {w : Bool} : guardP undefV w = False := by simp [guardP, undefV]
theorem gv_true {v : V} : gv True v = v := by simp [gv]
theorem gv_false {v : V} : gv False v = undefV := by simp [gv]
theorem imp_true_l {q : Prop} : imp True q = q := by simp [imp]
theorem imp_true_r {p : Prop} : imp p True = True := by simp [imp]
theorem imp_false_l {q : Prop} : imp False q = True := by simp [imp]
theorem imp_and {p q r : Prop} : imp p (q ∧ r) = (imp p q ∧ imp p r) := by simp [imp]; exact ⟨fun h => ⟨fun a => (h a).1, fun a => (h a).2⟩, fun h a => ⟨h.1 a, h.2 a⟩⟩
theorem pk_bo {p a b : Prop} : pk p (bo a) (bo b) = bo ((p ∧ a) ∨ (¬ p ∧ b)) := by
  unfold pk
  by_cases hp : p <;> simp [hp]
theorem pk_bo_true {p b : Prop} : pk p (bo True) (bo b) = bo (p ∨ b) := by
  unfold pk
  by_cases hp : p <;> simp [hp]
theorem pk_bo_false {p a : Prop} : pk p (bo a) (bo False) = bo (p ∧ a) := by
  unfold pk
  by_cases hp : p <;> simp [hp]
theorem pk_same {p : Prop} {a : V} : pk p a a = a := by unfold pk; simp
theorem pk_true {a b : V} : pk True a b = a := by simp [pk]
theorem pk_false {a b : V} : pk False a b = b := by simp [pk]
theorem glog_nil {p : Prop} : glog p [] = [] := by simp [glog]
theorem glog_true {l : List LE} : glog True l = l := by simp [glog]
theorem optP_def {ok : Prop} {v : V} {lg : List LE} {h : H} {K : V → H → Fp → Prop} : optP ok v lg h K = (ok ∧ K v h (.lg lg)) := rfl
theorem gOpIf_def {c : Cfg} {Ok : Nat → Prop} {v : V} {w : Bool} {op : Op} {env : Env} {h : H} {K : V → H → Fp → Prop} : gOpIf c Ok v w op env h K = (guardOk v ∧ gOp c Ok (guardP v w) op env h K) := rfl

theorem gOp_pure {c : Cfg} {Ok : Nat → Prop} {p ok : Prop} {op : Op} {env : Env} {h : H} {v : V} {lg : List LE} (hop : ∀ K, opW c Ok op env h K = optP ok v lg h K) (K : V → H → Fp → Prop) :
    gOp c Ok p op env h K = (imp p ok ∧ K (gv p v) h (.lg (glog p lg))) := by
  unfold gOp imp gv glog
  rw [hop]
  unfold optP
  by_cases hp : p <;> simp [hp]

/-! ### Operations -/

theorem LogOk_nil {Ok : Nat → Prop} {n : Nat} : LogOk Ok n [] := fun e he => by simp at he
theorem LogOk_rd {Ok : Nat → Prop} {n : Nat} {l : List LE} (h : ∀ e ∈ l, e.isW = false) : LogOk Ok n l := fun e he hw => by rw [h e he] at hw; cases hw

section
variable {c : Cfg} {Ok : Nat → Prop} {env : Env} {h : H} {K : V → H → Fp → Prop}

theorem opW_plain {o : Op} (hn : ∀ k, o = .call k → ∀ f, k.callee ≠ .value f) : opW c Ok o env h K = (match opM c.P c.gl noCall (evalE env) o h.st with
    | .ok v s => LogOk Ok h.nx s.log ∧ K v (ofSt s) (.lg s.log)
    | .fail _ => False) := by
  cases o with
  | call k =>
    unfold opW
    simp only
    cases hk : k.callee with
    | value f => exact (hn k rfl f hk).elim
    | _ => rfl
  | _ => rfl

theorem opW_ret {o : Op} {v : V} (hn : ∀ k, o = .call k → ∀ f, k.callee ≠ .value f) (e : opM c.P c.gl noCall (evalE env) o h.st = .ok v h.st) : opW c Ok o env h K = K v h (.lg []) := by
  rw [opW_plain hn, e]
  exact propext ⟨fun a => a.2, fun a => ⟨LogOk_nil, a⟩⟩

theorem opW_fail {o : Op} {w : String} (hn : ∀ k, o = .call k → ∀ f, k.callee ≠ .value f) (e : opM c.P c.gl noCall (evalE env) o h.st = .fail w) : opW c Ok o env h K = False := by
  rw [opW_plain hn, e]

/-- what an option says -/
def okO (o : Option V) : Prop := o.isSome = true
def getO' (o : Option V) : V := o.getD undefV
theorem okO_some (v : V) : okO (some v) = True := by simp [okO]
theorem okO_none : okO none = False := by simp [okO]
theorem getO_some (v : V) : getO' (some v) = v := rfl
theorem okO_ite {p : Prop} [Decidable p] {v : V} : okO (if p then some v else none) = p := by by_cases hp : p <;> simp [okO, hp]

theorem opW_opt {o : Op} {ov : Option V} (hn : ∀ k, o = .call k → ∀ f, k.callee ≠ .value f) (h1 : ∀ v, ov = some v → opM c.P c.gl noCall (evalE env) o h.st = .ok v h.st) (h2 : ov = none → ∃ w, opM c.P c.gl noCall (evalE env) o h.st = .fail w) :
    opW c Ok o env h K = optP (okO ov) (getO' ov) [] h K := by
  cases ov with
  | none =>
    obtain ⟨w, e⟩ := h2 rfl
    rw [opW_fail hn e]
    simp [optP, okO]
  | some v =>
    rw [opW_ret hn (h1 v rfl)]
    simp [optP, okO, getO']

theorem opt_opt {ov : Option V} {w : String} {s : St} : (∀ v, ov = some v → Lx.opt ov w s = .ok v s) ∧ (ov = none → ∃ w', Lx.opt ov w s = .fail w') :=
  ⟨fun v e => by rw [e]; rfl, fun e => ⟨w, by rw [e]; rfl⟩⟩

theorem nc {o : Op} (h : (match o with
  | .call _ => False
  | _ => True)) : ∀ k, o = .call k → ∀ f, k.callee ≠ .value f := by
  rintro k rfl; exact h.elim

theorem opW_move (x : Operand) : opW c Ok (.move x) env h K = K (evalE env x) h (.lg []) := opW_ret (nc trivial) rfl
theorem opW_assign (x : Operand) : opW c Ok (.assign x) env h K = K (evalE env x) h (.lg []) := opW_ret (nc trivial) rfl
theorem gOp_move {p : Prop} (x : Operand) : gOp c Ok p (.move x) env h K = K (gv p (evalE env x)) h (.lg []) := by
  rw [gOp_pure (ok := True) (v := evalE env x) (lg := []) (fun K => by rw [opW_move]; simp [optP])]
  simp [imp, glog]
theorem opW_binOp (op : BinOp) (t : TypeId) (x y : Operand) (u : TypeId) : opW c Ok (.binOp op t x y u) env h K = optP (okO (binV c.P op t (constO x || constO y) (evalE env x) (evalE env y))) (getO' (binV c.P op t (constO x || constO y) (evalE env x) (evalE env y))) [] h K :=
  opW_opt (nc trivial) (fun v e => opt_opt.1 v e) fun e => opt_opt.2 e
theorem gOp_binOp {p : Prop} (op : BinOp) (t : TypeId) (x y : Operand) (u : TypeId) : gOp c Ok p (.binOp op t x y u) env h K = (imp p (okO (binV c.P op t (constO x || constO y) (evalE env x) (evalE env y))) ∧ K (gv p (getO' (binV c.P op t (constO x || constO y) (evalE env x) (evalE env y)))) h (.lg [])) := by
  rw [gOp_pure fun K => opW_binOp (K := K) op t x y u, glog_nil]
theorem opW_unOp (op : UnOp) (t : TypeId) (x : Operand) : opW c Ok (.unOp op t x) env h K = optP (okO (unV op (evalE env x))) (getO' (unV op (evalE env x))) [] h K :=
  opW_opt (nc trivial) (fun v e => opt_opt.1 v e) fun e => opt_opt.2 e
theorem gOp_unOp {p : Prop} (op : UnOp) (t : TypeId) (x : Operand) : gOp c Ok p (.unOp op t x) env h K = (imp p (okO (unV op (evalE env x))) ∧ K (gv p (getO' (unV op (evalE env x)))) h (.lg [])) := by
  rw [gOp_pure fun K => opW_unOp (K := K) op t x, glog_nil]

def isBo (v : V) : Prop := ∃ b, v = .bool b
def pickV (cv a b : V) : V := match cv with
  | .bool t => bif t then a else b
  | _ => undefV
theorem isBo_bo {p : Prop} : isBo (bo p) = True := by unfold isBo bo; simp
theorem isBo_bool {b : Bool} : isBo (.bool b) = True := by unfold isBo; simp
theorem pickV_bo {p : Prop} {a b : V} : pickV (bo p) a b = pk p a b := by
  unfold bo pickV pk
  by_cases hp : p <;> simp [hp]
theorem pickV_bool {t : Bool} {a b : V} : pickV (.bool t) a b = pk (t = true) a b := by
  unfold pickV pk
  cases t <;> simp
theorem opW_pick (x a b : Operand) : opW c Ok (.pick x a b) env h K = optP (isBo (evalE env x)) (pickV (evalE env x) (evalE env a) (evalE env b)) [] h K := by
  by_cases hb : isBo (evalE env x)
  · obtain ⟨t, ht⟩ := hb
    rw [opW_ret (nc trivial) (v := pickV (evalE env x) (evalE env a) (evalE env b)) (by
      show opPick _ _ _ _ = _
      unfold opPick
      rw [ht]
      rfl)]
    unfold optP
    rw [show isBo (evalE env x) = True by rw [ht]; exact isBo_bool, true_and]
  · have : ∃ w, opM c.P c.gl noCall (evalE env) (.pick x a b) h.st = .fail w := by
      show ∃ w, opPick _ _ _ _ = _
      unfold opPick
      cases hv : evalE env x <;> first | exact ⟨_, rfl⟩ | skip
      exact (hb ⟨_, hv⟩).elim
    obtain ⟨w, e⟩ := this
    rw [opW_fail (nc trivial) e]
    simp [optP, hb]
theorem gOp_pick {p : Prop} (x a b : Operand) : gOp c Ok p (.pick x a b) env h K = (imp p (isBo (evalE env x)) ∧ K (gv p (pickV (evalE env x) (evalE env a) (evalE env b))) h (.lg [])) := by
  rw [gOp_pure fun K => opW_pick (K := K) x a b, glog_nil]

def extV (v : V) (i : Nat) : Option V := match v with
  | .tuple vs => vs[i]?
  | _ => none
theorem opW_extract (t : Operand) (i : Nat) : opW c Ok (.extract t i) env h K = optP (okO (extV (evalE env t) i)) (getO' (extV (evalE env t) i)) [] h K := by
  refine opW_opt (nc trivial) (fun v e => ?_) (fun e => ?_)
  · show opExtract _ _ _ = _
    unfold opExtract
    unfold extV at e
    cases hv : evalE env t <;> rw [hv] at e <;> simp only at e <;> try (cases e; done)
    simp only
    exact opt_opt.1 v e
  · show ∃ w, opExtract _ _ _ = _
    unfold opExtract
    unfold extV at e
    cases hv : evalE env t <;> rw [hv] at e <;> first | exact ⟨_, rfl⟩ | skip
    simp only at e ⊢
    exact opt_opt.2 e
theorem gOp_extract {p : Prop} (t : Operand) (i : Nat) : gOp c Ok p (.extract t i) env h K = (imp p (okO (extV (evalE env t) i)) ∧ K (gv p (getO' (extV (evalE env t) i))) h (.lg [])) := by
  rw [gOp_pure fun K => opW_extract (K := K) t i, glog_nil]
theorem extV_zero (v : V) (l : List V) : extV (.tuple (v :: l)) 0 = some v := rfl
theorem extV_succ (v : V) (l : List V) (n : Nat) : extV (.tuple (v :: l)) (n + 1) = extV (.tuple l) n := rfl

/-! Operations that ask nothing of the heap, by what the machine's own does on the empty one -/
/-- a result that is the same in every state -/
def pureO (m : M V) : Option V := match m ⟨.leaf, 0, []⟩ with
  | .ok v _ => some v
  | .fail _ => none
def Pure1 (m : M V) : Prop := ∃ ov : Option V, ∀ s, match ov with
  | some v => m s = .ok v s
  | none => ∃ w, m s = .fail w
theorem Pure1.eq {m : M V} (hm : Pure1 m) (s : St) : (∀ v, pureO m = some v → m s = .ok v s) ∧ (pureO m = none → ∃ w, m s = .fail w) := by
  obtain ⟨ov, h⟩ := hm
  cases ov with
  | none =>
    have h0 := h ⟨.leaf, 0, []⟩
    have h1 := h s
    simp only at h0 h1
    obtain ⟨w, e⟩ := h0
    refine ⟨fun v hv => ?_, fun _ => h1⟩
    unfold pureO at hv
    rw [e] at hv; cases hv
  | some v =>
    have h0 := h ⟨.leaf, 0, []⟩
    have h1 := h s
    simp only at h0 h1
    have e : pureO m = some v := by unfold pureO; rw [h0]
    refine ⟨fun v' hv => ?_, fun hv => ?_⟩
    · rw [e] at hv; cases hv; exact h1
    · rw [e] at hv; cases hv
theorem Pure1.ret (v : V) : Pure1 (Lx.ret v) := ⟨some v, fun s => rfl⟩
theorem Pure1.err (w : String) : Pure1 (Lx.err w) := ⟨none, fun s => ⟨w, rfl⟩⟩
theorem Pure1.opt (o : Option V) (w : String) : Pure1 (Lx.opt o w) := by
  cases o with
  | none => exact Pure1.err w
  | some v => exact Pure1.ret v
theorem Pure1.cond {b : Bool} {x y : M V} (hx : Pure1 x) (hy : Pure1 y) : Pure1 (bif b then x else y) := by
  cases b
  · exact hy
  · exact hx
theorem opW_pureO {o : Op} {m : M V} (hn : ∀ k, o = .call k → ∀ f, k.callee ≠ .value f) (e : opM c.P c.gl noCall (evalE env) o = m) (hm : Pure1 m) : opW c Ok o env h K = optP (okO (pureO m)) (getO' (pureO m)) [] h K := by
  subst e
  exact opW_opt hn (hm.eq h.st).1 (hm.eq h.st).2

theorem pure_field (P : Program) (t : TypeId) (x : V) (f : Nat) : Pure1 (opField P t x f) := by
  unfold opField partM
  repeat' (first | exact Pure1.ret _ | exact Pure1.err _ | refine Pure1.cond ?_ ?_ | split)
theorem pure_fieldAddr (P : Program) (t : TypeId) (x : V) (f : Nat) : Pure1 (opFieldAddr P t x f) := by
  unfold opFieldAddr
  repeat' (first | exact Pure1.ret _ | exact Pure1.err _ | refine Pure1.cond ?_ ?_ | split)
theorem pure_indexAddr (P : Program) (t : TypeId) (x i : V) : Pure1 (opIndexAddr P t x i) := by
  unfold opIndexAddr
  repeat' (first | exact Pure1.ret _ | exact Pure1.err _ | refine Pure1.cond ?_ ?_ | split)
theorem pure_index (P : Program) (t : TypeId) (x i : V) : Pure1 (opIndex P t x i) := by
  unfold opIndex partM
  repeat' (first | exact Pure1.ret _ | exact Pure1.err _ | refine Pure1.cond ?_ ?_ | split)
theorem pure_build (P : Program) (t : TypeId) (ps : List (Nat × List V)) : Pure1 (buildM P t ps) := by
  unfold buildM
  repeat' (first | exact Pure1.ret _ | exact Pure1.err _ | refine Pure1.cond ?_ ?_ | split)
theorem pure_nilCheck (x : V) : Pure1 (opNilCheck x) := by
  unfold opNilCheck
  repeat' (first | exact Pure1.ret _ | exact Pure1.err _ | refine Pure1.cond ?_ ?_ | split)
theorem pure_makeInterface (P : Program) (t : TypeId) (x : V) : Pure1 (opMakeInterface P t x) := by
  unfold opMakeInterface
  repeat' (first | exact Pure1.ret _ | exact Pure1.err _ | refine Pure1.cond ?_ ?_ | split)
theorem pure_makeFunc (ev : Operand → V) (fn : Fn) (a b : Array Operand) : Pure1 (opMakeFunc ev fn a b) := by
  unfold opMakeFunc
  repeat' (first | exact Pure1.ret _ | exact Pure1.err _ | refine Pure1.cond ?_ ?_ | split)

def fieldV (P : Program) (t : TypeId) (x : V) (f : Nat) : Option V := pureO (opField P t x f)
def fieldAddrV (P : Program) (t : TypeId) (x : V) (f : Nat) : Option V := pureO (opFieldAddr P t x f)
def indexAddrV (P : Program) (t : TypeId) (x i : V) : Option V := pureO (opIndexAddr P t x i)
def indexV (P : Program) (t : TypeId) (x i : V) : Option V := pureO (opIndex P t x i)
def buildV (P : Program) (t : TypeId) (ps : List (Nat × List V)) : Option V := pureO (buildM P t ps)
def nilCheckV (x : V) : Option V := pureO (opNilCheck x)
def makeInterfaceV (P : Program) (t : TypeId) (x : V) : Option V := pureO (opMakeInterface P t x)

theorem opW_field (t : TypeId) (x : Operand) (f : Nat) : opW c Ok (.field t x f) env h K = optP (okO (fieldV c.P t (evalE env x) f)) (getO' (fieldV c.P t (evalE env x) f)) [] h K := opW_pureO (nc trivial) rfl (pure_field _ _ _ _)
theorem opW_fieldAddr (t : TypeId) (x : Operand) (f : Nat) : opW c Ok (.fieldAddr t x f) env h K = optP (okO (fieldAddrV c.P t (evalE env x) f)) (getO' (fieldAddrV c.P t (evalE env x) f)) [] h K := opW_pureO (nc trivial) rfl (pure_fieldAddr _ _ _ _)
theorem opW_indexAddr (t : TypeId) (x i : Operand) : opW c Ok (.indexAddr t x i) env h K = optP (okO (indexAddrV c.P t (evalE env x) (evalE env i))) (getO' (indexAddrV c.P t (evalE env x) (evalE env i))) [] h K := opW_pureO (nc trivial) rfl (pure_indexAddr _ _ _ _)
theorem opW_index (t : TypeId) (x i : Operand) : opW c Ok (.index t x i) env h K = optP (okO (indexV c.P t (evalE env x) (evalE env i))) (getO' (indexV c.P t (evalE env x) (evalE env i))) [] h K := opW_pureO (nc trivial) rfl (pure_index _ _ _ _)
theorem opW_build (t : TypeId) (ps : Array (Nat × Operand)) : opW c Ok (.build t ps) env h K = optP (okO (buildV c.P t (ps.toList.map fun p => (p.1, (evalE env p.2).cells)))) (getO' (buildV c.P t (ps.toList.map fun p => (p.1, (evalE env p.2).cells)))) [] h K := opW_pureO (nc trivial) rfl (pure_build _ _ _)
theorem opW_nilCheck (x : Operand) : opW c Ok (.nilCheck x) env h K = optP (okO (nilCheckV (evalE env x))) (getO' (nilCheckV (evalE env x))) [] h K := opW_pureO (nc trivial) rfl (pure_nilCheck _)
theorem opW_makeInterface (t : TypeId) (x : Operand) : opW c Ok (.makeInterface t x) env h K = optP (okO (makeInterfaceV c.P t (evalE env x))) (getO' (makeInterfaceV c.P t (evalE env x))) [] h K := opW_pureO (nc trivial) rfl (pure_makeInterface _ _ _)
theorem opW_makeFunc (f : FuncId) (a b : Array Operand) : opW c Ok (.makeFunc (.func f) a b) env h K = K (.func f (a.toList.map (evalE env)) (b.toList.map (evalE env))) h (.lg []) := opW_ret (nc trivial) rfl
variable {p : Prop}
theorem gOp_field (t : TypeId) (x : Operand) (f : Nat) : gOp c Ok p (.field t x f) env h K = (imp p (okO (fieldV c.P t (evalE env x) f)) ∧ K (gv p (getO' (fieldV c.P t (evalE env x) f))) h (.lg [])) := by rw [gOp_pure fun K => opW_field (K := K) t x f, glog_nil]
theorem gOp_fieldAddr (t : TypeId) (x : Operand) (f : Nat) : gOp c Ok p (.fieldAddr t x f) env h K = (imp p (okO (fieldAddrV c.P t (evalE env x) f)) ∧ K (gv p (getO' (fieldAddrV c.P t (evalE env x) f))) h (.lg [])) := by rw [gOp_pure fun K => opW_fieldAddr (K := K) t x f, glog_nil]
theorem gOp_indexAddr (t : TypeId) (x i : Operand) : gOp c Ok p (.indexAddr t x i) env h K = (imp p (okO (indexAddrV c.P t (evalE env x) (evalE env i))) ∧ K (gv p (getO' (indexAddrV c.P t (evalE env x) (evalE env i)))) h (.lg [])) := by rw [gOp_pure fun K => opW_indexAddr (K := K) t x i, glog_nil]
theorem gOp_index (t : TypeId) (x i : Operand) : gOp c Ok p (.index t x i) env h K = (imp p (okO (indexV c.P t (evalE env x) (evalE env i))) ∧ K (gv p (getO' (indexV c.P t (evalE env x) (evalE env i)))) h (.lg [])) := by rw [gOp_pure fun K => opW_index (K := K) t x i, glog_nil]
theorem gOp_build (t : TypeId) (ps : Array (Nat × Operand)) : gOp c Ok p (.build t ps) env h K = (imp p (okO (buildV c.P t (ps.toList.map fun p => (p.1, (evalE env p.2).cells)))) ∧ K (gv p (getO' (buildV c.P t (ps.toList.map fun p => (p.1, (evalE env p.2).cells))))) h (.lg [])) := by rw [gOp_pure fun K => opW_build (K := K) t ps, glog_nil]
theorem gOp_nilCheck (x : Operand) : gOp c Ok p (.nilCheck x) env h K = (imp p (okO (nilCheckV (evalE env x))) ∧ K (gv p (getO' (nilCheckV (evalE env x)))) h (.lg [])) := by rw [gOp_pure fun K => opW_nilCheck (K := K) x, glog_nil]
end

/-! ### What follows from what is said -/

theorem opW_mono {c : Cfg} {Ok : Nat → Prop} {o : Op} {env : Env} {h : H} {K1 K2 : V → H → Fp → Prop} (hk : ∀ v h' fp, K1 v h' fp → K2 v h' fp) (hw : opW c Ok o env h K1) : opW c Ok o env h K2 := by
  by_cases hv : ∃ k f, o = .call k ∧ k.callee = .value f
  · obtain ⟨k, f, rfl, hk'⟩ := hv
    unfold opW at hw ⊢
    simp only [hk'] at hw ⊢
    cases hf : evalE env f <;> rw [hf] at hw <;> simp only at hw ⊢
    obtain ⟨Ok', hsub, hc⟩ := hw
    exact ⟨Ok', hsub, callW_mono hc (fun _ h => h) fun v h' hq => hk _ _ _ hq⟩
  · have hn : ∀ k, o = .call k → ∀ f, k.callee ≠ .value f := fun k e f e' => hv ⟨k, f, e, e'⟩
    rw [opW_plain hn] at hw ⊢
    cases he : opM c.P c.gl noCall (evalE env) o h.st with
    | fail w => rw [he] at hw; exact hw
    | ok v s => rw [he] at hw; exact ⟨hw.1, hk _ _ _ hw.2⟩

theorem stepW_mono {c : Cfg} {Ok : Nat → Prop} {A : Array Oper} {o : Oper} {env : Env} {h : H} {K1 K2 : Env → H → Fp → Prop} (hk : ∀ e h' fp, K1 e h' fp → K2 e h' fp) (hw : stepW c Ok A o env h K1) : stepW c Ok A o env h K2 := by
  obtain ⟨b, h1, h2, h3⟩ := hw
  exact ⟨b, h1, fun e => hk _ _ _ (h2 e), fun e => opW_mono (fun v h' fp q => hk _ _ _ q) (h3 e)⟩

theorem wpOps_mono {c : Cfg} {Ok : Nat → Prop} {A : Array Oper} : ∀ {l : List Oper} {env : Env} {h : H} {K1 K2 : Env → H → Prop}, (∀ e h', K1 e h' → K2 e h') → wpOps c Ok A l env h K1 → wpOps c Ok A l env h K2
  | [], env, h, K1, K2, hk, hw => hk _ _ hw
  | o :: l, env, h, K1, K2, hk, hw => stepW_mono (fun e h' fp q => wpOps_mono hk q) hw

theorem wpOpsL_mono {c : Cfg} {Ok : Nat → Prop} {A : Array Oper} : ∀ {l : List Oper} {acc : List Fp} {env : Env} {h : H} {K1 K2 : List Fp → Env → H → Prop}, (∀ f e h', K1 f e h' → K2 f e h') → wpOpsL c Ok A l acc env h K1 → wpOpsL c Ok A l acc env h K2
  | [], acc, env, h, K1, K2, hk, hw => hk _ _ _ hw
  | o :: l, acc, env, h, K1, K2, hk, hw => stepW_mono (fun e h' fp q => wpOpsL_mono hk q) hw

theorem wpC_mono {c : Cfg} {Ok : Nat → Prop} : ∀ (x : Code) (env : Env) (h : H) (Q1 Q2 : Ex → Env → H → Prop), (∀ ex e h', Q1 ex e h' → Q2 ex e h') → wpC c Ok x env h Q1 → wpC c Ok x env h Q2
  | .skip, env, h, Q1, Q2, hq, hw => hq _ _ _ hw
  | .label _, env, h, Q1, Q2, hq, hw => hq _ _ _ hw
  | .exit _, env, h, Q1, Q2, hq, hw => hq _ _ _ hw
  | .ret, env, h, Q1, Q2, hq, hw => hq _ _ _ hw
  | .region _ A true, env, h, Q1, Q2, hq, hw => by
    obtain ⟨pairs, hd, hw⟩ : wpDraw c Ok A env h fun env' h' => Q1 .normal env' h' := hw
    exact ⟨pairs, hd, wpOpsL_mono (fun f e h' q => ⟨q.1, hq _ _ _ q.2⟩) hw⟩
  | .region _ A false, env, h, Q1, Q2, hq, hw => wpOps_mono (K1 := fun env' h' => Q1 .normal env' h') (fun e h' q => hq _ _ _ q) hw
  | .seq a b, env, h, Q1, Q2, hq, hw => by
    refine wpC_mono a env h _ _ (fun ex e h' q => ?_) (show wpC c Ok a env h _ from hw)
    cases ex with
    | normal => exact wpC_mono b e h' Q1 Q2 hq q
    | exit i => exact hq _ _ _ q
    | ret => exact hq _ _ _ q
    | goto l => exact hq _ _ _ q
  | .cond x a b, env, h, Q1, Q2, hq, hw => by
    obtain ⟨t, ht, ha, hb⟩ := hw
    exact ⟨t, ht, fun e => wpC_mono a env h Q1 Q2 hq (ha e), fun e => wpC_mono b env h Q1 Q2 hq (hb e)⟩
  | .block id a, env, h, Q1, Q2, hq, hw => by
    refine wpC_mono a env h _ _ (fun ex e h' q => ?_) (show wpC c Ok a env h _ from hw)
    cases ex with
    | normal => exact hq _ _ _ q
    | exit i => exact hq _ _ _ q
    | ret => exact hq _ _ _ q
    | goto l => exact hq _ _ _ q
  | .loop a, env, h, Q1, Q2, hq, hw => by
    obtain ⟨I, hI, hs⟩ := hw
    refine ⟨I, hI, fun m env1 h1 hi => wpC_mono a env1 h1 _ _ (fun ex e h' q => ?_) (hs m env1 h1 hi)⟩
    cases ex with
    | normal => exact q
    | exit i => exact hq _ _ _ q
    | ret => exact hq _ _ _ q
    | goto l => exact hq _ _ _ q
  | .rangeFunc .., _, _, _, _, _, hw => hw.elim
  | .scope _, _, _, _, _, _, hw => hw.elim
  | .goto _, _, _, _, _, _, hw => hw.elim
  | .refuse _, _, _, _, _, _, hw => hw.elim

/-- what holds behind a piece of code -/
theorem run_cut {c : Cfg} {Ok : Nat → Prop} {k : List Kt} {Q : Ex → Env → H → Prop} {env : Env} {h : H} {a b : Code} (R : Env → H → Prop) (h1 : run c Ok (.lp R :: k) a env h Q) (h2 : ∀ env' h', R env' h' → run c Ok k b env' h' Q) : run c Ok (.seq b :: k) a env h Q := by
  unfold run at *
  have mono : ∀ (x : Code) (env : Env) (h : H) (Q1 Q2 : Ex → Env → H → Prop), (∀ ex e h, Q1 ex e h → Q2 ex e h) → wpC c Ok x env h Q1 → wpC c Ok x env h Q2 := wpC_mono
  refine mono a env h _ _ (fun ex e h' hk => ?_) h1
  cases ex with
  | normal => exact h2 e h' hk
  | exit i => exact hk
  | ret => exact hk
  | goto l => exact hk

end
end Go.Wx
