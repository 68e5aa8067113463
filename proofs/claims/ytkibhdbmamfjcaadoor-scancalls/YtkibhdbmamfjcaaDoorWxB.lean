/-
  What a piece of code comes to, over all inputs: a predicate that is worked out along the code (wpC, run), calls that come back (callW), and that the machine does so.
-/
import Derived.Test.YtkibhdbmamfjcaaDoorWxA
set_option linter.unusedSimpArgs false
set_option linter.unusedVariables false
namespace Go.Wx
open Go.Lx
noncomputable section

abbrev Env := Nat → V

/-- the heap, and the next block -/
structure H where
  heap : T Ob
  nx : Nat

def H.st (h : H) : St := ⟨h.heap, h.nx, []⟩
def ofSt (s : St) : H := ⟨s.heap, s.next⟩

def upd (env : Env) (d : Nat) (v : V) : Env := fun t => if t = d then v else env t
def putE (dst : Option Tmp) (v : V) (env : Env) : Env := match dst with
  | none => env
  | some d => upd env d v

def evalE (env : Env) (x : Operand) : V := match x with
  | .tmp t => env t
  | .const v => constV v
  | .global g => .gptr g 0
  | .func f => .func f [] []

/-- what is written is new, or may be written -/
def LogOk (Ok : Nat → Prop) (n : Nat) (l : List LE) : Prop := ∀ e ∈ l, e.isW = true → n ≤ blkOf e ∨ Ok (blkOf e)

structure Ran (Ok : Nat → Prop) (h h' : H) (l : List LE) : Prop where
  mono : h.nx ≤ h'.nx
  log : LogOk Ok h.nx l
  wf : WF h.heap h.nx → WF h'.heap h'.nx ∧ ∀ e ∈ l, blkOf e < h'.nx

theorem Ran.refl {Ok : Nat → Prop} {h : H} : Ran Ok h h [] := ⟨Nat.le_refl _, fun e he => by simp at he, fun w => ⟨w, fun e he => by simp at he⟩⟩

theorem Ran.trans {Ok : Nat → Prop} {h h1 h2 : H} {l1 l2 : List LE} (a : Ran Ok h h1 l1) (b : Ran Ok h1 h2 l2) : Ran Ok h h2 (l2 ++ l1) := by
  refine ⟨Nat.le_trans a.mono b.mono, fun e he hw => ?_, fun w => ?_⟩
  · rcases List.mem_append.1 he with he | he
    · rcases b.log e he hw with h | h
      · exact .inl (Nat.le_trans a.mono h)
      · exact .inr h
    · exact a.log e he hw
  · obtain ⟨w1, q1⟩ := a.wf w
    obtain ⟨w2, q2⟩ := b.wf w1
    refine ⟨w2, fun e he => ?_⟩
    rcases List.mem_append.1 he with he | he
    · exact q2 e he
    · exact Nat.lt_of_lt_of_le (q1 e he) b.mono

theorem Ran.weak {Ok Ok' : Nat → Prop} {h h' : H} {l : List LE} (hk : ∀ k, Ok k → Ok' k) (a : Ran Ok h h' l) : Ran Ok' h h' l :=
  ⟨a.mono, fun e he hw => (a.log e he hw).imp id (hk _), a.wf⟩

def _root_.Go.Lx.Cfg.at (c : Cfg) (lf : Nat) : Cfg := { c with lf := lf }

/-- A call comes back, with so much of loops and depth as it wants. -/
def Returns (c : Cfg) (Ok : Nat → Prop) (f : FuncId) (args : List V) (h : H) (v : V) (h' : H) : Prop :=
  WF h.heap h.nx → ∃ N, ∀ lf, N ≤ lf → ∀ n, N ≤ n → ∀ l0, ∃ l, callM (c.at lf) n f args ⟨h.heap, h.nx, l0⟩ = .ok v ⟨h'.heap, h'.nx, l ++ l0⟩ ∧ Ran Ok h h' l

def callW (c : Cfg) (Ok : Nat → Prop) (f : FuncId) (args : List V) (h : H) (K : V → H → Prop) : Prop := ∃ v h', Returns c Ok f args h v h' ∧ K v h'

/-- What one operation looked at and wrote: its log, or what is known of a call's. -/
inductive Fp where
  | lg (l : List LE)
  | cl (n0 n1 : Nat) (Ok : Nat → Prop)

def opW (c : Cfg) (Ok : Nat → Prop) (o : Op) (env : Env) (h : H) (K : V → H → Fp → Prop) : Prop :=
  match o with
  | .call k => match k.callee with
    | .value f => match evalE env f with
      | .func g first cap => ∃ Ok' : Nat → Prop, (∀ k, Ok' k → Ok k) ∧ callW c Ok' g (first ++ k.args.toList.map (evalE env) ++ cap) h fun v h' => K v h' (.cl h.nx h'.nx Ok')
      | _ => False
    | _ => match opM c.P c.gl noCall (evalE env) (.call k) h.st with
      | .ok v s => LogOk Ok h.nx s.log ∧ K v (ofSt s) (.lg s.log)
      | .fail _ => False
  | o => match opM c.P c.gl noCall (evalE env) o h.st with
    | .ok v s => LogOk Ok h.nx s.log ∧ K v (ofSt s) (.lg s.log)
    | .fail _ => False

def wantsE (A : Array Oper) (env : Env) (o : Oper) : Option Bool := match o.guard with
  | none => some true
  | some (j, w) => match (A[j]?).bind (fun q => q.dst) with
    | some d => match env d with
      | .bool b => some (b == w)
      | .tuple [] => some false
      | _ => none
    | none => none

/-- an operation, its guard looked at -/
def stepW (c : Cfg) (Ok : Nat → Prop) (A : Array Oper) (o : Oper) (env : Env) (h : H) (K : Env → H → Fp → Prop) : Prop :=
  ∃ b, wantsE A env o = some b ∧ (b = false → K (putE o.dst undefV env) h (.lg [])) ∧ (b = true → opW c Ok o.op env h fun v h' fp => K (putE o.dst v env) h' fp)

def wpOps (c : Cfg) (Ok : Nat → Prop) (A : Array Oper) : List Oper → Env → H → (Env → H → Prop) → Prop
  | [], env, h, K => K env h
  | o :: l, env, h, K => stepW c Ok A o env h fun env' h' _ => wpOps c Ok A l env' h' K

/-- the same, what each one looked at and wrote kept -/
def wpOpsL (c : Cfg) (Ok : Nat → Prop) (A : Array Oper) : List Oper → List Fp → Env → H → (List Fp → Env → H → Prop) → Prop
  | [], acc, env, h, K => K acc env h
  | o :: l, acc, env, h, K => stepW c Ok A o env h fun env' h' fp => wpOpsL c Ok A l (acc ++ [fp]) env' h' K

/-- do two of them keep apart, the first one ahead in the text? -/
def fpApart : Fp → Fp → Prop
  | .lg a, .lg b => hitsL a b = false ∧ hitsL b a = false
  | .lg a, .cl n0 n1 Ok => ∀ e ∈ a, e.isW = false ∧ (n1 ≤ blkOf e ∨ blkOf e < n0) ∧ ¬ Ok (blkOf e)
  | .cl n0 n1 Ok, .lg b => ∀ e ∈ b, n1 ≤ blkOf e ∨ (e.isW = false ∧ blkOf e < n0 ∧ ¬ Ok (blkOf e))
  | .cl _ _ _, .cl _ _ _ => False

/-- the log is what it is told to be -/
def FpIs : Fp → List LE → Prop
  | .lg l, l' => l' = l
  | .cl n0 n1 Ok, l => ∀ e ∈ l, blkOf e < n1 ∧ (e.isW = true → n0 ≤ blkOf e ∨ Ok (blkOf e))

def clsS : Option TypeDesc → Nat
  | some .string => 0
  | _ => 1
def clsC : Option TypeDesc → Nat
  | some (.int _) => 0
  | some .string => 1
  | _ => 2
def clsL : Option TypeDesc → Nat
  | some .string => 0
  | some (.slice _) => 0
  | _ => 1

/-- 0: looks at nothing; 1: writes nothing; 2: whatever -/
def cls (P : Program) : Op → Nat
  | .move _ | .assign _ | .pick .. | .build .. | .binOp .. | .unOp .. | .makeInterface .. | .makeFunc .. | .nilCheck _ | .fieldAddr .. | .field .. | .indexAddr .. | .index .. | .extract .. => 0
  | .load .. | .lookup .. | .entry _ => 1
  | .slice t _ _ _ _ => clsS (P.underlying t)
  | .convert s d _ => clsC (P.underlying d)
  | .call k => match k.callee with
    | .builtin .len => clsL ((k.argTypes[0]?).bind P.underlying)
    | .builtin .cap => 1
    | .builtin .min => 0
    | .builtin .max => 0
    | _ => 2
  | _ => 2

def fine (a b : Nat) : Bool := Nat.beq a 0 || Nat.beq b 0 || (Nat.ble a 1 && Nat.ble b 1)

def pairIn (i j : Nat) : List (Nat × Nat) → Bool
  | [] => false
  | p :: l => (Nat.beq p.1 i && Nat.beq p.2 j) || pairIn i j l

/-- operation j against those ahead of it: the order is held, or the two leave each other alone whatever they meet, or they are named -/
def drawFrom (P : Program) (A : Array Oper) (m j : Nat) (o : Oper) (pairs : List (Nat × Nat)) : List Oper → Nat → Bool
  | [], _ => true
  | q :: l, i => (m.testBit i || (!tmpHits A q o && (fine (cls P q.op) (cls P o.op) || pairIn i j pairs))) && drawFrom P A m j o pairs l (i + 1)

def drawAll (P : Program) (A : Array Oper) (b : Array Nat) (pairs : List (Nat × Nat)) : List Oper → Nat → List Oper → Bool
  | _, _, [] => true
  | done, j, o :: l => drawFrom P A (b.getD j 0) j o pairs done 0 && drawAll P A b pairs (done ++ [o]) (j + 1) l

def drawOk (P : Program) (A : Array Oper) (pairs : List (Nat × Nat)) : Bool := edgesOk A.toList 0 && drawAll P A (Region.before A) pairs [] 0 A.toList

/-- a region whose order is open -/
def wpDraw (c : Cfg) (Ok : Nat → Prop) (A : Array Oper) (env : Env) (h : H) (K : Env → H → Prop) : Prop :=
  ∃ pairs, drawOk c.P A pairs = true ∧ wpOpsL c Ok A A.toList [] env h fun fps env' h' => (∀ p ∈ pairs, ∀ a b, fps[p.1]? = some a → fps[p.2]? = some b → fpApart a b) ∧ K env' h'

/-- Code. -/
def wpC (c : Cfg) (Ok : Nat → Prop) : Code → Env → H → (Ex → Env → H → Prop) → Prop
  | .skip, env, h, Q => Q .normal env h
  | .label _, env, h, Q => Q .normal env h
  | .region _ A d, env, h, Q => match d with
    | true => wpDraw c Ok A env h fun env' h' => Q .normal env' h'
    | false => wpOps c Ok A A.toList env h fun env' h' => Q .normal env' h'
  | .seq a b, env, h, Q => wpC c Ok a env h fun ex env' h' => match ex with
    | .normal => wpC c Ok b env' h' Q
    | e => Q e env' h'
  | .cond x a b, env, h, Q => ∃ t, evalE env x = .bool t ∧ (t = true → wpC c Ok a env h Q) ∧ (t = false → wpC c Ok b env h Q)
  | .block id a, env, h, Q => wpC c Ok a env h fun ex env' h' => match ex with
    | .exit i => Q (bif Nat.beq i id then .normal else .exit i) env' h'
    | e => Q e env' h'
  | .loop a, env, h, Q => ∃ I : Nat → Env → H → Prop, (∃ m, I m env h) ∧ ∀ m env1 h1, I m env1 h1 → wpC c Ok a env1 h1 fun ex env' h' => match ex with
    | .normal => ∃ m', m' < m ∧ I m' env' h'
    | e => Q e env' h'
  | .exit i, env, h, Q => Q (.exit i) env h
  | .ret, env, h, Q => Q .ret env h
  | _, _, _, _ => False

/-- what can be told of the text alone: slots, constants -/
def okOps (nt : Nat) (A : Array Oper) : Bool := A.toList.all fun o => o.op.operands.toList.all operandOk && (match o.dst with
  | none => true
  | some d => Nat.blt d nt)
def okCode (nt : Nat) : Code → Bool
  | .region _ A _ => okOps nt A
  | .seq a b => okCode nt a && okCode nt b
  | .cond x a b => operandOk x && okCode nt a && okCode nt b
  | .block _ a => okCode nt a
  | .loop a => okCode nt a
  | _ => true
/-- no call is put off -/
def noDefer : Code → Bool
  | .seq a b => noDefer a && noDefer b
  | .region _ A d => d || (lastDefer A.toList).isNone
  | _ => true

end
end Go.Wx
