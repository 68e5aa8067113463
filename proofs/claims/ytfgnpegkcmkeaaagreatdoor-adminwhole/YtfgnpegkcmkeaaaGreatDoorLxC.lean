/-
  The machine: regions, code, calls. A region whose order is open is run in the order of the text, and what each of its operations looked at and wrote is held against the others': where two that may change places touch, it fails.
-/
import Derived.Test.YtfgnpegkcmkeaaaGreatDoorLxB
set_option linter.unusedSimpArgs false
set_option linter.unusedVariables false
namespace Go.Lx
noncomputable section
structure Cfg where
 P : Program
 lf : Nat
 gl : T (List V)
 sum : FuncId → Option (List V → M V)
def tmGet (tm : T V) (t : Nat) : V := Option.rec (motive := fun _ => V) undefV (fun v => v) (tm.get t)
def constV (v : Value) : V := match ofV v with
 | some x => x
 | none => undefV
def evalO (tm : T V) (x : Operand) : V :=
 Operand.rec (motive := fun _ => V) (fun t => tmGet tm t) constV (fun g => .gptr g 0) (fun f => .func f [] []) x
def operandOk : Operand → Bool
 | .const v => (ofV v).isSome
 | _ => true
def putM (nt : Nat) (dst : Option Tmp) (v : V) (tm : T V) : M (T V) :=
 Option.rec (motive := fun _ => M (T V)) (ret tm) (fun d => Bool.rec (motive := fun _ => M (T V)) (err "slot") (ret (tm.set d (some v))) (Nat.blt d nt)) dst
def wantsG (ops : Array Oper) (tm : T V) (g : Nat × Bool) : Option Bool := match (ops[g.1]?).bind (fun q => q.dst) with
 | some d => match tmGet tm d with
   | .bool b => some (b == g.2)
   | .tuple [] => some false
   | _ => none
 | none => none
def wants (ops : Array Oper) (tm : T V) (o : Oper) : Option Bool :=
 Option.rec (motive := fun _ => Option Bool) (some true) (fun g => wantsG ops tm g) o.guard
def stepV (c : Cfg) (call : FuncId → List V → M V) (ops : Array Oper) (o : Oper) (tm : T V) : M V :=
 Option.rec (motive := fun _ => M V) (err "guard")
  (fun b => Bool.rec (motive := fun _ => M V) (ret undefV) (Bool.rec (motive := fun _ => M V) (err "operands") (opM c.P c.gl call (evalO tm) o.op) (o.op.operands.toList.all operandOk)) b) (wants ops tm o)
theorem putM_eq (nt : Nat) (dst : Option Tmp) (v : V) (tm : T V) : putM nt dst v tm = (match dst with
  | none => ret tm
  | some d => bif Nat.blt d nt then ret (tm.set d (some v)) else err "slot") := by
 cases dst with
 | none => rfl
 | some d =>
   show (Bool.rec (motive := fun _ => M (T V)) (err "slot") (ret (tm.set d (some v))) (Nat.blt d nt)) = (bif Nat.blt d nt then ret (tm.set d (some v)) else err "slot")
   cases Nat.blt d nt <;> rfl
theorem wants_eq (ops : Array Oper) (tm : T V) (o : Oper) : wants ops tm o = (match o.guard with
  | none => some true
  | some (j, want) => match (ops[j]?).bind (fun q => q.dst) with
    | some d => match tmGet tm d with
      | .bool b => some (b == want)
      | .tuple [] => some false
      | _ => none
    | none => none) := by
 unfold wants
 cases o.guard with
 | none => rfl
 | some g => obtain ⟨j, want⟩ := g; rfl
theorem stepV_eq (c : Cfg) (call : FuncId → List V → M V) (ops : Array Oper) (o : Oper) (tm : T V) : stepV c call ops o tm = (match wants ops tm o with
  | none => err "guard"
  | some false => ret undefV
  | some true => bif o.op.operands.toList.all operandOk then opM c.P c.gl call (evalO tm) o.op else err "operands") := by
 unfold stepV
 cases wants ops tm o with
 | none => rfl
 | some b =>
   cases b with
   | false => rfl
   | true =>
     show (Bool.rec (motive := fun _ => M V) (err "operands") (opM c.P c.gl call (evalO tm) o.op) (o.op.operands.toList.all operandOk)) = (bif o.op.operands.toList.all operandOk then opM c.P c.gl call (evalO tm) o.op else err "operands")
     cases o.op.operands.toList.all operandOk <;> rfl
def stepM (c : Cfg) (call : FuncId → List V → M V) (ops : Array Oper) (nt : Nat) (o : Oper) (tm : T V) : M (T V) :=
 bnd (stepV c call ops o tm) fun v => putM nt o.dst v tm
def runM (c : Cfg) (call : FuncId → List V → M V) (ops : Array Oper) (nt : Nat) (l : List Oper) : T V → M (T V) :=
 List.rec (motive := fun _ => T V → M (T V)) (fun tm => ret tm) (fun o _ ih tm => bnd (stepM c call ops nt o tm) ih) l
def meets (a n b m : Nat) : Bool := Nat.blt a (b + m) && Nat.blt b (a + n)
def hits : LE → LE → Bool
 | .wr k a n, .rd k' b m => Nat.beq k k' && meets a n b m
 | .wr k a n, .wr k' b m => Nat.beq k k' && meets a n b m
 | .wrd k, .rd k' _ _ => Nat.beq k k'
 | .wrd k, .wr k' _ _ => Nat.beq k k'
 | .wrd k, .rdd k' => Nat.beq k k'
 | .wrd k, .wrd k' => Nat.beq k k'
 | .wr k _ _, .wrd k' => Nat.beq k k'
 | _, _ => false
def LE.isW : LE → Bool
 | .wr .. | .wrd .. => true
 | _ => false
def anyL {α : Type} (f : α → Bool) : List α → Bool
 | [] => false
 | a :: l => f a || anyL f l
def hitsL (a b : List LE) : Bool := anyL (fun x => x.isW && anyL (hits x) b) a
def looksT (ops : Array Oper) (o : Oper) : List Nat :=
 (match o.guard with
  | some (j, _) => ((ops[j]?).bind (fun q => q.dst)).toList
  | none => []) ++ o.op.operands.toList.filterMap fun | .tmp t => some t | _ => none
def dstIn (d : Option Tmp) (l : List Nat) : Bool := match d with
 | none => false
 | some t => memNat t l
def tmpHits (ops : Array Oper) (a b : Oper) : Bool :=
 dstIn a.dst (looksT ops b) || dstIn b.dst (looksT ops a) || dstIn a.dst b.dst.toList
def apartFrom (ops : Array Oper) (m : Nat) (o : Oper) (lg : List LE) : List (Oper × List LE) → Nat → Bool
 | [], _ => true
 | (q, lq) :: l, i => (m.testBit i || (!tmpHits ops q o && !hitsL lq lg && !hitsL lg lq)) && apartFrom ops m o lg l (i + 1)
def apartAll (ops : Array Oper) (b : Array Nat) : List (Oper × List LE) → Nat → List (Oper × List LE) → Bool
 | _, _, [] => true
 | done, j, (o, lg) :: l => apartFrom ops (b.getD j 0) o lg done 0 && apartAll ops b (done ++ [(o, lg)]) (j + 1) l
def edgesOk : List Oper → Nat → Bool
 | [], _ => true
 | o :: l, j => o.after.toList.all (fun e => !Region.binds .any e || Nat.blt e.on j) && edgesOk l (j + 1)
def runL (c : Cfg) (call : FuncId → List V → M V) (ops : Array Oper) (nt : Nat) : List Oper → T V → St → R (T V × List (List LE))
 | [], tm, s => .ok (tm, []) s
 | o :: l, tm, s => match stepM c call ops nt o tm { s with log := [] } with
   | .fail w => .fail w
   | .ok tm' s' => match runL c call ops nt l tm' s' with
     | .fail w => .fail w
     | .ok (tm'', ls) s'' => .ok (tm'', s'.log :: ls) s''
def joinLogs : List (List LE) → List LE → List LE
 | [], acc => acc
 | l :: ls, acc => joinLogs ls (l ++ acc)
def drawM (c : Cfg) (call : FuncId → List V → M V) (ops : Array Oper) (nt : Nat) (tm : T V) : M (T V) := fun s =>
 match runL c call ops nt ops.toList tm s with
 | .fail w => .fail w
 | .ok (tm', ls) s' => bif edgesOk ops.toList 0 && apartAll ops (Region.before ops) [] 0 (ops.toList.zip ls) then .ok tm' { s' with log := joinLogs ls s.log } else .fail "order"
inductive Ex where
 | normal
 | exit (id : Nat)
 | ret
 | goto (l : Nat)
def iter (f : T V → M (Ex × T V)) : Nat → T V → M (Ex × T V)
 | 0, _ => err "rounds"
 | n + 1, tm => bnd (f tm) fun r => match r with
   | (.normal, tm') => iter f n tm'
   | (e, tm') => Lx.ret (e, tm')
def andThen (r : M (Ex × T V)) (k : T V → M (Ex × T V)) : M (Ex × T V) := bnd r fun r => match r with
  | (.normal, tm') => k tm'
  | (e, tm') => Lx.ret (e, tm')
def jumps (fr : Nat → Option (T V → M (Ex × T V))) : Nat → Ex × T V → M (Ex × T V)
 | 0, _ => err "jumps"
 | n + 1, (.goto l, tm) => match fr l with
   | some k => bnd (k tm) (jumps fr n)
   | none => Lx.ret (.goto l, tm)
 | _, (e, tm) => Lx.ret (e, tm)
def codeB (c : Cfg) (call : FuncId → List V → M V) (nt : Nat) : Code → (T V → M (Ex × T V)) × (Nat → Option (T V → M (Ex × T V)))
 | .skip => (fun tm => Lx.ret (.normal, tm), fun _ => none)
 | .label l' => (fun tm => Lx.ret (.normal, tm), fun l => bif Nat.beq l' l then some (fun tm => Lx.ret (.normal, tm)) else none)
 | .region _ ops d => (fun tm => bnd (bif d then drawM c call ops nt tm else runM c call ops nt ops.toList tm) fun tm' => Lx.ret (.normal, tm'), fun _ => none)
 | .seq a b => (fun tm => andThen ((codeB c call nt a).1 tm) (codeB c call nt b).1, fun l => match (codeB c call nt a).2 l with
   | some k => some (fun tm => andThen (k tm) (codeB c call nt b).1)
   | none => (codeB c call nt b).2 l)
 | .cond x a b => (fun tm => bif operandOk x then (match evalO tm x with
   | .bool t => bif t then (codeB c call nt a).1 tm else (codeB c call nt b).1 tm
   | _ => err "cond") else err "cond", fun _ => none)
 | .block id a => (fun tm => bnd ((codeB c call nt a).1 tm) fun r => match r with
   | (.exit i, tm') => Lx.ret (bif Nat.beq i id then .normal else .exit i, tm')
   | (e, tm') => Lx.ret (e, tm'), fun _ => none)
 | .loop a => (fun tm => iter (codeB c call nt a).1 c.lf tm, fun _ => none)
 | .exit i => (fun tm => Lx.ret (.exit i, tm), fun _ => none)
 | .ret => (fun tm => Lx.ret (.ret, tm), fun _ => none)
 | .goto l => (fun tm => Lx.ret (.goto l, tm), fun _ => none)
 | .scope a => (fun tm => bnd ((codeB c call nt a).1 tm) (jumps (codeB c call nt a).2 c.lf), fun _ => none)
 | _ => (fun _ => err "code", fun _ => none)
def codeM (c : Cfg) (call : FuncId → List V → M V) (nt : Nat) (code : Code) (tm : T V) : M (Ex × T V) := (codeB c call nt code).1 tm
def lastDefer : List Oper → Option (List Oper × Call)
 | [] => none
 | o :: l => match l with
   | [] => match o.op, o.guard, o.dst with
     | .defer c, none, none => some ([], c)
     | _, _, _ => none
   | _ => match lastDefer l with
     | some p => some (o :: p.1, p.2)
     | none => none
def deferM (c : Cfg) (call : FuncId → List V → M V) (nt : Nat) : Code → T V → M ((Ex × T V) × Option (FuncId × List V))
 | .seq a b, tm => bnd (deferM c call nt a tm) fun r => match r with
   | ((.normal, tm'), none) => deferM c call nt b tm'
   | ((.normal, tm'), some d) => bnd (codeM c call nt b tm') fun q => Lx.ret (q, some d)
   | (q, d) => Lx.ret (q, d)
 | .region id ops d, tm => match d, lastDefer ops.toList with
   | false, some (pre, k) => bnd (runM c call ops nt pre tm) fun tm' => match k.callee with
     | .value (.func f) => bif k.args.toList.all (operandOk) then Lx.ret ((.normal, tm'), some (f, k.args.toList.map (evalO tm'))) else err "defer"
     | _ => err "defer"
   | _, _ => bnd (codeM c call nt (.region id ops d) tm) fun q => Lx.ret (q, none)
 | x, tm => bnd (codeM c call nt x tm) fun q => Lx.ret (q, none)
def setArgs : List V → Nat → T V → T V
 | [], _, tm => tm
 | v :: l, i, tm => setArgs l (i + 1) (tm.set i (some v))
def resultsM (P : Program) (tm : T V) : List ResultVar → M (List V)
 | [] => Lx.ret []
 | .tmp t :: l => bnd (resultsM P tm l) fun vs => Lx.ret (tmGet tm t :: vs)
 | .cell a t :: l => match tmGet tm a with
   | .ptr k o => bnd (loadVarM P t k o) fun v => bnd (resultsM P tm l) fun vs => Lx.ret (v :: vs)
   | _ => err "result"
def oneOf : List V → V
 | [v] => v
 | vs => .tuple vs
def plainM (c : Cfg) (call : FuncId → List V → M V) (fn : Func) (code : Code) (args : List V) : M V :=
 bnd (codeM c call (max args.length fn.ntmps) code (setArgs args 0 .leaf)) fun r => match r with
  | (.exit _, _) => err "exit"
  | (.goto _, _) => err "goto"
  | (_, tm) => bnd (resultsM c.P tm fn.results.toList) fun vs => Lx.ret (oneOf vs)
def laterM (c : Cfg) (call : FuncId → List V → M V) : Option (FuncId × List V) → M V
 | none => Lx.ret undefV
 | some (f, vs) => match c.P.funcs[f]? with
   | some fn => bif fn.name == "runtime.NumGoroutine" then err "goroutines" else match fn.body with
     | some code => plainM c call fn code vs
     | none => err "no body"
   | none => err "no function"
def bodyM (c : Cfg) (call : FuncId → List V → M V) (fn : Func) (code : Code) (args : List V) : M V :=
 bnd (deferM c call (max args.length fn.ntmps) code (setArgs args 0 .leaf)) fun r => match r with
  | ((.exit _, _), _) => err "exit"
  | ((.goto _, _), _) => err "goto"
  | ((_, tm), d) => bnd (laterM c call d) fun _ => bnd (resultsM c.P tm fn.results.toList) fun vs => Lx.ret (oneOf vs)
def callM (c : Cfg) : Nat → FuncId → List V → M V
 | 0, _, _ => err "depth"
 | n + 1, f, args => match c.sum f with
   | some g => g args
   | none => match c.P.funcs[f]? with
     | some fn => bif fn.name == "runtime.NumGoroutine" then err "goroutines" else match fn.body with
       | some code => bodyM c (callM c n) fn code args
       | none => err "no body"
     | none => err "no function"
end
end Go.Lx
