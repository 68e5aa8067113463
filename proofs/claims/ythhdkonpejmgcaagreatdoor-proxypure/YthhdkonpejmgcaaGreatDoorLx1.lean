/-
  Several texts, joined.
-/
import GoSem.Dispatch
import GoSem.Machine.Return
import Derived.Laws.Sem
import Derived.Laws.Cells
import Derived.Orders
/-
  A machine of our own for Go's code as the model has it: values with block numbers of our own, a heap of objects, and functions that run code over them.
  This file: the values, the heap, the state, and the small steps on it.
-/
set_option linter.unusedSimpArgs false
set_option linter.unusedVariables false
namespace Go.Lx
inductive V where
  | bool (b : Bool)
  | int (k : IntKind) (n : Int)
  | str (s : List Nat)
  | ptr (b o : Nat)
  | nilptr
  | slice (b o len cap : Nat)
  | nilslice
  | map (r : Nat)
  | nilmap
  | func (f : FuncId) (first captured : List V)
  | nilfunc
  | iface (t : TypeId) (v : V)
  | nilIface
  | agg (cs : List V)
  | tuple (vs : List V)
  | sym (i : Nat)
  | gptr (g o : Nat)
inductive T (α : Type) where
  | leaf
  | node (l : T α) (v : Option α) (r : T α)

noncomputable section

def T.get {α : Type} (t : T α) : Nat → Option α :=
  T.rec (motive := fun _ => Nat → Option α) (fun _ => none)
    (fun _ v _ gl gr n => Bool.rec (motive := fun _ => Option α) (Bool.rec (motive := fun _ => Option α) (gr (Nat.pred (Nat.div n 2))) (gl (Nat.div n 2)) (Nat.beq (Nat.mod n 2) 1)) v (Nat.beq n 0)) t

def T.single {α : Type} (f : Nat) : Nat → Option α → T α :=
  Nat.rec (motive := fun _ => Nat → Option α → T α) (fun _ _ => .leaf)
    (fun _ g n v => Bool.rec (motive := fun _ => T α) (Bool.rec (motive := fun _ => T α) (.node .leaf none (g (Nat.pred (Nat.div n 2)) v)) (.node (g (Nat.div n 2) v) none .leaf) (Nat.beq (Nat.mod n 2) 1)) (.node .leaf v .leaf) (Nat.beq n 0)) f

def T.set {α : Type} (t : T α) : Nat → Option α → T α :=
  T.rec (motive := fun _ => Nat → Option α → T α) (fun n v => T.single (Nat.succ n) n v)
    (fun l w r sl sr n v => Bool.rec (motive := fun _ => T α) (Bool.rec (motive := fun _ => T α) (.node l w (sr (Nat.pred (Nat.div n 2)) v)) (.node (sl (Nat.div n 2) v) w r) (Nat.beq (Nat.mod n 2) 1)) (.node l v r) (Nat.beq n 0)) t
structure ME where
  key : V
  val : V
  born : Nat
inductive Ob where
  | cells (c : List V) (elem : TypeId) (opn : Bool)
  | map (es : List ME) (clock : Nat)
  | siter (s : List Nat) (pos : Nat)
  | ro (c : List V)
  | miter (m : Option Nat) (since : Nat) (seen : List Nat) (last : Nat)
inductive LE where
  | rd (k lo n : Nat)
  | wr (k lo n : Nat)
  | rdd (k : Nat)
  | wrd (k : Nat)

structure St where
  heap : T Ob
  next : Nat
  log : List LE

inductive R (α : Type) where
  | ok (a : α) (s : St)
  | fail (why : String)

abbrev M (α : Type) := St → R α

def bnd {α β : Type} (x : M α) (f : α → M β) : M β := fun s => R.rec (motive := fun _ => R β) f (fun w => .fail w) (x s)
def ret {α : Type} (a : α) : M α := fun s => .ok a s
def err {α : Type} (w : String) : M α := fun _ => .fail w
def opt {α : Type} (o : Option α) (w : String) : M α := match o with
  | some a => ret a
  | none => err w
def listPut {α : Type} : List α → Nat → List α → List α
  | l, _, [] => l
  | [], _, _ :: _ => []
  | _ :: l, 0, v :: vs => v :: listPut l 0 vs
  | x :: l, n + 1, v :: vs => x :: listPut l n (v :: vs)

def sub {α : Type} (l : List α) (a n : Nat) : List α := (l.drop a).take n
def Ob.isRo : Ob → Bool
  | .ro _ => true
  | _ => false
def Ob.row : Ob → Option (List V)
  | .cells c _ _ => some c
  | .ro c => some c
  | _ => none
def HasRow (h : T Ob) (k : Nat) (c : List V) : Prop := ∃ ob, h.get k = some ob ∧ ob.row = some c
def ld (k o n : Nat) : M (List V) := fun s => match s.heap.get k with
  | some (.cells c _ _) => bif Nat.ble (o + n) c.length then .ok (sub c o n) { s with log := .rd k o n :: s.log } else .fail "ld range"
  | some (.ro c) => bif Nat.ble (o + n) c.length then .ok (sub c o n) { s with log := .rd k o n :: s.log } else .fail "ld range"
  | _ => .fail "ld no block"

def V.isCell : V → Bool
  | .agg _ | .tuple _ => false
  | _ => true
def stc (k o : Nat) (vs : List V) : M Unit := fun s => match s.heap.get k with
  | some (.cells c e p) => bif Nat.ble (o + vs.length) c.length && vs.all V.isCell
    then .ok () { s with heap := s.heap.set k (some (.cells (listPut c o vs) e p)), log := .wr k o vs.length :: s.log } else .fail "st range"
  | _ => .fail "st no block"
def blk (k : Nat) : M (Nat × TypeId × Bool) := fun s => match s.heap.get k with
  | some (.cells c e p) => .ok (c.length, e, p) { s with log := .rdd k :: s.log }
  | _ => .fail "blk"
def blkS (k : Nat) : M (Nat × TypeId × Bool) := fun s => match s.heap.get k with
  | some (.cells c e p) => .ok (c.length, e, p) { s with log := .rdd k :: s.log }
  | some (.ro c) => .ok (c.length, 0, false) { s with log := .rdd k :: s.log }
  | _ => .fail "blk"

def Ob.isCells : Ob → Bool
  | .cells .. => true
  | .ro .. => true
  | _ => false

def getO (k : Nat) : M Ob := fun s => match s.heap.get k with
  | some o => bif o.isCells then .fail "getO cells" else .ok o { s with log := .rdd k :: s.log }
  | none => .fail "getO"

def setO (k : Nat) (o : Ob) : M Unit := fun s => match s.heap.get k with
  | some o' => bif o'.isCells || o.isCells then .fail "setO cells" else .ok () { s with heap := s.heap.set k (some o), log := .wrd k :: .rdd k :: s.log }
  | none => .fail "setO"

def kill (k : Nat) : M Unit := fun s => match s.heap.get k with
  | some (.cells ..) => .ok () { s with heap := s.heap.set k none, log := .wrd k :: .rdd k :: s.log }
  | _ => .fail "kill"

def alloc (o : Ob) : M Nat := fun s => .ok s.next { heap := s.heap.set s.next (some o), next := s.next + 1, log := .wrd s.next :: s.log }

def toNats (b : ByteArray) : List Nat := b.data.toList.map (·.toNat)

def ofS : Value → Option V
  | .bool b => some (.bool b)
  | .int k n => some (.int k n)
  | .string s => some (.str (toNats s))
  | .pointer none => some .nilptr
  | .slice none 0 0 => some .nilslice
  | .map none => some .nilmap
  | .func (.func f) first captured => bif first.isEmpty && captured.isEmpty then some (.func f [] []) else none
  | .nilFunc => some .nilfunc
  | .nilIface => some .nilIface
  | _ => none

def ofL : List Value → Option (List V)
  | [] => some []
  | v :: l => match ofS v, ofL l with
    | some x, some xs => some (x :: xs)
    | _, _ => none

def ofV : Value → Option V
  | .agg cs => (ofL cs.toList).map V.agg
  | .tuple cs => (ofL cs.toList).map V.tuple
  | .iface t v => (ofS v).map (V.iface t)
  | v => ofS v

def V.cells : V → List V
  | .agg cs => cs
  | v => [v]

def undefV : V := .tuple []

end
end Go.Lx

/-
  The machine's operations: each as the model's own does it, where it goes through at all; elsewhere it fails, and nothing is said.
-/
set_option linter.unusedSimpArgs false
set_option linter.unusedVariables false
namespace Go.Lx
noncomputable section

def isAggD : TypeDesc → Bool
  | .struct _ | .array _ _ => true
  | _ => false

def szT (P : Program) (t : TypeId) : Option Nat := (P.info? t).map (·.size)
def zeroT (P : Program) (t : TypeId) : Option V := ((P.info? t).bind (·.zero)).bind ofV

def loadVarM (P : Program) (t : TypeId) (k o : Nat) : M V :=
  match P.underlying t, szT P t with
  | some d, some n => bif isAggD d then bnd (ld k o n) fun cs => ret (.agg cs)
    else bnd (ld k o 1) fun cs => match cs with
      | [v] => ret v
      | _ => err "loadVar"
  | _, _ => err "loadVar type"

def storeVarM (P : Program) (t : TypeId) (k o : Nat) (v : V) : M V :=
  match szT P t with
  | some n => bif Nat.beq v.cells.length n then bnd (stc k o v.cells) fun _ => ret undefV else err "storeVar size"
  | none => err "storeVar type"

def partM (P : Program) (t : TypeId) (cs : List V) (off : Nat) : M V :=
  match P.underlying t, szT P t with
  | some d, some n => bif isAggD d then (bif Nat.ble (off + n) cs.length then ret (.agg (sub cs off n)) else err "part")
    else match cs[off]? with
      | some v => ret v
      | none => err "part"
  | _, _ => err "part type"

def eqNats : List Nat → List Nat → Bool
  | [], [] => true
  | a :: x, b :: y => Nat.beq a b && eqNats x y
  | _, _ => false
def ltNats : List Nat → List Nat → Bool
  | _, [] => false
  | [], _ :: _ => true
  | a :: x, b :: y => Nat.blt a b || (Nat.beq a b && ltNats x y)
def eqFlat : TypeDesc → V → V → Option Bool
  | .bool, .bool a, .bool b => some (a == b)
  | .int _, .int k a, .int k' b => if k = k' then some (a == b) else none
  | .string, .str a, .str b => some (eqNats a b)
  | .pointer _, .nilptr, .nilptr => some true
  | .pointer _, .nilptr, .ptr _ _ => some false
  | .pointer _, .ptr _ _, .nilptr => some false
  | .slice _, .nilslice, .nilslice => some true
  | .slice _, .nilslice, .slice .. => some false
  | .slice _, .slice .., .nilslice => some false
  | .map _ _, .nilmap, .nilmap => some true
  | .map _ _, .nilmap, .map _ => some false
  | .map _ _, .map _, .nilmap => some false
  | .func _ _ _, .nilfunc, .nilfunc => some true
  | .func _ _ _, .nilfunc, .func .. => some false
  | .func _ _ _, .func .., .nilfunc => some false
  | .interface _, .nilIface, .nilIface => some true
  | .interface _, .nilIface, .iface .. => some false
  | .interface _, .iface .., .nilIface => some false
  | _, _, _ => none
def eqFlats (P : Program) (xs ys : List V) : List Field → Option Bool
  | [] => some true
  | f :: fs => bif f.name == "_" then none else
    match P.underlying f.type with
    | some d => bif isAggD d then none else
      match xs[f.offset]?, ys[f.offset]? with
      | some x, some y => match eqFlat d x y with
        | some true => eqFlats P xs ys fs
        | r => r
      | _, _ => none
    | none => none
def eqFields (P : Program) (xs ys : List V) : List Field → Option Bool
  | [] => some true
  | f :: fs => bif f.name == "_" then none else
    match P.underlying f.type with
    | some d => bif isAggD d then (match d, szT P f.type with
      | .struct gs, some n => bif P.stoodInHeld f.type then none else
        match eqFlats P (sub xs f.offset n) (sub ys f.offset n) gs.toList with
        | some true => eqFields P xs ys fs
        | r => r
      | _, _ => none) else
      match xs[f.offset]?, ys[f.offset]? with
      | some x, some y => match eqFlat d x y with
        | some true => eqFields P xs ys fs
        | r => r
      | _, _ => none
    | none => none

def eqT (P : Program) (t : TypeId) (x y : V) : Option Bool :=
  match P.underlying t, x, y with
  | some (.struct fs), .agg xs, .agg ys => bif P.stoodInHeld t || P.eqGuardType P.depth t then none else eqFields P xs ys fs.toList
  | some (.pointer e), .ptr k o, .ptr k' o' => bif Nat.beq k k' && Nat.beq o o' && (szT P e).isSome then some true else none
  | some d, x, y => bif isAggD d then none else eqFlat d x y
  | none, _, _ => none

def binInt (op : BinOp) (k : IntKind) (a b : Int) : Option V :=
  match op with
  | .add => some (.int k (k.wrap (a + b)))
  | .sub => some (.int k (k.wrap (a - b)))
  | .mul => some (.int k (k.wrap (a * b)))
  | .quo => if b = 0 then none else some (.int k (k.wrap (a.tdiv b)))
  | .rem => if b = 0 then none else some (.int k (a.tmod b))
  | .and => some (.int k (k.wrap ((BitVec.ofInt k.bits a &&& BitVec.ofInt k.bits b).toNat)))
  | .or => some (.int k (k.wrap ((BitVec.ofInt k.bits a ||| BitVec.ofInt k.bits b).toNat)))
  | .xor => some (.int k (k.wrap ((BitVec.ofInt k.bits a ^^^ BitVec.ofInt k.bits b).toNat)))
  | .andNot => some (.int k (k.wrap ((BitVec.ofInt k.bits a &&& ~~~ (BitVec.ofInt k.bits b)).toNat)))
  | .eql => some (.bool (a == b))
  | .neq => some (.bool (a != b))
  | .lss => some (.bool (decide (a < b)))
  | .leq => some (.bool (decide (a ≤ b)))
  | .gtr => some (.bool (decide (b < a)))
  | .geq => some (.bool (decide (b ≤ a)))
  | _ => none

def binStr (op : BinOp) (a b : List Nat) : Option V :=
  match op with
  | .add => bif Nat.ble (a.length + b.length) 9223372036854775807 then some (.str (a ++ b)) else none
  | .eql => some (.bool (eqNats a b))
  | .neq => some (.bool (!eqNats a b))
  | .lss => some (.bool (ltNats a b))
  | .leq => some (.bool (ltNats a b || eqNats a b))
  | .gtr => some (.bool (!(ltNats a b || eqNats a b)))
  | .geq => some (.bool (!ltNats a b))
  | _ => none

def constO : Operand → Bool
  | .const _ => true
  | _ => false

def eqOpV (P : Program) (op : BinOp) (t : TypeId) (x y : V) : Option V := match op with
  | .eql => (eqT P t x y).map V.bool
  | .neq => (eqT P t x y).map fun r => V.bool (!r)
  | _ => none
def binV (P : Program) (op : BinOp) (t : TypeId) (c : Bool) (x y : V) : Option V :=
  match x, y with
  | .int k a, .int k' b => match op with
    | .shl => if b < 0 then none else some (.int k (k.wrap (a * 2 ^ (min b.toNat k.bits))))
    | .shr => if b < 0 then none else some (.int k (a.fdiv (2 ^ (min b.toNat k.bits))))
    | op => if k = k' then binInt op k a b else none
  | .str a, .str b => binStr op a b
  | .nilIface, .nilIface => bif c then (match P.underlying t with
      | some (.interface _) => (match op with
        | .eql => some (.bool true)
        | .neq => some (.bool false)
        | _ => none)
      | _ => none) else none
  | x, y => eqOpV P op t x y

def unV (op : UnOp) (x : V) : Option V :=
  match op, x with
  | .neg, .int k n => some (.int k (k.wrap (0 - n)))
  | .xor, .int k n => binInt .xor k (if k.signed then -1 else k.max) n
  | .not, .bool b => some (.bool (!b))
  | _, _ => none

def fillV : List (Nat × Nat × List V) → List V → Option (List V)
  | [], z => some z
  | (off, size, vs) :: l, z => bif Nat.beq vs.length size && Nat.ble (off + vs.length) z.length then fillV l (listPut z off vs) else none

def rep (z : List V) : Nat → List V
  | 0 => []
  | n + 1 => z ++ rep z n

def structPlaces (P : Program) (fs : Array Field) : List (Nat × List V) → Option (List (Nat × Nat × List V))
  | [] => some []
  | (i, vs) :: l => match fs[i]? with
    | some f => match szT P f.type, structPlaces P fs l with
      | some n, some r => some ((f.offset, n, vs) :: r)
      | _, _ => none
    | none => none
def fieldsSized (P : Program) : List Field → Bool
  | [] => true
  | f :: fs => (P.info? f.type).isSome && fieldsSized P fs

def buildM (P : Program) (t : TypeId) (parts : List (Nat × List V)) : M V :=
  match P.underlying t, zeroT P t with
  | some (.struct fs), some z => bif fieldsSized P fs.toList then
      match structPlaces P fs parts with
      | some ps => match fillV ps z.cells with
        | some cs => ret (.agg cs)
        | none => err "build"
      | none => err "build"
    else err "build"
  | some (.array _ e), some z => match szT P e with
    | some n => match fillV (parts.map fun p => (p.1 * n, n, p.2)) z.cells with
      | some cs => ret (.agg cs)
      | none => err "build"
    | none => err "build"
  | _, _ => err "build type"

def buildSliceM (P : Program) (t : TypeId) (len : Nat) (parts : List (Nat × List V)) : M V :=
  match P.underlying t with
  | some (.slice e) => match szT P e, zeroT P e with
    | some n, some z => bif Nat.ble (len * n) 16777216 && Nat.beq z.cells.length n then
        match fillV (parts.map fun p => (p.1 * n, n, p.2)) (rep z.cells len) with
        | some cs => bnd (alloc (.cells cs e false)) fun k => ret (.slice k 0 len len)
        | none => err "buildSlice"
      else err "buildSlice size"
    | _, _ => err "buildSlice"
  | _ => err "buildSlice type"

def inI (i : Int) (n : Nat) : Bool := match i with
  | .ofNat m => Nat.ble m n
  | .negSucc _ => false

def boundO (x : Option V) (lim dflt : Nat) : Option Nat := match x with
  | none => some dflt
  | some (.int _ i) => bif inI i lim then some i.toNat else none
  | _ => none
def boundsV (lo hi mx : Option V) (len cap : Nat) : Option (Nat × Nat × Nat) :=
  match boundO mx cap cap with
  | none => none
  | some m => match hi, mx with
    | none, some _ => none
    | _, _ => match boundO hi m len with
      | none => none
      | some h => match boundO lo h 0 with
        | none => none
        | some l => some (l, h, m)

def sliceM (P : Program) (t : TypeId) (x : V) (lo hi mx : Option V) : M V :=
  match P.underlying t, x with
  | some .string, .str s => bif mx.isSome then err "slice" else match boundsV lo hi none s.length s.length with
    | some (l, h, _) => ret (.str (sub s l (h - l)))
    | none => err "slice bounds"
  | some (.slice e), .nilslice => match boundsV lo hi mx 0 0, szT P e with
    | some _, some _ => ret .nilslice
    | _, _ => err "slice bounds"
  | some (.slice e), .slice b o len cap => match boundsV lo hi mx len cap, szT P e with
    | some (l, h, m), some n => bif Nat.ble h cap then
        bnd (blkS b) fun (_, e', p) => bif !p || (szT P e' == some n) then ret (.slice b (o + l * n) (h - l) (m - l)) else err "slice elem"
      else err "slice bounds"
    | _, _ => err "slice bounds"
  | some (.array n e), .ptr b o => match boundsV lo hi mx n n, szT P e with
    | some (l, h, m), some s => ret (.slice b (o + l * s) (h - l) (m - l))
    | _, _ => err "slice bounds"
  | some (.pointer a), .ptr b o => match P.underlying a with
    | some (.array n e) => match boundsV lo hi mx n n, szT P e with
      | some (l, h, m), some s => ret (.slice b (o + l * s) (h - l) (m - l))
      | _, _ => err "slice bounds"
    | _ => err "slice"
  | _, _ => err "slice"

def bytesV (s : List Nat) : List V := s.map fun (n : Nat) => V.int .u8 n
def natsV : List V → Option (List Nat)
  | [] => some []
  | .int .u8 (.ofNat n) :: l => match natsV l with
    | some r => bif Nat.blt n 256 then some (n :: r) else none
    | none => none
  | _ => none

def hasSize (P : Program) (t : TypeId) : Bool := match szT P t with
  | some (_ + 1) => true
  | _ => false

def convertM (P : Program) (src dst : TypeId) (x : V) : M V :=
  match P.underlying src, P.underlying dst, x with
  | some _, some (.int k), .int _ n => ret (.int k (k.wrap n))
  | some _, some .string, .int _ n => ret (.str (toNats (Utf8.encode n)))
  | some _, some .string, .str s => ret (.str s)
  | some _, some (.slice e), .str s => match P.underlying e with
    | some (.int .u8) => bif (szT P e == some 1) then bnd (alloc (.cells (bytesV s) e true)) fun k => ret (.slice k 0 s.length s.length) else err "convert"
    | _ => err "convert runes"
  | some (.slice e), some .string, .nilslice => match P.underlying e with
    | some (.int .u8) => ret (.str [])
    | _ => err "convert runes"
  | some (.slice e), some .string, .slice b o n _ => match P.underlying e with
    | some (.int .u8) => bnd (ld b o n) fun vs => match natsV vs with
      | some s => ret (.str s)
      | none => err "convert bytes"
    | _ => err "convert runes"
  | some (.pointer _), some .unsafePointer, .nilptr => ret .nilptr
  | some (.pointer t), some .unsafePointer, .ptr b o => bnd (blk b) fun (n, _, _) => bif Nat.blt o n && hasSize P t then ret (.ptr b o) else err "convert view"
  | some .unsafePointer, some (.pointer _), .nilptr => ret .nilptr
  | some .unsafePointer, some (.pointer u), .ptr b o => bnd (blk b) fun (n, e, p) => bif !p && (szT P u).isSome && liesAt P P.depth e (n / P.cellsOf e) o u 1 then ret (.ptr b o) else err "convert view"
  | _, _, _ => err "convert"

def sameKey : TypeDesc → V → V → Option Bool
  | .int _, .int k a, .int k' b => if k = k' then some (a == b) else none
  | .string, .str a, .str b => some (eqNats a b)
  | .bool, .bool a, .bool b => some (a == b)
  | _, _, _ => none
def findV (d : TypeDesc) (k : V) : List ME → Nat → Option (Option (Nat × V))
  | [], _ => some none
  | e :: es, i => match sameKey d k e.key with
    | some true => some (some (i, e.val))
    | some false => findV d k es (i + 1)
    | none => none

def keyOk : TypeDesc → V → Bool
  | .int _, .int _ _ => true
  | .string, .str _ => true
  | .bool, .bool _ => true
  | _, _ => false

def entriesOf (x : V) : M (List ME) := match x with
  | .nilmap => ret []
  | .map r => bnd (getO r) fun o => match o with
    | .map es _ => ret es
    | _ => err "entries"
  | _ => err "entries"

def lookupM (P : Program) (t : TypeId) (x k : V) (ok : Bool) : M V :=
  match P.underlying t with
  | some (.map key elem) => match P.underlying key, zeroT P elem with
    | some d, some z => bif keyOk d k then bnd (entriesOf x) fun es => match findV d k es 0 with
        | some (some (_, v)) => ret (bif ok then .tuple [v, .bool true] else v)
        | some none => ret (bif ok then .tuple [z, .bool false] else z)
        | none => err "lookup key"
      else err "lookup key"
    | _, _ => err "lookup type"
  | _ => err "lookup type"

def modifyE : List ME → Nat → (ME → ME) → List ME
  | [], _, _ => []
  | e :: es, 0, f => f e :: es
  | e :: es, n + 1, f => e :: modifyE es n f

def mapUpdateM (P : Program) (t : TypeId) (m k v : V) : M V :=
  match P.underlying t with
  | some (.map key _) => match P.underlying key, m with
    | some d, .map r => bif keyOk d k then bnd (getO r) fun o => match o with
        | .map es clock => match findV d k es 0 with
          | some (some (i, _)) => bnd (setO r (.map (modifyE es i fun e => { e with key := k, val := v }) clock)) fun _ => ret undefV
          | some none => bnd (setO r (.map (es ++ [⟨k, v, clock⟩]) (clock + 1))) fun _ => ret undefV
          | none => err "mapUpdate"
        | _ => err "mapUpdate"
      else err "mapUpdate key"
    | _, _ => err "mapUpdate"
  | _ => err "mapUpdate type"

def eraseE : List ME → Nat → List ME
  | [], _ => []
  | _ :: es, 0 => es
  | e :: es, n + 1 => e :: eraseE es n

def deleteM (P : Program) (t : TypeId) (m k : V) : M V :=
  match P.underlying t with
  | some (.map key _) => match P.underlying key, m with
    | some d, .nilmap => bif keyOk d k then ret undefV else err "delete"
    | some d, .map r => bif keyOk d k then bnd (getO r) fun o => match o with
        | .map es clock => match findV d k es 0 with
          | some (some (i, _)) => bnd (setO r (.map (eraseE es i) clock)) fun _ => ret undefV
          | some none => bnd (setO r (.map es clock)) fun _ => ret undefV
          | none => err "delete"
        | _ => err "delete"
      else err "delete"
    | _, _ => err "delete"
  | _ => err "delete type"
def dec (l : List Nat) : Nat × Nat :=
  let at' (k : Nat) : Nat := l.getD k 0
  let cont (k : Nat) : Bool := Nat.blt k l.length && Nat.beq (at' k / 64) 2
  let b0 := at' 0
  bif Nat.blt b0 0x80 then (b0, 1)
  else bif Nat.beq (b0 / 32) 6 && cont 1 then
    let c := (b0 % 32) * 64 + at' 1 % 64
    bif Nat.ble 0x80 c then (c, 2) else (Utf8.runeError, 1)
  else bif Nat.beq (b0 / 16) 14 && cont 1 && cont 2 then
    let c := (b0 % 16) * 4096 + (at' 1 % 64) * 64 + at' 2 % 64
    bif Nat.ble 0x800 c && Utf8.valid c then (c, 3) else (Utf8.runeError, 1)
  else bif Nat.beq (b0 / 8) 30 && cont 1 && cont 2 && cont 3 then
    let c := (b0 % 8) * 262144 + (at' 1 % 64) * 4096 + (at' 2 % 64) * 64 + at' 3 % 64
    bif Nat.ble 0x10000 c && Utf8.valid c then (c, 4) else (Utf8.runeError, 1)
  else (Utf8.runeError, 1)

def rangeM (P : Program) (t : TypeId) (x : V) : M V :=
  match P.underlying t, x with
  | some .string, .str s => bnd (alloc (.siter s 0)) fun k => ret (.ptr k 0)
  | some (.map _ _), .nilmap => bnd (alloc (.miter none 0 [] 0)) fun k => ret (.ptr k 0)
  | some (.map _ _), .map m => bnd (getO m) fun o => match o with
    | .map _ clock => bnd (alloc (.miter (some m) clock [] clock)) fun k => ret (.ptr k 0)
    | _ => err "range"
  | _, _ => err "range"

def memNat (n : Nat) : List Nat → Bool
  | [] => false
  | m :: l => Nat.beq n m || memNat n l
def unseen (seen : List Nat) : List ME → List ME
  | [] => []
  | e :: es => bif memNat e.born seen then unseen seen es else e :: unseen seen es

def allFrom (last : Nat) : List ME → Bool
  | [] => true
  | e :: es => Nat.ble last e.born && allFrom last es

def nextM (it : V) (isString : Bool) : M V := match it with
  | .ptr r 0 => bnd (getO r) fun o => match o, isString with
    | .siter s pos, true => bif Nat.blt pos s.length then
        bnd (setO r (.siter s (pos + (dec (s.drop pos)).2))) fun _ => ret (.tuple [.bool true, .int .i64 pos, .int .i32 (dec (s.drop pos)).1])
      else ret (.tuple [.bool false])
    | .miter none _ _ _, false => ret (.tuple [.bool false])
    | .miter (some m) since seen last, false => bnd (getO m) fun q => match q with
      | .map es clock => bif (!seen.isEmpty && !es.isEmpty && allFrom last es) then err "next gone" else
        match unseen seen es with
        | [] => ret (.tuple [.bool false])
        | [e] => bif Nat.blt e.born since then bnd (setO r (.miter (some m) since (seen ++ [e.born]) clock)) fun _ => ret (.tuple [.bool true, e.key, e.val]) else err "next new"
        | _ => err "next several"
      | _ => err "next map"
    | _, _ => err "next"
  | _ => err "next"

def findBorn (b : Nat) : List ME → Option ME
  | [] => none
  | e :: es => bif Nat.beq e.born b then some e else findBorn b es

def lastN : List Nat → Option Nat
  | [] => none
  | [a] => some a
  | _ :: l => lastN l

def entryM (it : V) : M V := match it with
  | .ptr r 0 => bnd (getO r) fun o => match o with
    | .miter (some m) _ seen stepped => match lastN seen with
      | some b => bnd (getO m) fun q => match q with
        | .map es clock => bif Nat.beq clock stepped then (match findBorn b es with
          | some e => ret (.tuple [e.key, e.val])
          | none => err "entry gone") else err "entry"
        | _ => err "entry"
      | none => err "entry"
    | _ => err "entry"
  | _ => err "entry"

def lenM (P : Program) (t : TypeId) (x : V) : M V :=
  match P.underlying t, x with
  | some .string, .str s => ret (.int .i64 s.length)
  | some (.array n _), _ => ret (.int .i64 n)
  | some (.pointer a), _ => match P.underlying a with
    | some (.array n _) => ret (.int .i64 n)
    | _ => err "len"
  | some (.slice _), .nilslice => ret (.int .i64 (0 : Nat))
  | some (.slice _), .slice _ _ n _ => ret (.int .i64 n)
  | some (.map _ _), .nilmap => ret (.int .i64 (0 : Nat))
  | some (.map _ _), .map r => bnd (getO r) fun o => match o with
    | .map es _ => ret (.int .i64 es.length)
    | _ => err "len"
  | _, _ => err "len"

def capM (P : Program) (t : TypeId) (x : V) : M V :=
  match P.underlying t, x with
  | some (.slice _), .nilslice => ret (.int .i64 (0 : Nat))
  | some (.slice _), .slice b _ _ c => bnd (blk b) fun (_, _, p) => bif p then err "cap open" else ret (.int .i64 c)
  | _, _ => err "cap"
def takenM (size : Nat) (x : V) : M (List V × Nat) := match x with
  | .nilslice => ret ([], 0)
  | .slice b o n _ => bnd (ld b o (n * size)) fun cs => ret (cs, n)
  | .str s => bif Nat.beq size 1 then ret (bytesV s, s.length) else err "taken"
  | _ => err "taken"
def roomy (need bytes : Nat) : Bool := (Nat.ble need 1073741824 && Nat.ble bytes 65536) || (Nat.ble need 140737488355328 && Nat.ble bytes 1)

def isIntD : TypeDesc → Bool
  | .int _ => true
  | _ => false
def growM (e : TypeId) (size b o len n : Nat) (new : List V) : M V :=
  bnd (blk b) fun (_, e', p) => bnd (ld b o (len * size)) fun old =>
    bif p then (bif Nat.beq e' e && new.all V.isCell then
      bnd (kill b) fun _ => bnd (alloc (.cells (old ++ new) e true)) fun k => ret (.slice k 0 (len + n) (len + n)) else err "append elem")
    else bnd (alloc (.cells (old ++ new) e true)) fun k => ret (.slice k 0 (len + n) (len + n))

def appendCore (e : TypeId) (size bytes : Nat) (s : V) (new : List V) (n : Nat) : M V :=
  match s with
  | .nilslice => bif Nat.beq n 0 then ret .nilslice else bif roomy n bytes then bnd (alloc (.cells new e true)) fun k => ret (.slice k 0 n n) else err "append room"
  | .slice b o len cap =>
    bif Nat.beq n 0 then ret (.slice b o len cap)
    else bif Nat.ble (len + n) cap then bnd (stc b (o + len * size) new) fun _ => ret (.slice b o (len + n) cap)
    else bif roomy (len + n) bytes then growM e size b o len n new
    else err "append room"
  | _ => err "append"

def appendM (P : Program) (t tx : TypeId) (s x : V) : M V :=
  match P.underlying t, P.underlying tx with
  | some (.slice e), some dx => match szT P e, zeroT P e, (P.info? e).map (·.bytes) with
    | some size, some z, some bytes => bif Nat.beq z.cells.length size then
        (bif isIntD dx then (match x with
          | .int _ (.ofNat n) => bif roomy n bytes then appendCore e size bytes s (rep z.cells n) n else err "append made"
          | _ => err "append made")
        else bnd (takenM size x) fun p => appendCore e size bytes s p.1 p.2) else err "append zero"
    | _, _, _ => err "append type"
  | _, _ => err "append type"

def copyM (P : Program) (t : TypeId) (d x : V) : M V :=
  match P.underlying t with
  | some (.slice e) => match szT P e, d with
    | some size, .slice b o n _ => match x with
      | .nilslice => ret (.int .i64 (0 : Nat))
      | .slice b2 o2 n2 _ => bnd (ld b2 o2 (min n2 n * size)) fun cs => bnd (stc b o cs) fun _ => ret (.int .i64 ((min n2 n : Nat) : Int))
      | .str s => bif Nat.beq size 1 then bnd (stc b o (bytesV (s.take (min s.length n)))) fun _ => ret (.int .i64 ((min s.length n : Nat) : Int)) else err "copy"
      | _ => err "copy"
    | some size, .nilslice => match x with
      | .nilslice => ret (.int .i64 (0 : Nat))
      | .slice b2 o2 n2 _ => bnd (ld b2 o2 (min n2 0 * size)) fun _ => ret (.int .i64 (0 : Nat))
      | .str _ => ret (.int .i64 (0 : Nat))
      | _ => err "copy"
    | _, _ => err "copy"
  | _ => err "copy type"

def clearM (P : Program) (t : TypeId) (x : V) : M V :=
  match P.underlying t, x with
  | some _, .nilmap => ret undefV
  | some _, .nilslice => ret undefV
  | some _, .map r => bnd (getO r) fun o => match o with
    | .map _ clock => bnd (setO r (.map [] clock)) fun _ => ret undefV
    | _ => err "clear"
  | some (.slice e), .slice b o n _ => match zeroT P e, szT P e with
    | some z, some size => bif Nat.beq z.cells.length size && !(Nat.beq n 0) then bnd (stc b o (rep z.cells n)) fun _ => ret undefV else err "clear"
    | _, _ => err "clear"
  | _, _ => err "clear"

def minInts (k : IntKind) : Int → List V → Option V
  | a, [] => some (.int k a)
  | a, .int _ b :: l => minInts k (if b < a then b else a) l
  | _, _ => none
def maxInts (k : IntKind) : Int → List V → Option V
  | a, [] => some (.int k a)
  | a, .int _ b :: l => maxInts k (if a < b then b else a) l
  | _, _ => none
def unsafeStringM (P : Program) (t : TypeId) (p : V) (n : Nat) : M V :=
  match P.underlying t, p with
  | some (.pointer _), .nilptr => bif Nat.beq n 0 then ret (.str []) else err "unsafeString"
  | some (.pointer u), .ptr b o => bif Nat.beq n 0 then ret (.str []) else
      bnd (blk b) fun (_, e, _) => bif Nat.ble n 9223372036854775807 && Nat.blt 0 P.depth && Nat.beq (P.cellsOf e) 1 && sameLayout P P.depth e u then
        bnd (ld b o n) fun cs => match natsV cs with
          | some s => bnd (kill b) fun _ => ret (.str s)
          | none => err "unsafeString"
      else err "unsafeString"
  | _, _ => err "unsafeString"

def builtinM (P : Program) (b : Builtin) (ts : Array TypeId) (args : List V) : M V :=
  match b, ts[0]?, args with
  | .len, some t, [x] => lenM P t x
  | .cap, some t, [x] => capM P t x
  | .append, some t, [s, x] => match ts[1]? with
    | some tx => appendM P t tx s x
    | none => err "append"
  | .copy, some t, [d, x] => copyM P t d x
  | .delete, some t, [m, k] => deleteM P t m k
  | .clear, some t, [x] => clearM P t x
  | .min, _, .int k a :: l => opt (minInts k a l) "min"
  | .unsafeSliceData, _, [.nilslice] => ret .nilptr
  | .unsafeSliceData, _, [.slice b o _ (_ + 1)] => ret (.ptr b o)
  | .unsafeString, some t, [p, .int _ (.ofNat n)] => unsafeStringM P t p n
  | .max, _, .int k a :: l => opt (maxInts k a l) "max"
  | _, _, _ => err "builtin"

def callV (call : FuncId → List V → M V) (f : V) (args : List V) : M V := match f with
  | .func g first captured => call g (first ++ args ++ captured)
  | _ => err "call"
def constM (P : Program) (gl : T (List V)) (t : TypeId) (g o : Nat) : M V :=
  match gl.get g, P.underlying t, szT P t with
  | some c, some d, some n => bif isAggD d then (bif Nat.ble (o + n) c.length then ret (.agg (sub c o n)) else err "const")
    else (match c[o]? with
      | some v => ret v
      | none => err "const")
  | _, _, _ => err "const"

def opPick (c a b : V) : M V := match c with
  | .bool t => ret (bif t then a else b)
  | _ => err "pick"
def opAlloc (P : Program) (e : TypeId) : M V := match zeroT P e with
  | some z => bnd (alloc (.cells z.cells e false)) fun k => ret (.ptr k 0)
  | none => err "alloc"
def opBox (e : TypeId) (x : V) : M V := bnd (alloc (.cells x.cells e false)) fun k => ret (.ptr k 0)
def opBuild (P : Program) (ev : Operand → V) (t : TypeId) (parts : Array (Nat × Operand)) : M V := buildM P t (parts.toList.map fun p => (p.1, (ev p.2).cells))
def opBuildSlice (P : Program) (ev : Operand → V) (t : TypeId) (len : Nat) (parts : Array (Nat × Operand)) : M V := buildSliceM P t len (parts.toList.map fun p => (p.1, (ev p.2).cells))
def opLoad (P : Program) (gl : T (List V)) (t : TypeId) (a : V) : M V := match a with
  | .ptr k o => loadVarM P t k o
  | .gptr g o => constM P gl t g o
  | _ => err "load"
def opStore (P : Program) (t : TypeId) (a x : V) : M V := match a with
  | .ptr k o => storeVarM P t k o x
  | _ => err "store"
def opNilCheck (x : V) : M V := match x with
  | .ptr k o => ret (.ptr k o)
  | .gptr g o => ret (.gptr g o)
  | .func f a b => ret (.func f a b)
  | .iface t v => ret (.iface t v)
  | _ => err "nilCheck"
def opMakeInterface (P : Program) (t : TypeId) (x : V) : M V := match P.underlying t with
  | some (.interface _) => err "makeInterface"
  | some _ => ret (.iface t x)
  | none => err "makeInterface"
def opMakeFunc (ev : Operand → V) (fn : Fn) (first captured : Array Operand) : M V := match fn with
  | .func f => ret (.func f (first.toList.map ev) (captured.toList.map ev))
  | _ => err "makeFunc"
def opMakeMap (P : Program) (t : TypeId) (r : Option V) : M V := match r with
  | none => bnd (alloc (.map [] 0)) fun k => ret (.map k)
  | some x => match P.underlying t, x with
    | some (.map _ _), .int _ _ => bnd (alloc (.map [] 0)) fun k => ret (.map k)
    | _, _ => err "makeMap"
def opMakeSlice (P : Program) (t : TypeId) (l c : V) : M V := match P.underlying t, l, c with
  | some (.slice e), .int _ (.ofNat l), .int _ (.ofNat c) => match szT P e, zeroT P e, (P.info? e).map (·.bytes) with
    | some n, some z, some bytes => bif Nat.ble l c && roomy c bytes && Nat.beq z.cells.length n then
        bnd (alloc (.cells (rep z.cells c) e false)) fun k => ret (.slice k 0 l c) else err "makeSlice"
    | _, _, _ => err "makeSlice"
  | _, _, _ => err "makeSlice"
def opFieldAddr (P : Program) (t : TypeId) (x : V) (f : Nat) : M V := match P.underlying t, x with
  | some (.struct fs), .ptr k o => match fs[f]? with
    | some fd => match szT P fd.type with
      | some (_ + 1) => ret (.ptr k (o + fd.offset))
      | _ => err "fieldAddr"
    | none => err "fieldAddr"
  | _, _ => err "fieldAddr"
def opField (P : Program) (t : TypeId) (x : V) (f : Nat) : M V := match P.underlying t, x with
  | some (.struct fs), .agg cs => match fs[f]? with
    | some fd => partM P fd.type cs fd.offset
    | none => err "field"
  | _, _ => err "field"
def opIndexAddr (P : Program) (t : TypeId) (x ix : V) : M V := match P.underlying t, x, ix with
  | some (.array n e), .ptr k o, .int _ (.ofNat i) => match szT P e with
    | some s => bif Nat.blt i n then ret (.ptr k (o + i * s)) else err "indexAddr"
    | none => err "indexAddr"
  | some (.array n e), .gptr g o, .int _ (.ofNat i) => match szT P e with
    | some s => bif Nat.blt i n then ret (.gptr g (o + i * s)) else err "indexAddr"
    | none => err "indexAddr"
  | some (.slice e), .slice k o n _, .int _ (.ofNat i) => match szT P e with
    | some s => bif Nat.blt i n then ret (.ptr k (o + i * s)) else err "indexAddr"
    | none => err "indexAddr"
  | _, _, _ => err "indexAddr"
def opIndex (P : Program) (t : TypeId) (x ix : V) : M V := match P.underlying t, x, ix with
  | some (.array n e), .agg cs, .int _ (.ofNat i) => match szT P e with
    | some s => bif Nat.blt i n then partM P e cs (i * s) else err "index"
    | none => err "index"
  | some .string, .str s, .int _ (.ofNat i) => match s[i]? with
    | some b => ret (.int .u8 b)
    | none => err "index"
  | _, _, _ => err "index"
def opExtract (t : V) (i : Nat) : M V := match t with
  | .tuple vs => opt vs[i]? "extract"
  | _ => err "extract"
def opCall (P : Program) (call : FuncId → List V → M V) (ev : Operand → V) (c : Call) : M V := match c.callee with
  | .value f => callV call (ev f) (c.args.toList.map ev)
  | .invoke _ _ => err "invoke"
  | .builtin b => builtinM P b c.argTypes (c.args.toList.map ev)
def opTab (o : Op) : Program → T (List V) → (FuncId → List V → M V) → (Operand → V) → M V :=
  Op.rec (motive := fun _ => Program → T (List V) → (FuncId → List V → M V) → (Operand → V) → M V)
    (fun x P gl call ev => ret (ev x))
    (fun x P gl call ev => ret (ev x))
    (fun c a b P gl call ev => opPick (ev c) (ev a) (ev b))
    (fun e P gl call ev => opAlloc P e)
    (fun e x P gl call ev => opBox e (ev x))
    (fun t parts P gl call ev => opBuild P ev t parts)
    (fun t len parts P gl call ev => opBuildSlice P ev t len parts)
    (fun t m k x P gl call ev => mapUpdateM P t (ev m) (ev k) (ev x))
    (fun t a P gl call ev => opLoad P gl t (ev a))
    (fun t a x P gl call ev => opStore P t (ev a) (ev x))
    (fun _ P gl call ev => err "op")
    (fun _ P gl call ev => err "op")
    (fun x P gl call ev => opNilCheck (ev x))
    (fun op t x y _ P gl call ev => opt (binV P op t (constO x || constO y) (ev x) (ev y)) "binOp")
    (fun op _ x P gl call ev => opt (unV op (ev x)) "unOp")
    (fun src dst x P gl call ev => convertM P src dst (ev x))
    (fun _ _ P gl call ev => err "op")
    (fun t x P gl call ev => opMakeInterface P t (ev x))
    (fun fn first captured P gl call ev => opMakeFunc ev fn first captured)
    (fun t r P gl call ev => opMakeMap P t (r.map ev))
    (fun _ _ P gl call ev => err "op")
    (fun t l c P gl call ev => opMakeSlice P t (ev l) (ev c))
    (fun t x lo hi mx P gl call ev => sliceM P t (ev x) (lo.map ev) (hi.map ev) (mx.map ev))
    (fun t x f P gl call ev => opFieldAddr P t (ev x) f)
    (fun t x f P gl call ev => opField P t (ev x) f)
    (fun t x ix P gl call ev => opIndexAddr P t (ev x) (ev ix))
    (fun t x ix P gl call ev => opIndex P t (ev x) (ev ix))
    (fun t x ix ok P gl call ev => lookupM P t (ev x) (ev ix) ok)
    (fun t m k x P gl call ev => mapUpdateM P t (ev m) (ev k) (ev x))
    (fun _ _ _ P gl call ev => err "op")
    (fun _ _ _ _ P gl call ev => err "op")
    (fun t x P gl call ev => rangeM P t (ev x))
    (fun it isString P gl call ev => nextM (ev it) isString)
    (fun it P gl call ev => entryM (ev it))
    (fun _ _ _ _ P gl call ev => err "op")
    (fun t i P gl call ev => opExtract (ev t) i)
    (fun c P gl call ev => opCall P call ev c)
    (fun _ P gl call ev => err "op")
    (fun _ P gl call ev => err "op")
    (fun _ P gl call ev => err "op")
    (fun _ _ P gl call ev => err "op")
    (fun _ _ _ P gl call ev => err "op")
    (fun _ _ P gl call ev => err "op") o

def opM (P : Program) (gl : T (List V)) (call : FuncId → List V → M V) (ev : Operand → V) (o : Op) : M V := opTab o P gl call ev

theorem opM_eq (P : Program) (gl : T (List V)) (call : FuncId → List V → M V) (ev : Operand → V) (o : Op) : opM P gl call ev o =
  (match o with
  | .move x | .assign x => ret (ev x)
  | .pick c a b => opPick (ev c) (ev a) (ev b)
  | .alloc e => opAlloc P e
  | .box e x => opBox e (ev x)
  | .build t parts => opBuild P ev t parts
  | .buildSlice t len parts => opBuildSlice P ev t len parts
  | .load t a => opLoad P gl t (ev a)
  | .store t a x => opStore P t (ev a) (ev x)
  | .nilCheck x => opNilCheck (ev x)
  | .binOp op t x y _ => opt (binV P op t (constO x || constO y) (ev x) (ev y)) "binOp"
  | .unOp op _ x => opt (unV op (ev x)) "unOp"
  | .convert src dst x => convertM P src dst (ev x)
  | .makeInterface t x => opMakeInterface P t (ev x)
  | .makeFunc fn first captured => opMakeFunc ev fn first captured
  | .makeMap t r => opMakeMap P t (r.map ev)
  | .makeSlice t l c => opMakeSlice P t (ev l) (ev c)
  | .slice t x lo hi mx => sliceM P t (ev x) (lo.map ev) (hi.map ev) (mx.map ev)
  | .fieldAddr t x f => opFieldAddr P t (ev x) f
  | .field t x f => opField P t (ev x) f
  | .indexAddr t x ix => opIndexAddr P t (ev x) (ev ix)
  | .index t x ix => opIndex P t (ev x) (ev ix)
  | .lookup t x ix ok => lookupM P t (ev x) (ev ix) ok
  | .mapUpdate t m k x | .insert t m k x => mapUpdateM P t (ev m) (ev k) (ev x)
  | .range t x => rangeM P t (ev x)
  | .next it isString => nextM (ev it) isString
  | .entry it => entryM (ev it)
  | .extract t i => opExtract (ev t) i
  | .call c => opCall P call ev c
  | _ => err "op") := by
  cases o <;> rfl

end
end Go.Lx

/-
  The machine: regions, code, calls. A region whose order is open is run in the order of the text, and what each of its operations looked at and wrote is held against the others': where two that may change places touch, it fails.
-/
set_option linter.unusedSimpArgs false
set_option linter.unusedVariables false
namespace Go.Lx
noncomputable section

structure Cfg where
  P : Program
  lf : Nat
  gl : T (List V)
  sum : FuncId → Option (List V → M V)

def tmGet (tm : T V) (t : Nat) : V := Option.rec (motive := fun _ => V) undefV (fun v => v) (tm.get t)

def constV (v : Value) : V := match ofV v with
  | some x => x
  | none => undefV

def evalO (tm : T V) (x : Operand) : V :=
  Operand.rec (motive := fun _ => V) (fun t => tmGet tm t) constV (fun g => .gptr g 0) (fun f => .func f [] []) x

def operandOk : Operand → Bool
  | .const v => (ofV v).isSome
  | _ => true

def putM (nt : Nat) (dst : Option Tmp) (v : V) (tm : T V) : M (T V) :=
  Option.rec (motive := fun _ => M (T V)) (ret tm) (fun d => Bool.rec (motive := fun _ => M (T V)) (err "slot") (ret (tm.set d (some v))) (Nat.blt d nt)) dst
def wantsG (ops : Array Oper) (tm : T V) (g : Nat × Bool) : Option Bool := match (ops[g.1]?).bind (fun q => q.dst) with
  | some d => match tmGet tm d with
    | .bool b => some (b == g.2)
    | .tuple [] => some false
    | _ => none
  | none => none
def wants (ops : Array Oper) (tm : T V) (o : Oper) : Option Bool :=
  Option.rec (motive := fun _ => Option Bool) (some true) (fun g => wantsG ops tm g) o.guard
def stepV (c : Cfg) (call : FuncId → List V → M V) (ops : Array Oper) (o : Oper) (tm : T V) : M V :=
  Option.rec (motive := fun _ => M V) (err "guard")
    (fun b => Bool.rec (motive := fun _ => M V) (ret undefV) (Bool.rec (motive := fun _ => M V) (err "operands") (opM c.P c.gl call (evalO tm) o.op) (o.op.operands.toList.all operandOk)) b) (wants ops tm o)

theorem putM_eq (nt : Nat) (dst : Option Tmp) (v : V) (tm : T V) : putM nt dst v tm = (match dst with
    | none => ret tm
    | some d => bif Nat.blt d nt then ret (tm.set d (some v)) else err "slot") := by
  cases dst with
  | none => rfl
  | some d =>
    show (Bool.rec (motive := fun _ => M (T V)) (err "slot") (ret (tm.set d (some v))) (Nat.blt d nt)) = (bif Nat.blt d nt then ret (tm.set d (some v)) else err "slot")
    cases Nat.blt d nt <;> rfl

theorem wants_eq (ops : Array Oper) (tm : T V) (o : Oper) : wants ops tm o = (match o.guard with
    | none => some true
    | some (j, want) => match (ops[j]?).bind (fun q => q.dst) with
      | some d => match tmGet tm d with
        | .bool b => some (b == want)
        | .tuple [] => some false
        | _ => none
      | none => none) := by
  unfold wants
  cases o.guard with
  | none => rfl
  | some g => obtain ⟨j, want⟩ := g; rfl

theorem stepV_eq (c : Cfg) (call : FuncId → List V → M V) (ops : Array Oper) (o : Oper) (tm : T V) : stepV c call ops o tm = (match wants ops tm o with
    | none => err "guard"
    | some false => ret undefV
    | some true => bif o.op.operands.toList.all operandOk then opM c.P c.gl call (evalO tm) o.op else err "operands") := by
  unfold stepV
  cases wants ops tm o with
  | none => rfl
  | some b =>
    cases b with
    | false => rfl
    | true =>
      show (Bool.rec (motive := fun _ => M V) (err "operands") (opM c.P c.gl call (evalO tm) o.op) (o.op.operands.toList.all operandOk)) = (bif o.op.operands.toList.all operandOk then opM c.P c.gl call (evalO tm) o.op else err "operands")
      cases o.op.operands.toList.all operandOk <;> rfl

def stepM (c : Cfg) (call : FuncId → List V → M V) (ops : Array Oper) (nt : Nat) (o : Oper) (tm : T V) : M (T V) :=
  bnd (stepV c call ops o tm) fun v => putM nt o.dst v tm

def runM (c : Cfg) (call : FuncId → List V → M V) (ops : Array Oper) (nt : Nat) (l : List Oper) : T V → M (T V) :=
  List.rec (motive := fun _ => T V → M (T V)) (fun tm => ret tm) (fun o _ ih tm => bnd (stepM c call ops nt o tm) ih) l
def meets (a n b m : Nat) : Bool := Nat.blt a (b + m) && Nat.blt b (a + n)
def hits : LE → LE → Bool
  | .wr k a n, .rd k' b m => Nat.beq k k' && meets a n b m
  | .wr k a n, .wr k' b m => Nat.beq k k' && meets a n b m
  | .wrd k, .rd k' _ _ => Nat.beq k k'
  | .wrd k, .wr k' _ _ => Nat.beq k k'
  | .wrd k, .rdd k' => Nat.beq k k'
  | .wrd k, .wrd k' => Nat.beq k k'
  | .wr k _ _, .wrd k' => Nat.beq k k'
  | _, _ => false

def LE.isW : LE → Bool
  | .wr .. | .wrd .. => true
  | _ => false

def anyL {α : Type} (f : α → Bool) : List α → Bool
  | [] => false
  | a :: l => f a || anyL f l

def hitsL (a b : List LE) : Bool := anyL (fun x => x.isW && anyL (hits x) b) a
def looksT (ops : Array Oper) (o : Oper) : List Nat :=
  (match o.guard with
   | some (j, _) => ((ops[j]?).bind (fun q => q.dst)).toList
   | none => []) ++ o.op.operands.toList.filterMap fun | .tmp t => some t | _ => none

def dstIn (d : Option Tmp) (l : List Nat) : Bool := match d with
  | none => false
  | some t => memNat t l
def tmpHits (ops : Array Oper) (a b : Oper) : Bool :=
  dstIn a.dst (looksT ops b) || dstIn b.dst (looksT ops a) || dstIn a.dst b.dst.toList
def apartFrom (ops : Array Oper) (m : Nat) (o : Oper) (lg : List LE) : List (Oper × List LE) → Nat → Bool
  | [], _ => true
  | (q, lq) :: l, i => (m.testBit i || (!tmpHits ops q o && !hitsL lq lg && !hitsL lg lq)) && apartFrom ops m o lg l (i + 1)

def apartAll (ops : Array Oper) (b : Array Nat) : List (Oper × List LE) → Nat → List (Oper × List LE) → Bool
  | _, _, [] => true
  | done, j, (o, lg) :: l => apartFrom ops (b.getD j 0) o lg done 0 && apartAll ops b (done ++ [(o, lg)]) (j + 1) l
def edgesOk : List Oper → Nat → Bool
  | [], _ => true
  | o :: l, j => o.after.toList.all (fun e => !Region.binds .any e || Nat.blt e.on j) && edgesOk l (j + 1)
def runL (c : Cfg) (call : FuncId → List V → M V) (ops : Array Oper) (nt : Nat) : List Oper → T V → St → R (T V × List (List LE))
  | [], tm, s => .ok (tm, []) s
  | o :: l, tm, s => match stepM c call ops nt o tm { s with log := [] } with
    | .fail w => .fail w
    | .ok tm' s' => match runL c call ops nt l tm' s' with
      | .fail w => .fail w
      | .ok (tm'', ls) s'' => .ok (tm'', s'.log :: ls) s''

def joinLogs : List (List LE) → List LE → List LE
  | [], acc => acc
  | l :: ls, acc => joinLogs ls (l ++ acc)

def drawM (c : Cfg) (call : FuncId → List V → M V) (ops : Array Oper) (nt : Nat) (tm : T V) : M (T V) := fun s =>
  match runL c call ops nt ops.toList tm s with
  | .fail w => .fail w
  | .ok (tm', ls) s' => bif edgesOk ops.toList 0 && apartAll ops (Region.before ops) [] 0 (ops.toList.zip ls) then .ok tm' { s' with log := joinLogs ls s.log } else .fail "order"

inductive Ex where
  | normal
  | exit (id : Nat)
  | ret
  | goto (l : Nat)

def iter (f : T V → M (Ex × T V)) : Nat → T V → M (Ex × T V)
  | 0, _ => err "rounds"
  | n + 1, tm => bnd (f tm) fun r => match r with
    | (.normal, tm') => iter f n tm'
    | (e, tm') => Lx.ret (e, tm')

def andThen (r : M (Ex × T V)) (k : T V → M (Ex × T V)) : M (Ex × T V) := bnd r fun r => match r with
    | (.normal, tm') => k tm'
    | (e, tm') => Lx.ret (e, tm')
def jumps (fr : Nat → Option (T V → M (Ex × T V))) : Nat → Ex × T V → M (Ex × T V)
  | 0, _ => err "jumps"
  | n + 1, (.goto l, tm) => match fr l with
    | some k => bnd (k tm) (jumps fr n)
    | none => Lx.ret (.goto l, tm)
  | _, (e, tm) => Lx.ret (e, tm)
def codeB (c : Cfg) (call : FuncId → List V → M V) (nt : Nat) : Code → (T V → M (Ex × T V)) × (Nat → Option (T V → M (Ex × T V)))
  | .skip => (fun tm => Lx.ret (.normal, tm), fun _ => none)
  | .label l' => (fun tm => Lx.ret (.normal, tm), fun l => bif Nat.beq l' l then some (fun tm => Lx.ret (.normal, tm)) else none)
  | .region _ ops d => (fun tm => bnd (bif d then drawM c call ops nt tm else runM c call ops nt ops.toList tm) fun tm' => Lx.ret (.normal, tm'), fun _ => none)
  | .seq a b => (fun tm => andThen ((codeB c call nt a).1 tm) (codeB c call nt b).1, fun l => match (codeB c call nt a).2 l with
    | some k => some (fun tm => andThen (k tm) (codeB c call nt b).1)
    | none => (codeB c call nt b).2 l)
  | .cond x a b => (fun tm => bif operandOk x then (match evalO tm x with
    | .bool t => bif t then (codeB c call nt a).1 tm else (codeB c call nt b).1 tm
    | _ => err "cond") else err "cond", fun _ => none)
  | .block id a => (fun tm => bnd ((codeB c call nt a).1 tm) fun r => match r with
    | (.exit i, tm') => Lx.ret (bif Nat.beq i id then .normal else .exit i, tm')
    | (e, tm') => Lx.ret (e, tm'), fun _ => none)
  | .loop a => (fun tm => iter (codeB c call nt a).1 c.lf tm, fun _ => none)
  | .exit i => (fun tm => Lx.ret (.exit i, tm), fun _ => none)
  | .ret => (fun tm => Lx.ret (.ret, tm), fun _ => none)
  | .goto l => (fun tm => Lx.ret (.goto l, tm), fun _ => none)
  | .scope a => (fun tm => bnd ((codeB c call nt a).1 tm) (jumps (codeB c call nt a).2 c.lf), fun _ => none)
  | _ => (fun _ => err "code", fun _ => none)
def codeM (c : Cfg) (call : FuncId → List V → M V) (nt : Nat) (code : Code) (tm : T V) : M (Ex × T V) := (codeB c call nt code).1 tm
def lastDefer : List Oper → Option (List Oper × Call)
  | [] => none
  | o :: l => match l with
    | [] => match o.op, o.guard, o.dst with
      | .defer c, none, none => some ([], c)
      | _, _, _ => none
    | _ => match lastDefer l with
      | some p => some (o :: p.1, p.2)
      | none => none
def deferM (c : Cfg) (call : FuncId → List V → M V) (nt : Nat) : Code → T V → M ((Ex × T V) × Option (FuncId × List V))
  | .seq a b, tm => bnd (deferM c call nt a tm) fun r => match r with
    | ((.normal, tm'), none) => deferM c call nt b tm'
    | ((.normal, tm'), some d) => bnd (codeM c call nt b tm') fun q => Lx.ret (q, some d)
    | (q, d) => Lx.ret (q, d)
  | .region id ops d, tm => match d, lastDefer ops.toList with
    | false, some (pre, k) => bnd (runM c call ops nt pre tm) fun tm' => match k.callee with
      | .value (.func f) => bif k.args.toList.all (operandOk) then Lx.ret ((.normal, tm'), some (f, k.args.toList.map (evalO tm'))) else err "defer"
      | _ => err "defer"
    | _, _ => bnd (codeM c call nt (.region id ops d) tm) fun q => Lx.ret (q, none)
  | x, tm => bnd (codeM c call nt x tm) fun q => Lx.ret (q, none)

def setArgs : List V → Nat → T V → T V
  | [], _, tm => tm
  | v :: l, i, tm => setArgs l (i + 1) (tm.set i (some v))

def resultsM (P : Program) (tm : T V) : List ResultVar → M (List V)
  | [] => Lx.ret []
  | .tmp t :: l => bnd (resultsM P tm l) fun vs => Lx.ret (tmGet tm t :: vs)
  | .cell a t :: l => match tmGet tm a with
    | .ptr k o => bnd (loadVarM P t k o) fun v => bnd (resultsM P tm l) fun vs => Lx.ret (v :: vs)
    | _ => err "result"

def oneOf : List V → V
  | [v] => v
  | vs => .tuple vs
def plainM (c : Cfg) (call : FuncId → List V → M V) (fn : Func) (code : Code) (args : List V) : M V :=
  bnd (codeM c call (max args.length fn.ntmps) code (setArgs args 0 .leaf)) fun r => match r with
    | (.exit _, _) => err "exit"
    | (.goto _, _) => err "goto"
    | (_, tm) => bnd (resultsM c.P tm fn.results.toList) fun vs => Lx.ret (oneOf vs)
def laterM (c : Cfg) (call : FuncId → List V → M V) : Option (FuncId × List V) → M V
  | none => Lx.ret undefV
  | some (f, vs) => match c.P.funcs[f]? with
    | some fn => bif fn.name == "runtime.NumGoroutine" then err "goroutines" else match fn.body with
      | some code => plainM c call fn code vs
      | none => err "no body"
    | none => err "no function"

def bodyM (c : Cfg) (call : FuncId → List V → M V) (fn : Func) (code : Code) (args : List V) : M V :=
  bnd (deferM c call (max args.length fn.ntmps) code (setArgs args 0 .leaf)) fun r => match r with
    | ((.exit _, _), _) => err "exit"
    | ((.goto _, _), _) => err "goto"
    | ((_, tm), d) => bnd (laterM c call d) fun _ => bnd (resultsM c.P tm fn.results.toList) fun vs => Lx.ret (oneOf vs)

def callM (c : Cfg) : Nat → FuncId → List V → M V
  | 0, _, _ => err "depth"
  | n + 1, f, args => match c.sum f with
    | some g => g args
    | none => match c.P.funcs[f]? with
      | some fn => bif fn.name == "runtime.NumGoroutine" then err "goroutines" else match fn.body with
        | some code => bodyM c (callM c n) fn code args
        | none => err "no body"
      | none => err "no function"

end
end Go.Lx

/-
  How the machine's values and blocks stand to the model's.
-/
set_option linter.unusedSimpArgs false
set_option linter.unusedVariables false
namespace Go.Lx
noncomputable section

theorem nbeq_ne {a b : Nat} (h : a ≠ b) : Nat.beq a b = false := by
  cases hb : Nat.beq a b
  · rfl
  · exact absurd (Nat.eq_of_beq_eq_true hb) h

theorem T.get_leaf {α : Type} (n : Nat) : (T.leaf : T α).get n = none := rfl
theorem T.get_node {α : Type} (l r : T α) (v : Option α) (n : Nat) :
    (T.node l v r).get n = if n = 0 then v else if n % 2 = 1 then l.get (n / 2) else r.get (n / 2 - 1) := by
  show (Bool.rec (motive := fun _ => Option α) (Bool.rec (motive := fun _ => Option α) (r.get (n / 2 - 1)) (l.get (n / 2)) (Nat.beq (n % 2) 1)) v (Nat.beq n 0)) = _
  by_cases h : n = 0
  · subst h; rfl
  · have h0 : Nat.beq n 0 = false := nbeq_ne h
    rw [h0, if_neg h]
    by_cases h1 : n % 2 = 1
    · have h2 : Nat.beq (n % 2) 1 = true := by rw [h1]; rfl
      rw [h2, if_pos h1]
    · have h2 : Nat.beq (n % 2) 1 = false := nbeq_ne h1
      rw [h2, if_neg h1]

theorem T.single_succ {α : Type} (f n : Nat) (v : Option α) : T.single (f + 1) n v = if n = 0 then T.node .leaf v .leaf else if n % 2 = 1 then .node (T.single f (n / 2) v) none .leaf else .node .leaf none (T.single f (n / 2 - 1) v) := by
  show (Bool.rec (motive := fun _ => T α) (Bool.rec (motive := fun _ => T α) (.node .leaf none (T.single f (n / 2 - 1) v)) (.node (T.single f (n / 2) v) none .leaf) (Nat.beq (n % 2) 1)) (.node .leaf v .leaf) (Nat.beq n 0)) = _
  by_cases h : n = 0
  · subst h; rfl
  · have h0 : Nat.beq n 0 = false := nbeq_ne h
    rw [h0, if_neg h]
    by_cases h1 : n % 2 = 1
    · have h2 : Nat.beq (n % 2) 1 = true := by rw [h1]; rfl
      rw [h2, if_pos h1]
    · have h2 : Nat.beq (n % 2) 1 = false := nbeq_ne h1
      rw [h2, if_neg h1]

theorem T.set_node {α : Type} (l r : T α) (w : Option α) (n : Nat) (v : Option α) : (T.node l w r).set n v = if n = 0 then T.node l v r else if n % 2 = 1 then .node (l.set (n / 2) v) w r else .node l w (r.set (n / 2 - 1) v) := by
  show (Bool.rec (motive := fun _ => T α) (Bool.rec (motive := fun _ => T α) (.node l w (r.set (n / 2 - 1) v)) (.node (l.set (n / 2) v) w r) (Nat.beq (n % 2) 1)) (.node l v r) (Nat.beq n 0)) = _
  by_cases h : n = 0
  · subst h; rfl
  · have h0 : Nat.beq n 0 = false := nbeq_ne h
    rw [h0, if_neg h]
    by_cases h1 : n % 2 = 1
    · have h2 : Nat.beq (n % 2) 1 = true := by rw [h1]; rfl
      rw [h2, if_pos h1]
    · have h2 : Nat.beq (n % 2) 1 = false := nbeq_ne h1
      rw [h2, if_neg h1]

theorem T.get_single {α : Type} (v : Option α) : ∀ (f n m : Nat), n < f → (T.single f n v).get m = if m = n then v else none
  | 0, n, m, h => by omega
  | f + 1, n, m, h => by
    rw [T.single_succ]
    by_cases h0 : n = 0
    · subst h0
      rw [if_pos rfl]
      simp only [T.get_node, T.get_leaf]
      by_cases hm : m = 0 <;> simp [hm]
    · rw [if_neg h0]
      by_cases h1 : n % 2 = 1
      · rw [if_pos h1]
        simp only [T.get_node, T.get_leaf]
        rw [T.get_single v f (n / 2) (m / 2) (by omega)]
        by_cases hm : m = n
        · subst hm; simp [h0, h1]
        · by_cases hm0 : m = 0
          · subst hm0; simp [hm]
          · by_cases hm1 : m % 2 = 1
            · have : m / 2 ≠ n / 2 := by omega
              simp [hm, hm0, hm1, this]
            · simp [hm, hm0, hm1]
      · rw [if_neg h1]
        simp only [T.get_node, T.get_leaf]
        rw [T.get_single v f (n / 2 - 1) (m / 2 - 1) (by omega)]
        by_cases hm : m = n
        · subst hm; simp [h0, h1]
        · by_cases hm0 : m = 0
          · subst hm0; simp [hm]
          · by_cases hm1 : m % 2 = 1
            · simp [hm, hm0, hm1]
            · have : m / 2 - 1 ≠ n / 2 - 1 := by omega
              simp [hm, hm0, hm1, this]

theorem T.get_set {α : Type} (t : T α) : ∀ (n m : Nat) (v : Option α), (t.set n v).get m = if m = n then v else t.get m := by
  induction t with
  | leaf =>
    intro n m v
    show (T.single (n + 1) n v).get m = _
    rw [T.get_single v _ _ _ (by omega), T.get_leaf]
  | node l w r ihl ihr =>
    intro n m v
    rw [T.set_node]
    by_cases h0 : n = 0
    · subst h0
      rw [if_pos rfl]
      simp only [T.get_node]
      by_cases hm : m = 0 <;> simp [hm]
    · rw [if_neg h0]
      by_cases h1 : n % 2 = 1
      · rw [if_pos h1]
        simp only [T.get_node, ihl]
        by_cases hm : m = n
        · subst hm; simp [h0, h1]
        · by_cases hm0 : m = 0
          · subst hm0; simp [hm]
          · by_cases hm1 : m % 2 = 1
            · have : m / 2 ≠ n / 2 := by omega
              simp [hm, hm0, hm1, this]
            · simp [hm, hm0, hm1]
      · rw [if_neg h1]
        simp only [T.get_node, ihr]
        by_cases hm : m = n
        · subst hm; simp [h0, h1]
        · by_cases hm0 : m = 0
          · subst hm0; simp [hm]
          · by_cases hm1 : m % 2 = 1
            · simp [hm, hm0, hm1]
            · have : m / 2 - 1 ≠ n / 2 - 1 := by omega
              simp [hm, hm0, hm1, this]

theorem T.get_set_same {α : Type} (t : T α) (n : Nat) (v : Option α) : (t.set n v).get n = v := by rw [T.get_set, if_pos rfl]
theorem T.get_set_ne {α : Type} (t : T α) {n m : Nat} (v : Option α) (h : m ≠ n) : (t.set n v).get m = t.get m := by rw [T.get_set, if_neg h]

structure Pl where
  blk : Nat
  off : Nat
  opn : Bool
  esz : Nat
  lim : Nat

abbrev Mu := Nat → Option Pl
def SlRel (p : Pl) (o cap cap' : Nat) (a : Addr) : Prop :=
  (cap = 0 ∧ cap' = 0) ∨ (a = ⟨p.blk, p.off + o, none⟩ ∧ (cap' = cap ∨ (p.opn = true ∧ cap ≤ cap' ∧ p.off + o + cap' * p.esz ≤ p.lim)))

mutual
inductive VRel (μ : Mu) (ν : Nat → Value) : V → Value → Prop
  | bool (b : Bool) : VRel μ ν (.bool b) (.bool b)
  | int (k : IntKind) (n : Int) : VRel μ ν (.int k n) (.int k n)
  | str (b : ByteArray) : VRel μ ν (.str (toNats b)) (.string b)
  | ptr {k o : Nat} {p : Pl} (h : μ k = some p) : VRel μ ν (.ptr k o) (.pointer (some ⟨p.blk, p.off + o, none⟩))
  | nilptr : VRel μ ν .nilptr (.pointer none)
  | slice {k o len cap cap' : Nat} {p : Pl} {a : Addr} (h : μ k = some p) (hl : len ≤ cap) (hs : SlRel p o cap cap' a) : VRel μ ν (.slice k o len cap) (.slice (some a) len cap')
  | nilslice : VRel μ ν .nilslice (.slice none 0 0)
  | map {r : Nat} {p : Pl} (h : μ r = some p) : VRel μ ν (.map r) (.map (some p.blk))
  | nilmap : VRel μ ν .nilmap (.map none)
  | func {f : FuncId} {xs ys : List V} {xs' ys' : List Value} (hx : VsRel μ ν xs xs') (hy : VsRel μ ν ys ys') : VRel μ ν (.func f xs ys) (.func (.func f) ⟨xs'⟩ ⟨ys'⟩)
  | nilfunc : VRel μ ν .nilfunc .nilFunc
  | iface {t : TypeId} {v : V} {v' : Value} (h : VRel μ ν v v') : VRel μ ν (.iface t v) (.iface t v')
  | nilIface : VRel μ ν .nilIface .nilIface
  | agg {cs : List V} {cs' : List Value} (h : VsRel μ ν cs cs') : VRel μ ν (.agg cs) (.agg ⟨cs'⟩)
  | tuple {cs : List V} {cs' : List Value} (h : VsRel μ ν cs cs') : VRel μ ν (.tuple cs) (.tuple ⟨cs'⟩)
  | sym (i : Nat) (h : (ν i).oneCell' = true) : VRel μ ν (.sym i) (ν i)
  | gptr (g o : Nat) : VRel μ ν (.gptr g o) (.pointer (some ⟨g, o, none⟩))
inductive VsRel (μ : Mu) (ν : Nat → Value) : List V → List Value → Prop
  | nil : VsRel μ ν [] []
  | cons {v : V} {r : Value} {vs : List V} {rs : List Value} (h : VRel μ ν v r) (hs : VsRel μ ν vs rs) : VsRel μ ν (v :: vs) (r :: rs)
end
def Mu.le (μ μ' : Mu) : Prop := ∀ k p, μ k = some p → μ' k = some p

theorem Mu.le_refl (μ : Mu) : μ.le μ := fun _ _ h => h
theorem Mu.le_trans {a b c : Mu} (h : Mu.le a b) (h' : Mu.le b c) : Mu.le a c := fun k p hk => h' k p (h k p hk)

mutual
theorem VRel.mono {μ μ' : Mu} {ν : Nat → Value} (hm : Mu.le μ μ') : ∀ {v : V} {r : Value}, VRel μ ν v r → VRel μ' ν v r
  | _, _, .bool b => .bool b
  | _, _, .int k n => .int k n
  | _, _, .str b => .str b
  | _, _, .ptr h => .ptr (hm _ _ h)
  | _, _, .nilptr => .nilptr
  | _, _, .slice h hl hs => .slice (hm _ _ h) hl hs
  | _, _, .nilslice => .nilslice
  | _, _, .map h => .map (hm _ _ h)
  | _, _, .nilmap => .nilmap
  | _, _, .func hx hy => .func (VsRel.mono hm hx) (VsRel.mono hm hy)
  | _, _, .nilfunc => .nilfunc
  | _, _, .iface h => .iface (VRel.mono hm h)
  | _, _, .nilIface => .nilIface
  | _, _, .agg h => .agg (VsRel.mono hm h)
  | _, _, .tuple h => .tuple (VsRel.mono hm h)
  | _, _, .sym i h => .sym i h
  | _, _, .gptr g o => .gptr g o
theorem VsRel.mono {μ μ' : Mu} {ν : Nat → Value} (hm : Mu.le μ μ') : ∀ {vs : List V} {rs : List Value}, VsRel μ ν vs rs → VsRel μ' ν vs rs
  | _, _, .nil => .nil
  | _, _, .cons h hs => .cons (VRel.mono hm h) (VsRel.mono hm hs)
end

section
variable {μ : Mu} {ν : Nat → Value}

theorem VsRel.length {vs : List V} {rs : List Value} (h : VsRel μ ν vs rs) : vs.length = rs.length := by
  induction vs generalizing rs with
  | nil => cases h; rfl
  | cons v vs ih => cases h with | cons h hs => simp [ih hs]

theorem VsRel.get {vs : List V} {rs : List Value} (h : VsRel μ ν vs rs) : ∀ {i : Nat} {v : V}, vs[i]? = some v → ∃ r, rs[i]? = some r ∧ VRel μ ν v r := by
  induction vs generalizing rs with
  | nil => intro i v hv; simp at hv
  | cons x vs ih =>
    cases h with
    | cons h hs =>
      intro i v hv
      cases i with
      | zero => simp at hv; subst hv; exact ⟨_, by simp, h⟩
      | succ i => simp at hv; obtain ⟨r, hr, hv⟩ := ih hs hv; exact ⟨r, by simpa using hr, hv⟩

theorem VsRel.of_get {vs : List V} : ∀ {rs : List Value}, vs.length = rs.length → (∀ (i : Nat) (v : V), vs[i]? = some v → ∃ r, rs[i]? = some r ∧ VRel μ ν v r) → VsRel μ ν vs rs := by
  induction vs with
  | nil => intro rs hl _; cases rs <;> simp at hl; exact .nil
  | cons v vs ih =>
    intro rs hl h
    cases rs with
    | nil => simp at hl
    | cons r rs =>
      obtain ⟨r', hr, hv⟩ := h 0 v (by simp)
      simp at hr; subst hr
      exact .cons hv (ih (by simpa using hl) fun i x hx => by simpa using h (i + 1) x (by simpa using hx))

theorem VsRel.append {a b : List V} {a' b' : List Value} (h : VsRel μ ν a a') (k : VsRel μ ν b b') : VsRel μ ν (a ++ b) (a' ++ b') := by
  induction a generalizing a' with
  | nil => cases h; exact k
  | cons v a ih => cases h with | cons h hs => exact .cons h (ih hs)

theorem VsRel.drop {vs : List V} {rs : List Value} (h : VsRel μ ν vs rs) : ∀ n, VsRel μ ν (vs.drop n) (rs.drop n) := by
  induction vs generalizing rs with
  | nil => cases h; intro n; simp; exact .nil
  | cons v vs ih =>
    cases h with
    | cons h hs => intro n; cases n with | zero => exact .cons h hs | succ n => simpa using ih hs n

theorem VsRel.take {vs : List V} {rs : List Value} (h : VsRel μ ν vs rs) : ∀ n, VsRel μ ν (vs.take n) (rs.take n) := by
  induction vs generalizing rs with
  | nil => cases h; intro n; simp; exact .nil
  | cons v vs ih =>
    cases h with
    | cons h hs => intro n; cases n with | zero => simp; exact .nil | succ n => simpa using .cons h (ih hs n)

theorem VsRel.sub {vs : List V} {rs : List Value} (h : VsRel μ ν vs rs) (a n : Nat) : VsRel μ ν (Lx.sub vs a n) (Lx.sub rs a n) := (h.drop a).take n

theorem VsRel.put {vs xs : List V} {rs ys : List Value} (h : VsRel μ ν vs rs) (hx : VsRel μ ν xs ys) : ∀ n, VsRel μ ν (listPut vs n xs) (listPut rs n ys) := by
  induction vs generalizing rs xs ys with
  | nil => cases h; intro n; cases hx <;> simp only [listPut] <;> exact .nil
  | cons v vs ih =>
    cases h with
    | cons h hs =>
      intro n
      cases hx with
      | nil => simp only [listPut]; exact .cons h hs
      | cons g gs =>
        cases n with
        | zero => simp only [listPut]; exact .cons g (ih hs gs 0)
        | succ n => simp only [listPut]; exact .cons h (ih hs (.cons g gs) n)

theorem VsRel.snoc {a : List V} {a' : List Value} {v : V} {r : Value} (h : VsRel μ ν a a') (k : VRel μ ν v r) : VsRel μ ν (a ++ [v]) (a' ++ [r]) := h.append (.cons k .nil)

theorem VsRel.isEmpty {vs : List V} {rs : List Value} (h : VsRel μ ν vs rs) : vs.isEmpty = rs.isEmpty := by cases h <;> rfl
theorem VRel.oneCell {v : V} {r : Value} (h : VRel μ ν v r) (hc : v.isCell = true) : r.oneCell' = true := by
  cases h <;> first | rfl | (simp [V.isCell] at hc; done) | assumption

theorem VsRel.oneCells {vs : List V} {rs : List Value} (h : VsRel μ ν vs rs) (hc : vs.all V.isCell = true) : ∀ r ∈ rs, r.oneCell' = true := by
  induction vs generalizing rs with
  | nil => cases h; simp
  | cons v vs ih =>
    cases h with
    | cons h hs =>
      simp only [List.all_cons, Bool.and_eq_true] at hc
      intro r hr
      cases hr with
      | head => exact h.oneCell hc.1
      | tail _ hr => exact ih hs hc.2 r hr
theorem VRel.cells {v : V} {r : Value} (h : VRel μ ν v r) : VsRel μ ν v.cells r.cells.toList := by
  cases h with
  | agg h => exact h
  | sym i h =>
    have : (ν i).cells = #[ν i] := by cases hv : ν i <;> simp [hv, Value.oneCell', Value.cells] at h ⊢
    rw [this]; exact .cons (.sym i h) .nil
  | tuple h => exact .cons (.tuple h) .nil
  | bool b => exact .cons (.bool b) .nil
  | int k n => exact .cons (.int k n) .nil
  | str b => exact .cons (.str b) .nil
  | ptr h => exact .cons (.ptr h) .nil
  | nilptr => exact .cons .nilptr .nil
  | slice h hl hs => exact .cons (.slice h hl hs) .nil
  | nilslice => exact .cons .nilslice .nil
  | map h => exact .cons (.map h) .nil
  | nilmap => exact .cons .nilmap .nil
  | func hx hy => exact .cons (.func hx hy) .nil
  | nilfunc => exact .cons .nilfunc .nil
  | iface h => exact .cons (.iface h) .nil
  | nilIface => exact .cons .nilIface .nil
  | gptr g o => exact .cons (.gptr g o) .nil

theorem VRel.undef : VRel μ ν undefV undef := .tuple .nil
end

inductive ESRel (μ : Mu) (ν : Nat → Value) : List ME → List MapEntry → Prop
  | nil : ESRel μ ν [] []
  | cons {k v : V} {k' v' : Value} {b : Nat} {es : List ME} {es' : List MapEntry} (hk : VRel μ ν k k') (hv : VRel μ ν v v') (h : ESRel μ ν es es') : ESRel μ ν (⟨k, v, b⟩ :: es) (⟨k', v', b⟩ :: es')

theorem ESRel.mono {μ μ' : Mu} {ν : Nat → Value} (hm : Mu.le μ μ') {es : List ME} {es' : List MapEntry} (h : ESRel μ ν es es') : ESRel μ' ν es es' := by
  induction h with
  | nil => exact .nil
  | cons hk hv _ ih => exact .cons (hk.mono hm) (hv.mono hm) ih
def ORel (P : Program) (μ : Mu) (ν : Nat → Value) (p : Pl) (H : Array Obj) : Ob → Prop
  | .cells c e opn => p.opn = opn ∧ (opn = true → szT P e = some p.esz) ∧ ∃ rc frz, H[p.blk]? = some (.cells rc e frz) ∧ (opn = false → p.off = 0) ∧ p.off + c.length ≤ p.lim ∧ p.lim ≤ rc.size ∧
      (∀ i, i < p.lim → ¬ (frz.1 ≤ i ∧ i < frz.2)) ∧ ∀ i v, c[i]? = some v → ∃ r, rc[p.off + i]? = some r ∧ VRel μ ν v r
  | .map es clock => ∃ res, H[p.blk]? = some (.map ⟨res⟩ clock) ∧ ESRel μ ν es res
  | .siter s pos => p.off = 0 ∧ ∃ b, toNats b = s ∧ H[p.blk]? = some (.stringIter b pos)
  | .ro c => p.opn = false ∧ ∃ rc e frz, H[p.blk]? = some (.cells rc e frz) ∧ ∀ i v, c[i]? = some v → ∃ r, rc[p.off + i]? = some r ∧ VRel μ ν v r
  | .miter none since seen last => p.off = 0 ∧ H[p.blk]? = some (.mapIter none since ⟨seen⟩ last)
  | .miter (some m) since seen last => p.off = 0 ∧ ∃ q, μ m = some q ∧ H[p.blk]? = some (.mapIter (some q.blk) since ⟨seen⟩ last)

theorem ORel.mono {P : Program} {μ μ' : Mu} {ν : Nat → Value} {p : Pl} {H H' : Array Obj} {ob : Ob} (hm : Mu.le μ μ') (hH : H'[p.blk]? = H[p.blk]?) (h : ORel P μ ν p H ob) : ORel P μ' ν p H' ob := by
  cases ob with
  | cells c e opn =>
    obtain ⟨h1, h2, rc, frz, h3, hw, h4, h5, h6, h7⟩ := h
    exact ⟨h1, h2, rc, frz, hH.trans h3, hw, h4, h5, h6, fun i v hv => let ⟨r, hr, hv⟩ := h7 i v hv; ⟨r, hr, hv.mono hm⟩⟩
  | map es clock => obtain ⟨res, h1, h2⟩ := h; exact ⟨res, hH.trans h1, h2.mono hm⟩
  | siter s pos => obtain ⟨h0, b, h1, h2⟩ := h; exact ⟨h0, b, h1, hH.trans h2⟩
  | ro c => obtain ⟨h0, rc, e, frz, h1, h2⟩ := h; exact ⟨h0, rc, e, frz, hH.trans h1, fun i v hv => let ⟨r, hr, hv⟩ := h2 i v hv; ⟨r, hr, hv.mono hm⟩⟩
  | miter m since seen last =>
    cases m with
    | none => obtain ⟨h0, h⟩ := h; exact ⟨h0, hH.trans h⟩
    | some m => obtain ⟨h0, q, h1, h2⟩ := h; exact ⟨h0, q, hm _ _ h1, hH.trans h2⟩
theorem ORel.there {P : Program} {μ : Mu} {ν : Nat → Value} {p : Pl} {H : Array Obj} {ob : Ob} (h : ORel P μ ν p H ob) : p.blk < H.size := by
  have key : ∀ {x : Obj}, H[p.blk]? = some x → p.blk < H.size := fun hx => (Array.getElem?_eq_some_iff.1 hx).1
  cases ob with
  | cells c e opn => obtain ⟨_, _, rc, frz, h3, _⟩ := h; exact key h3
  | map es clock => obtain ⟨res, h1, h2⟩ := h; exact key h1
  | siter s pos => obtain ⟨_, b, h1, h2⟩ := h; exact key h2
  | ro c => obtain ⟨_, rc, e, frz, h1, h2⟩ := h; exact key h1
  | miter m since seen last =>
    cases m with
    | none => exact key h.2
    | some m => obtain ⟨_, q, h1, h2⟩ := h; exact key h2

structure Rel (P : Program) (μ : Mu) (ν : Nat → Value) (h : T Ob) (H : Array Obj) : Prop where
  ob : ∀ k o, h.get k = some o → ∃ p, μ k = some p ∧ ORel P μ ν p H o
  sep : ∀ k k' o o' p p', h.get k = some o → h.get k' = some o' → k ≠ k' → (o.isRo && o'.isRo) = false → μ k = some p → μ k' = some p' → p.blk ≠ p'.blk

def upd (μ : Mu) (k : Nat) (p : Pl) : Mu := fun j => if j = k then some p else μ j

theorem upd_same (μ : Mu) (k : Nat) (p : Pl) : upd μ k p k = some p := by simp [upd]
theorem upd_ne (μ : Mu) {k j : Nat} (p : Pl) (h : j ≠ k) : upd μ k p j = μ j := by simp [upd, h]
theorem upd_le {μ : Mu} {k : Nat} (p : Pl) (h : μ k = none) : μ.le (upd μ k p) := fun j q hj => by
  have : j ≠ k := fun e => by rw [e, h] at hj; cases hj
  rw [upd_ne _ _ this]; exact hj
structure StepOk (P : Program) (μ : Mu) (ν : Nat → Value) (h : T Ob) (n : Nat) (w : World) (μ' : Mu) (h' : T Ob) (n' : Nat) (w' : World) : Prop where
  le : μ.le μ'
  new : ∀ k, ¬ (n ≤ k ∧ k < n') → μ' k = μ k
  rel : Rel P μ' ν h' w'.heap
  os : w'.os = w.os
  tape : w'.tape = w.tape
  output : w'.output = w.output
  size : w.heap.size ≤ w'.heap.size
  block : ∀ b, b < w.heap.size → (∀ k p, μ k = some p → p.blk ≠ b) → w'.heap[b]? = w.heap[b]?
  newblk : ∀ k p, μ' k = some p → μ k = none → w.heap.size ≤ p.blk ∨ ∃ j q, μ j = some q ∧ q.blk = p.blk
  ro : ∀ k c p, h.get k = some (.ro c) → μ k = some p → h'.get k = some (.ro c) ∧ w'.heap[p.blk]? = w.heap[p.blk]?

theorem StepOk.refl {P : Program} {μ : Mu} {ν : Nat → Value} {h : T Ob} {n : Nat} {w : World} (hr : Rel P μ ν h w.heap) : StepOk P μ ν h n w μ h n w :=
  ⟨Mu.le_refl _, fun _ _ => rfl, hr, rfl, rfl, rfl, Nat.le_refl _, fun _ _ _ => rfl, fun k p h1 h2 => (by rw [h1] at h2; cases h2), fun _ _ _ h1 _ => ⟨h1, rfl⟩⟩

theorem StepOk.trans {P : Program} {μ μ1 μ2 : Mu} {ν : Nat → Value} {h h1 h2 : T Ob} {n n1 n2 : Nat} {w w1 w2 : World}
    (a : StepOk P μ ν h n w μ1 h1 n1 w1) (b : StepOk P μ1 ν h1 n1 w1 μ2 h2 n2 w2) (hn : n ≤ n1) (hn' : n1 ≤ n2) : StepOk P μ ν h n w μ2 h2 n2 w2 where
  le := Mu.le_trans a.le b.le
  new := fun k hk => by rw [b.new k (by omega), a.new k (by omega)]
  rel := b.rel
  os := b.os.trans a.os
  tape := b.tape.trans a.tape
  output := b.output.trans a.output
  size := Nat.le_trans a.size b.size
  block := fun x hx hf => by
    rw [b.block x (Nat.lt_of_lt_of_le hx a.size), a.block x hx hf]
    intro k p hk he
    cases hm : μ k with
    | some q =>
      have := a.le k q hm
      rw [this] at hk; cases hk
      exact hf k _ hm he
    | none =>
      rcases a.newblk k p hk hm with hs | ⟨j, q, hj, hq⟩
      · omega
      · exact hf j q hj (hq.trans he)
  newblk := fun k p hk hm => by
    cases h1 : μ1 k with
    | some q =>
      have := b.le k q h1
      rw [this] at hk; cases hk
      exact a.newblk k _ h1 hm
    | none =>
      rcases b.newblk k p hk h1 with hs | ⟨j, q, hj, hq⟩
      · exact .inl (Nat.le_trans a.size hs)
      · cases hm' : μ j with
        | some q' =>
          have := a.le j q' hm'
          rw [this] at hj; cases hj
          exact .inr ⟨j, _, hm', hq⟩
        | none =>
          rcases a.newblk j q hj hm' with hs | ⟨i, r, hi, hr⟩
          · exact .inl (by omega)
          · exact .inr ⟨i, r, hi, hr.trans hq⟩
  ro := fun k c p h1 hp => by
    obtain ⟨q1, q2⟩ := a.ro k c p h1 hp
    obtain ⟨r1, r2⟩ := b.ro k c p q1 (a.le k p hp)
    exact ⟨r1, r2.trans q2⟩
theorem StepOk.drew {P : Program} {μ μ' : Mu} {ν : Nat → Value} {h h' : T Ob} {n n' : Nat} {w w' : World} (d : Nat)
    (a : StepOk P μ ν h n { w with drawn := d } μ' h' n' w') : StepOk P μ ν h n w μ' h' n' w' :=
  ⟨a.le, a.new, a.rel, a.os, a.tape, a.output, a.size, a.block, a.newblk, a.ro⟩
theorem Rel.alloc {P : Program} {μ : Mu} {ν : Nat → Value} {h : T Ob} {H : Array Obj} (hr : Rel P μ ν h H) {k : Nat} (hk : μ k = none) {pl : Pl} (hb : pl.blk = H.size) {O : Obj} {ob : Ob}
    (ho : ORel P (upd μ k pl) ν pl (H.push O) ob) : Rel P (upd μ k pl) ν (h.set k (some ob)) (H.push O) where
  ob := fun j o hj => by
    rw [T.get_set] at hj
    split at hj
    · rename_i e; subst e; injection hj with hj; subst hj; exact ⟨pl, upd_same _ _ _, ho⟩
    · rename_i e
      obtain ⟨p, hp, hor⟩ := hr.ob j o hj
      refine ⟨p, by rw [upd_ne _ _ e]; exact hp, hor.mono (upd_le _ hk) ?_⟩
      have := hor.there
      rw [Array.getElem?_push, if_neg (by omega)]
  sep := fun i j o o' p p' hi hj hne hro hp hp' => by
    rw [T.get_set] at hi hj
    have bound : ∀ a q x, a ≠ k → h.get a = some x → upd μ k pl a = some q → q.blk < H.size := fun a q x ha hx hq => by
      rw [upd_ne _ _ ha] at hq
      obtain ⟨p, hp, hor⟩ := hr.ob a x hx
      rw [hp] at hq; cases hq; exact hor.there
    by_cases ei : i = k
    · have ej : j ≠ k := fun e => hne (ei.trans e.symm)
      rw [if_neg ej] at hj
      subst ei
      rw [upd_same] at hp; cases hp
      have := bound j p' o' ej hj hp'
      omega
    · rw [if_neg ei] at hi
      by_cases ej : j = k
      · subst ej
        rw [upd_same] at hp'; cases hp'
        have := bound i p o ei hi hp
        omega
      · rw [if_neg ej] at hj
        rw [upd_ne _ _ ei] at hp; rw [upd_ne _ _ ej] at hp'
        exact hr.sep i j o o' p p' hi hj hne hro hp hp'
theorem Rel.setOb {P : Program} {μ : Mu} {ν : Nat → Value} {h : T Ob} {H H' : Array Obj} (hr : Rel P μ ν h H) {k : Nat} {p : Pl} {ob0 ob : Ob} (h0 : h.get k = some ob0) (h0r : ob0.isRo = false) (hp : μ k = some p)
    (ho : ORel P μ ν p H' ob) (hH : ∀ b, b ≠ p.blk → H'[b]? = H[b]?) : Rel P μ ν (h.set k (some ob)) H' where
  ob := fun j o hj => by
    rw [T.get_set] at hj
    split at hj
    · rename_i e; subst e; injection hj with hj; subst hj; exact ⟨p, hp, ho⟩
    · rename_i e
      obtain ⟨q, hq, hor⟩ := hr.ob j o hj
      exact ⟨q, hq, hor.mono (Mu.le_refl _) (hH _ (hr.sep j k o ob0 q p hj h0 e (by rw [h0r, Bool.and_false]) hq hp))⟩
  sep := fun i j o o' q q' hi hj hne hro hq hq' => by
    rw [T.get_set] at hi hj
    have there : ∀ a x, (if a = k then some ob else h.get a) = some x → ∃ y, h.get a = some y ∧ (y.isRo = false ∨ y = x) := fun a x hx => by
      by_cases e : a = k
      · subst e; exact ⟨_, h0, .inl h0r⟩
      · rw [if_neg e] at hx; exact ⟨_, hx, .inr rfl⟩
    obtain ⟨x, hx, hx2⟩ := there i o hi
    obtain ⟨y, hy, hy2⟩ := there j o' hj
    refine hr.sep i j x y q q' hx hy hne ?_ hq hq'
    rcases hx2 with h | rfl
    · rw [h, Bool.false_and]
    · rcases hy2 with h | rfl
      · rw [h, Bool.and_false]
      · exact hro
theorem Rel.rebind {P : Program} {μ : Mu} {ν : Nat → Value} {h : T Ob} {H H' : Array Obj} (hr : Rel P μ ν h H) {k k2 : Nat} {p pl : Pl} {ob0 ob : Ob} (h0 : h.get k = some ob0) (h0r : ob0.isRo = false) (hp : μ k = some p)
    (hk2 : μ k2 = none) (hb : pl.blk = p.blk) (ho : ORel P (upd μ k2 pl) ν pl H' ob) (hH : ∀ b, b ≠ p.blk → H'[b]? = H[b]?) :
    Rel P (upd μ k2 pl) ν ((h.set k none).set k2 (some ob)) H' where
  ob := fun j o hj => by
    rw [T.get_set] at hj
    split at hj
    · rename_i e; subst e; injection hj with hj; subst hj; exact ⟨pl, upd_same _ _ _, ho⟩
    · rename_i e
      rw [T.get_set] at hj
      split at hj
      · cases hj
      · rename_i e'
        obtain ⟨q, hq, hor⟩ := hr.ob j o hj
        exact ⟨q, by rw [upd_ne _ _ e]; exact hq, hor.mono (upd_le _ hk2) (hH _ (hr.sep j k o ob0 q p hj h0 e' (by rw [h0r, Bool.and_false]) hq hp))⟩
  sep := fun i j o o' q q' hi hj hne hro hq hq' => by
    rw [T.get_set] at hi hj
    have old : ∀ a x r, a ≠ k2 → (if a = k2 then some ob else (h.set k none).get a) = some x → upd μ k2 pl a = some r → a ≠ k ∧ h.get a = some x ∧ μ a = some r := fun a x r ha hx hq => by
      rw [if_neg ha, T.get_set] at hx
      rw [upd_ne _ _ ha] at hq
      by_cases e : a = k
      · rw [if_pos e] at hx; cases hx
      · rw [if_neg e] at hx; exact ⟨e, hx, hq⟩
    by_cases ei : i = k2
    · have ej : j ≠ k2 := fun e => hne (ei.trans e.symm)
      obtain ⟨e1, e2, e3⟩ := old j o' q' ej hj hq'
      subst ei
      rw [upd_same] at hq; cases hq
      rw [hb]
      exact fun e => hr.sep j k o' ob0 q' p e2 h0 e1 (by rw [h0r, Bool.and_false]) e3 hp e.symm
    · obtain ⟨e1, e2, e3⟩ := old i o q ei hi hq
      by_cases ej : j = k2
      · subst ej
        rw [upd_same] at hq'; cases hq'
        rw [hb]
        exact hr.sep i k o ob0 q p e2 h0 e1 (by rw [h0r, Bool.and_false]) e3 hp
      · obtain ⟨f1, f2, f3⟩ := old j o' q' ej hj hq'
        exact hr.sep i j o o' q q' e2 f2 hne hro e3 f3

theorem Rel.drop {P : Program} {μ : Mu} {ν : Nat → Value} {h : T Ob} {H : Array Obj} (hr : Rel P μ ν h H) (k : Nat) : Rel P μ ν (h.set k none) H where
  ob := fun j o hj => by
    rw [T.get_set] at hj
    split at hj
    · cases hj
    · exact hr.ob j o hj
  sep := fun i j o o' p p' hi hj hne hro hp hp' => by
    rw [T.get_set] at hi hj
    split at hi
    · cases hi
    · split at hj
      · cases hj
      · exact hr.sep i j o o' p p' hi hj hne hro hp hp'

end
end Go.Lx

/-
  Reading and writing the model's memory through the relation; the program's types; values of the program's text.
-/
set_option linter.unusedSimpArgs false
set_option linter.unusedVariables false
namespace Go.Lx

section
variable {α β : Type}

theorem bnd_ok {x : M α} {f : α → M β} {s s' : St} {b : β} (h : bnd x f s = .ok b s') : ∃ a s1, x s = .ok a s1 ∧ f a s1 = .ok b s' := by
  unfold bnd at h
  cases hx : x s with
  | ok a s1 => rw [hx] at h; exact ⟨a, s1, rfl, h⟩
  | fail w => rw [hx] at h; cases h

theorem ret_ok {a b : α} {s s' : St} (h : ret a s = .ok b s') : b = a ∧ s' = s := by
  unfold ret at h; injection h with h1 h2; exact ⟨h1.symm, h2.symm⟩

theorem err_ok {w : String} {s s' : St} {a : α} (h : err w s = .ok a s') : False := by
  unfold err at h; cases h

theorem opt_ok {o : Option α} {w : String} {s s' : St} {a : α} (h : opt o w s = .ok a s') : o = some a ∧ s' = s := by
  cases o with
  | none => simp only [opt] at h; exact (err_ok h).elim
  | some x => simp only [opt] at h; have := ret_ok h; exact ⟨by rw [this.1], this.2⟩
end

theorem ble_iff {a b : Nat} : Nat.ble a b = true ↔ a ≤ b := by rw [Nat.ble_eq]
theorem blt_iff {a b : Nat} : Nat.blt a b = true ↔ a < b := by unfold Nat.blt; rw [Nat.ble_eq]; omega
theorem nbeq_iff {a b : Nat} : Nat.beq a b = true ↔ a = b := ⟨Nat.eq_of_beq_eq_true, fun h => by subst h; exact Nat.beq_refl a⟩
theorem nbeq_false {a b : Nat} : Nat.beq a b = false ↔ a ≠ b := ⟨(fun h e => by subst e; rw [Nat.beq_refl] at h; cases h), nbeq_ne⟩
theorem ble_false {a b : Nat} : Nat.ble a b = false ↔ b < a := by
  constructor
  · intro h
    rcases Nat.lt_or_ge b a with h' | h'
    · exact h'
    · rw [ble_iff.2 h'] at h; cases h
  · intro h
    cases hb : Nat.ble a b
    · rfl
    · rw [ble_iff] at hb; omega
theorem blt_false {a b : Nat} : Nat.blt a b = false ↔ b ≤ a := by
  unfold Nat.blt; rw [ble_false]; omega

theorem ld_ok {k o n : Nat} {s s' : St} {cs : List V} (h : ld k o n s = .ok cs s') :
    ∃ c, HasRow s.heap k c ∧ o + n ≤ c.length ∧ cs = sub c o n ∧ s' = { s with log := .rd k o n :: s.log } := by
  unfold ld at h
  split at h
  · rename_i c e p hg
    cases hb : Nat.ble (o + n) c.length
    · rw [hb] at h; cases h
    · rw [hb] at h
      injection h with h1 h2
      exact ⟨c, ⟨_, hg, rfl⟩, ble_iff.1 hb, h1.symm, h2.symm⟩
  · rename_i c hg
    cases hb : Nat.ble (o + n) c.length
    · rw [hb] at h; cases h
    · rw [hb] at h
      injection h with h1 h2
      exact ⟨c, ⟨_, hg, rfl⟩, ble_iff.1 hb, h1.symm, h2.symm⟩
  · cases h

theorem HasRow.cells {h : T Ob} {k : Nat} {c c' : List V} {e : TypeId} {p : Bool} (hr : HasRow h k c') (hk : h.get k = some (.cells c e p)) : c' = c := by
  obtain ⟨ob, h1, h2⟩ := hr
  rw [hk] at h1
  cases h1
  cases h2
  rfl
theorem HasRow.of_cells {h : T Ob} {k : Nat} {c : List V} {e : TypeId} {p : Bool} (hk : h.get k = some (.cells c e p)) : HasRow h k c := ⟨_, hk, rfl⟩

theorem stc_ok {k o : Nat} {vs : List V} {s s' : St} {u : Unit} (h : stc k o vs s = .ok u s') :
    ∃ c e p, s.heap.get k = some (.cells c e p) ∧ o + vs.length ≤ c.length ∧ vs.all V.isCell = true ∧
      s' = { s with heap := s.heap.set k (some (.cells (listPut c o vs) e p)), log := .wr k o vs.length :: s.log } := by
  unfold stc at h
  split at h
  · rename_i c e p hg
    cases hb : (Nat.ble (o + vs.length) c.length && vs.all V.isCell)
    · rw [hb] at h; cases h
    · rw [hb] at h
      injection h with h1 h2
      rw [Bool.and_eq_true] at hb
      exact ⟨c, e, p, hg, ble_iff.1 hb.1, hb.2, h2.symm⟩
  · cases h

theorem blk_ok {k : Nat} {x : Nat × TypeId × Bool} {s s' : St} (h : blk k s = .ok x s') :
    ∃ c e p, s.heap.get k = some (.cells c e p) ∧ x = (c.length, e, p) ∧ s' = { s with log := .rdd k :: s.log } := by
  unfold blk at h
  split at h
  · rename_i c e p hg
    injection h with h1 h2
    exact ⟨c, e, p, hg, h1.symm, h2.symm⟩
  · cases h

theorem blkS_ok {k : Nat} {x : Nat × TypeId × Bool} {s s' : St} (h : blkS k s = .ok x s') :
    ((∃ c, s.heap.get k = some (.cells c x.2.1 x.2.2) ∧ x.1 = c.length) ∨ (∃ c, s.heap.get k = some (.ro c) ∧ x.1 = c.length ∧ x.2.1 = 0 ∧ x.2.2 = false)) ∧ s' = { s with log := .rdd k :: s.log } := by
  unfold blkS at h
  split at h
  · rename_i c e p hg
    injection h with h1 h2
    subst h1
    exact ⟨.inl ⟨c, hg, rfl⟩, h2.symm⟩
  · rename_i c hg
    injection h with h1 h2
    subst h1
    exact ⟨.inr ⟨c, hg, rfl, rfl, rfl⟩, h2.symm⟩
  · cases h

theorem getO_ok {k : Nat} {o : Ob} {s s' : St} (h : getO k s = .ok o s') : s.heap.get k = some o ∧ o.isCells = false ∧ s' = { s with log := .rdd k :: s.log } := by
  unfold getO at h
  split at h
  · rename_i o' hg
    cases hc : o'.isCells
    · rw [hc] at h; injection h with h1 h2; subst h1; exact ⟨hg, hc, h2.symm⟩
    · rw [hc] at h; cases h
  · cases h

theorem setO_ok {k : Nat} {o : Ob} {s s' : St} {u : Unit} (h : setO k o s = .ok u s') :
    ∃ o', s.heap.get k = some o' ∧ o'.isCells = false ∧ o.isCells = false ∧ s' = { s with heap := s.heap.set k (some o), log := .wrd k :: .rdd k :: s.log } := by
  unfold setO at h
  split at h
  · rename_i o' hg
    cases hc : o'.isCells <;> cases hc' : o.isCells <;> rw [hc, hc'] at h <;> first | (cases h; done) | skip
    injection h with h1 h2
    exact ⟨o', hg, hc, rfl, h2.symm⟩
  · cases h

theorem kill_ok {k : Nat} {s s' : St} {u : Unit} (h : kill k s = .ok u s') :
    ∃ c e p, s.heap.get k = some (.cells c e p) ∧ s' = { s with heap := s.heap.set k none, log := .wrd k :: .rdd k :: s.log } := by
  unfold kill at h
  split at h
  · rename_i c e p hg
    injection h with h1 h2
    exact ⟨c, e, p, hg, h2.symm⟩
  · cases h

theorem alloc_ok {ob : Ob} {k : Nat} {s s' : St} (h : alloc ob s = .ok k s') :
    k = s.next ∧ s' = { heap := s.heap.set s.next (some ob), next := s.next + 1, log := .wrd s.next :: s.log } := by
  unfold alloc at h; injection h with h1 h2; exact ⟨h1.symm, h2.symm⟩
section
variable {P : Program} {w : World} {t : TypeId}

theorem run_underlying {d : TypeDesc} (h : P.underlying t = some d) : (underlying t).run P w = .ok d w := by
  simp [underlying, h]
theorem run_typeInfo {i : TypeInfo} (h : P.info? t = some i) : (typeInfo t).run P w = .ok i w := by
  simp [typeInfo, h]
theorem szT_info {n : Nat} (h : szT P t = some n) : ∃ i, P.info? t = some i ∧ i.size = n := by
  unfold szT at h
  cases hi : P.info? t with
  | none => rw [hi] at h; cases h
  | some i => rw [hi] at h; injection h with h; exact ⟨i, rfl, h⟩
theorem run_sizeOf {n : Nat} (h : szT P t = some n) : (sizeOf t).run P w = .ok n w := by
  obtain ⟨i, hi, rfl⟩ := szT_info h
  simp [sizeOf, run_typeInfo hi]
theorem run_isAgg {d : TypeDesc} (h : P.underlying t = some d) : (isAgg t).run P w = .ok (isAggD d) w := by
  simp only [isAgg, Sem.run_bind, run_underlying h, Result.andThen_ok]
  cases d <;> rfl
end
section
variable {μ : Mu} {ν : Nat → Value}

theorem ofS_rel {v : Value} {x : V} (h : ofS v = some x) : VRel μ ν x v := by
  cases v with
  | bool b => injection h with h; subst h; exact .bool b
  | int k n => injection h with h; subst h; exact .int k n
  | string s => injection h with h; subst h; exact .str s
  | pointer a =>
    cases a with
    | none => injection h with h; subst h; exact .nilptr
    | some a => cases h
  | slice a len cap =>
    cases a with
    | none =>
      cases len with
      | zero =>
        cases cap with
        | zero => injection h with h; subst h; exact .nilslice
        | succ n => cases h
      | succ n => cases h
    | some a => cases h
  | map r =>
    cases r with
    | none => injection h with h; subst h; exact .nilmap
    | some r => cases h
  | func fn first captured =>
    cases fn with
    | func f =>
      have h' : (bif first.isEmpty && captured.isEmpty then some (V.func f [] []) else none) = some x := h
      cases hb : (first.isEmpty && captured.isEmpty)
      · rw [hb] at h'; cases h'
      · rw [hb] at h'; injection h' with h'; subst h'
        rw [Bool.and_eq_true] at hb
        have e1 : first = #[] := by simpa using hb.1
        have e2 : captured = #[] := by simpa using hb.2
        subst e1; subst e2
        exact .func .nil .nil
    | _ => cases h
  | nilFunc => injection h with h; subst h; exact .nilfunc
  | nilIface => injection h with h; subst h; exact .nilIface
  | _ => cases h

theorem ofL_rel : ∀ {l : List Value} {xs : List V}, ofL l = some xs → VsRel μ ν xs l
  | [], xs, h => by injection h with h; subst h; exact .nil
  | v :: l, xs, h => by
    unfold ofL at h
    split at h
    · rename_i x ys hx hy; injection h with h; subst h; exact .cons (ofS_rel hx) (ofL_rel hy)
    · cases h

theorem ofV_rel {v : Value} {x : V} (h : ofV v = some x) : VRel μ ν x v := by
  unfold ofV at h
  split at h
  · rename_i cs
    cases hl : ofL cs.toList with
    | none => rw [hl] at h; cases h
    | some l => rw [hl] at h; injection h with h; subst h; exact .agg (ofL_rel hl)
  · rename_i cs
    cases hl : ofL cs.toList with
    | none => rw [hl] at h; cases h
    | some l => rw [hl] at h; injection h with h; subst h; exact .tuple (ofL_rel hl)
  · rename_i t u
    cases hl : ofS u with
    | none => rw [hl] at h; cases h
    | some y => rw [hl] at h; injection h with h; subst h; exact .iface (ofS_rel hl)
  · exact ofS_rel h

theorem zeroT_run {P : Program} {w : World} {t : TypeId} {z : V} (h : zeroT P t = some z) : ∃ r, (zeroValue t).run P w = .ok r w ∧ VRel μ ν z r := by
  unfold zeroT at h
  cases hi : P.info? t with
  | none => rw [hi] at h; cases h
  | some i =>
    rw [hi] at h
    simp only [Option.bind_some] at h
    cases hz : i.zero with
    | none => rw [hz] at h; cases h
    | some v =>
      rw [hz] at h
      exact ⟨v, by simp [zeroValue, run_typeInfo hi, hz], ofV_rel h⟩
end

theorem add_none (b i n : Nat) : (⟨b, i, none⟩ : Addr).add n = ⟨b, i + n, none⟩ := by
  unfold Addr.add; split
  · rename_i h; subst h; rfl
  · rfl

theorem cell_at {w : World} {b i : Nat} {rc : Array Value} {e : TypeId} {frz : Nat × Nat} (h : w.heap[b]? = some (.cells rc e frz)) : w.cell? ⟨b, i, none⟩ = rc[i]? := by
  simp [World.cell?, h]

theorem frozen_at {w : World} {b i : Nat} {rc : Array Value} {e : TypeId} {frz : Nat × Nat} (h : w.heap[b]? = some (.cells rc e frz)) (hf : ¬ (frz.1 ≤ i ∧ i < frz.2)) : w.frozen? ⟨b, i, none⟩ = false := by
  obtain ⟨lo, hi⟩ := frz
  simp only [World.frozen?, h]
  cases hb : (decide (lo ≤ i) && decide (i < hi))
  · rfl
  · rw [Bool.and_eq_true, decide_eq_true_eq, decide_eq_true_eq] at hb; exact absurd hb hf

theorem sub_length {α : Type} {l : List α} {a n : Nat} (h : a + n ≤ l.length) : (sub l a n).length = n := by
  simp [sub]; omega

theorem sub_get {α : Type} {l : List α} {a n j : Nat} (hj : j < n) : (sub l a n)[j]? = l[a + j]? := by
  simp [sub, List.getElem?_drop, hj]

section
variable {P : Program} {μ : Mu} {ν : Nat → Value} {w : World}
theorem row_rel {h : T Ob} (hr : Rel P μ ν h w.heap) {k : Nat} {c : List V} (hk : HasRow h k c) {pl : Pl} (hp : μ k = some pl) :
    ∃ rc e frz, w.heap[pl.blk]? = some (.cells rc e frz) ∧ ∀ i v, c[i]? = some v → ∃ r, rc[pl.off + i]? = some r ∧ VRel μ ν v r := by
  obtain ⟨ob, hk, hrow⟩ := hk
  obtain ⟨q, hq, ho⟩ := hr.ob k _ hk
  rw [hp] at hq; cases hq
  cases ob with
  | cells c' e p =>
    cases hrow
    obtain ⟨h1, _, rc, frz, h3, _, h4, h5, h6, h7⟩ := ho
    exact ⟨rc, e, frz, h3, h7⟩
  | ro c' => cases hrow; exact ho.2
  | map es clock => cases hrow
  | siter s pos => cases hrow
  | miter m since seen last => cases hrow
theorem run_loads_d {h : T Ob} (hr : Rel P μ ν h w.heap) {k : Nat} {c : List V} (hk : HasRow h k c) {pl : Pl} (hp : μ k = some pl) {o n : Nat} (hn : o + n ≤ c.length) :
    ∃ rs, (∀ d, (loadCells ⟨pl.blk, pl.off + o, none⟩ n).run P { w with drawn := d } = .ok ⟨rs⟩ { w with drawn := d }) ∧ VsRel μ ν (sub c o n) rs := by
  obtain ⟨rc, e, frz, h3, h7⟩ := row_rel hr hk hp
  have hsz : n = 0 ∨ pl.off + o + n ≤ rc.size := by
    rcases Nat.eq_zero_or_pos n with h0 | h0
    · exact .inl h0
    · obtain ⟨r, h8, _⟩ := h7 (o + n - 1) _ (List.getElem?_eq_getElem (by omega))
      have := (Array.getElem?_eq_some_iff.1 h8).1
      exact .inr (by omega)
  have hlen : (sub rc.toList (pl.off + o) n).length = n := by
    rcases hsz with rfl | h0
    · simp [sub]
    · exact sub_length (by simp; omega)
  refine ⟨sub rc.toList (pl.off + o) n, fun d => ?_, ?_⟩
  · have := run_loadCells_list (P := P) { w with drawn := d } ⟨pl.blk, pl.off + o, none⟩ (sub rc.toList (pl.off + o) n) (fun j v hv => by
      have hj : j < n := by rw [← hlen]; exact (List.getElem?_eq_some_iff.1 hv).1
      rw [sub_get hj] at hv
      rw [add_none, cell_at (w := { w with drawn := d }) h3]
      simpa using hv)
    rw [hlen] at this
    simpa using this
  · refine VsRel.of_get (by rw [hlen, sub_length hn]) fun i v hv => ?_
    have hi : i < n := by rw [← sub_length hn]; exact (List.getElem?_eq_some_iff.1 hv).1
    rw [sub_get hi] at hv
    obtain ⟨r, hr', hvr⟩ := h7 (o + i) v hv
    exact ⟨r, by rw [sub_get hi]; simpa [Nat.add_assoc] using hr', hvr⟩

theorem run_loads {h : T Ob} (hr : Rel P μ ν h w.heap) {k : Nat} {c : List V} (hk : HasRow h k c) {pl : Pl} (hp : μ k = some pl) {o n : Nat} (hn : o + n ≤ c.length) :
    ∃ rs, (loadCells ⟨pl.blk, pl.off + o, none⟩ n).run P w = .ok ⟨rs⟩ w ∧ VsRel μ ν (sub c o n) rs :=
  let ⟨rs, h1, h2⟩ := run_loads_d hr hk hp hn
  ⟨rs, h1 w.drawn, h2⟩

theorem run_loadCell {h : T Ob} (hr : Rel P μ ν h w.heap) {k : Nat} {c : List V} (hk : HasRow h k c) {pl : Pl} (hp : μ k = some pl) {o : Nat} {v : V} (hv : c[o]? = some v) :
    ∃ r, (load ⟨pl.blk, pl.off + o, none⟩).run P w = .ok r w ∧ VRel μ ν v r := by
  obtain ⟨rc, e, frz, h3, h7⟩ := row_rel hr hk hp
  obtain ⟨r, hr', hvr⟩ := h7 o v hv
  exact ⟨r, by rw [run_load, cell_at h3, hr'], hvr⟩
structure Wrote (w w' : World) (b : Nat) : Prop where
  os : w'.os = w.os
  tape : w'.tape = w.tape
  output : w'.output = w.output
  size : w'.heap.size = w.heap.size
  other : ∀ b', b' ≠ b → w'.heap[b']? = w.heap[b']?

theorem run_stores {b o : Nat} {e : TypeId} {frz : Nat × Nat} : ∀ (vs : List Value) (i : Nat) (w : World) (rc : Array Value), w.heap[b]? = some (.cells rc e frz) →
    o + i + vs.length ≤ rc.size → (∀ j, j < vs.length → ¬ (frz.1 ≤ o + i + j ∧ o + i + j < frz.2)) → (∀ v ∈ vs, v.oneCell' = true) →
    ∃ w' rc', (storeCells ⟨b, o, none⟩ vs i).run P w = .ok () w' ∧ w'.heap[b]? = some (.cells rc' e frz) ∧ rc'.size = rc.size ∧
      (∀ j, rc'[j]? = if o + i ≤ j ∧ j < o + i + vs.length then vs[j - (o + i)]? else rc[j]?) ∧ Wrote w w' b
  | [], i, w, rc, hb, _, _, _ => ⟨w, rc, by simp [storeCells], hb, rfl, fun j => by rw [if_neg (by simp only [List.length_nil]; omega)], ⟨rfl, rfl, rfl, rfl, fun _ _ => rfl⟩⟩
  | v :: vs, i, w, rc, hb, hs, hf, hc => by
    have hlt : o + i < rc.size := by simp at hs; omega
    have hcell : w.cell? ⟨b, o + i, none⟩ = some rc[o + i] := by rw [cell_at hb]; simp [hlt]
    have hfr : w.frozen? ⟨b, o + i, none⟩ = false := frozen_at hb (by simpa using hf 0 (by simp))
    have hset : (w.setCell ⟨b, o + i, none⟩ v).heap[b]? = some (.cells (rc.setIfInBounds (o + i) v) e frz) := by
      simp [World.setCell, Array.getElem?_modify, hb]
    obtain ⟨w', rc', h1, h2, h3, h4, h5⟩ := run_stores (b := b) (o := o) (e := e) (frz := frz) vs (i + 1) (w.setCell ⟨b, o + i, none⟩ v) _ hset (by simp at hs ⊢; omega)
      (fun j hj => by have := hf (j + 1) (by simp; omega); rwa [show o + i + (j + 1) = o + (i + 1) + j by omega] at this) (fun x hx => hc x (by simp [hx]))
    refine ⟨w', rc', ?_, h2, by simpa using h3, fun j => ?_, ⟨h5.os, h5.tape, h5.output, by rw [h5.size]; simp [World.setCell], fun b' hb' => ?_⟩⟩
    · simp only [storeCells, Sem.run_bind, add_none, run_store P w _ v _ (hc v (by simp)), hcell, hfr, Bool.false_eq_true, if_false, Result.andThen_ok]
      exact h1
    · rw [h4]
      by_cases h : o + (i + 1) ≤ j ∧ j < o + (i + 1) + vs.length
      · rw [if_pos h, if_pos (by simp; omega)]
        rw [show j - (o + i) = (j - (o + (i + 1))) + 1 by omega]; simp
      · rw [if_neg h]
        by_cases hj : j = o + i
        · subst hj
          rw [if_pos (by simp)]
          simp [hlt]
        · rw [if_neg (by simp; omega), Array.getElem?_setIfInBounds_ne (by omega)]
    · rw [h5.other b' hb']
      simp only [World.setCell, Array.getElem?_modify]
      rw [if_neg (by simpa using fun e => hb' e.symm)]

end

theorem listPut_length {α : Type} : ∀ (l : List α) (n : Nat) (vs : List α), (listPut l n vs).length = l.length
  | l, _, [] => by simp [listPut]
  | [], _, _ :: _ => by simp [listPut]
  | _ :: l, 0, v :: vs => by simp [listPut, listPut_length l 0 vs]
  | x :: l, n + 1, v :: vs => by simp [listPut, listPut_length l n (v :: vs)]

theorem listPut_get {α : Type} : ∀ (l : List α) (n : Nat) (vs : List α) (j : Nat), n + vs.length ≤ l.length → (listPut l n vs)[j]? = if n ≤ j ∧ j < n + vs.length then vs[j - n]? else l[j]?
  | l, n, [], j, _ => by simp only [listPut, List.length_nil]; rw [if_neg (by omega)]
  | [], n, _ :: _, j, h => by simp at h
  | x :: l, 0, v :: vs, j, h => by
    simp only [listPut]
    cases j with
    | zero => simp
    | succ j =>
      have := listPut_get l 0 vs j (by simp at h ⊢; omega)
      simp only [List.getElem?_cons_succ, this, Nat.zero_le, true_and, Nat.zero_add, List.length_cons, Nat.sub_zero]
      by_cases hj : j < vs.length
      · rw [if_pos hj, if_pos (by omega)]
      · rw [if_neg hj, if_neg (by omega)]
  | x :: l, n + 1, v :: vs, j, h => by
    simp only [listPut]
    cases j with
    | zero => rw [if_neg (by omega)]; simp
    | succ j =>
      have := listPut_get l n (v :: vs) j (by simp at h ⊢; omega)
      simp only [List.getElem?_cons_succ, this]
      by_cases hj : n ≤ j ∧ j < n + (v :: vs).length
      · rw [if_pos hj, if_pos (by omega), show j + 1 - (n + 1) = j - n by omega]
      · rw [if_neg hj, if_neg (by omega)]
structure Globs (gl : T (List V)) (μ : Mu) (h : T Ob) (w : World) : Prop where
  there : ∀ g c, gl.get g = some c → ∃ rc e frz, w.heap[g]? = some (.cells rc e frz) ∧ ∀ (i : Nat) (v : V), c[i]? = some v → ∃ r, rc[i]? = some r ∧ ∀ μ ν, VRel μ ν v r
  apart : ∀ g c k p, gl.get g = some c → μ k = some p → p.blk ≠ g ∨ ∃ j q x, μ j = some q ∧ q.blk = g ∧ h.get j = some (.ro x)
  face : ∀ g, gl.get g = some [] → ∃ ev, w.cell? ⟨g, 0, none⟩ = some ev ∧ (ev = .nilIface ∨ ∃ te pe, ev = .iface te pe)
  tab : ∀ g c rc e frz, gl.get g = some c → c.length = 20 → w.heap[g]? = some (.cells rc e frz) → rc.size = 20

theorem Globs.block {gl : T (List V)} {P : Program} {μ μ' : Mu} {ν : Nat → Value} {h h' : T Ob} {n n' : Nat} {w w' : World} (hg : Globs gl μ h w) (st : StepOk P μ ν h n w μ' h' n' w') {g : Nat} {c : List V} (hc : gl.get g = some c) : w'.heap[g]? = w.heap[g]? := by
  obtain ⟨rc, e, frz, h1, _⟩ := hg.there g c hc
  by_cases hx : ∃ k p, μ k = some p ∧ p.blk = g
  · obtain ⟨k, p, hk, hp⟩ := hx
    rcases hg.apart g c k p hc hk with q | ⟨j, q, x, q1, q2, q3⟩
    · exact absurd hp q
    · rw [← q2]; exact (st.ro j x q q3 q1).2
  · exact st.block g (Array.getElem?_eq_some_iff.1 h1).1 fun k p hk hp => hx ⟨k, p, hk, hp⟩
theorem Globs.step {gl : T (List V)} {P : Program} {μ μ' : Mu} {ν : Nat → Value} {h h' : T Ob} {n n' : Nat} {w w' : World} (hg : Globs gl μ h w) (st : StepOk P μ ν h n w μ' h' n' w') : Globs gl μ' h' w' where
  there := fun g c hc => by
    obtain ⟨rc, e, frz, h1, h2⟩ := hg.there g c hc
    exact ⟨rc, e, frz, (hg.block st hc).trans h1, h2⟩
  apart := fun g c k p hc hk => by
    obtain ⟨rc, e, frz, h1, h2⟩ := hg.there g c hc
    have hlt := (Array.getElem?_eq_some_iff.1 h1).1
    have up : ∀ {b : Nat}, (b ≠ g ∨ ∃ j q x, μ j = some q ∧ q.blk = g ∧ h.get j = some (.ro x)) → b ≠ g ∨ ∃ j q x, μ' j = some q ∧ q.blk = g ∧ h'.get j = some (.ro x) := by
      rintro b (q | ⟨j, q, x, q1, q2, q3⟩)
      · exact .inl q
      · exact .inr ⟨j, q, x, st.le j q q1, q2, (st.ro j x q q3 q1).1⟩
    cases hm : μ k with
    | some q =>
      have := st.le k q hm
      rw [this] at hk; cases hk
      exact up (hg.apart g c k _ hc hm)
    | none =>
      rcases st.newblk k p hk hm with hs | ⟨j, q, hj, hq⟩
      · exact .inl (by omega)
      · rw [← hq]; exact up (hg.apart g c j q hc hj)
  face := fun g hc => by
    obtain ⟨ev, h3, h4⟩ := hg.face g hc
    refine ⟨ev, ?_, h4⟩
    rw [← h3]
    unfold World.cell?
    rw [hg.block st hc]
  tab := fun g c rc e frz hc hl hw => by
    rw [hg.block st hc] at hw
    exact hg.tab g c rc e frz hc hl hw

theorem Globs.none {μ : Mu} {h : T Ob} {w : World} : Globs .leaf μ h w := ⟨fun g c h => (by cases h), fun g c k p h => (by cases h), fun g h => (by cases h), fun g c rc e frz h => (by cases h)⟩
theorem Globs.any {gl : T (List V)} {h h' : T Ob} {w : World} (a : Globs gl (fun _ => Option.none) h w) : Globs gl (fun _ => Option.none) h' w := ⟨a.there, fun g c k p h1 h2 => (by cases h2), a.face, a.tab⟩
theorem StepOk.wrote {P : Program} {μ : Mu} {ν : Nat → Value} {h : T Ob} {n : Nat} {w w' : World} {k : Nat} {p : Pl} {ob0 ob : Ob} (hr : Rel P μ ν h w.heap) (h0 : h.get k = some ob0) (hp : μ k = some p)
    (hw : Wrote w w' p.blk) (ho : ORel P μ ν p w'.heap ob) (h0r : ob0.isRo = false := by first | rfl | assumption) : StepOk P μ ν h n w μ (h.set k (some ob)) n w' where
  le := Mu.le_refl _
  new := fun _ _ => rfl
  rel := hr.setOb h0 h0r hp ho hw.other
  os := hw.os
  tape := hw.tape
  output := hw.output
  size := Nat.le_of_eq hw.size.symm
  block := fun b _ hf => hw.other b fun e => hf k p hp e.symm
  newblk := fun k p h1 h2 => by rw [h1] at h2; cases h2
  ro := fun j c q h1 hq => by
    have hne : j ≠ k := fun e => by
      subst e
      rw [h0] at h1
      cases h1
      cases h0r
    exact ⟨by rw [T.get_set, if_neg hne]; exact h1, hw.other _ (hr.sep j k _ ob0 q p h1 h0 hne (by rw [h0r, Bool.and_false]) hq hp)⟩
theorem StepOk.alloc {P : Program} {μ : Mu} {ν : Nat → Value} {h : T Ob} {n : Nat} {w : World} {ob : Ob} {O : Obj} {d : Nat} {pl : Pl} (hr : Rel P μ ν h w.heap) (hk : μ n = none) (hb : pl.blk = w.heap.size)
    (ho : ORel P (upd μ n pl) ν pl (w.heap.push O) ob) : StepOk P μ ν h n w (upd μ n pl) (h.set n (some ob)) (n + 1) { w with heap := w.heap.push O, drawn := d } where
  le := upd_le _ hk
  new := fun k hk' => upd_ne _ _ (by omega)
  rel := hr.alloc hk hb ho
  os := rfl
  tape := rfl
  output := rfl
  size := by simp
  block := fun b hb' _ => by show (w.heap.push O)[b]? = _; rw [Array.getElem?_push, if_neg (by omega)]
  newblk := fun k p h1 h2 => by
    by_cases e : k = n
    · subst e; rw [upd_same] at h1; cases h1; exact .inl (by omega)
    · rw [upd_ne _ _ e] at h1; rw [h1] at h2; cases h2
  ro := fun j c q h1 hq => by
    have hne : j ≠ n := fun e => by rw [e, hk] at hq; cases hq
    obtain ⟨p', hp', hor⟩ := hr.ob j _ h1
    rw [hq] at hp'; cases hp'
    have := hor.there
    exact ⟨by rw [T.get_set, if_neg hne]; exact h1, by show (w.heap.push O)[q.blk]? = _; rw [Array.getElem?_push, if_neg (by omega)]⟩
theorem ORel.cells_new {P : Program} {μ : Mu} {ν : Nat → Value} {H : Array Obj} {c : List V} {e : TypeId} {rc : List Value} (hv : VsRel μ ν c rc) :
    ORel P μ ν ⟨H.size, 0, false, 0, rc.length⟩ (H.push (.cells ⟨rc⟩ e)) (.cells c e false) := by
  refine ⟨rfl, by simp, ⟨rc⟩, (0, 0), by simp, fun _ => rfl, by simp [hv.length], by simp, by simp, fun i v h => ?_⟩
  obtain ⟨r, hr, hv⟩ := hv.get h
  exact ⟨r, by simpa using hr, hv⟩

end Go.Lx

/-
  What a run of the machine hangs on: where another heap agrees with the first one in all that was looked at, it does there what it did.
-/
set_option linter.unusedSimpArgs false
set_option linter.unusedVariables false
namespace Go.Lx
noncomputable section
inductive Lo where
  | blk (k : Nat)
  | cell (k i : Nat)

inductive LV where
  | gone
  | cells (n : Nat) (e : TypeId) (p : Bool)
  | other (o : Ob)
  | cell (v : Option V)

def lookB : Option Ob → LV
  | none => .gone
  | some (.cells c e p) => .cells c.length e p
  | some o => .other o

def lookC : Option Ob → Nat → LV
  | some (.cells c _ _), i => .cell c[i]?
  | _, _ => .cell none

def look (h : T Ob) : Lo → LV
  | .blk k => lookB (h.get k)
  | .cell k i => lookC (h.get k) i
theorem get_of_look {h g : T Ob} {k : Nat} (hl : ∀ l, look h l = look g l) : h.get k = g.get k := by
  have hb : lookB (h.get k) = lookB (g.get k) := hl (.blk k)
  have hc : ∀ i, lookC (h.get k) i = lookC (g.get k) i := fun i => hl (.cell k i)
  cases h1 : h.get k with
  | none =>
    rw [h1] at hb
    cases h2 : g.get k with
    | none => rfl
    | some o => rw [h2] at hb; cases o <;> simp [lookB] at hb
  | some o =>
    rw [h1] at hb hc
    cases h2 : g.get k with
    | none => rw [h2] at hb; cases o <;> simp [lookB] at hb
    | some o' =>
      rw [h2] at hb hc
      cases o <;> cases o' <;> simp only [lookB, LV.cells.injEq, LV.other.injEq, reduceCtorEq] at hb
      · obtain ⟨e1, e2, e3⟩ := hb
        subst e2; subst e3
        congr 2
        apply List.ext_getElem?
        intro i
        have := hc i
        simpa [lookC] using this
      all_goals (rw [hb])

def LE.reads : LE → Lo → Prop
  | .rd k _ _, .blk k' => k' = k
  | .rd k lo n, .cell k' i => k' = k ∧ lo ≤ i ∧ i < lo + n
  | .wr k _ _, .blk k' => k' = k
  | .rdd k, .blk k' => k' = k
  | _, _ => False

def LE.writes : LE → Lo → Prop
  | .wr k lo n, .cell k' i => k' = k ∧ lo ≤ i ∧ i < lo + n
  | .wrd k, .blk k' => k' = k
  | .wrd k, .cell k' _ => k' = k
  | _, _ => False

def Rd (l : List LE) (x : Lo) : Prop := ∃ e ∈ l, e.reads x
def Wr (l : List LE) (x : Lo) : Prop := ∃ e ∈ l, e.writes x

theorem Rd_head {e : LE} {l : List LE} {x : Lo} (h : e.reads x) : Rd (e :: l) x := ⟨e, List.mem_cons_self, h⟩
theorem Wr_head {e : LE} {l : List LE} {x : Lo} (h : e.writes x) : Wr (e :: l) x := ⟨e, List.mem_cons_self, h⟩

theorem Rd_append {a b : List LE} {x : Lo} : Rd (a ++ b) x ↔ Rd a x ∨ Rd b x := by
  unfold Rd; constructor
  · rintro ⟨e, h, r⟩; rcases List.mem_append.1 h with h | h
    · exact .inl ⟨e, h, r⟩
    · exact .inr ⟨e, h, r⟩
  · rintro (⟨e, h, r⟩ | ⟨e, h, r⟩)
    · exact ⟨e, List.mem_append.2 (.inl h), r⟩
    · exact ⟨e, List.mem_append.2 (.inr h), r⟩

theorem Wr_append {a b : List LE} {x : Lo} : Wr (a ++ b) x ↔ Wr a x ∨ Wr b x := by
  unfold Wr; constructor
  · rintro ⟨e, h, r⟩; rcases List.mem_append.1 h with h | h
    · exact .inl ⟨e, h, r⟩
    · exact .inr ⟨e, h, r⟩
  · rintro (⟨e, h, r⟩ | ⟨e, h, r⟩)
    · exact ⟨e, List.mem_append.2 (.inl h), r⟩
    · exact ⟨e, List.mem_append.2 (.inr h), r⟩
def LE.bk : LE → Nat
  | .rd k _ _ => k
  | .wr k _ _ => k
  | .rdd k => k
  | .wrd k => k
structure Did {α : Type} (F : M α) (s : St) (a : α) (s' : St) (l : List LE) : Prop where
  log : s'.log = l ++ s.log
  next : s.next ≤ s'.next
  stays : ∀ x, ¬ Wr l x → look s'.heap x = look s.heap x
  again : ∀ s2 : St, s2.next = s.next → (∀ x, Rd l x → look s2.heap x = look s.heap x) →
    ∃ s2', F s2 = .ok a s2' ∧ s2'.log = l ++ s2.log ∧ s2'.next = s'.next ∧ (∀ x, Wr l x → look s2'.heap x = look s'.heap x) ∧ ∀ x, ¬ Wr l x → look s2'.heap x = look s2.heap x
  abs : ∀ B, s.heap.get B = none → B < s.next → s'.heap.get B = none ∧ ∀ e ∈ l, e.bk ≠ B

theorem abs_rd {s : St} {k B : Nat} {o : Ob} {l : List LE} (hg : s.heap.get k = some o) (hB : s.heap.get B = none) (hl : ∀ e ∈ l, e.bk = k) : s.heap.get B = none ∧ ∀ e ∈ l, e.bk ≠ B :=
  ⟨hB, fun e he q => by rw [← q, hl e he, hg] at hB; cases hB⟩
theorem abs_wr {s : St} {k B : Nat} {o : Ob} {o' : Option Ob} {l : List LE} (hg : s.heap.get k = some o) (hB : s.heap.get B = none) (hl : ∀ e ∈ l, e.bk = k) : (s.heap.set k o').get B = none ∧ ∀ e ∈ l, e.bk ≠ B := by
  have hk : ¬ B = k := fun q => by rw [q, hg] at hB; cases hB
  exact ⟨by rw [T.get_set, if_neg hk]; exact hB, fun e he q => hk (by rw [← q, hl e he])⟩

def Local {α : Type} (F : M α) : Prop := ∀ s a s', F s = .ok a s' → ∃ l, Did F s a s' l

theorem Local.ret {α : Type} (a : α) : Local (Lx.ret a) := by
  intro s b s' h
  obtain ⟨rfl, rfl⟩ := ret_ok h
  exact ⟨[], rfl, Nat.le_refl _, fun _ _ => rfl, fun s2 hn _ => ⟨s2, rfl, rfl, hn, fun x ⟨e, he, _⟩ => by simp at he, fun _ _ => rfl⟩, fun B hB _ => ⟨hB, fun e he => by cases he⟩⟩

theorem Local.err {α : Type} (w : String) : Local (err w : M α) := fun s a s' h => (err_ok h).elim

theorem Local.opt {α : Type} (o : Option α) (w : String) : Local (Lx.opt o w) := by
  cases o with
  | none => exact Local.err w
  | some a => exact Local.ret a

theorem Local.cond {α : Type} {b : Bool} {x y : M α} (hx : Local x) (hy : Local y) : Local (bif b then x else y) := by
  cases b
  · exact hy
  · exact hx

theorem Local.bnd {α β : Type} {F : M α} {G : α → M β} (hF : Local F) (hG : ∀ a, Local (G a)) : Local (Lx.bnd F G) := by
  intro s b s' h
  obtain ⟨a, s1, h1, h2⟩ := bnd_ok h
  obtain ⟨l1, d1⟩ := hF s a s1 h1
  obtain ⟨l2, d2⟩ := hG a s1 b s' h2
  refine ⟨l2 ++ l1, by rw [d2.log, d1.log, List.append_assoc], Nat.le_trans d1.next d2.next, fun x hx => ?_, fun s2 hn hr => ?_, fun B hB hlt => ?_⟩
  · rw [Wr_append] at hx
    rw [d2.stays x (fun h => hx (.inl h)), d1.stays x (fun h => hx (.inr h))]
  · obtain ⟨s3, e1, e2, e3, e4, e5⟩ := d1.again s2 hn (fun x hx => hr x (Rd_append.2 (.inr hx)))
    obtain ⟨s4, f1, f2, f3, f4, f5⟩ := d2.again s3 e3 (fun x hx => by
      by_cases hw : Wr l1 x
      · exact e4 x hw
      · rw [e5 x hw, hr x (Rd_append.2 (.inl hx)), d1.stays x hw])
    refine ⟨s4, by unfold Lx.bnd; rw [e1]; exact f1, by rw [f2, e2, List.append_assoc], f3, fun x hx => ?_, fun x hx => ?_⟩
    · by_cases hw : Wr l2 x
      · exact f4 x hw
      · rw [f5 x hw, d2.stays x hw]
        rcases Wr_append.1 hx with h | h
        · exact absurd h hw
        · exact e4 x h
    · rw [Wr_append] at hx
      rw [f5 x (fun h => hx (.inl h)), e5 x (fun h => hx (.inr h))]
  · obtain ⟨a1, a2⟩ := d1.abs B hB hlt
    obtain ⟨a3, a4⟩ := d2.abs B a1 (Nat.lt_of_lt_of_le hlt d1.next)
    exact ⟨a3, fun e he => (List.mem_append.1 he).elim (a4 e) (a2 e)⟩

theorem cells_of_look {h g : T Ob} {k : Nat} {c : List V} {e : TypeId} {p : Bool} (hg : h.get k = some (.cells c e p)) (hb : look g (.blk k) = look h (.blk k)) : ∃ c', g.get k = some (.cells c' e p) ∧ c'.length = c.length := by
  simp only [look, hg] at hb
  cases h2 : g.get k with
  | none => rw [h2] at hb; cases hb
  | some o =>
    rw [h2] at hb
    cases o <;> simp only [lookB, LV.cells.injEq, reduceCtorEq] at hb
    obtain ⟨e1, e2, e3⟩ := hb
    subst e2; subst e3
    exact ⟨_, rfl, e1⟩

theorem Local.ld (k o n : Nat) : Local (Lx.ld k o n) := by
  intro s a s' h
  obtain ⟨c, ⟨ob, hob, hrow⟩, hl, rfl, rfl⟩ := ld_ok h
  cases ob with
  | ro c0 =>
    cases hrow
    refine ⟨[.rd k o n], rfl, Nat.le_refl _, fun _ _ => rfl, fun s2 hn hr => ?_, fun B hB _ => abs_rd hob hB (fun e he => by rw [List.mem_singleton.1 he]; rfl)⟩
    have hb := hr (.blk k) (Rd_head rfl)
    have hg2 : s2.heap.get k = some (.ro c) := by
      simp only [look, hob] at hb
      cases h2 : s2.heap.get k with
      | none => rw [h2] at hb; cases hb
      | some o => rw [h2] at hb; cases o <;> simp only [lookB, LV.other.injEq, reduceCtorEq] at hb <;> rw [hb]
    refine ⟨{ s2 with log := .rd k o n :: s2.log }, ?_, rfl, hn, fun x ⟨e, he, hw⟩ => ?_, fun _ _ => rfl⟩
    · unfold Lx.ld
      simp only [hg2, ble_iff.2 hl, cond_true]
    · simp at he; subst he; exact hw.elim
  | map es clock => cases hrow
  | siter s pos => cases hrow
  | miter m since seen last => cases hrow
  | cells c0 e p =>
  cases hrow
  have hg := hob
  refine ⟨[.rd k o n], rfl, Nat.le_refl _, fun _ _ => rfl, fun s2 hn hr => ?_, fun B hB _ => abs_rd hob hB (fun e he => by rw [List.mem_singleton.1 he]; rfl)⟩
  obtain ⟨c', hg', hl'⟩ := cells_of_look hg (hr (.blk k) (Rd_head rfl))
  have hsub : sub c' o n = sub c o n := by
    apply List.ext_getElem?
    intro i
    by_cases hi : i < n
    · rw [sub_get hi, sub_get hi]
      have := hr (.cell k (o + i)) (Rd_head ⟨rfl, by omega, by omega⟩)
      simpa [look, hg, hg', lookC] using this
    · rw [List.getElem?_eq_none (by rw [sub_length (by omega)]; omega), List.getElem?_eq_none (by rw [sub_length hl]; omega)]
  refine ⟨{ s2 with log := .rd k o n :: s2.log }, ?_, rfl, hn, fun x ⟨e, he, hw⟩ => ?_, fun _ _ => rfl⟩
  · unfold Lx.ld
    simp only [hg', hl', ble_iff.2 hl, cond_true, hsub]
  · simp at he; subst he; exact hw.elim

theorem look_set_ne {h : T Ob} {k : Nat} {o : Option Ob} {x : Lo} (hx : ∀ k', (x = .blk k' ∨ ∃ i, x = .cell k' i) → k' ≠ k) : look (h.set k o) x = look h x := by
  cases x with
  | blk k' => simp [look, T.get_set, hx k' (.inl rfl)]
  | cell k' i => simp [look, T.get_set, hx k' (.inr ⟨i, rfl⟩)]

theorem Local.stc (k o : Nat) (vs : List V) : Local (Lx.stc k o vs) := by
  intro s a s' h
  obtain ⟨c, e, p, hg, hl, hc, rfl⟩ := stc_ok h
  have stays : ∀ (h : T Ob) (c : List V) (x : Lo), h.get k = some (.cells c e p) → o + vs.length ≤ c.length → ¬ Wr [.wr k o vs.length] x → look (h.set k (some (.cells (listPut c o vs) e p))) x = look h x := by
    intro h c x hg hl hx
    cases x with
    | blk k' =>
      by_cases e : k' = k
      · subst e; simp [look, T.get_set, hg, lookB, listPut_length]
      · simp [look, T.get_set, e]
    | cell k' i =>
      by_cases e : k' = k
      · subst e
        simp only [look, T.get_set_same, hg, lookC]
        rw [listPut_get _ _ _ _ hl, if_neg]
        intro hi
        exact hx (Wr_head ⟨rfl, hi.1, hi.2⟩)
      · simp [look, T.get_set, e]
  refine ⟨[.wr k o vs.length], rfl, Nat.le_refl _, fun x hx => stays _ _ x hg hl hx, fun s2 hn hr => ?_, fun B hB _ => abs_wr hg hB (fun e he => by rw [List.mem_singleton.1 he]; rfl)⟩
  obtain ⟨c', hg', hl'⟩ := cells_of_look hg (hr (.blk k) (Rd_head rfl))
  refine ⟨{ s2 with heap := s2.heap.set k (some (.cells (listPut c' o vs) e p)), log := .wr k o vs.length :: s2.log }, ?_, rfl, hn, fun x ⟨e', he, hw⟩ => ?_, fun x hx => stays _ _ x hg' (by omega) hx⟩
  · unfold Lx.stc
    simp only [hg', hl', ble_iff.2 hl, hc, Bool.and_self, cond_true]
  · simp at he; subst he
    cases x with
    | blk k' => exact hw.elim
    | cell k' i =>
      obtain ⟨rfl, h1, h2⟩ := hw
      simp only [look, T.get_set_same, lookC]
      rw [listPut_get _ _ _ _ (by omega), listPut_get _ _ _ _ hl, if_pos ⟨h1, h2⟩, if_pos ⟨h1, h2⟩]

theorem Local.blk (k : Nat) : Local (Lx.blk k) := by
  intro s a s' h
  obtain ⟨c, e, p, hg, rfl, rfl⟩ := blk_ok h
  refine ⟨[.rdd k], rfl, Nat.le_refl _, fun _ _ => rfl, fun s2 hn hr => ?_, fun B hB _ => abs_rd hg hB (fun e he => by rw [List.mem_singleton.1 he]; rfl)⟩
  obtain ⟨c', hg', hl'⟩ := cells_of_look hg (hr (.blk k) (Rd_head rfl))
  refine ⟨{ s2 with log := .rdd k :: s2.log }, ?_, rfl, hn, fun x ⟨e, he, hw⟩ => ?_, fun _ _ => rfl⟩
  · unfold Lx.blk
    simp only [hg', hl']
  · simp at he; subst he; exact hw.elim

theorem Local.blkS (k : Nat) : Local (Lx.blkS k) := by
  intro s a s' h
  obtain ⟨h0, rfl⟩ := blkS_ok h
  obtain ⟨n, e, p⟩ := a
  rcases h0 with ⟨c, hg, hl⟩ | ⟨c, hg, hl, he, hp⟩
  · simp only at hg hl
    subst hl
    refine ⟨[.rdd k], rfl, Nat.le_refl _, fun _ _ => rfl, fun s2 hn hr => ?_, fun B hB _ => abs_rd hg hB (fun e he => by rw [List.mem_singleton.1 he]; rfl)⟩
    obtain ⟨c', hg', hl'⟩ := cells_of_look hg (hr (.blk k) (Rd_head rfl))
    refine ⟨{ s2 with log := .rdd k :: s2.log }, ?_, rfl, hn, fun x ⟨e, he, hw⟩ => ?_, fun _ _ => rfl⟩
    · unfold Lx.blkS
      simp only [hg', hl']
    · simp at he; subst he; exact hw.elim
  · simp only at hl he hp
    subst hl he hp
    refine ⟨[.rdd k], rfl, Nat.le_refl _, fun _ _ => rfl, fun s2 hn hr => ?_, fun B hB _ => abs_rd hg hB (fun e he => by rw [List.mem_singleton.1 he]; rfl)⟩
    have hb := hr (.blk k) (Rd_head rfl)
    have hg2 : s2.heap.get k = some (.ro c) := by
      simp only [look, hg] at hb
      cases h2 : s2.heap.get k with
      | none => rw [h2] at hb; cases hb
      | some o => rw [h2] at hb; cases o <;> simp only [lookB, LV.other.injEq, reduceCtorEq] at hb <;> rw [hb]
    refine ⟨{ s2 with log := .rdd k :: s2.log }, ?_, rfl, hn, fun x ⟨e, he, hw⟩ => ?_, fun _ _ => rfl⟩
    · unfold Lx.blkS
      simp only [hg2]
    · simp at he; subst he; exact hw.elim

theorem ob_of_look {h g : T Ob} {k : Nat} {o : Ob} (hg : h.get k = some o) (hc : o.isCells = false) (hb : look g (.blk k) = look h (.blk k)) : g.get k = some o := by
  simp only [look, hg] at hb
  cases h2 : g.get k with
  | none => rw [h2] at hb; cases o <;> simp [lookB] at hb
  | some o' =>
    rw [h2] at hb
    cases o <;> cases o' <;> simp only [lookB, LV.cells.injEq, LV.other.injEq, reduceCtorEq] at hb <;> first | (cases hc; done) | rw [hb]

theorem Local.getO (k : Nat) : Local (Lx.getO k) := by
  intro s a s' h
  obtain ⟨hg, hc, rfl⟩ := getO_ok h
  refine ⟨[.rdd k], rfl, Nat.le_refl _, fun _ _ => rfl, fun s2 hn hr => ?_, fun B hB _ => abs_rd hg hB (fun e he => by rw [List.mem_singleton.1 he]; rfl)⟩
  have hg' := ob_of_look hg hc (hr (.blk k) (Rd_head rfl))
  refine ⟨{ s2 with log := .rdd k :: s2.log }, ?_, rfl, hn, fun x ⟨e, he, hw⟩ => ?_, fun _ _ => rfl⟩
  · unfold Lx.getO
    simp only [hg', hc, cond_false]
  · simp at he; subst he; exact hw.elim
theorem whole {s s2 : St} {k : Nat} {o : Option Ob} {l0 : List LE} (hw : ∀ x, Wr l0 x → False) :
    (∀ x, ¬ Wr (.wrd k :: l0) x → look (s.heap.set k o) x = look s.heap x) ∧ (∀ x, Wr (.wrd k :: l0) x → look (s2.heap.set k o) x = look (s.heap.set k o) x) := by
  constructor
  · intro x hx
    refine look_set_ne fun k' h e => hx ⟨.wrd k, by simp, ?_⟩
    rcases h with h | ⟨i, h⟩ <;> (subst h; exact e)
  · rintro x ⟨e, he, hx⟩
    rcases List.mem_cons.1 he with rfl | he
    · cases x with
      | blk k' => obtain rfl : k' = k := hx; simp [look, T.get_set]
      | cell k' i => obtain rfl : k' = k := hx; simp [look, T.get_set]
    · exact (hw x ⟨e, he, hx⟩).elim

theorem noWr_rdd (k : Nat) : ∀ x, Wr [.rdd k] x → False := by
  rintro x ⟨e, he, hw⟩; simp at he; subst he; exact hw

theorem Local.setO (k : Nat) (o : Ob) : Local (Lx.setO k o) := by
  intro s a s' h
  obtain ⟨o', hg, hc, hc', rfl⟩ := setO_ok h
  refine ⟨[.wrd k, .rdd k], rfl, Nat.le_refl _, fun x hx => (whole (s := s) (s2 := s) (noWr_rdd k)).1 x hx, fun s2 hn hr => ?_, fun B hB _ => abs_wr hg hB (fun e he => by simp only [List.mem_cons, List.not_mem_nil, or_false] at he; rcases he with rfl | rfl <;> rfl)⟩
  have hg' := ob_of_look hg hc (hr (.blk k) ⟨.rdd k, by simp, rfl⟩)
  refine ⟨{ s2 with heap := s2.heap.set k (some o), log := .wrd k :: .rdd k :: s2.log }, ?_, rfl, hn, fun x hx => (whole (s := s) (s2 := s2) (noWr_rdd k)).2 x hx, fun x hx => (whole (s := s2) (s2 := s2) (noWr_rdd k)).1 x hx⟩
  unfold Lx.setO
  simp only [hg', hc, hc', Bool.or_self, cond_false]

theorem Local.kill (k : Nat) : Local (Lx.kill k) := by
  intro s a s' h
  obtain ⟨c, e, p, hg, rfl⟩ := kill_ok h
  refine ⟨[.wrd k, .rdd k], rfl, Nat.le_refl _, fun x hx => (whole (s := s) (s2 := s) (noWr_rdd k)).1 x hx, fun s2 hn hr => ?_, fun B hB _ => abs_wr hg hB (fun e he => by simp only [List.mem_cons, List.not_mem_nil, or_false] at he; rcases he with rfl | rfl <;> rfl)⟩
  obtain ⟨c', hg', hl'⟩ := cells_of_look hg (hr (.blk k) ⟨.rdd k, by simp, rfl⟩)
  refine ⟨{ s2 with heap := s2.heap.set k none, log := .wrd k :: .rdd k :: s2.log }, ?_, rfl, hn, fun x hx => (whole (s := s) (s2 := s2) (noWr_rdd k)).2 x hx, fun x hx => (whole (s := s2) (s2 := s2) (noWr_rdd k)).1 x hx⟩
  unfold Lx.kill
  simp only [hg']

theorem Local.alloc (ob : Ob) : Local (Lx.alloc ob) := by
  intro s a s' h
  obtain ⟨rfl, rfl⟩ := alloc_ok h
  have h0 : ∀ x, Wr [] x → False := by rintro x ⟨e, he, _⟩; simp at he
  refine ⟨[.wrd s.next], rfl, Nat.le_succ _, fun x hx => (whole (s := s) (s2 := s) h0).1 x hx, fun s2 hn hr => ?_, fun B hB hlt => ⟨by show (s.heap.set s.next _).get B = none; rw [T.get_set, if_neg (Nat.ne_of_lt hlt)]; exact hB, fun e he q => by rw [List.mem_singleton.1 he] at q; exact absurd q.symm (Nat.ne_of_lt hlt)⟩⟩
  refine ⟨{ heap := s2.heap.set s.next (some ob), next := s.next + 1, log := .wrd s.next :: s2.log }, ?_, rfl, rfl, fun x hx => (whole (s := s) (s2 := s2) h0).2 x hx, fun x hx => (whole (s := s2) (s2 := s2) h0).1 x hx⟩
  unfold Lx.alloc
  rw [hn]

end
end Go.Lx

/-
  What a run of the machine hangs on: operations.
-/
set_option linter.unusedSimpArgs false
set_option linter.unusedVariables false
namespace Go.Lx

section
variable {P : Program}

theorem local_loadVar (t : TypeId) (k o : Nat) : Local (loadVarM P t k o) := by
  unfold loadVarM
  repeat' (first | exact Local.ret _ | exact Local.err _ | exact Local.ld _ _ _ | refine Local.cond ?_ ?_ | refine Local.bnd ?_ (fun _ => ?_) | split)

theorem local_storeVar (t : TypeId) (k o : Nat) (v : V) : Local (storeVarM P t k o v) := by
  unfold storeVarM
  repeat' (first | exact Local.ret _ | exact Local.err _ | exact Local.stc _ _ _ | refine Local.cond ?_ ?_ | refine Local.bnd ?_ (fun _ => ?_) | split)

theorem local_part (t : TypeId) (cs : List V) (o : Nat) : Local (partM P t cs o) := by
  unfold partM
  repeat' (first | exact Local.ret _ | exact Local.err _ | refine Local.cond ?_ ?_ | refine Local.bnd ?_ (fun _ => ?_) | split)

theorem local_build (t : TypeId) (ps : List (Nat × List V)) : Local (buildM P t ps) := by
  unfold buildM
  repeat' (first | exact Local.ret _ | exact Local.err _ | refine Local.cond ?_ ?_ | refine Local.bnd ?_ (fun _ => ?_) | split)

theorem local_buildSlice (t : TypeId) (n : Nat) (ps : List (Nat × List V)) : Local (buildSliceM P t n ps) := by
  unfold buildSliceM
  repeat' (first | exact Local.ret _ | exact Local.err _ | exact Local.alloc _ | refine Local.cond ?_ ?_ | refine Local.bnd ?_ (fun _ => ?_) | split)

theorem local_slice (t : TypeId) (x : V) (a b c : Option V) : Local (sliceM P t x a b c) := by
  unfold sliceM
  repeat' (first | exact Local.ret _ | exact Local.err _ | exact Local.blk _ | exact Local.blkS _ | refine Local.cond ?_ ?_ | refine Local.bnd ?_ (fun _ => ?_) | split)

theorem local_convert (a b : TypeId) (x : V) : Local (convertM P a b x) := by
  unfold convertM
  repeat' (first | exact Local.ret _ | exact Local.err _ | exact Local.ld _ _ _ | exact Local.blk _ | exact Local.blkS _ | exact Local.alloc _ | refine Local.cond ?_ ?_ | refine Local.bnd ?_ (fun _ => ?_) | split)

theorem local_entries (x : V) : Local (entriesOf x) := by
  unfold entriesOf
  repeat' (first | exact Local.ret _ | exact Local.err _ | exact Local.getO _ | refine Local.cond ?_ ?_ | refine Local.bnd ?_ (fun _ => ?_) | split)

theorem local_lookup (t : TypeId) (x k : V) (ok : Bool) : Local (lookupM P t x k ok) := by
  unfold lookupM
  repeat' (first | exact Local.ret _ | exact Local.err _ | exact local_entries _ | refine Local.cond ?_ ?_ | refine Local.bnd ?_ (fun _ => ?_) | split)

theorem local_mapUpdate (t : TypeId) (m k v : V) : Local (mapUpdateM P t m k v) := by
  unfold mapUpdateM
  repeat' (first | exact Local.ret _ | exact Local.err _ | exact Local.getO _ | exact Local.setO _ _ | refine Local.cond ?_ ?_ | refine Local.bnd ?_ (fun _ => ?_) | split)

theorem local_delete (t : TypeId) (m k : V) : Local (deleteM P t m k) := by
  unfold deleteM
  repeat' (first | exact Local.ret _ | exact Local.err _ | exact Local.getO _ | exact Local.setO _ _ | refine Local.cond ?_ ?_ | refine Local.bnd ?_ (fun _ => ?_) | split)

theorem local_range (t : TypeId) (x : V) : Local (rangeM P t x) := by
  unfold rangeM
  repeat' (first | exact Local.ret _ | exact Local.err _ | exact Local.getO _ | exact Local.alloc _ | refine Local.cond ?_ ?_ | refine Local.bnd ?_ (fun _ => ?_) | split)

theorem local_next (it : V) (b : Bool) : Local (nextM it b) := by
  unfold nextM
  repeat' (first | exact Local.ret _ | exact Local.err _ | exact Local.getO _ | exact Local.setO _ _ | refine Local.cond ?_ ?_ | refine Local.bnd ?_ (fun _ => ?_) | split)

theorem local_entry (it : V) : Local (entryM it) := by
  unfold entryM
  repeat' (first | exact Local.ret _ | exact Local.err _ | exact Local.getO _ | exact Local.setO _ _ | refine Local.cond ?_ ?_ | refine Local.bnd ?_ (fun _ => ?_) | split)

theorem local_taken (n : Nat) (x : V) : Local (takenM n x) := by
  unfold takenM
  repeat' (first | exact Local.ret _ | exact Local.err _ | exact Local.ld _ _ _ | refine Local.cond ?_ ?_ | refine Local.bnd ?_ (fun _ => ?_) | split)

theorem local_grow (e : TypeId) (size b o len n : Nat) (new : List V) : Local (growM e size b o len n new) := by
  unfold growM
  repeat' (first | exact Local.ret _ | exact Local.err _ | exact Local.ld _ _ _ | exact Local.blk _ | exact Local.blkS _ | exact Local.kill _ | exact Local.alloc _ | refine Local.cond ?_ ?_ | refine Local.bnd ?_ (fun _ => ?_) | split)

theorem local_appendCore (e : TypeId) (size bytes : Nat) (s : V) (new : List V) (n : Nat) : Local (appendCore e size bytes s new n) := by
  unfold appendCore
  repeat' (first | exact Local.ret _ | exact Local.err _ | exact local_grow _ _ _ _ _ _ _ | exact Local.stc _ _ _ | exact Local.alloc _ | refine Local.cond ?_ ?_ | refine Local.bnd ?_ (fun _ => ?_) | split)

theorem local_append (t tx : TypeId) (s x : V) : Local (appendM P t tx s x) := by
  unfold appendM
  repeat' (first | exact Local.err _ | exact local_taken _ _ | exact local_appendCore _ _ _ _ _ _ | refine Local.cond ?_ ?_ | refine Local.bnd ?_ (fun _ => ?_) | split)

theorem local_copy (t : TypeId) (d x : V) : Local (copyM P t d x) := by
  unfold copyM
  repeat' (first | exact Local.ret _ | exact Local.err _ | exact Local.ld _ _ _ | exact Local.stc _ _ _ | refine Local.cond ?_ ?_ | refine Local.bnd ?_ (fun _ => ?_) | split)

theorem local_clear (t : TypeId) (x : V) : Local (clearM P t x) := by
  unfold clearM
  repeat' (first | exact Local.ret _ | exact Local.err _ | exact Local.getO _ | exact Local.setO _ _ | exact Local.stc _ _ _ | refine Local.cond ?_ ?_ | refine Local.bnd ?_ (fun _ => ?_) | split)

theorem local_len (t : TypeId) (x : V) : Local (lenM P t x) := by
  unfold lenM
  repeat' (first | exact Local.ret _ | exact Local.err _ | exact Local.getO _ | refine Local.cond ?_ ?_ | refine Local.bnd ?_ (fun _ => ?_) | split)

theorem local_cap (t : TypeId) (x : V) : Local (capM P t x) := by
  unfold capM
  repeat' (first | exact Local.ret _ | exact Local.err _ | exact Local.blk _ | exact Local.blkS _ | refine Local.cond ?_ ?_ | refine Local.bnd ?_ (fun _ => ?_) | split)

theorem local_unsafeString (t : TypeId) (p : V) (n : Nat) : Local (unsafeStringM P t p n) := by
  unfold unsafeStringM
  repeat' (first | exact Local.ret _ | exact Local.err _ | exact Local.blk _ | exact Local.blkS _ | exact Local.ld _ _ _ | exact Local.kill _ | refine Local.cond ?_ ?_ | refine Local.bnd ?_ (fun _ => ?_) | split)

theorem local_builtin (b : Builtin) (ts : Array TypeId) (args : List V) : Local (builtinM P b ts args) := by
  unfold builtinM
  repeat' (first | exact Local.ret _ | exact Local.err _ | exact Local.opt _ _ | exact local_unsafeString _ _ _ | exact local_len _ _ | exact local_cap _ _ | exact local_append _ _ _ _ | exact local_copy _ _ _ | exact local_delete _ _ _ | exact local_clear _ _ | split)

theorem local_const (gl : T (List V)) (t : TypeId) (g o : Nat) : Local (constM P gl t g o) := by
  unfold constM
  repeat' (first | exact Local.ret _ | exact Local.err _ | refine Local.cond ?_ ?_ | split)

theorem local_op {gl : T (List V)} {call : FuncId → List V → M V} (hc : ∀ f vs, Local (call f vs)) (ev : Operand → V) (o : Op) : Local (opM P gl call ev o) := by
  rw [opM_eq]
  try unfold opPick opAlloc opBox opBuild opBuildSlice opLoad opStore opNilCheck opMakeInterface opMakeFunc opMakeMap opMakeSlice opFieldAddr opField opIndexAddr opIndex opExtract opCall callV
  repeat' (first
    | exact Local.ret _ | exact Local.err _ | exact Local.opt _ _ | exact Local.alloc _ | exact hc _ _
    | exact local_loadVar _ _ _ | exact local_const _ _ _ _ | exact local_storeVar _ _ _ _ | exact local_part _ _ _ | exact local_build _ _ | exact local_buildSlice _ _ _ | exact local_slice _ _ _ _ _ | exact local_convert _ _ _
    | exact local_lookup _ _ _ _ | exact local_mapUpdate _ _ _ _ | exact local_range _ _ | exact local_next _ _ | exact local_entry _ | exact local_builtin _ _ _
    | refine Local.cond ?_ ?_ | refine Local.bnd ?_ (fun _ => ?_) | split)
end
section
variable {c : Cfg} {call : FuncId → List V → M V} {ops : Array Oper}

theorem local_stepV (hc : ∀ f vs, Local (call f vs)) (o : Oper) (tm : T V) : Local (stepV c call ops o tm) := by
  rw [stepV_eq]
  repeat' (first | exact Local.ret _ | exact Local.err _ | exact local_op hc _ _ | refine Local.cond ?_ ?_ | split)

theorem local_put (nt : Nat) (d : Option Tmp) (v : V) (tm : T V) : Local (putM nt d v tm) := by
  rw [putM_eq]
  repeat' (first | exact Local.ret _ | exact Local.err _ | refine Local.cond ?_ ?_ | split)

theorem local_step (hc : ∀ f vs, Local (call f vs)) (nt : Nat) (o : Oper) (tm : T V) : Local (stepM c call ops nt o tm) :=
  Local.bnd (local_stepV hc o tm) fun _ => local_put _ _ _ _

theorem local_run (hc : ∀ f vs, Local (call f vs)) (nt : Nat) : ∀ (l : List Oper) (tm : T V), Local (runM c call ops nt l tm)
  | [], tm => Local.ret _
  | o :: l, tm => Local.bnd (local_step hc nt o tm) fun _ => local_run hc nt l _

end
end Go.Lx

/-
  A region whose order is open: what its run in the order of the text hangs on; which operations stand ahead of which whatever the order.
-/
set_option linter.unusedSimpArgs false
set_option linter.unusedVariables false
namespace Go.Lx

theorem joinLogs_acc : ∀ (ls : List (List LE)) (acc : List LE), joinLogs ls acc = joinLogs ls [] ++ acc
  | [], acc => rfl
  | l :: ls, acc => by
    simp only [joinLogs]
    rw [joinLogs_acc ls (l ++ acc), joinLogs_acc ls (l ++ []), List.append_nil, List.append_assoc]

section
variable {c : Cfg} {call : FuncId → List V → M V} {ops : Array Oper} {nt : Nat}

theorem local_runL (hc : ∀ f vs, Local (call f vs)) : ∀ (l : List Oper) (tm tm' : T V) (s s' : St) (ls : List (List LE)), runL c call ops nt l tm s = .ok (tm', ls) s' →
    s.next ≤ s'.next ∧ (∀ B, s.heap.get B = none → B < s.next → s'.heap.get B = none ∧ ∀ e ∈ joinLogs ls [], e.bk ≠ B) ∧ (∀ x, ¬ Wr (joinLogs ls []) x → look s'.heap x = look s.heap x) ∧
    ∀ s2 : St, s2.next = s.next → (∀ x, Rd (joinLogs ls []) x → look s2.heap x = look s.heap x) →
      ∃ s2', runL c call ops nt l tm s2 = .ok (tm', ls) s2' ∧ s2'.next = s'.next ∧ (∀ x, Wr (joinLogs ls []) x → look s2'.heap x = look s'.heap x) ∧ ∀ x, ¬ Wr (joinLogs ls []) x → look s2'.heap x = look s2.heap x
  | [], tm, tm', s, s', ls, h => by
    injection h with h1 h2
    injection h1 with h1 h3
    subst h1; subst h2; subst h3
    exact ⟨Nat.le_refl _, fun B hB _ => ⟨hB, fun e he => by simp [joinLogs] at he⟩, fun _ _ => rfl, fun s2 hn _ => ⟨s2, rfl, hn, fun x ⟨e, he, _⟩ => by simp [joinLogs] at he, fun _ _ => rfl⟩⟩
  | o :: l, tm, tm', s, s', ls, h => by
    unfold runL at h
    cases h1 : stepM c call ops nt o tm { s with log := [] } with
    | fail w => rw [h1] at h; cases h
    | ok tm1 s1 =>
      rw [h1] at h
      simp only at h
      cases h2 : runL c call ops nt l tm1 s1 with
      | fail w => rw [h2] at h; cases h
      | ok r s'' =>
        obtain ⟨tm2, ls2⟩ := r
        rw [h2] at h
        simp only at h
        injection h with e1 e2
        injection e1 with e1 e3
        subst e1; subst e2; subst e3
        obtain ⟨lg, d⟩ := local_step hc nt o tm _ _ _ h1
        have hlg : s1.log = lg := by rw [d.log]; simp
        obtain ⟨f1, fa, f2, f3⟩ := local_runL hc l tm1 _ s1 _ ls2 h2
        have hj : joinLogs (s1.log :: ls2) [] = joinLogs ls2 [] ++ lg := by
          rw [hlg]
          simp only [joinLogs, List.append_nil]
          exact joinLogs_acc ls2 lg
        rw [hj]
        refine ⟨Nat.le_trans d.next f1, fun B hB hlt => ?_, fun x hx => ?_, fun s2 hn hr => ?_⟩
        · obtain ⟨a1, a2⟩ := d.abs B hB hlt
          obtain ⟨a3, a4⟩ := fa B a1 (Nat.lt_of_lt_of_le hlt d.next)
          exact ⟨a3, fun e he => (List.mem_append.1 he).elim (a4 e) (a2 e)⟩
        · rw [Wr_append] at hx
          rw [f2 x (fun h => hx (.inl h)), d.stays x (fun h => hx (.inr h))]
        · obtain ⟨s3, g1, g2, g3, g4, g5⟩ := d.again { s2 with log := [] } hn (fun x hx => hr x (Rd_append.2 (.inr hx)))
          obtain ⟨s4, k1, k2, k3, k4⟩ := f3 s3 g3 (fun x hx => by
            by_cases hw : Wr lg x
            · exact g4 x hw
            · rw [g5 x hw, d.stays x hw]; exact hr x (Rd_append.2 (.inl hx)))
          have hlg3 : s3.log = s1.log := by rw [g2, hlg]; simp
          refine ⟨s4, ?_, k2, fun x hx => ?_, fun x hx => ?_⟩
          · unfold runL
            rw [g1]
            simp only
            rw [k1]
            simp only
            rw [hlg3]
          · by_cases hw : Wr (joinLogs ls2 []) x
            · exact k3 x hw
            · rw [k4 x hw, f2 x hw]
              rcases Wr_append.1 hx with h | h
              · exact absurd h hw
              · exact g4 x h
          · rw [Wr_append] at hx
            rw [k4 x (fun h => hx (.inl h)), g5 x (fun h => hx (.inr h))]

theorem local_draw (hc : ∀ f vs, Local (call f vs)) (tm : T V) : Local (drawM c call ops nt tm) := by
  intro s tm' s' h
  unfold drawM at h
  cases h1 : runL c call ops nt ops.toList tm s with
  | fail w => rw [h1] at h; cases h
  | ok r s1 =>
    obtain ⟨tm1, ls⟩ := r
    rw [h1] at h
    simp only at h
    cases hb : (edgesOk ops.toList 0 && apartAll ops (Region.before ops) [] 0 (ops.toList.zip ls))
    · rw [hb, cond_false] at h; cases h
    · rw [hb, cond_true] at h
      injection h with e1 e2
      subst e1; subst e2
      obtain ⟨f1, fa, f2, f3⟩ := local_runL hc _ _ _ _ _ _ h1
      refine ⟨joinLogs ls [], joinLogs_acc ls s.log, f1, f2, fun s2 hn hr => ?_, fa⟩
      obtain ⟨s4, k1, k2, k3, k4⟩ := f3 s2 hn hr
      refine ⟨{ s4 with log := joinLogs ls s2.log }, ?_, joinLogs_acc ls s2.log, k2, k3, k4⟩
      unfold drawM
      rw [k1]
      simp only [hb, cond_true]
theorem runL_steps : ∀ (l : List Oper) (tm tm' : T V) (s s' : St) (ls : List (List LE)), runL c call ops nt l tm s = .ok (tm', ls) s' →
    ∃ (tmf : Nat → T V) (sf : Nat → St), tmf 0 = tm ∧ sf 0 = s ∧ tmf l.length = tm' ∧ sf l.length = s' ∧ ls.length = l.length ∧
      ∀ i o, l[i]? = some o → ∃ lg, ls[i]? = some lg ∧ stepM c call ops nt o (tmf i) { sf i with log := [] } = .ok (tmf (i + 1)) (sf (i + 1)) ∧ (sf (i + 1)).log = lg
  | [], tm, tm', s, s', ls, h => by
    injection h with h1 h2
    injection h1 with h1 h3
    subst h1; subst h2; subst h3
    exact ⟨fun _ => tm, fun _ => s, rfl, rfl, rfl, rfl, rfl, fun i o h => by simp at h⟩
  | o :: l, tm, tm', s, s', ls, h => by
    unfold runL at h
    cases h1 : stepM c call ops nt o tm { s with log := [] } with
    | fail w => rw [h1] at h; cases h
    | ok tm1 s1 =>
      rw [h1] at h
      simp only at h
      cases h2 : runL c call ops nt l tm1 s1 with
      | fail w => rw [h2] at h; cases h
      | ok r s'' =>
        obtain ⟨tm2, ls2⟩ := r
        rw [h2] at h
        simp only at h
        injection h with e1 e2
        injection e1 with e1 e3
        subst e1; subst e2; subst e3
        obtain ⟨tmf, sf, g1, g2, g3, g4, g5, g6⟩ := runL_steps l tm1 _ s1 _ ls2 h2
        refine ⟨fun i => match i with | 0 => tm | i + 1 => tmf i, fun i => match i with | 0 => s | i + 1 => sf i, rfl, rfl, g3, g4, by simp [g5], fun i o' hi => ?_⟩
        cases i with
        | zero =>
          simp at hi; subst hi
          refine ⟨s1.log, by simp, ?_, ?_⟩
          · show stepM c call ops nt o tm { s with log := [] } = .ok (tmf 0) (sf 0)
            rw [g1, g2]; exact h1
          · show (sf 0).log = s1.log
            rw [g2]
        | succ i =>
          obtain ⟨lg, k1, k2, k3⟩ := g6 i o' (by simpa using hi)
          exact ⟨lg, by simpa using k1, k2, k3⟩
end
inductive Ahead (ops : Array Oper) : Nat → Nat → Prop
  | one {j : Nat} {o : Oper} {e : Edge} (h : ops[j]? = some o) (he : e ∈ o.after) (hb : Region.binds .any e = true) : Ahead ops e.on j
  | step {i j : Nat} {o : Oper} {e : Edge} (h : ops[j]? = some o) (he : e ∈ o.after) (hb : Region.binds .any e = true) (hi : Ahead ops i e.on) : Ahead ops i j

theorem ahead_in {ops : Array Oper} {S : Nat → Prop} (hS : ∀ j o, S j → ops[j]? = some o → ∀ e ∈ o.after, Region.binds .any e = true → S e.on) {i j : Nat} (ha : Ahead ops i j) :
    (∀ o, ops[j]? = some o → ∀ e ∈ o.after, Region.binds .any e = true → S e.on) → S i := by
  induction ha with
  | one h he hb => exact fun hj => hj _ h _ he hb
  | step h he hb _ ih => exact fun hj => ih fun o' ho' e' he' hb' => hS _ o' (hj _ h _ he hb) ho' e' he' hb'

theorem mask_step {ops : Array Oper} {acc : Array Nat} {j : Nat} {o : Oper} (ho : ops[j]? = some o) (hacc : ∀ k i, (acc.getD k 0).testBit i = true → Ahead ops i k) :
    ∀ (l : List Edge) (m : Nat), (∀ e ∈ l, e ∈ o.after) → (∀ i, m.testBit i = true → Ahead ops i j) →
      ∀ i, (l.foldl (fun s e => if Region.binds .any e then s ||| 2 ^ e.on ||| acc.getD e.on 0 else s) m).testBit i = true → Ahead ops i j
  | [], m, _, hm, i, h => hm i h
  | e :: l, m, hl, hm, i, h => by
    simp only [List.foldl_cons] at h
    refine mask_step ho hacc l _ (fun x hx => hl x (by simp [hx])) (fun i hi => ?_) i h
    by_cases hb : Region.binds .any e = true
    · rw [if_pos hb] at hi
      rw [Nat.testBit_or, Nat.testBit_or, Bool.or_eq_true, Bool.or_eq_true] at hi
      rcases hi with (hi | hi) | hi
      · exact hm i hi
      · rw [Nat.testBit_two_pow] at hi
        have : e.on = i := by simpa using hi
        subst this
        exact .one ho (hl e (by simp)) hb
      · exact .step ho (hl e (by simp)) hb (hacc _ _ hi)
    · rw [if_neg hb] at hi
      exact hm i hi

theorem before_ahead {ops : Array Oper} : ∀ j i, ((Region.before ops).getD j 0).testBit i = true → Ahead ops i j := by
  have key : ∀ (l : List Oper) (pre : List Oper) (acc : Array Nat), ops.toList = pre ++ l → acc.size = pre.length → (∀ k i, (acc.getD k 0).testBit i = true → Ahead ops i k) →
      ∀ k i, ((l.foldl (fun acc o => acc.push (o.after.foldl (fun s e => if Region.binds .any e then s ||| 2 ^ e.on ||| acc.getD e.on 0 else s) 0)) acc).getD k 0).testBit i = true → Ahead ops i k := by
    intro l
    induction l with
    | nil => intro pre acc _ _ h k i hk; exact h k i hk
    | cons o l ih =>
      intro pre acc hops hsz h k i hk
      simp only [List.foldl_cons] at hk
      refine ih (pre ++ [o]) _ (by rw [hops]; simp) (by simp [hsz]) (fun k' i' hk' => ?_) k i hk
      have ho : ops[pre.length]? = some o := by
        rw [← Array.getElem?_toList, hops]; simp
      by_cases e : k' = acc.size
      · subst e
        have hget : (acc.push (o.after.foldl (fun s e => if Region.binds .any e then s ||| 2 ^ e.on ||| acc.getD e.on 0 else s) 0)).getD acc.size 0 = o.after.foldl (fun s e => if Region.binds .any e then s ||| 2 ^ e.on ||| acc.getD e.on 0 else s) 0 := by simp
        rw [hget, ← Array.foldl_toList] at hk'
        rw [hsz]
        exact mask_step ho h o.after.toList 0 (fun x hx => by simpa using hx) (fun i hi => by simp at hi) i' hk'
      · have hget : (acc.push (o.after.foldl (fun s e => if Region.binds .any e then s ||| 2 ^ e.on ||| acc.getD e.on 0 else s) 0)).getD k' 0 = acc.getD k' 0 := by
          simp only [Array.getD_eq_getD_getElem?]
          rw [Array.getElem?_push, if_neg e]
        rw [hget] at hk'
        exact h k' i' hk'
  intro j i h
  refine key ops.toList [] #[] rfl rfl (fun k i hk => by simp at hk) j i ?_
  unfold Region.before at h
  rw [← Array.foldl_toList] at h
  exact h

end Go.Lx
