/-
  A machine of our own for Go's code as the model has it: values with block numbers of our own, a heap of objects, and functions that run code over them.
  This file: the values, the heap, the state, and the small steps on it.
-/
import GoSem.Dispatch
import GoSem.Machine.Return
set_option linter.unusedSimpArgs false
set_option linter.unusedVariables false
namespace Go.Lx
inductive V where
 | bool (b : Bool)
 | int (k : IntKind) (n : Int)
 | str (s : List Nat)
 | ptr (b o : Nat)
 | nilptr
 | slice (b o len cap : Nat)
 | nilslice
 | map (r : Nat)
 | nilmap
 | func (f : FuncId) (first captured : List V)
 | nilfunc
 | iface (t : TypeId) (v : V)
 | nilIface
 | agg (cs : List V)
 | tuple (vs : List V)
 | sym (i : Nat)
 | gptr (g o : Nat)
inductive T (α : Type) where
 | leaf
 | node (l : T α) (v : Option α) (r : T α)
noncomputable section
def T.get {α : Type} (t : T α) : Nat → Option α :=
 T.rec (motive := fun _ => Nat → Option α) (fun _ => none)
  (fun _ v _ gl gr n => Bool.rec (motive := fun _ => Option α) (Bool.rec (motive := fun _ => Option α) (gr (Nat.pred (Nat.div n 2))) (gl (Nat.div n 2)) (Nat.beq (Nat.mod n 2) 1)) v (Nat.beq n 0)) t
def T.single {α : Type} (f : Nat) : Nat → Option α → T α :=
 Nat.rec (motive := fun _ => Nat → Option α → T α) (fun _ _ => .leaf)
  (fun _ g n v => Bool.rec (motive := fun _ => T α) (Bool.rec (motive := fun _ => T α) (.node .leaf none (g (Nat.pred (Nat.div n 2)) v)) (.node (g (Nat.div n 2) v) none .leaf) (Nat.beq (Nat.mod n 2) 1)) (.node .leaf v .leaf) (Nat.beq n 0)) f
def T.set {α : Type} (t : T α) : Nat → Option α → T α :=
 T.rec (motive := fun _ => Nat → Option α → T α) (fun n v => T.single (Nat.succ n) n v)
  (fun l w r sl sr n v => Bool.rec (motive := fun _ => T α) (Bool.rec (motive := fun _ => T α) (.node l w (sr (Nat.pred (Nat.div n 2)) v)) (.node (sl (Nat.div n 2) v) w r) (Nat.beq (Nat.mod n 2) 1)) (.node l v r) (Nat.beq n 0)) t
structure ME where
 key : V
 val : V
 born : Nat
inductive Ob where
 | cells (c : List V) (elem : TypeId) (opn : Bool)
 | map (es : List ME) (clock : Nat)
 | siter (s : List Nat) (pos : Nat)
 | ro (c : List V)
 | miter (m : Option Nat) (since : Nat) (seen : List Nat) (last : Nat)
inductive LE where
 | rd (k lo n : Nat)
 | wr (k lo n : Nat)
 | rdd (k : Nat)
 | wrd (k : Nat)
structure St where
 heap : T Ob
 next : Nat
 log : List LE
inductive R (α : Type) where
 | ok (a : α) (s : St)
 | fail (why : String)
abbrev M (α : Type) := St → R α
def bnd {α β : Type} (x : M α) (f : α → M β) : M β := fun s => R.rec (motive := fun _ => R β) f (fun w => .fail w) (x s)
def ret {α : Type} (a : α) : M α := fun s => .ok a s
def err {α : Type} (w : String) : M α := fun _ => .fail w
def opt {α : Type} (o : Option α) (w : String) : M α := match o with
 | some a => ret a
 | none => err w
def listPut {α : Type} : List α → Nat → List α → List α
 | l, _, [] => l
 | [], _, _ :: _ => []
 | _ :: l, 0, v :: vs => v :: listPut l 0 vs
 | x :: l, n + 1, v :: vs => x :: listPut l n (v :: vs)
def sub {α : Type} (l : List α) (a n : Nat) : List α := (l.drop a).take n
def Ob.isRo : Ob → Bool
 | .ro _ => true
 | _ => false
def Ob.row : Ob → Option (List V)
 | .cells c _ _ => some c
 | .ro c => some c
 | _ => none
def HasRow (h : T Ob) (k : Nat) (c : List V) : Prop := ∃ ob, h.get k = some ob ∧ ob.row = some c
def ld (k o n : Nat) : M (List V) := fun s => match s.heap.get k with
 | some (.cells c _ _) => bif Nat.ble (o + n) c.length then .ok (sub c o n) { s with log := .rd k o n :: s.log } else .fail "ld range"
 | some (.ro c) => bif Nat.ble (o + n) c.length then .ok (sub c o n) { s with log := .rd k o n :: s.log } else .fail "ld range"
 | _ => .fail "ld no block"
def V.isCell : V → Bool
 | .agg _ | .tuple _ => false
 | _ => true
def stc (k o : Nat) (vs : List V) : M Unit := fun s => match s.heap.get k with
 | some (.cells c e p) => bif Nat.ble (o + vs.length) c.length && vs.all V.isCell
   then .ok () { s with heap := s.heap.set k (some (.cells (listPut c o vs) e p)), log := .wr k o vs.length :: s.log } else .fail "st range"
 | _ => .fail "st no block"
def blk (k : Nat) : M (Nat × TypeId × Bool) := fun s => match s.heap.get k with
 | some (.cells c e p) => .ok (c.length, e, p) { s with log := .rdd k :: s.log }
 | _ => .fail "blk"
def blkS (k : Nat) : M (Nat × TypeId × Bool) := fun s => match s.heap.get k with
 | some (.cells c e p) => .ok (c.length, e, p) { s with log := .rdd k :: s.log }
 | some (.ro c) => .ok (c.length, 0, false) { s with log := .rdd k :: s.log }
 | _ => .fail "blk"
def Ob.isCells : Ob → Bool
 | .cells .. => true
 | .ro .. => true
 | _ => false
def getO (k : Nat) : M Ob := fun s => match s.heap.get k with
 | some o => bif o.isCells then .fail "getO cells" else .ok o { s with log := .rdd k :: s.log }
 | none => .fail "getO"
def setO (k : Nat) (o : Ob) : M Unit := fun s => match s.heap.get k with
 | some o' => bif o'.isCells || o.isCells then .fail "setO cells" else .ok () { s with heap := s.heap.set k (some o), log := .wrd k :: .rdd k :: s.log }
 | none => .fail "setO"
def kill (k : Nat) : M Unit := fun s => match s.heap.get k with
 | some (.cells ..) => .ok () { s with heap := s.heap.set k none, log := .wrd k :: .rdd k :: s.log }
 | _ => .fail "kill"
def alloc (o : Ob) : M Nat := fun s => .ok s.next { heap := s.heap.set s.next (some o), next := s.next + 1, log := .wrd s.next :: s.log }
def toNats (b : ByteArray) : List Nat := b.data.toList.map (·.toNat)
def ofS : Value → Option V
 | .bool b => some (.bool b)
 | .int k n => some (.int k n)
 | .string s => some (.str (toNats s))
 | .pointer none => some .nilptr
 | .slice none 0 0 => some .nilslice
 | .map none => some .nilmap
 | .func (.func f) first captured => bif first.isEmpty && captured.isEmpty then some (.func f [] []) else none
 | .nilFunc => some .nilfunc
 | .nilIface => some .nilIface
 | _ => none
def ofL : List Value → Option (List V)
 | [] => some []
 | v :: l => match ofS v, ofL l with
   | some x, some xs => some (x :: xs)
   | _, _ => none
def ofV : Value → Option V
 | .agg cs => (ofL cs.toList).map V.agg
 | .tuple cs => (ofL cs.toList).map V.tuple
 | .iface t v => (ofS v).map (V.iface t)
 | v => ofS v
def V.cells : V → List V
 | .agg cs => cs
 | v => [v]
def undefV : V := .tuple []
end
end Go.Lx
