/-
  The machine's operations: each as the model's own does it, where it goes through at all; elsewhere it fails, and nothing is said.
-/
import Derived.Test.YtfgnpegkcmkeaaaGreatDoorLxA
set_option linter.unusedSimpArgs false
set_option linter.unusedVariables false
namespace Go.Lx
noncomputable section
def isAggD : TypeDesc → Bool
 | .struct _ | .array _ _ => true
 | _ => false
def szT (P : Program) (t : TypeId) : Option Nat := (P.info? t).map (·.size)
def zeroT (P : Program) (t : TypeId) : Option V := ((P.info? t).bind (·.zero)).bind ofV
def loadVarM (P : Program) (t : TypeId) (k o : Nat) : M V :=
 match P.underlying t, szT P t with
 | some d, some n => bif isAggD d then bnd (ld k o n) fun cs => ret (.agg cs)
   else bnd (ld k o 1) fun cs => match cs with
    | [v] => ret v
    | _ => err "loadVar"
 | _, _ => err "loadVar type"
def storeVarM (P : Program) (t : TypeId) (k o : Nat) (v : V) : M V :=
 match szT P t with
 | some n => bif Nat.beq v.cells.length n then bnd (stc k o v.cells) fun _ => ret undefV else err "storeVar size"
 | none => err "storeVar type"
def partM (P : Program) (t : TypeId) (cs : List V) (off : Nat) : M V :=
 match P.underlying t, szT P t with
 | some d, some n => bif isAggD d then (bif Nat.ble (off + n) cs.length then ret (.agg (sub cs off n)) else err "part")
   else match cs[off]? with
    | some v => ret v
    | none => err "part"
 | _, _ => err "part type"
def eqNats : List Nat → List Nat → Bool
 | [], [] => true
 | a :: x, b :: y => Nat.beq a b && eqNats x y
 | _, _ => false
def ltNats : List Nat → List Nat → Bool
 | _, [] => false
 | [], _ :: _ => true
 | a :: x, b :: y => Nat.blt a b || (Nat.beq a b && ltNats x y)
def eqFlat : TypeDesc → V → V → Option Bool
 | .bool, .bool a, .bool b => some (a == b)
 | .int _, .int k a, .int k' b => if k = k' then some (a == b) else none
 | .string, .str a, .str b => some (eqNats a b)
 | .pointer _, .nilptr, .nilptr => some true
 | .pointer _, .nilptr, .ptr _ _ => some false
 | .pointer _, .ptr _ _, .nilptr => some false
 | .slice _, .nilslice, .nilslice => some true
 | .slice _, .nilslice, .slice .. => some false
 | .slice _, .slice .., .nilslice => some false
 | .map _ _, .nilmap, .nilmap => some true
 | .map _ _, .nilmap, .map _ => some false
 | .map _ _, .map _, .nilmap => some false
 | .func _ _ _, .nilfunc, .nilfunc => some true
 | .func _ _ _, .nilfunc, .func .. => some false
 | .func _ _ _, .func .., .nilfunc => some false
 | .interface _, .nilIface, .nilIface => some true
 | .interface _, .nilIface, .iface .. => some false
 | .interface _, .iface .., .nilIface => some false
 | _, _, _ => none
def eqFlats (P : Program) (xs ys : List V) : List Field → Option Bool
 | [] => some true
 | f :: fs => bif f.name == "_" then none else
   match P.underlying f.type with
   | some d => bif isAggD d then none else
     match xs[f.offset]?, ys[f.offset]? with
     | some x, some y => match eqFlat d x y with
       | some true => eqFlats P xs ys fs
       | r => r
     | _, _ => none
   | none => none
def eqFields (P : Program) (xs ys : List V) : List Field → Option Bool
 | [] => some true
 | f :: fs => bif f.name == "_" then none else
   match P.underlying f.type with
   | some d => bif isAggD d then (match d, szT P f.type with
     | .struct gs, some n => bif P.stoodInHeld f.type then none else
       match eqFlats P (sub xs f.offset n) (sub ys f.offset n) gs.toList with
       | some true => eqFields P xs ys fs
       | r => r
     | _, _ => none) else
     match xs[f.offset]?, ys[f.offset]? with
     | some x, some y => match eqFlat d x y with
       | some true => eqFields P xs ys fs
       | r => r
     | _, _ => none
   | none => none
def eqT (P : Program) (t : TypeId) (x y : V) : Option Bool :=
 match P.underlying t, x, y with
 | some (.struct fs), .agg xs, .agg ys => bif P.stoodInHeld t || P.eqGuardType P.depth t then none else eqFields P xs ys fs.toList
 | some (.pointer e), .ptr k o, .ptr k' o' => bif Nat.beq k k' && Nat.beq o o' && (szT P e).isSome then some true else none
 | some d, x, y => bif isAggD d then none else eqFlat d x y
 | none, _, _ => none
def binInt (op : BinOp) (k : IntKind) (a b : Int) : Option V :=
 match op with
 | .add => some (.int k (k.wrap (a + b)))
 | .sub => some (.int k (k.wrap (a - b)))
 | .mul => some (.int k (k.wrap (a * b)))
 | .quo => if b = 0 then none else some (.int k (k.wrap (a.tdiv b)))
 | .rem => if b = 0 then none else some (.int k (a.tmod b))
 | .and => some (.int k (k.wrap ((BitVec.ofInt k.bits a &&& BitVec.ofInt k.bits b).toNat)))
 | .or => some (.int k (k.wrap ((BitVec.ofInt k.bits a ||| BitVec.ofInt k.bits b).toNat)))
 | .xor => some (.int k (k.wrap ((BitVec.ofInt k.bits a ^^^ BitVec.ofInt k.bits b).toNat)))
 | .andNot => some (.int k (k.wrap ((BitVec.ofInt k.bits a &&& ~~~ (BitVec.ofInt k.bits b)).toNat)))
 | .eql => some (.bool (a == b))
 | .neq => some (.bool (a != b))
 | .lss => some (.bool (decide (a < b)))
 | .leq => some (.bool (decide (a ≤ b)))
 | .gtr => some (.bool (decide (b < a)))
 | .geq => some (.bool (decide (b ≤ a)))
 | _ => none
def binStr (op : BinOp) (a b : List Nat) : Option V :=
 match op with
 | .add => bif Nat.ble (a.length + b.length) 9223372036854775807 then some (.str (a ++ b)) else none
 | .eql => some (.bool (eqNats a b))
 | .neq => some (.bool (!eqNats a b))
 | .lss => some (.bool (ltNats a b))
 | .leq => some (.bool (ltNats a b || eqNats a b))
 | .gtr => some (.bool (!(ltNats a b || eqNats a b)))
 | .geq => some (.bool (!ltNats a b))
 | _ => none
def constO : Operand → Bool
 | .const _ => true
 | _ => false
def eqOpV (P : Program) (op : BinOp) (t : TypeId) (x y : V) : Option V := match op with
 | .eql => (eqT P t x y).map V.bool
 | .neq => (eqT P t x y).map fun r => V.bool (!r)
 | _ => none
def binV (P : Program) (op : BinOp) (t : TypeId) (c : Bool) (x y : V) : Option V :=
 match x, y with
 | .int k a, .int k' b => match op with
   | .shl => if b < 0 then none else some (.int k (k.wrap (a * 2 ^ (min b.toNat k.bits))))
   | .shr => if b < 0 then none else some (.int k (a.fdiv (2 ^ (min b.toNat k.bits))))
   | op => if k = k' then binInt op k a b else none
 | .str a, .str b => binStr op a b
 | .nilIface, .nilIface => bif c then (match P.underlying t with
    | some (.interface _) => (match op with
      | .eql => some (.bool true)
      | .neq => some (.bool false)
      | _ => none)
    | _ => none) else none
 | x, y => eqOpV P op t x y
def unV (op : UnOp) (x : V) : Option V :=
 match op, x with
 | .neg, .int k n => some (.int k (k.wrap (0 - n)))
 | .xor, .int k n => binInt .xor k (if k.signed then -1 else k.max) n
 | .not, .bool b => some (.bool (!b))
 | _, _ => none
def fillV : List (Nat × Nat × List V) → List V → Option (List V)
 | [], z => some z
 | (off, size, vs) :: l, z => bif Nat.beq vs.length size && Nat.ble (off + vs.length) z.length then fillV l (listPut z off vs) else none
def rep (z : List V) : Nat → List V
 | 0 => []
 | n + 1 => z ++ rep z n
def structPlaces (P : Program) (fs : Array Field) : List (Nat × List V) → Option (List (Nat × Nat × List V))
 | [] => some []
 | (i, vs) :: l => match fs[i]? with
   | some f => match szT P f.type, structPlaces P fs l with
     | some n, some r => some ((f.offset, n, vs) :: r)
     | _, _ => none
   | none => none
def fieldsSized (P : Program) : List Field → Bool
 | [] => true
 | f :: fs => (P.info? f.type).isSome && fieldsSized P fs
def buildM (P : Program) (t : TypeId) (parts : List (Nat × List V)) : M V :=
 match P.underlying t, zeroT P t with
 | some (.struct fs), some z => bif fieldsSized P fs.toList then
    match structPlaces P fs parts with
    | some ps => match fillV ps z.cells with
      | some cs => ret (.agg cs)
      | none => err "build"
    | none => err "build"
   else err "build"
 | some (.array _ e), some z => match szT P e with
   | some n => match fillV (parts.map fun p => (p.1 * n, n, p.2)) z.cells with
     | some cs => ret (.agg cs)
     | none => err "build"
   | none => err "build"
 | _, _ => err "build type"
def buildSliceM (P : Program) (t : TypeId) (len : Nat) (parts : List (Nat × List V)) : M V :=
 match P.underlying t with
 | some (.slice e) => match szT P e, zeroT P e with
   | some n, some z => bif Nat.ble (len * n) 16777216 && Nat.beq z.cells.length n then
      match fillV (parts.map fun p => (p.1 * n, n, p.2)) (rep z.cells len) with
      | some cs => bnd (alloc (.cells cs e false)) fun k => ret (.slice k 0 len len)
      | none => err "buildSlice"
     else err "buildSlice size"
   | _, _ => err "buildSlice"
 | _ => err "buildSlice type"
def inI (i : Int) (n : Nat) : Bool := match i with
 | .ofNat m => Nat.ble m n
 | .negSucc _ => false
def boundO (x : Option V) (lim dflt : Nat) : Option Nat := match x with
 | none => some dflt
 | some (.int _ i) => bif inI i lim then some i.toNat else none
 | _ => none
def boundsV (lo hi mx : Option V) (len cap : Nat) : Option (Nat × Nat × Nat) :=
 match boundO mx cap cap with
 | none => none
 | some m => match hi, mx with
   | none, some _ => none
   | _, _ => match boundO hi m len with
     | none => none
     | some h => match boundO lo h 0 with
       | none => none
       | some l => some (l, h, m)
def sliceM (P : Program) (t : TypeId) (x : V) (lo hi mx : Option V) : M V :=
 match P.underlying t, x with
 | some .string, .str s => bif mx.isSome then err "slice" else match boundsV lo hi none s.length s.length with
   | some (l, h, _) => ret (.str (sub s l (h - l)))
   | none => err "slice bounds"
 | some (.slice e), .nilslice => match boundsV lo hi mx 0 0, szT P e with
   | some _, some _ => ret .nilslice
   | _, _ => err "slice bounds"
 | some (.slice e), .slice b o len cap => match boundsV lo hi mx len cap, szT P e with
   | some (l, h, m), some n => bif Nat.ble h cap then
      bnd (blkS b) fun (_, e', p) => bif !p || (szT P e' == some n) then ret (.slice b (o + l * n) (h - l) (m - l)) else err "slice elem"
     else err "slice bounds"
   | _, _ => err "slice bounds"
 | some (.array n e), .ptr b o => match boundsV lo hi mx n n, szT P e with
   | some (l, h, m), some s => ret (.slice b (o + l * s) (h - l) (m - l))
   | _, _ => err "slice bounds"
 | some (.pointer a), .ptr b o => match P.underlying a with
   | some (.array n e) => match boundsV lo hi mx n n, szT P e with
     | some (l, h, m), some s => ret (.slice b (o + l * s) (h - l) (m - l))
     | _, _ => err "slice bounds"
   | _ => err "slice"
 | _, _ => err "slice"
def bytesV (s : List Nat) : List V := s.map fun (n : Nat) => V.int .u8 n
def natsV : List V → Option (List Nat)
 | [] => some []
 | .int .u8 (.ofNat n) :: l => match natsV l with
   | some r => bif Nat.blt n 256 then some (n :: r) else none
   | none => none
 | _ => none
def hasSize (P : Program) (t : TypeId) : Bool := match szT P t with
 | some (_ + 1) => true
 | _ => false
def convertM (P : Program) (src dst : TypeId) (x : V) : M V :=
 match P.underlying src, P.underlying dst, x with
 | some _, some (.int k), .int _ n => ret (.int k (k.wrap n))
 | some _, some .string, .int _ n => ret (.str (toNats (Utf8.encode n)))
 | some _, some .string, .str s => ret (.str s)
 | some _, some (.slice e), .str s => match P.underlying e with
   | some (.int .u8) => bif (szT P e == some 1) then bnd (alloc (.cells (bytesV s) e true)) fun k => ret (.slice k 0 s.length s.length) else err "convert"
   | _ => err "convert runes"
 | some (.slice e), some .string, .nilslice => match P.underlying e with
   | some (.int .u8) => ret (.str [])
   | _ => err "convert runes"
 | some (.slice e), some .string, .slice b o n _ => match P.underlying e with
   | some (.int .u8) => bnd (ld b o n) fun vs => match natsV vs with
     | some s => ret (.str s)
     | none => err "convert bytes"
   | _ => err "convert runes"
 | some (.pointer _), some .unsafePointer, .nilptr => ret .nilptr
 | some (.pointer t), some .unsafePointer, .ptr b o => bnd (blk b) fun (n, _, _) => bif Nat.blt o n && hasSize P t then ret (.ptr b o) else err "convert view"
 | some .unsafePointer, some (.pointer _), .nilptr => ret .nilptr
 | some .unsafePointer, some (.pointer u), .ptr b o => bnd (blk b) fun (n, e, p) => bif !p && (szT P u).isSome && liesAt P P.depth e (n / P.cellsOf e) o u 1 then ret (.ptr b o) else err "convert view"
 | _, _, _ => err "convert"
def sameKey : TypeDesc → V → V → Option Bool
 | .int _, .int k a, .int k' b => if k = k' then some (a == b) else none
 | .string, .str a, .str b => some (eqNats a b)
 | .bool, .bool a, .bool b => some (a == b)
 | _, _, _ => none
def findV (d : TypeDesc) (k : V) : List ME → Nat → Option (Option (Nat × V))
 | [], _ => some none
 | e :: es, i => match sameKey d k e.key with
   | some true => some (some (i, e.val))
   | some false => findV d k es (i + 1)
   | none => none
def keyOk : TypeDesc → V → Bool
 | .int _, .int _ _ => true
 | .string, .str _ => true
 | .bool, .bool _ => true
 | _, _ => false
def entriesOf (x : V) : M (List ME) := match x with
 | .nilmap => ret []
 | .map r => bnd (getO r) fun o => match o with
   | .map es _ => ret es
   | _ => err "entries"
 | _ => err "entries"
def lookupM (P : Program) (t : TypeId) (x k : V) (ok : Bool) : M V :=
 match P.underlying t with
 | some (.map key elem) => match P.underlying key, zeroT P elem with
   | some d, some z => bif keyOk d k then bnd (entriesOf x) fun es => match findV d k es 0 with
      | some (some (_, v)) => ret (bif ok then .tuple [v, .bool true] else v)
      | some none => ret (bif ok then .tuple [z, .bool false] else z)
      | none => err "lookup key"
     else err "lookup key"
   | _, _ => err "lookup type"
 | _ => err "lookup type"
def modifyE : List ME → Nat → (ME → ME) → List ME
 | [], _, _ => []
 | e :: es, 0, f => f e :: es
 | e :: es, n + 1, f => e :: modifyE es n f
def mapUpdateM (P : Program) (t : TypeId) (m k v : V) : M V :=
 match P.underlying t with
 | some (.map key _) => match P.underlying key, m with
   | some d, .map r => bif keyOk d k then bnd (getO r) fun o => match o with
      | .map es clock => match findV d k es 0 with
        | some (some (i, _)) => bnd (setO r (.map (modifyE es i fun e => { e with key := k, val := v }) clock)) fun _ => ret undefV
        | some none => bnd (setO r (.map (es ++ [⟨k, v, clock⟩]) (clock + 1))) fun _ => ret undefV
        | none => err "mapUpdate"
      | _ => err "mapUpdate"
     else err "mapUpdate key"
   | _, _ => err "mapUpdate"
 | _ => err "mapUpdate type"
def eraseE : List ME → Nat → List ME
 | [], _ => []
 | _ :: es, 0 => es
 | e :: es, n + 1 => e :: eraseE es n
def deleteM (P : Program) (t : TypeId) (m k : V) : M V :=
 match P.underlying t with
 | some (.map key _) => match P.underlying key, m with
   | some d, .nilmap => bif keyOk d k then ret undefV else err "delete"
   | some d, .map r => bif keyOk d k then bnd (getO r) fun o => match o with
      | .map es clock => match findV d k es 0 with
        | some (some (i, _)) => bnd (setO r (.map (eraseE es i) clock)) fun _ => ret undefV
        | some none => bnd (setO r (.map es clock)) fun _ => ret undefV
        | none => err "delete"
      | _ => err "delete"
     else err "delete"
   | _, _ => err "delete"
 | _ => err "delete type"
def dec (l : List Nat) : Nat × Nat :=
 let at' (k : Nat) : Nat := l.getD k 0
 let cont (k : Nat) : Bool := Nat.blt k l.length && Nat.beq (at' k / 64) 2
 let b0 := at' 0
 bif Nat.blt b0 0x80 then (b0, 1)
 else bif Nat.beq (b0 / 32) 6 && cont 1 then
  let c := (b0 % 32) * 64 + at' 1 % 64
  bif Nat.ble 0x80 c then (c, 2) else (Utf8.runeError, 1)
 else bif Nat.beq (b0 / 16) 14 && cont 1 && cont 2 then
  let c := (b0 % 16) * 4096 + (at' 1 % 64) * 64 + at' 2 % 64
  bif Nat.ble 0x800 c && Utf8.valid c then (c, 3) else (Utf8.runeError, 1)
 else bif Nat.beq (b0 / 8) 30 && cont 1 && cont 2 && cont 3 then
  let c := (b0 % 8) * 262144 + (at' 1 % 64) * 4096 + (at' 2 % 64) * 64 + at' 3 % 64
  bif Nat.ble 0x10000 c && Utf8.valid c then (c, 4) else (Utf8.runeError, 1)
 else (Utf8.runeError, 1)
def rangeM (P : Program) (t : TypeId) (x : V) : M V :=
 match P.underlying t, x with
 | some .string, .str s => bnd (alloc (.siter s 0)) fun k => ret (.ptr k 0)
 | some (.map _ _), .nilmap => bnd (alloc (.miter none 0 [] 0)) fun k => ret (.ptr k 0)
 | some (.map _ _), .map m => bnd (getO m) fun o => match o with
   | .map _ clock => bnd (alloc (.miter (some m) clock [] clock)) fun k => ret (.ptr k 0)
   | _ => err "range"
 | _, _ => err "range"
def memNat (n : Nat) : List Nat → Bool
 | [] => false
 | m :: l => Nat.beq n m || memNat n l
def unseen (seen : List Nat) : List ME → List ME
 | [] => []
 | e :: es => bif memNat e.born seen then unseen seen es else e :: unseen seen es
def allFrom (last : Nat) : List ME → Bool
 | [] => true
 | e :: es => Nat.ble last e.born && allFrom last es
def nextM (it : V) (isString : Bool) : M V := match it with
 | .ptr r 0 => bnd (getO r) fun o => match o, isString with
   | .siter s pos, true => bif Nat.blt pos s.length then
      bnd (setO r (.siter s (pos + (dec (s.drop pos)).2))) fun _ => ret (.tuple [.bool true, .int .i64 pos, .int .i32 (dec (s.drop pos)).1])
     else ret (.tuple [.bool false])
   | .miter none _ _ _, false => ret (.tuple [.bool false])
   | .miter (some m) since seen last, false => bnd (getO m) fun q => match q with
     | .map es clock => bif (!seen.isEmpty && !es.isEmpty && allFrom last es) then err "next gone" else
       match unseen seen es with
       | [] => ret (.tuple [.bool false])
       | [e] => bif Nat.blt e.born since then bnd (setO r (.miter (some m) since (seen ++ [e.born]) clock)) fun _ => ret (.tuple [.bool true, e.key, e.val]) else err "next new"
       | _ => err "next several"
     | _ => err "next map"
   | _, _ => err "next"
 | _ => err "next"
def findBorn (b : Nat) : List ME → Option ME
 | [] => none
 | e :: es => bif Nat.beq e.born b then some e else findBorn b es
def lastN : List Nat → Option Nat
 | [] => none
 | [a] => some a
 | _ :: l => lastN l
def entryM (it : V) : M V := match it with
 | .ptr r 0 => bnd (getO r) fun o => match o with
   | .miter (some m) _ seen stepped => match lastN seen with
     | some b => bnd (getO m) fun q => match q with
       | .map es clock => bif Nat.beq clock stepped then (match findBorn b es with
         | some e => ret (.tuple [e.key, e.val])
         | none => err "entry gone") else err "entry"
       | _ => err "entry"
     | none => err "entry"
   | _ => err "entry"
 | _ => err "entry"
def lenM (P : Program) (t : TypeId) (x : V) : M V :=
 match P.underlying t, x with
 | some .string, .str s => ret (.int .i64 s.length)
 | some (.array n _), _ => ret (.int .i64 n)
 | some (.pointer a), _ => match P.underlying a with
   | some (.array n _) => ret (.int .i64 n)
   | _ => err "len"
 | some (.slice _), .nilslice => ret (.int .i64 (0 : Nat))
 | some (.slice _), .slice _ _ n _ => ret (.int .i64 n)
 | some (.map _ _), .nilmap => ret (.int .i64 (0 : Nat))
 | some (.map _ _), .map r => bnd (getO r) fun o => match o with
   | .map es _ => ret (.int .i64 es.length)
   | _ => err "len"
 | _, _ => err "len"
def capM (P : Program) (t : TypeId) (x : V) : M V :=
 match P.underlying t, x with
 | some (.slice _), .nilslice => ret (.int .i64 (0 : Nat))
 | some (.slice _), .slice b _ _ c => bnd (blk b) fun (_, _, p) => bif p then err "cap open" else ret (.int .i64 c)
 | _, _ => err "cap"
def takenM (size : Nat) (x : V) : M (List V × Nat) := match x with
 | .nilslice => ret ([], 0)
 | .slice b o n _ => bnd (ld b o (n * size)) fun cs => ret (cs, n)
 | .str s => bif Nat.beq size 1 then ret (bytesV s, s.length) else err "taken"
 | _ => err "taken"
def roomy (need bytes : Nat) : Bool := (Nat.ble need 1073741824 && Nat.ble bytes 65536) || (Nat.ble need 140737488355328 && Nat.ble bytes 1)
def isIntD : TypeDesc → Bool
 | .int _ => true
 | _ => false
def growM (e : TypeId) (size b o len n : Nat) (new : List V) : M V :=
 bnd (blk b) fun (_, e', p) => bnd (ld b o (len * size)) fun old =>
  bif p then (bif Nat.beq e' e && new.all V.isCell then
   bnd (kill b) fun _ => bnd (alloc (.cells (old ++ new) e true)) fun k => ret (.slice k 0 (len + n) (len + n)) else err "append elem")
  else bnd (alloc (.cells (old ++ new) e true)) fun k => ret (.slice k 0 (len + n) (len + n))
def appendCore (e : TypeId) (size bytes : Nat) (s : V) (new : List V) (n : Nat) : M V :=
 match s with
 | .nilslice => bif Nat.beq n 0 then ret .nilslice else bif roomy n bytes then bnd (alloc (.cells new e true)) fun k => ret (.slice k 0 n n) else err "append room"
 | .slice b o len cap =>
   bif Nat.beq n 0 then ret (.slice b o len cap)
   else bif Nat.ble (len + n) cap then bnd (stc b (o + len * size) new) fun _ => ret (.slice b o (len + n) cap)
   else bif roomy (len + n) bytes then growM e size b o len n new
   else err "append room"
 | _ => err "append"
def appendM (P : Program) (t tx : TypeId) (s x : V) : M V :=
 match P.underlying t, P.underlying tx with
 | some (.slice e), some dx => match szT P e, zeroT P e, (P.info? e).map (·.bytes) with
   | some size, some z, some bytes => bif Nat.beq z.cells.length size then
      (bif isIntD dx then (match x with
        | .int _ (.ofNat n) => bif roomy n bytes then appendCore e size bytes s (rep z.cells n) n else err "append made"
        | _ => err "append made")
      else bnd (takenM size x) fun p => appendCore e size bytes s p.1 p.2) else err "append zero"
   | _, _, _ => err "append type"
 | _, _ => err "append type"
def copyM (P : Program) (t : TypeId) (d x : V) : M V :=
 match P.underlying t with
 | some (.slice e) => match szT P e, d with
   | some size, .slice b o n _ => match x with
     | .nilslice => ret (.int .i64 (0 : Nat))
     | .slice b2 o2 n2 _ => bnd (ld b2 o2 (min n2 n * size)) fun cs => bnd (stc b o cs) fun _ => ret (.int .i64 ((min n2 n : Nat) : Int))
     | .str s => bif Nat.beq size 1 then bnd (stc b o (bytesV (s.take (min s.length n)))) fun _ => ret (.int .i64 ((min s.length n : Nat) : Int)) else err "copy"
     | _ => err "copy"
   | some size, .nilslice => match x with
     | .nilslice => ret (.int .i64 (0 : Nat))
     | .slice b2 o2 n2 _ => bnd (ld b2 o2 (min n2 0 * size)) fun _ => ret (.int .i64 (0 : Nat))
     | .str _ => ret (.int .i64 (0 : Nat))
     | _ => err "copy"
   | _, _ => err "copy"
 | _ => err "copy type"
def clearM (P : Program) (t : TypeId) (x : V) : M V :=
 match P.underlying t, x with
 | some _, .nilmap => ret undefV
 | some _, .nilslice => ret undefV
 | some _, .map r => bnd (getO r) fun o => match o with
   | .map _ clock => bnd (setO r (.map [] clock)) fun _ => ret undefV
   | _ => err "clear"
 | some (.slice e), .slice b o n _ => match zeroT P e, szT P e with
   | some z, some size => bif Nat.beq z.cells.length size && !(Nat.beq n 0) then bnd (stc b o (rep z.cells n)) fun _ => ret undefV else err "clear"
   | _, _ => err "clear"
 | _, _ => err "clear"
def minInts (k : IntKind) : Int → List V → Option V
 | a, [] => some (.int k a)
 | a, .int _ b :: l => minInts k (if b < a then b else a) l
 | _, _ => none
def maxInts (k : IntKind) : Int → List V → Option V
 | a, [] => some (.int k a)
 | a, .int _ b :: l => maxInts k (if a < b then b else a) l
 | _, _ => none
def unsafeStringM (P : Program) (t : TypeId) (p : V) (n : Nat) : M V :=
 match P.underlying t, p with
 | some (.pointer _), .nilptr => bif Nat.beq n 0 then ret (.str []) else err "unsafeString"
 | some (.pointer u), .ptr b o => bif Nat.beq n 0 then ret (.str []) else
    bnd (blk b) fun (_, e, _) => bif Nat.ble n 9223372036854775807 && Nat.blt 0 P.depth && Nat.beq (P.cellsOf e) 1 && sameLayout P P.depth e u then
     bnd (ld b o n) fun cs => match natsV cs with
      | some s => bnd (kill b) fun _ => ret (.str s)
      | none => err "unsafeString"
    else err "unsafeString"
 | _, _ => err "unsafeString"
def builtinM (P : Program) (b : Builtin) (ts : Array TypeId) (args : List V) : M V :=
 match b, ts[0]?, args with
 | .len, some t, [x] => lenM P t x
 | .cap, some t, [x] => capM P t x
 | .append, some t, [s, x] => match ts[1]? with
   | some tx => appendM P t tx s x
   | none => err "append"
 | .copy, some t, [d, x] => copyM P t d x
 | .delete, some t, [m, k] => deleteM P t m k
 | .clear, some t, [x] => clearM P t x
 | .min, _, .int k a :: l => opt (minInts k a l) "min"
 | .unsafeSliceData, _, [.nilslice] => ret .nilptr
 | .unsafeSliceData, _, [.slice b o _ (_ + 1)] => ret (.ptr b o)
 | .unsafeString, some t, [p, .int _ (.ofNat n)] => unsafeStringM P t p n
 | .max, _, .int k a :: l => opt (maxInts k a l) "max"
 | _, _, _ => err "builtin"
def callV (call : FuncId → List V → M V) (f : V) (args : List V) : M V := match f with
 | .func g first captured => call g (first ++ args ++ captured)
 | _ => err "call"
def constM (P : Program) (gl : T (List V)) (t : TypeId) (g o : Nat) : M V :=
 match gl.get g, P.underlying t, szT P t with
 | some c, some d, some n => bif isAggD d then (bif Nat.ble (o + n) c.length then ret (.agg (sub c o n)) else err "const")
   else (match c[o]? with
    | some v => ret v
    | none => err "const")
 | _, _, _ => err "const"
def opPick (c a b : V) : M V := match c with
 | .bool t => ret (bif t then a else b)
 | _ => err "pick"
def opAlloc (P : Program) (e : TypeId) : M V := match zeroT P e with
 | some z => bnd (alloc (.cells z.cells e false)) fun k => ret (.ptr k 0)
 | none => err "alloc"
def opBox (e : TypeId) (x : V) : M V := bnd (alloc (.cells x.cells e false)) fun k => ret (.ptr k 0)
def opBuild (P : Program) (ev : Operand → V) (t : TypeId) (parts : Array (Nat × Operand)) : M V := buildM P t (parts.toList.map fun p => (p.1, (ev p.2).cells))
def opBuildSlice (P : Program) (ev : Operand → V) (t : TypeId) (len : Nat) (parts : Array (Nat × Operand)) : M V := buildSliceM P t len (parts.toList.map fun p => (p.1, (ev p.2).cells))
def opLoad (P : Program) (gl : T (List V)) (t : TypeId) (a : V) : M V := match a with
 | .ptr k o => loadVarM P t k o
 | .gptr g o => constM P gl t g o
 | _ => err "load"
def opStore (P : Program) (t : TypeId) (a x : V) : M V := match a with
 | .ptr k o => storeVarM P t k o x
 | _ => err "store"
def opNilCheck (x : V) : M V := match x with
 | .ptr k o => ret (.ptr k o)
 | .gptr g o => ret (.gptr g o)
 | .func f a b => ret (.func f a b)
 | .iface t v => ret (.iface t v)
 | _ => err "nilCheck"
def opMakeInterface (P : Program) (t : TypeId) (x : V) : M V := match P.underlying t with
 | some (.interface _) => err "makeInterface"
 | some _ => ret (.iface t x)
 | none => err "makeInterface"
def opMakeFunc (ev : Operand → V) (fn : Fn) (first captured : Array Operand) : M V := match fn with
 | .func f => ret (.func f (first.toList.map ev) (captured.toList.map ev))
 | _ => err "makeFunc"
def opMakeMap (P : Program) (t : TypeId) (r : Option V) : M V := match r with
 | none => bnd (alloc (.map [] 0)) fun k => ret (.map k)
 | some x => match P.underlying t, x with
   | some (.map _ _), .int _ _ => bnd (alloc (.map [] 0)) fun k => ret (.map k)
   | _, _ => err "makeMap"
def opMakeSlice (P : Program) (t : TypeId) (l c : V) : M V := match P.underlying t, l, c with
 | some (.slice e), .int _ (.ofNat l), .int _ (.ofNat c) => match szT P e, zeroT P e, (P.info? e).map (·.bytes) with
   | some n, some z, some bytes => bif Nat.ble l c && roomy c bytes && Nat.beq z.cells.length n then
      bnd (alloc (.cells (rep z.cells c) e false)) fun k => ret (.slice k 0 l c) else err "makeSlice"
   | _, _, _ => err "makeSlice"
 | _, _, _ => err "makeSlice"
def opFieldAddr (P : Program) (t : TypeId) (x : V) (f : Nat) : M V := match P.underlying t, x with
 | some (.struct fs), .ptr k o => match fs[f]? with
   | some fd => match szT P fd.type with
     | some (_ + 1) => ret (.ptr k (o + fd.offset))
     | _ => err "fieldAddr"
   | none => err "fieldAddr"
 | _, _ => err "fieldAddr"
def opField (P : Program) (t : TypeId) (x : V) (f : Nat) : M V := match P.underlying t, x with
 | some (.struct fs), .agg cs => match fs[f]? with
   | some fd => partM P fd.type cs fd.offset
   | none => err "field"
 | _, _ => err "field"
def opIndexAddr (P : Program) (t : TypeId) (x ix : V) : M V := match P.underlying t, x, ix with
 | some (.array n e), .ptr k o, .int _ (.ofNat i) => match szT P e with
   | some s => bif Nat.blt i n then ret (.ptr k (o + i * s)) else err "indexAddr"
   | none => err "indexAddr"
 | some (.array n e), .gptr g o, .int _ (.ofNat i) => match szT P e with
   | some s => bif Nat.blt i n then ret (.gptr g (o + i * s)) else err "indexAddr"
   | none => err "indexAddr"
 | some (.slice e), .slice k o n _, .int _ (.ofNat i) => match szT P e with
   | some s => bif Nat.blt i n then ret (.ptr k (o + i * s)) else err "indexAddr"
   | none => err "indexAddr"
 | _, _, _ => err "indexAddr"
def opIndex (P : Program) (t : TypeId) (x ix : V) : M V := match P.underlying t, x, ix with
 | some (.array n e), .agg cs, .int _ (.ofNat i) => match szT P e with
   | some s => bif Nat.blt i n then partM P e cs (i * s) else err "index"
   | none => err "index"
 | some .string, .str s, .int _ (.ofNat i) => match s[i]? with
   | some b => ret (.int .u8 b)
   | none => err "index"
 | _, _, _ => err "index"
def opExtract (t : V) (i : Nat) : M V := match t with
 | .tuple vs => opt vs[i]? "extract"
 | _ => err "extract"
def opCall (P : Program) (call : FuncId → List V → M V) (ev : Operand → V) (c : Call) : M V := match c.callee with
 | .value f => callV call (ev f) (c.args.toList.map ev)
 | .invoke _ _ => err "invoke"
 | .builtin b => builtinM P b c.argTypes (c.args.toList.map ev)
def opTab (o : Op) : Program → T (List V) → (FuncId → List V → M V) → (Operand → V) → M V :=
 Op.rec (motive := fun _ => Program → T (List V) → (FuncId → List V → M V) → (Operand → V) → M V)
  (fun x P gl call ev => ret (ev x))
  (fun x P gl call ev => ret (ev x))
  (fun c a b P gl call ev => opPick (ev c) (ev a) (ev b))
  (fun e P gl call ev => opAlloc P e)
  (fun e x P gl call ev => opBox e (ev x))
  (fun t parts P gl call ev => opBuild P ev t parts)
  (fun t len parts P gl call ev => opBuildSlice P ev t len parts)
  (fun t m k x P gl call ev => mapUpdateM P t (ev m) (ev k) (ev x))
  (fun t a P gl call ev => opLoad P gl t (ev a))
  (fun t a x P gl call ev => opStore P t (ev a) (ev x))
  (fun _ P gl call ev => err "op")
  (fun _ P gl call ev => err "op")
  (fun x P gl call ev => opNilCheck (ev x))
  (fun op t x y _ P gl call ev => opt (binV P op t (constO x || constO y) (ev x) (ev y)) "binOp")
  (fun op _ x P gl call ev => opt (unV op (ev x)) "unOp")
  (fun src dst x P gl call ev => convertM P src dst (ev x))
  (fun _ _ P gl call ev => err "op")
  (fun t x P gl call ev => opMakeInterface P t (ev x))
  (fun fn first captured P gl call ev => opMakeFunc ev fn first captured)
  (fun t r P gl call ev => opMakeMap P t (r.map ev))
  (fun _ _ P gl call ev => err "op")
  (fun t l c P gl call ev => opMakeSlice P t (ev l) (ev c))
  (fun t x lo hi mx P gl call ev => sliceM P t (ev x) (lo.map ev) (hi.map ev) (mx.map ev))
  (fun t x f P gl call ev => opFieldAddr P t (ev x) f)
  (fun t x f P gl call ev => opField P t (ev x) f)
  (fun t x ix P gl call ev => opIndexAddr P t (ev x) (ev ix))
  (fun t x ix P gl call ev => opIndex P t (ev x) (ev ix))
  (fun t x ix ok P gl call ev => lookupM P t (ev x) (ev ix) ok)
  (fun t m k x P gl call ev => mapUpdateM P t (ev m) (ev k) (ev x))
  (fun _ _ _ P gl call ev => err "op")
  (fun _ _ _ _ P gl call ev => err "op")
  (fun t x P gl call ev => rangeM P t (ev x))
  (fun it isString P gl call ev => nextM (ev it) isString)
  (fun it P gl call ev => entryM (ev it))
  (fun _ _ _ _ P gl call ev => err "op")
  (fun t i P gl call ev => opExtract (ev t) i)
  (fun c P gl call ev => opCall P call ev c)
  (fun _ P gl call ev => err "op")
  (fun _ P gl call ev => err "op")
  (fun _ P gl call ev => err "op")
  (fun _ _ P gl call ev => err "op")
  (fun _ _ _ P gl call ev => err "op")
  (fun _ _ P gl call ev => err "op") o
def opM (P : Program) (gl : T (List V)) (call : FuncId → List V → M V) (ev : Operand → V) (o : Op) : M V := opTab o P gl call ev
theorem opM_eq (P : Program) (gl : T (List V)) (call : FuncId → List V → M V) (ev : Operand → V) (o : Op) : opM P gl call ev o =
 (match o with
 | .move x | .assign x => ret (ev x)
 | .pick c a b => opPick (ev c) (ev a) (ev b)
 | .alloc e => opAlloc P e
 | .box e x => opBox e (ev x)
 | .build t parts => opBuild P ev t parts
 | .buildSlice t len parts => opBuildSlice P ev t len parts
 | .load t a => opLoad P gl t (ev a)
 | .store t a x => opStore P t (ev a) (ev x)
 | .nilCheck x => opNilCheck (ev x)
 | .binOp op t x y _ => opt (binV P op t (constO x || constO y) (ev x) (ev y)) "binOp"
 | .unOp op _ x => opt (unV op (ev x)) "unOp"
 | .convert src dst x => convertM P src dst (ev x)
 | .makeInterface t x => opMakeInterface P t (ev x)
 | .makeFunc fn first captured => opMakeFunc ev fn first captured
 | .makeMap t r => opMakeMap P t (r.map ev)
 | .makeSlice t l c => opMakeSlice P t (ev l) (ev c)
 | .slice t x lo hi mx => sliceM P t (ev x) (lo.map ev) (hi.map ev) (mx.map ev)
 | .fieldAddr t x f => opFieldAddr P t (ev x) f
 | .field t x f => opField P t (ev x) f
 | .indexAddr t x ix => opIndexAddr P t (ev x) (ev ix)
 | .index t x ix => opIndex P t (ev x) (ev ix)
 | .lookup t x ix ok => lookupM P t (ev x) (ev ix) ok
 | .mapUpdate t m k x | .insert t m k x => mapUpdateM P t (ev m) (ev k) (ev x)
 | .range t x => rangeM P t (ev x)
 | .next it isString => nextM (ev it) isString
 | .entry it => entryM (ev it)
 | .extract t i => opExtract (ev t) i
 | .call c => opCall P call ev c
 | _ => err "op") := by
 cases o <;> rfl
end
end Go.Lx
