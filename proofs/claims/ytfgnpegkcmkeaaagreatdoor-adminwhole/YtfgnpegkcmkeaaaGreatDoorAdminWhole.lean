/-
  Several texts of one walk, joined.
-/
import Derived.Test.YtfgnpegkcmkeaaaGreatDoorRows
import Derived.Test.YtfgnpegkcmkeaaaGreatDoorKsA
import Derived.Test.YtfgnpegkcmkeaaaGreatDoorLyI
import Derived.Test.YtfgnpegkcmkeaaaGreatDoorLyK
import Derived.Test.YtfgnpegkcmkeaaaGreatDoorLyL
import Derived.Test.YtfgnpegkcmkeaaaGreatDoorLyS
import Derived.Test.YtfgnpegkcmkeaaaGreatDoorLyT
import Derived.Test.YtfgnpegkcmkeaaaGreatDoorLyY
import Derived.Test.YtfgnpegkcmkeaaaGreatDoorWxZ
import Derived.Test.YtfgnpegkcmkeaaaGreatDoorTie
import Derived.Test.YtfgnpegkcmkeaaaGreatDoorCards
import Derived.Test.YtfgnpegkcmkeaaaGreatDoorKsB
import Derived.SevenTiedAt
import Derived.Stop.Joined
set_option linter.unusedVariables false
set_option linter.constructorNameAsVariable false
set_option maxRecDepth 100000
namespace Go.Proofs.YtfgnpegkcmkeaaaGreatDoor.adminWhole
open Go.Proofs Go.Shelf Go.ChangeShapes Go.WideShapes Go.ChangeAt Go.RowKit Go.Lx
theorem own : ownKnob Tryz.prog.godebug = none := kR
theorem laidOut : laidOutB Tryz.prog = true := kR
theorem mixed : Tryz.prog.follows .mixedOrders = true := Checked.mixed Tryz.checked
def ρI : Go.Shelf.Ren := ⟨fun n => match n with | 217 => 138 | 219 => 139 | 224 => 167 | 225 => 166 | 266 => 165 | 267 => 168 | 314 => 186 | _ => 0, fun n => match n with | 3 => 3 | 4 => 4 | 5 => 5 | 9 => 9 | 46 => 227 | 51 => 42 | 146 => 279 | _ => 0, fun n => match n with | 1 => 4 | _ => 0⟩
theorem layρI : Lays.n219 Tryz.prog ρI := by repeat' first | exact mixed | kernel_rfl | (intro w; kernel_rfl) | constructor
theorem enρI : ρI.f 219 = 139 := kR
theorem eρI : Go.Proofs.Enters Tryz.prog (ρI.f 219) := Go.Proofs.enters_of Tryz.func139 kR (by first | rfl | kernel_rfl)
def ρD : Go.Shelf.Ren := ⟨fun n => match n with | 197 => 143 | 260 => 171 | _ => 0, fun n => match n with | 0 => 0 | 3 => 3 | 4 => 4 | 5 => 5 | 9 => 9 | 21 => 21 | 46 => 227 | 105 => 223 | 119 => 127 | 138 => 282 | 139 => 283 | _ => 0, fun n => match n with | 3 => 6 | 4 => 7 | _ => 0⟩
theorem layρD : Lays.n197 Tryz.prog ρD := by repeat' first | exact mixed | kernel_rfl | (intro w; kernel_rfl) | constructor
theorem enρD : ρD.f 197 = 143 := kR
theorem eρD : Go.Proofs.Enters Tryz.prog (ρD.f 197) := Go.Proofs.enters_of Tryz.func143 kR (by first | rfl | kernel_rfl)
def ρN : Go.Shelf.Ren := ⟨fun n => match n with | 129 => 175 | 171 => 21 | 243 => 62 | 246 => 109 | 283 => 147 | 284 => 148 | 285 => 149 | 286 => 150 | 317 => 174 | 318 => 176 | 319 => 177 | 320 => 178 | 337 => 187 | 338 => 188 | _ => 0, fun n => match n with | 0 => 0 | 2 => 2 | 3 => 3 | 4 => 4 | 5 => 5 | 9 => 9 | 20 => 20 | 37 => 48 | 46 => 227 | 51 => 42 | 53 => 61 | 171 => 231 | 173 => 233 | 212 => 264 | 213 => 265 | 232 => 285 | 233 => 286 | _ => 0, fun n => match n with | 17 => 5 | 18 => 8 | 19 => 9 | _ => 0⟩
theorem layρN : LaysM.n171 Tryz.prog ρN := by repeat' first | exact mixed | kernel_rfl | (intro w; kernel_rfl) | constructor
theorem enρN : ρN.f 171 = 21 := kR
theorem eρN : Go.Proofs.Enters Tryz.prog (ρN.f 171) := Go.Proofs.enters_of Tryz.func21 kR (by first | rfl | kernel_rfl)
def ρA : Go.Shelf.Ren := ⟨fun n => match n with | 129 => 175 | 171 => 21 | 172 => 20 | 205 => 146 | 243 => 62 | 244 => 60 | 245 => 61 | 246 => 109 | 247 => 104 | 279 => 105 | 280 => 106 | 281 => 107 | 282 => 108 | 283 => 147 | 284 => 148 | 285 => 149 | 286 => 150 | 287 => 144 | 316 => 145 | 317 => 174 | 318 => 176 | 319 => 177 | 320 => 178 | 321 => 172 | 322 => 173 | 337 => 187 | 338 => 188 | _ => 0, fun n => match n with | 0 => 0 | 2 => 2 | 3 => 3 | 4 => 4 | 5 => 5 | 9 => 9 | 20 => 20 | 21 => 21 | 37 => 48 | 46 => 227 | 51 => 42 | 53 => 61 | 75 => 83 | 76 => 84 | 80 => 175 | 85 => 182 | 127 => 222 | 143 => 260 | 145 => 262 | 167 => 181 | 168 => 184 | 171 => 231 | 173 => 233 | 175 => 225 | 210 => 229 | 212 => 264 | 213 => 265 | 232 => 285 | 233 => 286 | _ => 0, fun n => match n with | 15 => 2 | 16 => 3 | 17 => 5 | 18 => 8 | 19 => 9 | _ => 0⟩
theorem layρA : LaysC.n172 Tryz.prog ρA := by repeat' first | exact mixed | kernel_rfl | (intro w; kernel_rfl) | constructor
theorem enρA : ρA.f 172 = 20 := kR
theorem eρA : Go.Proofs.Enters Tryz.prog (ρA.f 172) := Go.Proofs.enters_of Tryz.func20 kR (by first | rfl | kernel_rfl)
def ρF : Go.Shelf.Ren := ⟨fun n => match n with | 129 => 175 | 173 => 65 | 246 => 109 | 283 => 147 | 284 => 148 | 285 => 149 | 286 => 150 | 317 => 174 | 318 => 176 | 319 => 177 | 320 => 178 | 337 => 187 | 338 => 188 | _ => 0, fun n => match n with | 0 => 0 | 2 => 2 | 3 => 3 | 4 => 4 | 5 => 5 | 9 => 9 | 20 => 20 | 37 => 48 | 46 => 227 | 51 => 42 | 53 => 61 | 171 => 231 | 173 => 233 | 212 => 264 | 213 => 265 | 232 => 285 | 233 => 286 | _ => 0, fun n => match n with | 17 => 5 | 18 => 8 | 19 => 9 | _ => 0⟩
theorem layρF : LaysM.n173 Tryz.prog ρF := by repeat' first | exact mixed | kernel_rfl | (intro w; kernel_rfl) | constructor
theorem enρF : ρF.f 173 = 65 := kR
theorem eρF : Go.Proofs.Enters Tryz.prog (ρF.f 173) := Go.Proofs.enters_of Tryz.func65 kR (by first | rfl | kernel_rfl)
theorem e3ok : ∀ c, c < 256 → ((listedInts (Rows.laid_unicode_utf8_first : DataW Unit)).map (V.int .u8))[c]? = some (.int .u8 (Lib.firstT c)) := by
 intro c hc
 have h : ∀ i : Fin 256, (listedInts (Rows.laid_unicode_utf8_first : DataW Unit))[i.val]? = some ((Lib.firstT i.val : Nat) : Int) := by decide +kernel
 rw [List.getElem?_map, h ⟨c, hc⟩]
 rfl
theorem e4ok : ∀ i, i < 16 → ((listedPairs (Rows.laid_unicode_utf8_acceptRanges : DataW Unit)).map (V.int .u8))[2 * i]? = some (.int .u8 (Lib.accLo i)) ∧ ((listedPairs (Rows.laid_unicode_utf8_acceptRanges : DataW Unit)).map (V.int .u8))[2 * i + 1]? = some (.int .u8 (Lib.accHi i)) := by
 intro i hi
 have h : ∀ i : Fin 16, (listedPairs (Rows.laid_unicode_utf8_acceptRanges : DataW Unit))[2 * i.val]? = some ((Lib.accLo i.val : Nat) : Int) ∧ (listedPairs (Rows.laid_unicode_utf8_acceptRanges : DataW Unit))[2 * i.val + 1]? = some ((Lib.accHi i.val : Nat) : Int) := by decide +kernel
 rw [List.getElem?_map, List.getElem?_map, (h ⟨i, hi⟩).1, (h ⟨i, hi⟩).2]
 exact ⟨rfl, rfl⟩
theorem pow_eq : listedInts (Rows.laid_internal_strconv_uint64pow10 : DataW Unit) = Lib.pow10Tab := by decide +kernel
noncomputable def glA (mx : Int) : T (List V) := (((T.leaf).set 0 (some ((listedInts (Rows.laid_strings_asciiSpace : DataW Unit)).map (V.int .u8)))).set 6 (some ((listedInts (Rows.laid_unicode_utf8_first : DataW Unit)).map (V.int .u8)))).set 4 (some [.int .i64 mx])
noncomputable def glB (mx : Int) : T (List V) := (glA mx).set 7 (some ((listedPairs (Rows.laid_unicode_utf8_acceptRanges : DataW Unit)).map (V.int .u8)))
noncomputable def glC (mx : Int) : T (List V) := (glB mx).set 5 (some (Lib.pow10Tab.map (V.int .u64)))
noncomputable def gl (mx : Int) : T (List V) := ((glC mx).set 2 (some [])).set 3 (some [])
noncomputable def exts (P : Program) : List (FuncId × (List V → M V)) := [(165, pureM idxStr), (170, pureM sameV), (139, pureM index2), (143, pureM decStr), (181, idxM)]
noncomputable def cfg (P : Program) (mx : Int) : Cfg := { P := P, lf := 100000, gl := gl mx, sum := sums (exts P) }
theorem exts_all (mx : Int) : ∀ p ∈ exts Tryz.prog, ExtSum Tryz.prog (gl mx) p.1 p.2 := by
 intro p hp
 simp only [exts, List.mem_cons, List.mem_nil_iff, or_false] at hp
 rcases hp with rfl | rfl | rfl | rfl | rfl
 ·exact extSum_pure Tryz.func165 kR kR kR kR (e := Extern.BytealgIndexByte.indexByte) idxStr_ok
 ·exact extSum_pure Tryz.func170 kR kR kR kR (e := Extern.AbiNoEscape.same) sameV_ok
 ·have h := extSum_index (P := Tryz.prog) (ρ := ρI) (gl := gl mx) (m := mx) layρI kR eρI
  rw [enρI] at h
  exact h
 ·have h := extSum_decode (P := Tryz.prog) (ρ := ρD) (gl := gl mx) layρD (c3 := (listedInts (Rows.laid_unicode_utf8_first : DataW Unit)).map (V.int .u8)) (c4 := (listedPairs (Rows.laid_unicode_utf8_acceptRanges : DataW Unit)).map (V.int .u8)) rfl rfl e3ok e4ok eρD
  rw [enρD] at h
  exact h
 ·exact extSum_idx Tryz.func181 kR kR kR kR
theorem exts_ok (mx : Int) : SumOk (cfg Tryz.prog mx) := sumOk_list _ (exts Tryz.prog) rfl (exts_all mx)
theorem nice_memo1 (m : Memo1) (vs : List V) : Go.Wx.Nice (memo1M m vs) := by
 unfold memo1M
 cases sameArgs m.args vs
 ·exact Go.Wx.Nice.err _
 ·rw [cond_true]
  exact Go.Wx.Nice.bnd (Go.Wx.Nice.alloc _) fun _ => Go.Wx.Nice.ret _
theorem nice_memo1s : ∀ (l : List Memo1) (vs : List V), Go.Wx.Nice (memo1sM l vs)
 | [], _ => Go.Wx.Nice.err _
 | m :: l, vs => by
   unfold memo1sM
   cases sameArgs m.args vs
   ·exact nice_memo1s l vs
   ·exact nice_memo1 m vs
theorem nice_memo : ∀ (l : List Memo) (vs : List V), Go.Wx.Nice (memoM l vs)
 | [], _ => Go.Wx.Nice.err _
 | m :: l, vs => by
   unfold memoM
   exact Go.Wx.Nice.cond (Go.Wx.Nice.cond (Go.Wx.Nice.ret _) (Go.Wx.Nice.bnd (Go.Wx.Nice.alloc _) fun _ => Go.Wx.Nice.ret _)) (nice_memo l vs)
theorem livesRun (mx : Int) : yes (callM (cfg Tryz.prog mx) 100 5 [] st0) = true := kR
noncomputable def gaveT (r : R V) : Option (Nat × Nat × List V × Option Ob) := R.rec (motive := fun _ => Option (Nat × Nat × List V × Option Ob)) (fun v s => match v with
 | .tuple (.slice k 0 n m :: rest) => some (n, m, rest, s.heap.get k)
 | _ => none) (fun _ => none) r
theorem memoOk_any {c : Cfg} {n : Nat} {f : FuncId} {m : Memo} (h0 : m.len ≠ 0) (h1 : flatL m.rest = true) (h2 : flatL m.cells = true) (h3 : flatL m.args = true)
  (h : gaveT (callM c (n + 1) f m.args st0) = some (m.len, m.len, m.rest, some (.cells m.cells m.elem true))) : MemoOk c n f m := by
 refine ⟨h1, h2, h3, .inr ⟨h0, ?_⟩⟩
 cases hr : callM c (n + 1) f m.args st0 with
 | fail w => rw [hr] at h; cases h
 | ok v s =>
   rw [hr] at h
   have h' : (match v with
    | .tuple (.slice k 0 n m :: rest) => some (n, m, rest, s.heap.get k)
    | _ => none) = some (m.len, m.len, m.rest, some (.cells m.cells m.elem true)) := h
   split at h'
   ·injection h' with h'
    injection h' with e1 h'
    injection h' with e2 h'
    injection h' with e3 e4
    subst e1; subst e2; subst e3
    exact ⟨_, s, rfl, e4⟩
   ·cases h'
noncomputable def gaveS (r : R V) : Option (Nat × Nat × Option Ob) := R.rec (motive := fun _ => Option (Nat × Nat × Option Ob)) (fun v s => match v with
 | .slice k 0 n m => some (n, m, s.heap.get k)
 | _ => none) (fun _ => none) r
theorem memo1Ok_any {c : Cfg} {n : Nat} {f : FuncId} {m : Memo1} (h2 : flatL m.cells = true) (h3 : flatL m.args = true)
  (h : gaveS (callM c (n + 1) f m.args st0) = some (m.len, m.len, some (.cells m.cells m.elem m.opn))) : Memo1Ok c n f m := by
 refine ⟨h2, h3, ?_⟩
 cases hr : callM c (n + 1) f m.args st0 with
 | fail w => rw [hr] at h; cases h
 | ok v s =>
   rw [hr] at h
   have h' : (match v with
    | .slice k 0 n m => some (n, m, s.heap.get k)
    | _ => none) = some (m.len, m.len, some (.cells m.cells m.elem m.opn)) := h
   split at h'
   ·injection h' with h'
    injection h' with e1 h'
    injection h' with e2 e3
    subst e1; subst e2
    exact ⟨_, s, rfl, e3⟩
   ·cases h'
open Ad in
noncomputable def sigs : Memo1 := ⟨[.str signsT], 35, signsL.map V.str, 9, false⟩
open Ad in
noncomputable def ordM (k : Nat) : Memo1 := ⟨[.str (wordsK k)], (fieldsK k).length, (fieldsK k).map V.str, 9, false⟩
noncomputable def jnM (k : Nat) : Memo1 := ⟨[.str (Rs.jnK k)], (Rs.colsK k).length, (Rs.colsK k).map V.str, 9, false⟩
noncomputable def memos : List Memo1 := [sigs, ordM 1, ordM 2, ordM 3, ordM 4, ordM 5, ordM 6, ordM 7, ordM 8, ordM 9, ordM 10, jnM 1, jnM 2, jnM 3, jnM 4, jnM 5]
noncomputable def cntM (n : Nat) : Memo := ⟨[.nilslice, .int .i64 n], 1, bytesV [n], 5, [.int .i64 0]⟩
noncomputable def cnts : List Memo := [cntM 2, cntM 4, cntM 5, cntM 6]
abbrev colA (s : List Nat) : List V := [.nilslice, .agg [.str [], .str [], .str [], .str s, .str s, .int .u16 45, .int .u32 255, .int .u8 253, .int .u16 0, .int .u8 0]]
noncomputable def colM (s : List Nat) : Memo := ⟨colA s, (Rs.colP s).length, bytesV (Rs.colP s), 5, [.int .i64 0]⟩
def colC : List (List Nat) := [[110, 111, 119], [108, 105, 109, 105, 116], [112, 97, 117, 115, 101, 100], [98, 97, 99, 107, 101, 110, 100, 115], [119, 97, 105, 116, 101, 114, 115], [99, 108, 105, 101, 110, 116, 115], [98, 97, 99, 107, 101, 110, 100], [115, 116, 97, 116, 101], [99, 108, 105, 101, 110, 116], [105, 100, 108, 101], [117, 115, 101, 114], [115, 99, 104, 101, 109, 97], [112, 105, 110, 110, 101, 100], [108, 101, 102, 116], [100, 105, 103, 101, 115, 116], [99, 111, 117, 110, 116]]
noncomputable def colMs : List Memo := [colM [110, 111, 119], colM [108, 105, 109, 105, 116], colM [112, 97, 117, 115, 101, 100], colM [98, 97, 99, 107, 101, 110, 100, 115], colM [119, 97, 105, 116, 101, 114, 115], colM [99, 108, 105, 101, 110, 116, 115], colM [98, 97, 99, 107, 101, 110, 100], colM [115, 116, 97, 116, 101], colM [99, 108, 105, 101, 110, 116], colM [105, 100, 108, 101], colM [117, 115, 101, 114], colM [115, 99, 104, 101, 109, 97], colM [112, 105, 110, 110, 101, 100], colM [108, 101, 102, 116], colM [100, 105, 103, 101, 115, 116], colM [99, 111, 117, 110, 116]]
noncomputable def eofM : Memo1 := ⟨[.nilslice, .agg [.int .u16 0, .int .u16 2]], 5, bytesV Rs.eofP, 5, true⟩
noncomputable def errM (e : Int × List Nat × List Nat) : Memo := ⟨[.nilslice, .agg [.int .u16 e.1, .str e.2.1, .str e.2.2]], (Rs.errP e.1 e.2.1 e.2.2).length, bytesV (Rs.errP e.1 e.2.1 e.2.2), 5, [.int .i64 0]⟩
noncomputable def errs : List Memo := [errM Rs.e1, errM Rs.e2]
theorem memos_ok (mx : Int) : ∀ m ∈ memos, Memo1Ok (cfg Tryz.prog mx) 99 23 m := by
 unfold memos
 repeat (refine List.forall_mem_cons.2 ⟨memo1Ok_any rfl rfl kR, ?_⟩)
 exact fun m hm => nomatch hm
theorem cnts_ok (mx : Int) : ∀ m ∈ cnts, MemoOk (cfg Tryz.prog mx) 99 71 m := by
 unfold cnts
 repeat (refine List.forall_mem_cons.2 ⟨memoOk_any dC rfl rfl rfl kR, ?_⟩)
 exact fun m hm => nomatch hm
theorem colMs_ok (mx : Int) : ∀ m ∈ colMs, MemoOk (cfg Tryz.prog mx) 99 72 m := by
 unfold colMs
 repeat (refine List.forall_mem_cons.2 ⟨memoOk_any dC rfl rfl rfl kR, ?_⟩)
 exact fun m hm => nomatch hm
theorem eofs_ok (mx : Int) : ∀ m ∈ [eofM], Memo1Ok (cfg Tryz.prog mx) 99 73 m := by
 repeat (refine List.forall_mem_cons.2 ⟨memo1Ok_any rfl rfl kR, ?_⟩)
 exact fun m hm => nomatch hm
theorem errs_ok (mx : Int) : ∀ m ∈ errs, MemoOk (cfg Tryz.prog mx) 99 70 m := by
 unfold errs
 repeat (refine List.forall_mem_cons.2 ⟨memoOk_any dC rfl rfl rfl kR, ?_⟩)
 exact fun m hm => nomatch hm
theorem enL : Go.Proofs.Enters Tryz.prog 5 := Go.Proofs.enters_of Tryz.func5 kR (by first | rfl | kernel_rfl)
theorem enF : Go.Proofs.Enters Tryz.prog 23 := Go.Proofs.enters_of Tryz.func23 kR (by first | rfl | kernel_rfl)
theorem enN : Go.Proofs.Enters Tryz.prog 71 := Go.Proofs.enters_of Tryz.func71 kR (by first | rfl | kernel_rfl)
theorem enC : Go.Proofs.Enters Tryz.prog 72 := Go.Proofs.enters_of Tryz.func72 kR (by first | rfl | kernel_rfl)
theorem enE : Go.Proofs.Enters Tryz.prog 73 := Go.Proofs.enters_of Tryz.func73 kR (by first | rfl | kernel_rfl)
theorem enR : Go.Proofs.Enters Tryz.prog 70 := Go.Proofs.enters_of Tryz.func70 kR (by first | rfl | kernel_rfl)
noncomputable def st (mx : Int) : Set0 := { exts := (5, constTrue) :: (23, memo1sM memos) :: (71, memoM cnts) :: (72, memoM colMs) :: (73, memo1sM [eofM]) :: (70, memoM errs) :: (21, pureM itoaV) :: (20, atoiM 229 184) :: (65, pureM fmtV) :: exts Tryz.prog, gl := gl mx }
theorem st_ok (mx : Int) (lf : Nat) : SumOk ((st mx).cfg.at lf) := by
 refine sumOk_list _ ((5, constTrue) :: (23, memo1sM memos) :: (71, memoM cnts) :: (72, memoM colMs) :: (73, memo1sM [eofM]) :: (70, memoM errs) :: (21, pureM itoaV) :: (20, atoiM 229 184) :: (65, pureM fmtV) :: exts Tryz.prog) rfl ?_
 intro p hp
 rcases List.mem_cons.1 hp with rfl | hp
 ·exact extSum_true (cfg Tryz.prog mx) mixed (exts_ok mx) (livesRun mx) rfl enL rfl
 rcases List.mem_cons.1 hp with rfl | hp
 ·refine extSum_memo1s (cfg Tryz.prog mx) mixed (exts_ok mx) rfl enF rfl ?_
  exact fun m hm => ⟨99, memos_ok mx m hm⟩
 rcases List.mem_cons.1 hp with rfl | hp
 ·exact extSum_memo (cfg Tryz.prog mx) mixed (exts_ok mx) rfl enN rfl fun m hm => ⟨99, cnts_ok mx m hm⟩
 rcases List.mem_cons.1 hp with rfl | hp
 ·exact extSum_memo (cfg Tryz.prog mx) mixed (exts_ok mx) rfl enC rfl fun m hm => ⟨99, colMs_ok mx m hm⟩
 rcases List.mem_cons.1 hp with rfl | hp
 ·exact extSum_memo1s (cfg Tryz.prog mx) mixed (exts_ok mx) rfl enE rfl fun m hm => ⟨99, eofs_ok mx m hm⟩
 rcases List.mem_cons.1 hp with rfl | hp
 ·exact extSum_memo (cfg Tryz.prog mx) mixed (exts_ok mx) rfl enR rfl fun m hm => ⟨99, errs_ok mx m hm⟩
 rcases List.mem_cons.1 hp with rfl | hp
 ·have h := extSum_itoa (P := Tryz.prog) (ρ := ρN) (gl := gl mx) layρN (g := 5) kR rfl eρN
  rw [enρN] at h
  exact h
 rcases List.mem_cons.1 hp with rfl | hp
 ·have h := extSum_atoi (P := Tryz.prog) (ρ := ρA) (gl := gl mx) layρA rfl rfl (sz := 3) kR eρA
  rw [enρA] at h
  exact h
 rcases List.mem_cons.1 hp with rfl | hp
 ·have h := extSum_fmt (P := Tryz.prog) (ρ := ρF) (gl := gl mx) layρF (g := 5) kR rfl eρF
  rw [enρF] at h
  exact h
 exact exts_all mx p hp
open Go.Wx in
theorem stdF (mx : Int) : Ad.StdF (st mx) where
 own := by
  repeat (refine List.forall_mem_cons.2 ⟨rfl, ?_⟩)
  intro f hf
  cases hf
 idx := rfl
 same := rfl
 index := rfl
 decode := rfl
 fields := fun h => by
  refine callW_sum (s := ⟨(h.push (.cells (Ad.signsL.map V.str) 9 false)).heap, h.nx + 1, [.wrd h.nx]⟩) (g := memo1sM memos) rfl (nice_memo1s _ _) ?_ ?_ ⟨rfl, rfl⟩
  ·rfl
  ·rw [LogOk_cons_wrd]
   exact ⟨.inl (Nat.le_refl _), LogOk_nil⟩
open Go.Wx in
theorem stdA (mx : Int) : Ad.StdA (st mx) where
 toStdF := stdF mx
 ownA := by
  repeat (refine List.forall_mem_cons.2 ⟨rfl, ?_⟩)
  intro f hf
  cases hf
 itoa := rfl
 atoi := rfl
 fieldsA := fun k h1 h2 h => by
  have hk : k = 1 ∨ k = 2 ∨ k = 3 ∨ k = 4 ∨ k = 5 ∨ k = 6 ∨ k = 7 ∨ k = 8 ∨ k = 9 ∨ k = 10 := oM
  rcases hk with rfl | rfl | rfl | rfl | rfl | rfl | rfl | rfl | rfl | rfl
  all_goals
   refine callW_sum (s := ⟨(h.push (.cells ((Ad.fieldsK _).map V.str) 9 false)).heap, h.nx + 1, [.wrd h.nx]⟩) (g := memo1sM memos) rfl (nice_memo1s _ _) rfl ?_ ⟨rfl, rfl⟩
   rw [LogOk_cons_wrd]
   exact ⟨.inl (Nat.le_refl _), LogOk_nil⟩
 lives := fun h => by
  refine callW_sum (s := h.st) (g := constTrue) rfl (Nice.ret _) rfl LogOk_nil ⟨rfl, rfl⟩
open Go.Wx in
theorem row_new {h : H} {e : TypeId} {cells : List V} {n : Nat} {fl : Bool} (hl : cells.length = n) : RW e 1 n (h.push (.cells cells e fl)) (.slice h.nx 0 n n) cells := by
 refine ⟨by rw [Nat.mul_one]; exact hl, .inr ⟨h.nx, 0, n, rfl, Nat.lt_succ_self _, Nat.le_refl _, ?_, fun kc e' fl q hf => ?_⟩⟩
 ·rw [push_eq rfl, Nat.mul_one]
  unfold rdC
  simp only [Nat.zero_add, hl, Nat.ble_self_eq_true, cond_true]
  rw [sub_whole hl]
 ·rw [push_eq rfl] at q
  cases q
  rfl
open Go.Wx in
theorem memo_pure {S : Set0} {f : FuncId} {l : List Memo} {args : List V} {h : H} {bs : List Nat} (hs : sums S.exts f = some (memoM l)) (hb : ∀ b ∈ bs, b < 256) (hr : memoM l args h.st = .ok (.tuple [.slice h.nx 0 bs.length bs.length, .int .i64 0]) ⟨(h.push (.cells (bytesV bs) 5 true)).heap, h.nx + 1, [.wrd h.nx]⟩) : Go.Wx.Pure S.cfg f args h fun w h' => ∃ v, w = .tuple [v, .int .i64 0] ∧ BS 5 h' v bs := by
 refine callW_sum (s := ⟨(h.push (.cells (bytesV bs) 5 true)).heap, h.nx + 1, [.wrd h.nx]⟩) (g := memoM l) hs (nice_memo _ _) hr ?_ ⟨(Ext.refl h).push _, _, rfl, BS.of_rw hb (row_new (by unfold bytesV; rw [List.length_map]))⟩
 rw [LogOk_cons_wrd]
 exact ⟨.inl (Nat.le_refl _), LogOk_nil⟩
open Go.Wx in
theorem stdB (mx : Int) : Rs.StdB (st mx) where
 ownB := by
  repeat (refine List.forall_mem_cons.2 ⟨rfl, ?_⟩)
  intro f hf
  cases hf
 bidx := rfl
open Go.Wx in
theorem stdK (mx : Int) : Rs.StdK (st mx) where
 toStdB := stdB mx
 ownG := by
  repeat (refine List.forall_mem_cons.2 ⟨rfl, ?_⟩)
  intro f hf
  cases hf
 ownR := by
  repeat (refine List.forall_mem_cons.2 ⟨rfl, ?_⟩)
  intro f hf
  cases hf
 ownK := by
  repeat (refine List.forall_mem_cons.2 ⟨rfl, ?_⟩)
  intro f hf
  cases hf
 fmt := rfl
open Go.Wx in
theorem cols_ok (mx : Int) : ∀ s ∈ colC, ∀ h : H, Go.Wx.Pure (st mx).cfg 72 (colA s) h fun w h' => ∃ v, w = .tuple [v, .int .i64 0] ∧ BS 5 h' v (Rs.colP s) := by
 unfold colC
 repeat (refine List.forall_mem_cons.2 ⟨fun h => memo_pure (l := colMs) rfl dC kR, ?_⟩)
 intro s hs
 cases hs
open Go.Wx in
theorem std (mx : Int) : Rs.StdT (st mx) where
 toStdK := stdK mx
 ad := stdA mx
 flds := fun k h1 h2 h => by
  have hk : k = 1 ∨ k = 2 ∨ k = 3 ∨ k = 4 ∨ k = 5 := oM
  rcases hk with rfl | rfl | rfl | rfl | rfl
  all_goals
   refine callW_sum (s := ⟨(h.push (.cells ((Rs.colsK _).map V.str) 9 false)).heap, h.nx + 1, [.wrd h.nx]⟩) (g := memo1sM memos) rfl (nice_memo1s _ _) rfl ?_ ⟨(Ext.refl h).push _, row_new rfl⟩
   rw [LogOk_cons_wrd]
   exact ⟨.inl (Nat.le_refl _), LogOk_nil⟩
 cnt := fun n hn h => by
  rcases hn with rfl | rfl | rfl | rfl
  all_goals exact memo_pure (l := cnts) rfl dC kR
 col := fun k s h1 h2 hs h => by
  refine cols_ok mx s ?_ h
  have hk : k = 1 ∨ k = 2 ∨ k = 3 ∨ k = 4 ∨ k = 5 := oM
  rcases hk with rfl | rfl | rfl | rfl | rfl
  all_goals
   revert s
   decide
 eof := fun h => by
  refine callW_sum (s := ⟨(h.push (.cells (bytesV Rs.eofP) 5 true)).heap, h.nx + 1, [.wrd h.nx]⟩) (g := memo1sM [eofM]) rfl (nice_memo1s _ _) rfl ?_ ⟨(Ext.refl h).push _, BS.of_rw dC (row_new rfl)⟩
  rw [LogOk_cons_wrd]
  exact ⟨.inl (Nat.le_refl _), LogOk_nil⟩
 err := fun e he h => by
  rcases he with rfl | rfl
  all_goals exact memo_pure (l := errs) rfl dC kR
end Go.Proofs.YtfgnpegkcmkeaaaGreatDoor.adminWhole
set_option linter.unusedSimpArgs false
namespace Go.Proofs.YtfgnpegkcmkeaaaGreatDoor.adminWhole
open Go.Proofs Go.Shelf Go.ChangeShapes Go.WideShapes Go.ChangeAt Go.RowKit Go.Lx
noncomputable def fieldsAre (d : Option TypeDesc) (ts : List (TypeId × Nat)) : Bool := match d with
 | some (.struct fs) => fs.toList.map (fun f => (f.type, f.offset)) == ts
 | _ => false
theorem fieldsAre_ok {d : Option TypeDesc} {ts : List (TypeId × Nat)} (h : fieldsAre d ts = true) : ∃ fs, d = some (.struct fs) ∧ ∀ p ∈ ts, ∃ f ∈ fs.toList, f.type = p.1 ∧ f.offset = p.2 := by
 unfold fieldsAre at h
 cases d with
 | none => cases h
 | some d =>
   cases d <;> try (cases h; done)
   rename_i fs
   refine ⟨fs, rfl, fun p hp => ?_⟩
   have := eq_of_beq h
   rw [← this] at hp
   obtain ⟨f, hf, e⟩ := List.mem_map.1 hp
   exact ⟨f, hf, by rw [← e], by rw [← e]⟩
theorem u52 : fieldsAre (Tryz.prog.underlying 52) [(5, 0), (9, 1), (42, 2), (50, 3), (5, 4), (42, 5), (50, 6), (48, 7)] = true := kR
theorem c52 : Tryz.prog.cellsOf 52 = 8 := kR
theorem u37 : fieldsAre (Tryz.prog.underlying 37) [(2, 0), (3, 1), (4, 2), (33, 3), (32, 4), (34, 5), (35, 6)] = true := kR
theorem c37 : Tryz.prog.cellsOf 37 = 7 := kR
theorem u132 : fieldsAre (Tryz.prog.underlying 132) [(3, 0), (3, 1), (3, 2), (2, 3)] = true := kR
theorem c132 : Tryz.prog.cellsOf 132 = 4 := kR
theorem u31 : fieldsAre (Tryz.prog.underlying 31) [(3, 0), (2, 1)] = true := kR
theorem c31 : Tryz.prog.cellsOf 31 = 2 := kR
theorem u109 : fieldsAre (Tryz.prog.underlying 109) [(3, 0), (9, 1), (9, 2), (3, 3), (4, 4)] = true := kR
theorem c109 : Tryz.prog.cellsOf 109 = 5 := kR
theorem u95 : fieldsAre (Tryz.prog.underlying 95) [(9, 0), (3, 1)] = true := kR
theorem c95 : Tryz.prog.cellsOf 95 = 2 := kR
theorem t52 : Tryz.prog.cellTypes Tryz.prog.depth 52 = some [5, 9, 42, 50, 5, 42, 50, 48] := kR
theorem t37 : Tryz.prog.cellTypes Tryz.prog.depth 37 = some [2, 3, 4, 33, 32, 34, 35] := kR
theorem c2 : Tryz.prog.cellsOf 2 = 1 := kR
theorem c3 : Tryz.prog.cellsOf 3 = 1 := kR
theorem c4 : Tryz.prog.cellsOf 4 = 1 := kR
theorem c5 : Tryz.prog.cellsOf 5 = 1 := kR
theorem c9 : Tryz.prog.cellsOf 9 = 1 := kR
theorem c42 : Tryz.prog.cellsOf 42 = 1 := kR
theorem c50 : Tryz.prog.cellsOf 50 = 1 := kR
theorem c48 : Tryz.prog.cellsOf 48 = 1 := kR
theorem c33 : Tryz.prog.cellsOf 33 = 1 := kR
theorem c32 : Tryz.prog.cellsOf 32 = 1 := kR
theorem c34 : Tryz.prog.cellsOf 34 = 1 := kR
theorem c35 : Tryz.prog.cellsOf 35 = 1 := kR
theorem und2 : Tryz.prog.underlying 2 = some (.int .i64) := kR
theorem und3 : Tryz.prog.underlying 3 = some (.int .i64) := kR
theorem und4 : Tryz.prog.underlying 4 = some (.bool) := kR
theorem und5 : Tryz.prog.underlying 5 = some (.int .u8) := kR
theorem und9 : Tryz.prog.underlying 9 = some (.string) := kR
theorem und42 : Tryz.prog.underlying 42 = some (.int .u32) := kR
theorem und43 : Tryz.prog.underlying 43 = some (.int .u32) := kR
theorem und50 : Tryz.prog.underlying 50 = some (.int .u16) := kR
theorem und48 : Tryz.prog.underlying 48 = some (.slice 5) := kR
theorem und33 : Tryz.prog.underlying 33 = some (.slice 132) := kR
theorem und32 : Tryz.prog.underlying 32 = some (.slice 31) := kR
theorem und34 : Tryz.prog.underlying 34 = some (.slice 109) := kR
theorem und35 : Tryz.prog.underlying 35 = some (.slice 95) := kR
theorem by5 : Tryz.prog.bytesOf 5 = 1 := kR
theorem by109 : Tryz.prog.bytesOf 109 = 56 := kR
theorem by95 : Tryz.prog.bytesOf 95 = 24 := kR
theorem wf8 {n : Int} (h : (Lit.int .u8 n).wf = true) : 0 ≤ n ∧ n < 256 := by
 simp [Lit.wf, IntKind.min, IntKind.max, IntKind.signed, IntKind.bits] at h
 omega
theorem wf16 {n : Int} (h : (Lit.int .u16 n).wf = true) : 0 ≤ n ∧ n < 65536 := by
 simp [Lit.wf, IntKind.min, IntKind.max, IntKind.signed, IntKind.bits] at h
 omega
theorem wf32 {n : Int} (h : (Lit.int .u32 n).wf = true) : 0 ≤ n ∧ n < 4294967296 := by
 simp [Lit.wf, IntKind.min, IntKind.max, IntKind.signed, IntKind.bits] at h
 omega
theorem wf64 {n : Int} (h : (Lit.int .i64 n).wf = true) : Rs.i64R n := by
 simp [Lit.wf, IntKind.min, IntKind.max, IntKind.signed, IntKind.bits] at h
 unfold Rs.i64R
 omega
theorem bytes_toNats (b : ByteArray) : ∀ x ∈ toNats b, x < 256 := by
 intro x hx
 simp only [toNats, List.mem_map] at hx
 obtain ⟨y, _, rfl⟩ := hx
 exact y.toNat_lt
open Go.Wx in
theorem boT (b : Bool) : bo (b = true) = .bool b := by cases b <;> simp [bo]
section
variable {H : Type} {enc : TypeId × Value → H} {W : World} {spare : Nat → Bool} {held : Bool}
open Go.Wx in
theorem cm_cells {fuel : Nat} {cs : List Value} {x : DataW H × List MemPlace} (h : DataW.trod enc Tryz.prog W 0 spare held fuel 52 cs = some x) (lt : Light Tryz.prog 52 x.1) : ∃ (k x2 x3 fl x5 x6 : Int) (s : ByteArray) (d : Value) (f1 : Nat) (y1 : DataW H × List MemPlace), cs = [.int .u8 k, .string s, .int .u32 x2, .int .u16 x3, .int .u8 fl, .int .u32 x5, .int .u16 x6, d] ∧ (toNats s).length ≤ reachBytes ∧ DataW.trod enc Tryz.prog W 0 spare held f1 48 [d] = some y1 ∧ Light Tryz.prog 48 y1.1 ∧ (0 ≤ k ∧ k < 256) ∧ (0 ≤ x2 ∧ x2 < 4294967296) ∧ (0 ≤ x3 ∧ x3 < 65536) ∧ (0 ≤ fl ∧ fl < 256) ∧ (0 ≤ x5 ∧ x5 < 4294967296) ∧ (0 ≤ x6 ∧ x6 < 65536) := by
 obtain ⟨fs, hu, hf⟩ := fieldsAre_ok u52
 have hl := trod_struct_len hu h
 rw [c52] at hl
 have sub : ∀ t o, Tryz.prog.cellsOf t = 1 → ((t, o) : TypeId × Nat) ∈ [((5, 0) : TypeId × Nat), (9, 1), (42, 2), (50, 3), (5, 4), (42, 5), (50, 6), (48, 7)] → ∃ fu y, DataW.trod enc Tryz.prog W 0 spare held fu t ((cs.drop o).take 1) = some y ∧ Light Tryz.prog t y.1 := fun t o hn ho => by
  obtain ⟨f, hm, e1, e2⟩ := hf _ ho
  obtain ⟨y, hy, hyl⟩ := light_field hu hm h lt
  rw [e1, e2] at hy
  rw [e1] at hyl
  simp only [hn] at hy
  exact ⟨_, y, hy, hyl⟩
 match cs, hl with
 | [k0, k1, k2, k3, k4, k5, k6, k7], _ =>
   obtain ⟨_, _, h0, _⟩ := sub 5 0 c5 (by simp)
   obtain ⟨a0, e0, w0⟩ := trod_int und5 h0
   obtain ⟨_, _, h1, l1⟩ := sub 9 1 c9 (by simp)
   obtain ⟨s, e1⟩ := trod_str und9 h1
   obtain ⟨_, _, h2, _⟩ := sub 42 2 c42 (by simp)
   obtain ⟨a2, e2, w2⟩ := trod_int und42 h2
   obtain ⟨_, _, h3, _⟩ := sub 50 3 c50 (by simp)
   obtain ⟨a3, e3, w3⟩ := trod_int und50 h3
   obtain ⟨_, _, h4, _⟩ := sub 5 4 c5 (by simp)
   obtain ⟨a4, e4, w4⟩ := trod_int und5 h4
   obtain ⟨_, _, h5, _⟩ := sub 42 5 c42 (by simp)
   obtain ⟨a5, e5, w5⟩ := trod_int und42 h5
   obtain ⟨_, _, h6, _⟩ := sub 50 6 c50 (by simp)
   obtain ⟨a6, e6, w6⟩ := trod_int und50 h6
   obtain ⟨f1, y1, h7, l7⟩ := sub 48 7 c48 (by simp)
   rw [e1] at h1
   have hs := light_str und9 h1 l1
   simp only [List.drop_succ_cons, List.drop_zero, List.take_succ_cons, List.take_zero, List.cons.injEq, and_true] at e0 e1 e2 e3 e4 e5 e6 h7
   exact ⟨a0, a2, a3, a4, a5, a6, s, k7, f1, y1, by rw [e0, e1, e2, e3, e4, e5, e6], hs, h7, l7, wf8 w0, wf32 w2, wf16 w3, wf8 w4, wf32 w5, wf16 w6⟩
open Go.Wx in
theorem sn_cells {fuel : Nat} {cs : List Value} {x : DataW H × List MemPlace} (h : DataW.trod enc Tryz.prog W 0 spare held fuel 37 cs = some x) (lt : Light Tryz.prog 37 x.1) : ∃ (n l : Int) (p : Bool) (v3 v4 v5 v6 : Value) (f3 f4 f5 f6 : Nat) (y3 y4 y5 y6 : DataW H × List MemPlace), cs = [.int .i64 n, .int .i64 l, .bool p, v3, v4, v5, v6] ∧ Rs.i64R n ∧ Rs.i64R l ∧ DataW.trod enc Tryz.prog W 0 spare held f3 33 [v3] = some y3 ∧ DataW.trod enc Tryz.prog W 0 spare held f4 32 [v4] = some y4 ∧ (DataW.trod enc Tryz.prog W 0 spare held f5 34 [v5] = some y5 ∧ Light Tryz.prog 34 y5.1) ∧ DataW.trod enc Tryz.prog W 0 spare held f6 35 [v6] = some y6 ∧ Light Tryz.prog 35 y6.1 := by
 obtain ⟨fs, hu, hf⟩ := fieldsAre_ok u37
 have hl := trod_struct_len hu h
 rw [c37] at hl
 have sub : ∀ t o, Tryz.prog.cellsOf t = 1 → ((t, o) : TypeId × Nat) ∈ [((2, 0) : TypeId × Nat), (3, 1), (4, 2), (33, 3), (32, 4), (34, 5), (35, 6)] → ∃ fu y, DataW.trod enc Tryz.prog W 0 spare held fu t ((cs.drop o).take 1) = some y ∧ Light Tryz.prog t y.1 := fun t o hn ho => by
  obtain ⟨f, hm, e1, e2⟩ := hf _ ho
  obtain ⟨y, hy, hyl⟩ := light_field hu hm h lt
  rw [e1, e2] at hy
  rw [e1] at hyl
  simp only [hn] at hy
  exact ⟨_, y, hy, hyl⟩
 match cs, hl with
 | [k0, k1, k2, k3, k4, k5, k6], _ =>
   obtain ⟨_, _, h0, _⟩ := sub 2 0 c2 (by simp)
   obtain ⟨a0, e0, w0⟩ := trod_int und2 h0
   obtain ⟨_, _, h1, _⟩ := sub 3 1 c3 (by simp)
   obtain ⟨a1, e1, w1⟩ := trod_int und3 h1
   obtain ⟨_, _, h2, _⟩ := sub 4 2 c4 (by simp)
   obtain ⟨b, e2⟩ := trod_bool und4 h2
   obtain ⟨f3, y3, h3, _⟩ := sub 33 3 c33 (by simp)
   obtain ⟨f4, y4, h4, _⟩ := sub 32 4 c32 (by simp)
   obtain ⟨f5, y5, h5, l5⟩ := sub 34 5 c34 (by simp)
   obtain ⟨f6, y6, h6, l6⟩ := sub 35 6 c35 (by simp)
   simp only [List.drop_succ_cons, List.drop_zero, List.take_succ_cons, List.take_zero, List.cons.injEq, and_true] at e0 e1 e2 h3 h4 h5 h6
   exact ⟨a0, a1, b, k3, k4, k5, k6, f3, f4, f5, f6, y3, y4, y5, y6, by rw [e0, e1, e2], wf64 w0, wf64 w1, h3, h4, ⟨h5, l5⟩, h6, l6⟩
theorem co_cells {fuel : Nat} {cs : List Value} {x : DataW H × List MemPlace} (h : DataW.trod enc Tryz.prog W 0 spare held fuel 132 cs = some x) : ∃ a b c d : Int, cs = [.int .i64 a, .int .i64 b, .int .i64 c, .int .i64 d] ∧ Rs.i64R a ∧ Rs.i64R b ∧ Rs.i64R c ∧ Rs.i64R d := by
 obtain ⟨fs, hu, hf⟩ := fieldsAre_ok u132
 have hl := trod_struct_len hu h
 rw [c132] at hl
 have sub : ∀ t o, Tryz.prog.cellsOf t = 1 → ((t, o) : TypeId × Nat) ∈ [((3, 0) : TypeId × Nat), (3, 1), (3, 2), (2, 3)] → ∃ fu y, DataW.trod enc Tryz.prog W 0 spare held fu t ((cs.drop o).take 1) = some y := fun t o hn ho => by
  obtain ⟨f, hm, e1, e2⟩ := hf _ ho
  obtain ⟨y, hy⟩ := trod_field' hu hm h
  rw [e1, e2] at hy
  simp only [hn] at hy
  exact ⟨_, y, hy⟩
 match cs, hl with
 | [k0, k1, k2, k3], _ =>
   obtain ⟨_, _, h0⟩ := sub 3 0 c3 (by simp)
   obtain ⟨a0, e0, w0⟩ := trod_int und3 h0
   obtain ⟨_, _, h1⟩ := sub 3 1 c3 (by simp)
   obtain ⟨a1, e1, w1⟩ := trod_int und3 h1
   obtain ⟨_, _, h2⟩ := sub 3 2 c3 (by simp)
   obtain ⟨a2, e2, w2⟩ := trod_int und3 h2
   obtain ⟨_, _, h3⟩ := sub 2 3 c2 (by simp)
   obtain ⟨a3, e3, w3⟩ := trod_int und2 h3
   simp only [List.drop_succ_cons, List.drop_zero, List.take_succ_cons, List.take_zero, List.cons.injEq, and_true] at e0 e1 e2 e3
   exact ⟨a0, a1, a2, a3, by rw [e0, e1, e2, e3], wf64 w0, wf64 w1, wf64 w2, wf64 w3⟩
theorem wa_cells {fuel : Nat} {cs : List Value} {x : DataW H × List MemPlace} (h : DataW.trod enc Tryz.prog W 0 spare held fuel 31 cs = some x) : ∃ a b : Int, cs = [.int .i64 a, .int .i64 b] ∧ Rs.i64R a ∧ Rs.i64R b := by
 obtain ⟨fs, hu, hf⟩ := fieldsAre_ok u31
 have hl := trod_struct_len hu h
 rw [c31] at hl
 have sub : ∀ t o, Tryz.prog.cellsOf t = 1 → ((t, o) : TypeId × Nat) ∈ [((3, 0) : TypeId × Nat), (2, 1)] → ∃ fu y, DataW.trod enc Tryz.prog W 0 spare held fu t ((cs.drop o).take 1) = some y := fun t o hn ho => by
  obtain ⟨f, hm, e1, e2⟩ := hf _ ho
  obtain ⟨y, hy⟩ := trod_field' hu hm h
  rw [e1, e2] at hy
  simp only [hn] at hy
  exact ⟨_, y, hy⟩
 match cs, hl with
 | [k0, k1], _ =>
   obtain ⟨_, _, h0⟩ := sub 3 0 c3 (by simp)
   obtain ⟨a0, e0, w0⟩ := trod_int und3 h0
   obtain ⟨_, _, h1⟩ := sub 2 1 c2 (by simp)
   obtain ⟨a1, e1, w1⟩ := trod_int und2 h1
   simp only [List.drop_succ_cons, List.drop_zero, List.take_succ_cons, List.take_zero, List.cons.injEq, and_true] at e0 e1
   exact ⟨a0, a1, by rw [e0, e1], wf64 w0, wf64 w1⟩
theorem se_cells {fuel : Nat} {cs : List Value} {x : DataW H × List MemPlace} (h : DataW.trod enc Tryz.prog W 0 spare held fuel 109 cs = some x) : ∃ (a : Int) (u s : ByteArray) (st : Int) (p : Bool), cs = [.int .i64 a, .string u, .string s, .int .i64 st, .bool p] ∧ Rs.i64R a ∧ Rs.i64R st := by
 obtain ⟨fs, hu, hf⟩ := fieldsAre_ok u109
 have hl := trod_struct_len hu h
 rw [c109] at hl
 have sub : ∀ t o, Tryz.prog.cellsOf t = 1 → ((t, o) : TypeId × Nat) ∈ [((3, 0) : TypeId × Nat), (9, 1), (9, 2), (3, 3), (4, 4)] → ∃ fu y, DataW.trod enc Tryz.prog W 0 spare held fu t ((cs.drop o).take 1) = some y := fun t o hn ho => by
  obtain ⟨f, hm, e1, e2⟩ := hf _ ho
  obtain ⟨y, hy⟩ := trod_field' hu hm h
  rw [e1, e2] at hy
  simp only [hn] at hy
  exact ⟨_, y, hy⟩
 match cs, hl with
 | [k0, k1, k2, k3, k4], _ =>
   obtain ⟨_, _, h0⟩ := sub 3 0 c3 (by simp)
   obtain ⟨a0, e0, w0⟩ := trod_int und3 h0
   obtain ⟨_, _, h1⟩ := sub 9 1 c9 (by simp)
   obtain ⟨a1, e1⟩ := trod_str und9 h1
   obtain ⟨_, _, h2⟩ := sub 9 2 c9 (by simp)
   obtain ⟨a2, e2⟩ := trod_str und9 h2
   obtain ⟨_, _, h3⟩ := sub 3 3 c3 (by simp)
   obtain ⟨a3, e3, w3⟩ := trod_int und3 h3
   obtain ⟨_, _, h4⟩ := sub 4 4 c4 (by simp)
   obtain ⟨a4, e4⟩ := trod_bool und4 h4
   simp only [List.drop_succ_cons, List.drop_zero, List.take_succ_cons, List.take_zero, List.cons.injEq, and_true] at e0 e1 e2 e3 e4
   exact ⟨a0, a1, a2, a3, a4, by rw [e0, e1, e2, e3, e4], wf64 w0, wf64 w3⟩
theorem di_cells {fuel : Nat} {cs : List Value} {x : DataW H × List MemPlace} (h : DataW.trod enc Tryz.prog W 0 spare held fuel 95 cs = some x) : ∃ (u : ByteArray) (a : Int), cs = [.string u, .int .i64 a] ∧ Rs.i64R a := by
 obtain ⟨fs, hu, hf⟩ := fieldsAre_ok u95
 have hl := trod_struct_len hu h
 rw [c95] at hl
 have sub : ∀ t o, Tryz.prog.cellsOf t = 1 → ((t, o) : TypeId × Nat) ∈ [((9, 0) : TypeId × Nat), (3, 1)] → ∃ fu y, DataW.trod enc Tryz.prog W 0 spare held fu t ((cs.drop o).take 1) = some y := fun t o hn ho => by
  obtain ⟨f, hm, e1, e2⟩ := hf _ ho
  obtain ⟨y, hy⟩ := trod_field' hu hm h
  rw [e1, e2] at hy
  simp only [hn] at hy
  exact ⟨_, y, hy⟩
 match cs, hl with
 | [k0, k1], _ =>
   obtain ⟨_, _, h0⟩ := sub 9 0 c9 (by simp)
   obtain ⟨a0, e0⟩ := trod_str und9 h0
   obtain ⟨_, _, h1⟩ := sub 3 1 c3 (by simp)
   obtain ⟨a1, e1, w1⟩ := trod_int und3 h1
   simp only [List.drop_succ_cons, List.drop_zero, List.take_succ_cons, List.take_zero, List.cons.injEq, and_true] at e0 e1
   exact ⟨a0, a1, by rw [e0, e1], wf64 w1⟩
end
theorem slice_cell {t e : TypeId} {W : World} {base : Nat} {v : Value} (hu : Tryz.prog.underlying t = some (.slice e)) (h : Cell.okWide Tryz.prog W .any base t v) : Go.Wx.Some0 W W.heap.size v := by
 unfold Cell.okWide Cell.ok at h
 rw [hu] at h
 cases v <;> simp only [] at h <;> try (exact h.elim)
 rename_i ao len cap
 refine fun a q => ?_
 injection q with q1 q2 q3
 subst q1
 obtain ⟨w1, w2, _, w3, row, cells, w4, _⟩ := h
 unfold World.shape? at w4
 cases hh : W.heap[a.block]? with
 | none => rw [hh] at w4; cases w4
 | some ob =>
   rw [hh] at w4
   cases ob <;> first | (cases w4; done) | skip
   rename_i rc e frz
   refine ⟨a.block, fun e => ?_, rc, _, _, hh⟩
   have := (Array.getElem?_eq_some_iff.1 hh).1
   omega
theorem int_val {t : TypeId} {k : IntKind} {W : World} {base : Nat} {v : Value} (hu : Tryz.prog.underlying t = some (.int k)) (h : Value.okWide Tryz.prog W .any base t v) : ∃ n, v = .int k n := by
 unfold Value.okWide at h
 rw [hu] at h
 unfold Cell.okWide at h
 rw [hu] at h
 cases v <;> simp only [Cell.ok, hu] at h
 obtain ⟨rfl, _⟩ := h
 exact ⟨_, rfl⟩
theorem agg_val {W : World} {base : Nat} {v : Value} {t : TypeId} {l : List (TypeId × Nat)} {ts : List TypeId} (hf : fieldsAre (Tryz.prog.underlying t) l = true) (hts : Tryz.prog.cellTypes Tryz.prog.depth t = some ts) (h : Value.okWide Tryz.prog W .any base t v) : ∃ cs : List Value, v = .agg ⟨cs⟩ ∧ ∀ (i : Nat) (d : Value) (u : TypeId), cs[i]? = some d → ts[i]? = some u → Cell.okWide Tryz.prog W .any base u d := by
 obtain ⟨fs, hu, _⟩ := fieldsAre_ok hf
 unfold Value.okWide at h
 rw [hu] at h
 obtain ⟨⟨cs⟩, rfl, _, ts', h1, _, h3⟩ := h
 rw [hts] at h1
 injection h1 with h1
 subst h1
 refine ⟨cs, rfl, fun i d u hd hu' => ?_⟩
 obtain ⟨u', h4, h5⟩ := h3 i d (by simpa using hd)
 have hi := (List.getElem?_eq_some_iff.1 hu').1
 rw [Nat.mod_eq_of_lt hi, hu'] at h4
 injection h4 with h4
 rw [h4]
 exact h5
open Go.Wx in
theorem walk {H : Type} {enc : TypeId × Value → H} {held : Bool} {W : World} {base : Nat} (mx : Int) (hg : Globs (gl mx) (fun _ => none) .leaf W) {v1 v2 v3 : Value} {d1 d3 : DataW H} {p1 p3 : List MemPlace} (k1 : Value.okWide Tryz.prog W .any base 52 v1) (k2 : Value.okWide Tryz.prog W .any base 43 v2) (k3 : Value.okWide Tryz.prog W .any base 37 v3)
  (h1 : DataW.Trod enc Tryz.prog W 0 (fun _ => true) held 52 v1 d1 p1) (h3 : DataW.Trod enc Tryz.prog W 0 (fun _ => true) held 37 v3 d3 p3) (l1 : Light Tryz.prog 52 d1) (l3 : Light Tryz.prog 37 d3) : Calls Tryz.prog 4 #[v1, v2, v3] W fun e W' => e = .returned (.bool true) ∧ Below W.heap.size W W' := by
 obtain ⟨c, rfl⟩ := int_val und43 k2
 obtain ⟨cs, rfl, hdc⟩ := agg_val u52 t52 k1
 obtain ⟨sc, rfl, hsc⟩ := agg_val u37 t37 k3
 obtain ⟨fu1, h1⟩ := h1
 obtain ⟨fu3, h3⟩ := h3
 obtain ⟨k, x2, x3, fl, x5, x6, s, d, f1, y1, ecs, hs, hd, ld, wk, w2, w3, wfl, w5, w6⟩ := cm_cells h1 l1
 have ecs : cs = [.int .u8 k, .string s, .int .u32 x2, .int .u16 x3, .int .u8 fl, .int .u32 x5, .int .u16 x6, d] := ecs
 subst ecs
 obtain ⟨now, lim, ps, z3, z4, z5, z6, f3, f4, f5, f6, y3, y4, y5, y6, esc, wn, wl, g3, g4, ⟨g5, l5⟩, g6, l6⟩ := sn_cells h3 l3
 have esc : sc = [.int .i64 now, .int .i64 lim, .bool ps, z3, z4, z5, z6] := esc
 subst esc
 have so7 := slice_cell und48 (hdc 7 d 48 rfl rfl)
 have so3 := slice_cell und33 (hsc 3 z3 33 rfl rfl)
 have so4 := slice_cell und32 (hsc 4 z4 32 rfl rfl)
 have so5 := slice_cell und34 (hsc 5 z5 34 rfl rfl)
 have so6 := slice_cell und35 (hsc 6 z6 35 rfl rfl)
 have na : ∀ q, NotAt W W.heap.size q := fun q => .inr (Array.getElem?_eq_none (Nat.le_refl _))
 obtain ⟨hA, μA, dv, dl, iA, leA, exA, relA, bsA⟩ := (Inc.start Tryz.prog W W.heap.size).bytes und48 und5 c5 (fun _ => rfl) hd (na _) so7
 obtain ⟨hB, μB, cv, xs, iB, leB, exB, relB, rwB, lnB⟩ := iA.rows (k := .u8) (α := { x : Rs.CnV // x.Ok }) (fun a => a.1.cells) und33 c132 dC (fun _ => rfl) g3 (fun _ => rfl) (na _) so3 (fun cs fu y hy hl => by
  obtain ⟨a, b, c, d, rfl, wa, wb, wc, wd⟩ := co_cells hy
  refine ⟨fun m q => (by cases q), ⟨⟨a, b, c, d⟩, wa, wc⟩, fun j u hu => ?_⟩
  match j, hu with
  | 0, hu => cases hu; exact ⟨_, rfl, .int _ _⟩
  | 1, hu => cases hu; exact ⟨_, rfl, .int _ _⟩
  | 2, hu => cases hu; exact ⟨_, rfl, .int _ _⟩
  | 3, hu => cases hu; exact ⟨_, rfl, .int _ _⟩
  | j + 4, hu => cases hu)
 obtain ⟨hC, μC, wv, ys, iC, leC, exC, relC, rwC, lnC⟩ := iB.rows (k := .u8) (α := { x : Rs.WaV // Rs.i64R x.cl }) (fun a => a.1.cells) und32 c31 dC (fun _ => rfl) g4 (fun _ => rfl) (na _) so4 (fun cs fu y hy hl => by
  obtain ⟨a, b, rfl, wa, wb⟩ := wa_cells hy
  refine ⟨fun m q => (by cases q), ⟨⟨a, b⟩, wa⟩, fun j u hu => ?_⟩
  match j, hu with
  | 0, hu => cases hu; exact ⟨_, rfl, .int _ _⟩
  | 1, hu => cases hu; exact ⟨_, rfl, .int _ _⟩
  | j + 2, hu => cases hu)
 obtain ⟨hD, μD, sv, zs, iD, leD, exD, relD, rwD, lnD⟩ := iC.rows (k := .u8) (α := { x : Rs.SeV // Rs.i64R x.n ∧ (∀ b ∈ x.user, b < 256) ∧ ∀ b ∈ x.schema, b < 256 }) (fun a => a.1.cells) und34 c109 dC (fun _ => rfl) g5 (fun _ => rfl) (na _) so5 (fun cs fu y hy hl => by
  obtain ⟨a, u, s, st, p, rfl, wa, wst⟩ := se_cells hy
  refine ⟨fun m q => (by cases q), ⟨⟨a, toNats u, toNats s, st, p = true⟩, wa, bytes_toNats u, bytes_toNats s⟩, fun j u hu => ?_⟩
  match j, hu with
  | 0, hu => cases hu; exact ⟨_, rfl, .int _ _⟩
  | 1, hu => cases hu; exact ⟨_, rfl, .str _⟩
  | 2, hu => cases hu; exact ⟨_, rfl, .str _⟩
  | 3, hu => cases hu; exact ⟨_, rfl, .int _ _⟩
  | 4, hu =>
    have hu : some (bo (p = true)) = some u := hu
    injection hu with hu
    subst hu
    exact ⟨_, rfl, by rw [boT]; exact .bool _⟩
  | j + 5, hu => cases hu)
 obtain ⟨hE, μE, ov, os, iE, leE, exE, relE, rwE, lnE⟩ := iD.rows (k := .u8) (α := { x : Rs.DiV // Rs.i64R x.n ∧ ∀ b ∈ x.t, b < 256 }) (fun a => a.1.cells) und35 c95 dC (fun _ => rfl) g6 (fun _ => rfl) (na _) so6 (fun cs fu y hy hl => by
  obtain ⟨u, a, rfl, wa⟩ := di_cells hy
  refine ⟨fun m q => (by cases q), ⟨⟨toNats u, a⟩, wa, bytes_toNats u⟩, fun j u hu => ?_⟩
  match j, hu with
  | 0, hu => cases hu; exact ⟨_, rfl, .str _⟩
  | 1, hu => cases hu; exact ⟨_, rfl, .int _ _⟩
  | j + 2, hu => cases hu)
 have er : reachBytes = 140737488351232 := rfl
 have bd := light_bytes und48 hd ld relA bsA
 have bs5 := light_row und34 g5 l5 relD rwD
 have bs6 := light_row und35 g6 l6 relE rwE
 rw [by5, er] at bd
 rw [by109, er] at bs5
 rw [by95, er] at bs6
 rw [er] at hs
 have fl4 : ∀ {α : Type} {p : α → Prop} {f : α → List V} (l : List { x : α // p x }), l.flatMap (fun a => f a.1) = (l.map (·.1)).flatMap f := fun l => by
  induction l with
  | nil => rfl
  | cons x l ih => rw [List.flatMap_cons, ih]; rfl
 rw [fl4] at rwB rwC rwD rwE
 have mem4 : ∀ {α : Type} {p : α → Prop} {l : List { x : α // p x }}, ∀ x ∈ l.map (·.1), p x := fun {α p l} x hx => by
  obtain ⟨y, _, rfl⟩ := List.mem_map.1 hx
  exact y.2
 have hm : (os.map (·.1)).length < 2 ^ 62 ∧ (zs.map (·.1)).length < 2 ^ 62 := by
  rw [List.length_map, List.length_map]
  omega
 have sn : Rs.SnOk ⟨now, lim, ps = true, cv, wv, sv, ov⟩ hE (xs.map (·.1)) (ys.map (·.1)) (zs.map (·.1)) (os.map (·.1)) :=
  ⟨wn, wl, by rw [List.length_map]; exact ((rwB.ext exC).ext exD).ext exE, by rw [List.length_map]; exact (rwC.ext exD).ext exE, by rw [List.length_map]; exact rwD.ext exE, by rw [List.length_map]; exact rwE⟩
 obtain ⟨v, h', lf, n, l, hrun, _, rfl⟩ := callW_runH iE.wf (Rs.whole_law (std mx) (X := ⟨toNats s, x2, x3, x5, x6, dv⟩) (k := k) (fl := fl) (c := c) (d := dl) ⟨wk, ⟨bytes_toNats s, hs⟩, w2, w3, wfl, w5, w6, by omega⟩ ((((bsA.ext exB).ext exC).ext exD).ext exE) sn hm mem4 mem4 mem4 mem4)
 have hg' : Globs ((st mx).cfg.at lf).gl μE hE.heap W := hg.ros iE.ro
 rw [← Rs.btT] at hrun
 refine law_calls_r ((st mx).cfg.at lf) mixed (st_ok mx lf) (n := n) (ν := ν0) (μ := μE) hrun rfl W ⟨fun j ob hk => (iE.ob j ob hk).2, fun j j' ob ob' q q' hk hk' hne hro => ?_⟩ (fun j hj => iE.none j hj) iE.ro ?_ hg'
 ·rw [(iE.ob j ob hk).1, (iE.ob j' ob' hk').1] at hro
  cases hro
 ·unfold Rs.cmdC Rs.SnV.cells
  exact .cons (.agg (.cons (.int _ _) (.cons (.str s) (.cons (.int _ _) (.cons (.int _ _) (.cons (.int _ _) (.cons (.int _ _) (.cons (.int _ _) (.cons ((((relA.mono leB).mono leC).mono leD).mono leE) .nil))))))))) (.cons (.int _ _) (.cons (.agg (.cons (.int _ _) (.cons (.int _ _) (.cons (by rw [boT]; exact .bool _) (.cons (((relB.mono leC).mono leD).mono leE) (.cons ((relC.mono leD).mono leE) (.cons (relD.mono leE) (.cons relE .nil)))))))) .nil))
def laidL : List (String × DataW Unit) := [("math/bits.deBruijn32tab", Rows.laid_math_bits_deBruijn32tab), ("math/bits.deBruijn64tab", Rows.laid_math_bits_deBruijn64tab), ("internal/strconv.uint64pow10", Rows.laid_internal_strconv_uint64pow10), ("unicode/utf8.acceptRanges", Rows.laid_unicode_utf8_acceptRanges), ("strconv.ErrRange", Rows.laid_strconv_ErrRange), ("strconv.ErrSyntax", Rows.laid_strconv_ErrSyntax), ("unicode.White_Space", Rows.laid_unicode_White_Space), ("strings.asciiSpace", Rows.laid_strings_asciiSpace), ("unicode/utf8.first", Rows.laid_unicode_utf8_first)]
theorem trodAll_three' {H : Type} {enc : TypeId × Value → H} {W : World} {spare : Nat → Bool} {held : Bool} {t1 t2 t3 : TypeId} {args : Array Value} {ds : List (DataW H)} {ps : List MemPlace} (h : DataW.TrodAll enc Tryz.prog W 0 spare held [t1, t2, t3] args.toList ds ps) :
  ∃ v1 v2 v3 d1 d2 d3 p1 p2 p3, args = #[v1, v2, v3] ∧ ds = [d1, d2, d3] ∧ DataW.Trod enc Tryz.prog W 0 spare held t1 v1 d1 p1 ∧ DataW.Trod enc Tryz.prog W 0 spare held t2 v2 d2 p2 ∧ DataW.Trod enc Tryz.prog W 0 spare held t3 v3 d3 p3 := by
 obtain ⟨v1, vs, d1, ds', p1, q, e1, rfl, rfl, hd, hrest⟩ := trodAll_cons h
 obtain ⟨v2, vs2, d2, ds2, p2, q2, rfl, rfl, rfl, hd2, hrest2⟩ := trodAll_cons hrest
 obtain ⟨v3, vs3, d3, ds3, p3, q3, rfl, rfl, rfl, hd3, hrest3⟩ := trodAll_cons hrest2
 obtain ⟨rfl, rfl, rfl⟩ := trodAll_nil hrest3
 exact ⟨v1, v2, v3, d1, d2, d3, p1, p2, p3, by cases args; simp_all, rfl, hd, hd2, hd3⟩
set_option maxRecDepth 100000 in
theorem lifted (os : Os) (started : os.Started) (H : Type) (enc : TypeId × Value → H) :
  ReturnsInHanded {} Tryz.checked os 4 .any (fun w args => (Rows.adminWholeSpec.pre enc Tryz.prog Tryz.f4 Rows.adminWholeRow.domain false w args ∧ laidMetH Tryz.prog laidL w) ∧ sizedMet enc Tryz.prog Tryz.f4 (OpenSpec.ofChange Rows.adminWholeSpec) false w args)
   (Rows.adminWholeSpec.post enc Tryz.prog Tryz.f4 false true false false) := by
 refine Go.Wx.returns_sized (C := Tryz.checked) (X := fun w _ => laidMetH Tryz.prog laidL w) (fun _ _ _ hh h => h.of_heap hh) own started kR Tryz.func4
  (ChangeSpec.witness_shaped (enc := enc) (C := Tryz.checked) (os := os) (X := fun w _ => laidMetH Tryz.prog laidL w) false (World.laidAll Tryz.prog os laidL) #[.agg #[.int .u8 0, .string ⟨#[]⟩, .int .u32 0, .int .u16 0, .int .u8 0, .int .u32 0, .int .u16 0, .slice none 0 0], .int .u32 0, .agg #[.int .i64 0, .int .i64 0, .bool false, .slice none 0 0, .slice none 0 0, .slice none 0 0, .slice none 0 0]] 8 (World.laidAll_os _ _ _)
    (World.shaped_of_ZipB kR kR) kR kR kR
    (by rw [MakeChecks.laidMetH_plain _ _ _ kR]; exact laidMet_laidAll _ kR kR)) ?_
 intro W base args ds gs before hsh hval0 hW hz0 hL
 have hL' := hL
 rw [MakeChecks.laidMetH_plain _ _ _ kR] at hL'
 obtain ⟨mx, hmx⟩ := shaped_int hsh (g := 4) (zero := #[.int .i64 0]) (t := 3) (k := .i64) (of_decide_eq_true kR) kR rfl kR kR kR
 have hg0 : Globs (glA mx) (fun _ => none) .leaf W := Globs.add (Globs.add (Globs.add (Globs.none) (laid_ints hL' (List.mem_of_getElem? (i := 7) rfl) (d := (Rows.laid_strings_asciiSpace : DataW Unit)) (k := .u8) (n := 256) (g := 0) (t := 127) (e := 5) kR kR kR kR kR kR)) (laid_ints hL' (List.mem_of_getElem? (i := 8) rfl) (d := (Rows.laid_unicode_utf8_first : DataW Unit)) (k := .u8) (n := 256) (g := 6) (t := 127) (e := 5) kR kR kR kR kR kR)) hmx
 have hg1 : Globs (glB mx) (fun _ => none) .leaf W := Globs.add hg0 (laid_pairs hL' (List.mem_of_getElem? (i := 3) rfl) (d := (Rows.laid_unicode_utf8_acceptRanges : DataW Unit)) (k := .u8) (n := 16) (g := 7) (t := 283) (e := 282) (e1 := 5) (f0 := { name := "lo", type := 5, offset := 0, embedded := false, tag := "", pkgPath := "unicode/utf8", byteOffset := 0 }) (f1 := { name := "hi", type := 5, offset := 1, embedded := false, tag := "", pkgPath := "unicode/utf8", byteOffset := 1 }) kR kR kR kR kR kR kR kR rfl rfl kR kR kR)
 have hpw : Holds W 5 (Lib.pow10Tab.map (V.int .u64)) := by
  have h := laid_ints hL' (List.mem_of_getElem? (i := 2) rfl) (d := (Rows.laid_internal_strconv_uint64pow10 : DataW Unit)) (k := .u64) (n := 20) (g := 5) (t := 264) (e := 61) kR kR kR kR kR kR
  rw [pow_eq] at h
  exact h
 have hg2 : Globs (glC mx) (fun _ => none) .leaf W := Globs.addTab hg1 hpw (laid_size hL' (List.mem_of_getElem? (i := 2) rfl) (d := (Rows.laid_internal_strconv_uint64pow10 : DataW Unit)) (n := 20) (g := 5) (t := 264) (e := 61) (k := 20) kR kR kR kR)
 obtain ⟨hf2, hf2'⟩ := laid_face hL' (List.mem_of_getElem? (i := 5) rfl) (d := (Rows.laid_strconv_ErrSyntax : DataW Unit)) (g := 2) (t := 83) kR kR Tryz.underlying83
 obtain ⟨hf3, hf3'⟩ := laid_face hL' (List.mem_of_getElem? (i := 4) rfl) (d := (Rows.laid_strconv_ErrRange : DataW Unit)) (g := 3) (t := 83) kR kR Tryz.underlying83
 have hg : Globs (gl mx) (fun _ => none) .leaf W := Globs.addFace (Globs.addFace hg2 hf2 hf2') hf3 hf3'
 have hval : ∀ (j : Nat) t v, Tryz.f4.params[j]? = some t → args[j]? = some v → Value.okWide Tryz.prog W .any base t v := hval0
 have hW' := hW
 obtain ⟨p, q, hA0, hV, rfl, hfz, hnd⟩ := hW
 have hA : DataW.TrodAll enc Tryz.prog W 0 (fun _ => true) true Tryz.f4.params.toList args.toList ds p := hA0
 rw [Tryz.params4] at hA hval
 obtain ⟨v1, v2, v3, d1, d2, d3, p1, p2, p3, rfl, rfl, h1, h2, h3⟩ := trodAll_three' hA
 obtain ⟨rfl, rfl⟩ := trodVars_none hV
 have hz : (DataW.weightsEach Tryz.prog ([52, 43, 37] ++ []) ([d1, d2, d3] ++ [])).all (· ≤ reachBytes) = true := hz0
 simp only [List.append_nil] at hW'
 refine (walk mx hg (hval 0 52 v1 rfl rfl) (hval 1 43 v2 rfl rfl) (hval 2 37 v3 rfl rfl) h1 h3 (Go.Wx.light_arg (i := 0) hz rfl rfl) (Go.Wx.light_arg (i := 2) hz rfl rfl)).mono fun e W' ⟨he, hb⟩ => ?_
 subst he
 refine ⟨_, rfl, post_true laidOut hW' hb rfl ?_ rfl Tryz.underlying4 rfl rfl rfl⟩
 rw [Tryz.params4]
 intro t ht
 simp at ht
 rcases ht with rfl | rfl | rfl <;> exact ⟨by kernel_rfl, of_decide_eq_true kR⟩
theorem k_inPlace : (Rows.adminWholeRow.inPlace == Tryz.prog.inPlace 4) = true := kR
theorem k_unfollowed : (Rows.adminWholeRow.unfollowed == Tryz.prog.unfollowed 4) = true := kR
theorem k_recurses : (Rows.adminWholeRow.recurses == Tryz.prog.recurses 4) = true := kR
theorem k_named : (Rows.adminWholeRow.named == Tryz.prog.varsNamed 4) = true := kR
theorem closed : joinedFacts Tryz.prog 4 Tryz.f4 Rows.adminWholeSpec Rows.adminWholeRow = true := by
 unfold joinedFacts
 rw [k_inPlace, k_unfollowed, k_recurses, k_named]
 kernel_rfl
theorem over : Rows.AdminWholeSaid :=
 OpenClaim.holds_of_wide 4 Tryz.f4 rfl rfl rfl rfl rfl rfl rfl ⟨rfl, rfl, rfl, rfl, rfl⟩ rfl rfl rfl rfl rfl kR Tryz.func4 closed
  (of_decide_eq_true kR) (by unfold Func.isWrapper; first | (rw [if_pos (by decide +kernel)]; kernel_rfl) | (rw [if_neg (by decide +kernel)]; exact ⟨rfl, rfl⟩))
  (fun os started H enc _ => lifted os started H enc)
/-- THE STATEMENT -/
theorem proved : Rows.AdminWholeCardSaid :=
 Claim7.holds_tied_plain_at .later [] [.data, .data, .data, .data, .sentinel, .sentinel, .listed, .data, .pinned] true (true, "b56cba6fd8f2cbf9df1d8f69ba40f7a111eee67757905199dee3ca9b8f6259ea") true over (fun _ h => by cases h) (by as_aux_lemma => kernel_rfl) (fun _ h => by cases h) adminWhole_row_tie rfl ⟨rfl, rfl⟩ (by as_aux_lemma => kernel_rfl) rfl
  (fun f fn hf hfn => by
    obtain rfl : f = 4 := Option.some.inj ((show Tryz.prog.funcNamed "sluicegate/sluicegatelaw30.AdminWhole" = some 4 by kernel_rfl).symm.trans hf) |>.symm
    obtain rfl : fn = Tryz.f4 := (Option.some.inj (Tryz.func4.symm.trans hfn)).symm
    exact ⟨by kernel_rfl, fun j t ht => by
     rw [Tryz.params4] at ht
     have hm : t ∈ [52, 43, 37] := by simpa using Array.mem_of_getElem? ht
     have hall : ([52, 43, 37].all fun u => !Tryz.prog.wantsStandIn u) = true := kR
     exact (show Tryz.prog.wantsStandIn t = false by simpa using List.all_eq_true.1 hall t hm)⟩)
  (by as_aux_lemma => kernel_rfl)
end Go.Proofs.YtfgnpegkcmkeaaaGreatDoor.adminWhole
