/-
  DigestCalls: the two readings of a long or short text are one, whatever the text; its condition is what the row lists (tables of Go's library as the program lays them), which the card ties; whatever the variable MaxLen of internal/bytealg holds. The law is walked by the rules of WxA to WxQ over the machine of LxA to LxC; LxX shows that the model does what that machine does; the row's card is closed by the builder.
-/
import Derived.Test.YtkibhdbmamfjcaaGreatDoorRows
import Derived.Test.YtkibhdbmamfjcaaGreatDoorTie
import Derived.Test.YtkibhdbmamfjcaaGreatDoorCards
import Derived.Test.YtkibhdbmamfjcaaGreatDoorLyI
import Derived.Test.YtkibhdbmamfjcaaGreatDoorLyK
import Derived.Test.YtkibhdbmamfjcaaGreatDoorRfA
import Derived.SevenTiedAt
import Derived.Stop.Joined
namespace Go.Proofs.YtkibhdbmamfjcaaGreatDoor.digestCalls
open Go.Proofs Go.Shelf Go.ChangeShapes Go.WideShapes Go.ChangeAt Go.RowKit Go.Lx
set_option linter.unusedVariables false
set_option linter.constructorNameAsVariable false
set_option maxRecDepth 100000

theorem own : ownKnob Tryz.prog.godebug = none := by kernel_rfl
theorem laidOut : laidOutB Tryz.prog = true := by kernel_rfl
theorem mixed : Tryz.prog.follows .mixedOrders = true := Checked.mixed Tryz.checked

def cfg0 (P : Program) : Cfg := { P := P, lf := 100000, gl := .leaf, sum := fun _ => none }

def ρI : Go.Shelf.Ren := ⟨fun n => match n with | 217 => 84 | 219 => 85 | 224 => 106 | 225 => 105 | 266 => 104 | 267 => 107 | 314 => 116 | _ => 0, fun n => match n with | 3 => 3 | 4 => 4 | 5 => 5 | 9 => 9 | 46 => 37 | 51 => 56 | 146 => 121 | _ => 0, fun n => match n with | 1 => 1 | _ => 0⟩

theorem layρI : Lays.n219 Tryz.prog ρI where
  mixed := mixed
  f217 := by kernel_rfl
  f219 := by kernel_rfl
  f224 := by kernel_rfl
  f225 := by kernel_rfl
  f266 := by kernel_rfl
  f267 := by kernel_rfl
  f314 := by kernel_rfl
  t3 := by kernel_rfl
  a3 := fun w => by kernel_rfl
  z3 := fun w => by kernel_rfl
  v3 := fun w => by kernel_rfl
  t4 := by kernel_rfl
  a4 := fun w => by kernel_rfl
  z4 := fun w => by kernel_rfl
  v4 := fun w => by kernel_rfl
  t5 := by kernel_rfl
  a5 := fun w => by kernel_rfl
  z5 := fun w => by kernel_rfl
  v5 := fun w => by kernel_rfl
  t9 := by kernel_rfl
  a9 := fun w => by kernel_rfl
  z9 := fun w => by kernel_rfl
  v9 := fun w => by kernel_rfl
  t46 := by kernel_rfl
  a46 := fun w => by kernel_rfl
  z46 := fun w => by kernel_rfl
  v46 := fun w => by kernel_rfl
  t51 := by kernel_rfl
  a51 := fun w => by kernel_rfl
  z51 := fun w => by kernel_rfl
  v51 := fun w => by kernel_rfl
  t146 := by kernel_rfl
  a146 := fun w => by kernel_rfl
  z146 := fun w => by kernel_rfl
  v146 := fun w => by kernel_rfl
  g1 := by kernel_rfl
theorem enρI : ρI.f 219 = 85 := by kernel_rfl
theorem eρI : Go.Proofs.Enters Tryz.prog (ρI.f 219) := Go.Proofs.enters_of Tryz.func85 (by kernel_rfl) (by first | rfl | kernel_rfl)


def ρG : Go.Shelf.Ren := ⟨fun n => match n with | 241 => 93 | 277 => 113 | _ => 0, fun n => match n with | 0 => 0 | 3 => 3 | 5 => 5 | 37 => 35 | 70 => 64 | 72 => 66 | _ => 0, fun n => n⟩

theorem layρG : Lays.n241 Tryz.prog ρG where
  mixed := mixed
  f241 := by kernel_rfl
  f277 := by kernel_rfl
  t0 := by kernel_rfl
  a0 := fun w => by kernel_rfl
  z0 := fun w => by kernel_rfl
  v0 := fun w => by kernel_rfl
  t3 := by kernel_rfl
  a3 := fun w => by kernel_rfl
  z3 := fun w => by kernel_rfl
  v3 := fun w => by kernel_rfl
  t37 := by kernel_rfl
  a37 := fun w => by kernel_rfl
  z37 := fun w => by kernel_rfl
  v37 := fun w => by kernel_rfl
  t70 := by kernel_rfl
  a70 := fun w => by kernel_rfl
  z70 := fun w => by kernel_rfl
  v70 := fun w => by kernel_rfl
  t72 := by kernel_rfl
  a72 := fun w => by kernel_rfl
  z72 := fun w => by kernel_rfl
  v72 := fun w => by kernel_rfl
theorem enρG : ρG.f 241 = 93 := by kernel_rfl
theorem eρG : Go.Proofs.Enters Tryz.prog (ρG.f 241) := Go.Proofs.enters_of Tryz.func93 (by kernel_rfl) (by first | rfl | kernel_rfl)
theorem xρG : Builder.Extra Tryz.prog ρG where
  sizeBuilder := by kernel_rfl
  liesBuilder := by kernel_rfl
  t5 := by kernel_rfl
  a5 := fun w => by kernel_rfl
  z5 := fun w => by kernel_rfl
  v5 := fun w => by kernel_rfl
  infoByte := by kernel_rfl
  cellsByte := by kernel_rfl
  sizeByte := by kernel_rfl
  neB5 := by decide


def ρD : Go.Shelf.Ren := ⟨fun n => match n with | 197 => 89 | 260 => 110 | _ => 0, fun n => match n with | 0 => 0 | 3 => 3 | 4 => 4 | 5 => 5 | 9 => 9 | 21 => 21 | 46 => 37 | 105 => 98 | 119 => 100 | 138 => 124 | 139 => 125 | _ => 0, fun n => match n with | 3 => 3 | 4 => 4 | _ => 0⟩

theorem layρD : Lays.n197 Tryz.prog ρD where
  mixed := mixed
  f197 := by kernel_rfl
  f260 := by kernel_rfl
  t0 := by kernel_rfl
  a0 := fun w => by kernel_rfl
  z0 := fun w => by kernel_rfl
  v0 := fun w => by kernel_rfl
  t3 := by kernel_rfl
  a3 := fun w => by kernel_rfl
  z3 := fun w => by kernel_rfl
  v3 := fun w => by kernel_rfl
  t4 := by kernel_rfl
  a4 := fun w => by kernel_rfl
  z4 := fun w => by kernel_rfl
  v4 := fun w => by kernel_rfl
  t5 := by kernel_rfl
  a5 := fun w => by kernel_rfl
  z5 := fun w => by kernel_rfl
  v5 := fun w => by kernel_rfl
  t9 := by kernel_rfl
  a9 := fun w => by kernel_rfl
  z9 := fun w => by kernel_rfl
  v9 := fun w => by kernel_rfl
  t21 := by kernel_rfl
  a21 := fun w => by kernel_rfl
  z21 := fun w => by kernel_rfl
  v21 := fun w => by kernel_rfl
  t46 := by kernel_rfl
  a46 := fun w => by kernel_rfl
  z46 := fun w => by kernel_rfl
  v46 := fun w => by kernel_rfl
  t105 := by kernel_rfl
  a105 := fun w => by kernel_rfl
  z105 := fun w => by kernel_rfl
  v105 := fun w => by kernel_rfl
  t119 := by kernel_rfl
  a119 := fun w => by kernel_rfl
  z119 := fun w => by kernel_rfl
  t138 := by kernel_rfl
  a138 := fun w => by kernel_rfl
  z138 := fun w => by kernel_rfl
  v138 := fun w => by kernel_rfl
  t139 := by kernel_rfl
  a139 := fun w => by kernel_rfl
  z139 := fun w => by kernel_rfl
  v139 := fun w => by kernel_rfl
  g3 := by kernel_rfl
  g4 := by kernel_rfl
theorem enρD : ρD.f 197 = 89 := by kernel_rfl
theorem eρD : Go.Proofs.Enters Tryz.prog (ρD.f 197) := Go.Proofs.enters_of Tryz.func89 (by kernel_rfl) (by first | rfl | kernel_rfl)


def ρR : Go.Shelf.Ren := ⟨fun n => match n with | 138 => 112 | 143 => 52 | 154 => 92 | 155 => 61 | 165 => 62 | 166 => 63 | 169 => 55 | 195 => 119 | 197 => 89 | 217 => 84 | 218 => 120 | 219 => 85 | 224 => 106 | 225 => 105 | 240 => 88 | 241 => 93 | 260 => 110 | 266 => 104 | 267 => 107 | 276 => 109 | 277 => 113 | 314 => 116 | _ => 0, fun n => match n with | 0 => 0 | 3 => 3 | 4 => 4 | 5 => 5 | 9 => 9 | 20 => 20 | 21 => 21 | 37 => 35 | 46 => 37 | 51 => 56 | 70 => 64 | 72 => 66 | 75 => 69 | 76 => 77 | 80 => 67 | 105 => 98 | 119 => 100 | 127 => 97 | 138 => 124 | 139 => 125 | 146 => 121 | 164 => 113 | _ => 0, fun n => match n with | 1 => 1 | 3 => 3 | 4 => 4 | _ => 0⟩

theorem layρR : Lays.n155 Tryz.prog ρR where
  mixed := mixed
  f138 := by kernel_rfl
  f143 := by kernel_rfl
  f154 := by kernel_rfl
  f155 := by kernel_rfl
  f165 := by kernel_rfl
  f166 := by kernel_rfl
  f169 := by kernel_rfl
  f195 := by kernel_rfl
  f197 := by kernel_rfl
  f217 := by kernel_rfl
  f218 := by kernel_rfl
  f219 := by kernel_rfl
  f224 := by kernel_rfl
  f225 := by kernel_rfl
  f240 := by kernel_rfl
  f241 := by kernel_rfl
  f260 := by kernel_rfl
  f266 := by kernel_rfl
  f267 := by kernel_rfl
  f276 := by kernel_rfl
  f277 := by kernel_rfl
  f314 := by kernel_rfl
  t0 := by kernel_rfl
  a0 := fun w => by kernel_rfl
  z0 := fun w => by kernel_rfl
  v0 := fun w => by kernel_rfl
  t3 := by kernel_rfl
  a3 := fun w => by kernel_rfl
  z3 := fun w => by kernel_rfl
  v3 := fun w => by kernel_rfl
  t4 := by kernel_rfl
  a4 := fun w => by kernel_rfl
  z4 := fun w => by kernel_rfl
  v4 := fun w => by kernel_rfl
  t5 := by kernel_rfl
  a5 := fun w => by kernel_rfl
  z5 := fun w => by kernel_rfl
  v5 := fun w => by kernel_rfl
  t9 := by kernel_rfl
  a9 := fun w => by kernel_rfl
  z9 := fun w => by kernel_rfl
  v9 := fun w => by kernel_rfl
  t20 := by kernel_rfl
  a20 := fun w => by kernel_rfl
  z20 := fun w => by kernel_rfl
  v20 := fun w => by kernel_rfl
  t21 := by kernel_rfl
  a21 := fun w => by kernel_rfl
  z21 := fun w => by kernel_rfl
  v21 := fun w => by kernel_rfl
  t37 := by kernel_rfl
  a37 := fun w => by kernel_rfl
  z37 := fun w => by kernel_rfl
  v37 := fun w => by kernel_rfl
  t46 := by kernel_rfl
  a46 := fun w => by kernel_rfl
  z46 := fun w => by kernel_rfl
  v46 := fun w => by kernel_rfl
  t51 := by kernel_rfl
  a51 := fun w => by kernel_rfl
  z51 := fun w => by kernel_rfl
  v51 := fun w => by kernel_rfl
  t70 := by kernel_rfl
  a70 := fun w => by kernel_rfl
  z70 := fun w => by kernel_rfl
  v70 := fun w => by kernel_rfl
  t72 := by kernel_rfl
  a72 := fun w => by kernel_rfl
  z72 := fun w => by kernel_rfl
  v72 := fun w => by kernel_rfl
  t75 := by kernel_rfl
  a75 := fun w => by kernel_rfl
  z75 := fun w => by kernel_rfl
  v75 := fun w => by kernel_rfl
  t76 := by kernel_rfl
  a76 := fun w => by kernel_rfl
  z76 := fun w => by kernel_rfl
  v76 := fun w => by kernel_rfl
  t105 := by kernel_rfl
  a105 := fun w => by kernel_rfl
  z105 := fun w => by kernel_rfl
  v105 := fun w => by kernel_rfl
  t119 := by kernel_rfl
  a119 := fun w => by kernel_rfl
  z119 := fun w => by kernel_rfl
  t127 := by kernel_rfl
  a127 := fun w => by kernel_rfl
  z127 := fun w => by kernel_rfl
  v127 := fun w => by kernel_rfl
  t138 := by kernel_rfl
  a138 := fun w => by kernel_rfl
  z138 := fun w => by kernel_rfl
  v138 := fun w => by kernel_rfl
  t139 := by kernel_rfl
  a139 := fun w => by kernel_rfl
  z139 := fun w => by kernel_rfl
  v139 := fun w => by kernel_rfl
  t146 := by kernel_rfl
  a146 := fun w => by kernel_rfl
  z146 := fun w => by kernel_rfl
  v146 := fun w => by kernel_rfl
  t164 := by kernel_rfl
  a164 := fun w => by kernel_rfl
  z164 := fun w => by kernel_rfl
  v164 := fun w => by kernel_rfl
  g1 := by kernel_rfl
  g3 := by kernel_rfl
  g4 := by kernel_rfl
theorem enρR : ρR.f 155 = 61 := by kernel_rfl
theorem eρR : Go.Proofs.Enters Tryz.prog (ρR.f 155) := Go.Proofs.enters_of Tryz.func61 (by kernel_rfl) (by first | rfl | kernel_rfl)
theorem xρR : Builder.Extra Tryz.prog ρR where
  sizeBuilder := by kernel_rfl
  liesBuilder := by kernel_rfl
  t5 := by kernel_rfl
  a5 := fun w => by kernel_rfl
  z5 := fun w => by kernel_rfl
  v5 := fun w => by kernel_rfl
  infoByte := by kernel_rfl
  cellsByte := by kernel_rfl
  sizeByte := by kernel_rfl
  neB5 := by decide


def ρJ : Go.Shelf.Ren := ⟨fun n => match n with | 156 => 28 | 165 => 62 | 166 => 63 | 169 => 55 | 240 => 88 | 241 => 93 | 276 => 109 | 277 => 113 | _ => 0, fun n => match n with | 0 => 0 | 3 => 3 | 4 => 4 | 5 => 5 | 9 => 9 | 20 => 20 | 31 => 46 | 37 => 35 | 70 => 64 | 72 => 66 | 75 => 69 | 76 => 77 | 80 => 67 | 127 => 97 | 164 => 113 | _ => 0, fun n => n⟩

theorem layρJ : Lays.n156 Tryz.prog ρJ where
  mixed := mixed
  f156 := by kernel_rfl
  f165 := by kernel_rfl
  f166 := by kernel_rfl
  f169 := by kernel_rfl
  f240 := by kernel_rfl
  f241 := by kernel_rfl
  f276 := by kernel_rfl
  f277 := by kernel_rfl
  t0 := by kernel_rfl
  a0 := fun w => by kernel_rfl
  z0 := fun w => by kernel_rfl
  v0 := fun w => by kernel_rfl
  t3 := by kernel_rfl
  a3 := fun w => by kernel_rfl
  z3 := fun w => by kernel_rfl
  v3 := fun w => by kernel_rfl
  t4 := by kernel_rfl
  a4 := fun w => by kernel_rfl
  z4 := fun w => by kernel_rfl
  v4 := fun w => by kernel_rfl
  t9 := by kernel_rfl
  a9 := fun w => by kernel_rfl
  z9 := fun w => by kernel_rfl
  v9 := fun w => by kernel_rfl
  t20 := by kernel_rfl
  a20 := fun w => by kernel_rfl
  z20 := fun w => by kernel_rfl
  v20 := fun w => by kernel_rfl
  t31 := by kernel_rfl
  a31 := fun w => by kernel_rfl
  z31 := fun w => by kernel_rfl
  v31 := fun w => by kernel_rfl
  t37 := by kernel_rfl
  a37 := fun w => by kernel_rfl
  z37 := fun w => by kernel_rfl
  v37 := fun w => by kernel_rfl
  t70 := by kernel_rfl
  a70 := fun w => by kernel_rfl
  z70 := fun w => by kernel_rfl
  v70 := fun w => by kernel_rfl
  t72 := by kernel_rfl
  a72 := fun w => by kernel_rfl
  z72 := fun w => by kernel_rfl
  v72 := fun w => by kernel_rfl
  t75 := by kernel_rfl
  a75 := fun w => by kernel_rfl
  z75 := fun w => by kernel_rfl
  v75 := fun w => by kernel_rfl
  t76 := by kernel_rfl
  a76 := fun w => by kernel_rfl
  z76 := fun w => by kernel_rfl
  v76 := fun w => by kernel_rfl
  t127 := by kernel_rfl
  a127 := fun w => by kernel_rfl
  z127 := fun w => by kernel_rfl
  v127 := fun w => by kernel_rfl
  t164 := by kernel_rfl
  a164 := fun w => by kernel_rfl
  z164 := fun w => by kernel_rfl
  v164 := fun w => by kernel_rfl
theorem enρJ : ρJ.f 156 = 28 := by kernel_rfl
theorem eρJ : Go.Proofs.Enters Tryz.prog (ρJ.f 156) := Go.Proofs.enters_of Tryz.func28 (by kernel_rfl) (by first | rfl | kernel_rfl)
theorem xρJ : Builder.Extra Tryz.prog ρJ where
  sizeBuilder := by kernel_rfl
  liesBuilder := by kernel_rfl
  t5 := by kernel_rfl
  a5 := fun w => by kernel_rfl
  z5 := fun w => by kernel_rfl
  v5 := fun w => by kernel_rfl
  infoByte := by kernel_rfl
  cellsByte := by kernel_rfl
  sizeByte := by kernel_rfl
  neB5 := by decide


theorem tG5 : ρG.t 5 = 5 := by kernel_rfl
theorem e3ok : ∀ c, c < 256 → ((listedInts (Rows.laid_unicode_utf8_first : DataW Unit)).map (V.int .u8))[c]? = some (.int .u8 (Lib.firstT c)) := by
  intro c hc
  have h : ∀ i : Fin 256, (listedInts (Rows.laid_unicode_utf8_first : DataW Unit))[i.val]? = some ((Lib.firstT i.val : Nat) : Int) := by decide +kernel
  rw [List.getElem?_map, h ⟨c, hc⟩]
  rfl
theorem e4ok : ∀ i, i < 16 → ((listedPairs (Rows.laid_unicode_utf8_acceptRanges : DataW Unit)).map (V.int .u8))[2 * i]? = some (.int .u8 (Lib.accLo i)) ∧ ((listedPairs (Rows.laid_unicode_utf8_acceptRanges : DataW Unit)).map (V.int .u8))[2 * i + 1]? = some (.int .u8 (Lib.accHi i)) := by
  intro i hi
  have h : ∀ i : Fin 16, (listedPairs (Rows.laid_unicode_utf8_acceptRanges : DataW Unit))[2 * i.val]? = some ((Lib.accLo i.val : Nat) : Int) ∧ (listedPairs (Rows.laid_unicode_utf8_acceptRanges : DataW Unit))[2 * i.val + 1]? = some ((Lib.accHi i.val : Nat) : Int) := by decide +kernel
  rw [List.getElem?_map, List.getElem?_map, (h ⟨i, hi⟩).1, (h ⟨i, hi⟩).2]
  exact ⟨rfl, rfl⟩
noncomputable def glA (mx : Int) : T (List V) := (((T.leaf).set 0 (some ((listedInts (Rows.laid_strings_asciiSpace : DataW Unit)).map (V.int .u8)))).set 3 (some ((listedInts (Rows.laid_unicode_utf8_first : DataW Unit)).map (V.int .u8)))).set 1 (some [.int .i64 mx])
noncomputable def gl (mx : Int) : T (List V) := (glA mx).set 4 (some ((listedPairs (Rows.laid_unicode_utf8_acceptRanges : DataW Unit)).map (V.int .u8)))
noncomputable def exts (P : Program) : List (FuncId × (List V → M V)) := [(104, pureM idxStr), (109, pureM sameV), (120, pureM cntStr), (85, pureM index2), (93, growB 5), (89, pureM decStr)]
noncomputable def cfg (P : Program) (mx : Int) : Cfg := { P := P, lf := 100000, gl := gl mx, sum := sums (exts P) }

theorem exts_all (mx : Int) : ∀ p ∈ exts Tryz.prog, ExtSum Tryz.prog (gl mx) p.1 p.2 := by
  intro p hp
  simp only [exts, List.mem_cons, List.mem_nil_iff, or_false] at hp
  rcases hp with rfl | rfl | rfl | rfl | rfl | rfl
  · exact extSum_pure Tryz.func104 (by kernel_rfl) (by kernel_rfl) (by kernel_rfl) (by kernel_rfl) (e := Extern.BytealgIndexByte.indexByte) idxStr_ok
  · exact extSum_pure Tryz.func109 (by kernel_rfl) (by kernel_rfl) (by kernel_rfl) (by kernel_rfl) (e := Extern.AbiNoEscape.same) sameV_ok
  · exact extSum_pure Tryz.func120 (by kernel_rfl) (by kernel_rfl) (by kernel_rfl) (by kernel_rfl) (e := Extern.BytealgCount.count) cntStr_ok
  · have h := extSum_index (P := Tryz.prog) (ρ := ρI) (gl := gl mx) (m := mx) layρI (by kernel_rfl) eρI
    rw [enρI] at h
    exact h
  · have h := extSum_grow (P := Tryz.prog) (ρ := ρG) (gl := gl mx) layρG xρG eρG
    rw [enρG, tG5] at h
    exact h
  · have h := extSum_decode (P := Tryz.prog) (ρ := ρD) (gl := gl mx) layρD (c3 := (listedInts (Rows.laid_unicode_utf8_first : DataW Unit)).map (V.int .u8)) (c4 := (listedPairs (Rows.laid_unicode_utf8_acceptRanges : DataW Unit)).map (V.int .u8)) rfl rfl e3ok e4ok eρD
    rw [enρD] at h
    exact h


theorem exts_ok (mx : Int) : SumOk (cfg Tryz.prog mx) := sumOk_list _ (exts Tryz.prog) rfl (exts_all mx)
theorem nice_memo1 (m : Memo1) (vs : List V) : Go.Wx.Nice (memo1M m vs) := by
  unfold memo1M
  cases sameArgs m.args vs
  · exact Go.Wx.Nice.err _
  · rw [cond_true]
    exact Go.Wx.Nice.bnd (Go.Wx.Nice.alloc _) fun _ => Go.Wx.Nice.ret _
noncomputable def memo0_0 : Memo := ⟨[.str [83, 69, 76, 69, 67, 84, 32, 42, 32, 70, 82, 79, 77, 32, 116, 32, 87, 72, 69, 82, 69, 32, 97, 61, 49, 32, 65, 78, 68, 32, 98, 61, 39, 120, 39]], 12, [.int .i64 1, .str [115, 101, 108, 101, 99, 116], .int .i64 0, .int .i64 5, .str [42], .int .i64 7, .int .i64 1, .str [102, 114, 111, 109], .int .i64 9, .int .i64 1, .str [116], .int .i64 14, .int .i64 1, .str [119, 104, 101, 114, 101], .int .i64 16, .int .i64 1, .str [97], .int .i64 22, .int .i64 5, .str [61], .int .i64 23, .int .i64 4, .str [49], .int .i64 24, .int .i64 1, .str [97, 110, 100], .int .i64 26, .int .i64 1, .str [98], .int .i64 30, .int .i64 5, .str [61], .int .i64 31, .int .i64 3, .str [120], .int .i64 32], 43, [.agg [.int .i64 0, .int .i64 0]]⟩
theorem memo_ok (mx : Int) : MemoOk (cfg Tryz.prog mx) 99 10 memo0_0 := memoOk_row (k := 191) (by decide) rfl rfl rfl (by kernel_rfl)
theorem eM0 : Go.Proofs.Enters Tryz.prog 10 := Go.Proofs.enters_of Tryz.func10 (by kernel_rfl) (by first | rfl | kernel_rfl)
/-- the setting of the law's own example -/
noncomputable def extsL (P : Program) : List (FuncId × (List V → M V)) := (10, memoM [memo0_0]) :: exts P
noncomputable def cfgL (P : Program) (mx : Int) : Cfg := { P := P, lf := 100000, gl := gl mx, sum := sums (extsL P) }
theorem extsL_ok (mx : Int) : SumOk (cfgL Tryz.prog mx) := by
  refine sumOk_list _ (extsL Tryz.prog) rfl ?_
  intro p hp
  rcases List.mem_cons.1 hp with rfl | hp
  · exact extSum_memo (cfg Tryz.prog mx) mixed (exts_ok mx) rfl eM0 rfl (fun m hm => by
      simp only [List.mem_cons, List.mem_nil_iff, or_false] at hm
      subst hm
      exact ⟨99, memo_ok mx⟩)
  exact exts_all mx p hp
theorem livesRun (mx : Int) : yes (callM (cfgL Tryz.prog mx) 100 4 [] st0) = true := by kernel_rfl
noncomputable def sigs : Memo1 := ⟨[.str signsT], 35, signsL.map V.str, 9, false⟩
theorem sigsOk (mx : Int) : Memo1Ok (cfg Tryz.prog mx) 99 60 sigs := memo1Ok_of (k := 0) rfl rfl (by kernel_rfl)
theorem eL : Go.Proofs.Enters Tryz.prog 4 := Go.Proofs.enters_of Tryz.func4 (by kernel_rfl) (by first | rfl | kernel_rfl)
theorem eF : Go.Proofs.Enters Tryz.prog 60 := Go.Proofs.enters_of Tryz.func60 (by kernel_rfl) (by first | rfl | kernel_rfl)

/-- the setting of the walk over all texts -/
noncomputable def st (mx : Int) : Set0 := { exts := (4, constTrue) :: (60, memo1M sigs) :: (61, pureM replV) :: (28, joinM) :: exts Tryz.prog, gl := gl mx }
theorem st_ok (mx : Int) (lf : Nat) : SumOk ((st mx).cfg.at lf) := by
  refine sumOk_list _ ((4, constTrue) :: (60, memo1M sigs) :: (61, pureM replV) :: (28, joinM) :: exts Tryz.prog) rfl ?_
  intro p hp
  rcases List.mem_cons.1 hp with rfl | hp
  · exact extSum_true (cfgL Tryz.prog mx) mixed (extsL_ok mx) (livesRun mx) rfl eL rfl
  rcases List.mem_cons.1 hp with rfl | hp
  · exact extSum_memo1 (cfg Tryz.prog mx) mixed (exts_ok mx) rfl eF rfl ⟨99, sigsOk mx⟩
  rcases List.mem_cons.1 hp with rfl | hp
  · have h := extSum_repl (P := Tryz.prog) (ρ := ρR) (gl := gl mx) (m := mx) layρR xρR (by kernel_rfl) eρR
    rw [enρR] at h
    exact h
  rcases List.mem_cons.1 hp with rfl | hp
  · have h := extSum_join (P := Tryz.prog) (ρ := ρJ) (gl := gl mx) layρJ xρJ eρJ
    rw [enρJ] at h
    exact h
  exact exts_all mx p hp
open Go.Wx in
theorem std (mx : Int) : StdR (st mx) where
  own := by
    repeat (refine List.forall_mem_cons.2 ⟨rfl, ?_⟩)
    intro f hf
    cases hf
  ownD := by
    repeat (refine List.forall_mem_cons.2 ⟨rfl, ?_⟩)
    intro f hf
    cases hf
  ownH := by
    repeat (refine List.forall_mem_cons.2 ⟨rfl, ?_⟩)
    intro f hf
    cases hf
  ownR := by
    repeat (refine List.forall_mem_cons.2 ⟨rfl, ?_⟩)
    intro f hf
    cases hf
  idx := rfl
  same := rfl
  index := rfl
  grow := rfl
  decode := rfl
  repl := rfl
  join := rfl
  fields := fun h => by
    refine callW_sum (s := ⟨(h.push (.cells (signsL.map V.str) 9 false)).heap, h.nx + 1, [.wrd h.nx]⟩) (g := memo1M sigs) rfl (nice_memo1 _ _) ?_ ?_ ⟨rfl, rfl⟩
    · rfl
    · rw [LogOk_cons_wrd]
      exact ⟨.inl (Nat.le_refl _), LogOk_nil⟩
  livesD := fun h => by
    refine callW_sum (s := h.st) (g := constTrue) rfl (Nice.ret _) rfl LogOk_nil ⟨rfl, rfl⟩
theorem toNats_len (b : ByteArray) : (toNats b).length = b.size := by
  unfold toNats
  rw [List.length_map]
  first | rfl | exact Array.length_toList | (rw [Array.length_toList]; rfl)
theorem bytes_toNats (b : ByteArray) : Bytes (toNats b) := by
  intro x hx
  simp only [toNats, List.mem_map] at hx
  obtain ⟨y, _, rfl⟩ := hx
  exact y.toNat_lt
open Go.Wx in
theorem walk (mx : Int) (b : ByteArray) (hb : (toNats b).length < 2 ^ 63) (W : World) (hg : Globs (gl mx) (fun _ => none) W) : Calls Tryz.prog 3 #[.string b] W fun e W' => e = .returned (.bool true) ∧ Below W.heap.size W W' := by
  obtain ⟨v, h', lf, n, l, hrun, _, rfl⟩ := callW_run (calls_law (std mx) (toNats b) ⟨.leaf, 0⟩ (bytes_toNats b) hb)
  exact law_calls_g ((st mx).cfg.at lf) mixed (st_ok mx lf) (vs := [.str (toNats b)]) (n := n) (by rw [show st0 = (⟨.leaf, 0, []⟩ : St) from rfl, hrun]; rfl) rfl (.cons (.str b) .nil) (ν := fun _ => undef) W hg
def laidL : List (String × DataW Unit) := [("unicode/utf8.acceptRanges", Rows.laid_unicode_utf8_acceptRanges), ("unicode.White_Space", Rows.laid_unicode_White_Space), ("strings.asciiSpace", Rows.laid_strings_asciiSpace), ("unicode/utf8.first", Rows.laid_unicode_utf8_first)]

set_option maxRecDepth 100000 in
theorem lifted (os : Os) (started : os.Started) (H : Type) (enc : TypeId × Value → H) :
    ReturnsInHanded {} Tryz.checked os 3 .any (fun w args => (Rows.digestCallsSpec.pre enc Tryz.prog Tryz.f3 Rows.digestCallsRow.domain false w args ∧ laidMetH Tryz.prog laidL w) ∧ sizedMet enc Tryz.prog Tryz.f3 (OpenSpec.ofChange Rows.digestCallsSpec) false w args)
      (Rows.digestCallsSpec.post enc Tryz.prog Tryz.f3 false true false false) := by
  refine returns_shaped (C := Tryz.checked) (X := fun w _ => laidMetH Tryz.prog laidL w) (fun _ _ _ hh h => h.of_heap hh) own started (by kernel_rfl) Tryz.func3
    (ChangeSpec.witness_shaped (enc := enc) (C := Tryz.checked) (os := os) (X := fun w _ => laidMetH Tryz.prog laidL w) false (World.laidAll Tryz.prog os laidL) #[.string ⟨#[]⟩] 8 (World.laidAll_os _ _ _)
      (World.shaped_of_ZipB (by kernel_rfl) (by kernel_rfl)) (by kernel_rfl) (by kernel_rfl) (by kernel_rfl)
      (by rw [MakeChecks.laidMetH_plain _ _ _ (by kernel_rfl)]; exact laidMet_laidAll _ (by kernel_rfl) (by kernel_rfl))) ?_
  intro W base args ds gs before hsh hval0 hW hL
  have hL' := hL
  rw [MakeChecks.laidMetH_plain _ _ _ (by kernel_rfl)] at hL'
  obtain ⟨mx, hmx⟩ := shaped_int hsh (g := 1) (zero := #[.int .i64 0]) (t := 3) (k := .i64) (of_decide_eq_true (by kernel_rfl)) (by kernel_rfl) rfl (by kernel_rfl) (by kernel_rfl) (by kernel_rfl)
  have hg0 : Globs (glA mx) (fun _ => none) W := Globs.add (Globs.add (Globs.add (Globs.none) (laid_ints hL' (List.mem_of_getElem? (i := 2) rfl) (d := (Rows.laid_strings_asciiSpace : DataW Unit)) (k := .u8) (n := 256) (g := 0) (t := 100) (e := 5) (by kernel_rfl) (by kernel_rfl) (by kernel_rfl) (by kernel_rfl) (by kernel_rfl) (by kernel_rfl))) (laid_ints hL' (List.mem_of_getElem? (i := 3) rfl) (d := (Rows.laid_unicode_utf8_first : DataW Unit)) (k := .u8) (n := 256) (g := 3) (t := 100) (e := 5) (by kernel_rfl) (by kernel_rfl) (by kernel_rfl) (by kernel_rfl) (by kernel_rfl) (by kernel_rfl))) hmx
  have hg : Globs (gl mx) (fun _ => none) W := Globs.add hg0 (laid_pairs hL' (List.mem_of_getElem? (i := 0) rfl) (d := (Rows.laid_unicode_utf8_acceptRanges : DataW Unit)) (k := .u8) (n := 16) (g := 4) (t := 125) (e := 124) (e1 := 5) (f0 := { name := "lo", type := 5, offset := 0, embedded := false, tag := "", pkgPath := "unicode/utf8", byteOffset := 0 }) (f1 := { name := "hi", type := 5, offset := 1, embedded := false, tag := "", pkgPath := "unicode/utf8", byteOffset := 1 }) (by kernel_rfl) (by kernel_rfl) (by kernel_rfl) (by kernel_rfl) (by kernel_rfl) (by kernel_rfl) (by kernel_rfl) (by kernel_rfl) rfl rfl (by kernel_rfl) (by kernel_rfl) (by kernel_rfl))
  have hval : ∀ (j : Nat) t v, Tryz.f3.params[j]? = some t → args[j]? = some v → Value.okWide Tryz.prog W .any base t v := hval0
  have hW' := hW
  obtain ⟨p, q, hA0, hV, rfl, hfz, hnd⟩ := hW
  have hA : DataW.TrodAll enc Tryz.prog W 0 (fun _ => true) true Tryz.f3.params.toList args.toList ds p := hA0
  rw [Tryz.params3] at hA hval
  obtain ⟨v0, d0, rfl, rfl, h0⟩ := trodAll_one hA
  obtain ⟨rfl, rfl⟩ := trodVars_none hV
  simp only [List.append_nil] at hW'
  obtain ⟨b, rfl, hbs⟩ : ∃ b, v0 = .string b ∧ (toNats b).length < 2 ^ 63 := by
    have h := hval 0 9 v0 rfl rfl
    have hu : Tryz.prog.underlying 9 = some .string := by kernel_rfl
    unfold Value.okWide at h
    rw [hu] at h
    unfold Cell.okWide at h
    rw [hu] at h
    cases v0 <;> simp only [Cell.ok, hu] at h
    rename_i b
    refine ⟨b, rfl, ?_⟩
    have e : IntKind.i64.max = 9223372036854775807 := rfl
    rw [e] at h
    have e2 : (toNats b).length = b.size := toNats_len b
    rw [e2]
    omega
  refine (walk mx b hbs W hg).mono fun e W' ⟨he, hb⟩ => ?_
  subst he
  refine ⟨_, rfl, post_true laidOut hW' hb rfl ?_ rfl Tryz.underlying4 rfl rfl rfl⟩
  rw [Tryz.params3]
  intro t ht
  simp at ht; subst ht
  exact ⟨by kernel_rfl, of_decide_eq_true (by kernel_rfl)⟩
theorem k_inPlace : (Rows.digestCallsRow.inPlace == Tryz.prog.inPlace 3) = true := by kernel_rfl
theorem k_unfollowed : (Rows.digestCallsRow.unfollowed == Tryz.prog.unfollowed 3) = true := by kernel_rfl
theorem k_recurses : (Rows.digestCallsRow.recurses == Tryz.prog.recurses 3) = true := by kernel_rfl
theorem k_named : (Rows.digestCallsRow.named == Tryz.prog.varsNamed 3) = true := by kernel_rfl
theorem closed : joinedFacts Tryz.prog 3 Tryz.f3 Rows.digestCallsSpec Rows.digestCallsRow = true := by
  unfold joinedFacts
  rw [k_inPlace, k_unfollowed, k_recurses, k_named]
  kernel_rfl


theorem over : Rows.DigestCallsSaid :=
  OpenClaim.holds_of_wide 3 Tryz.f3 rfl rfl rfl rfl rfl rfl rfl ⟨rfl, rfl, rfl, rfl, rfl⟩ rfl rfl rfl rfl rfl (by kernel_rfl) Tryz.func3 closed
    (of_decide_eq_true (by kernel_rfl)) (by unfold Func.isWrapper; first | (rw [if_pos (by decide +kernel)]; kernel_rfl) | (rw [if_neg (by decide +kernel)]; exact ⟨rfl, rfl⟩))
    (fun os started H enc _ => lifted os started H enc)

/-- THE STATEMENT -/
theorem proved : Rows.DigestCallsCardSaid :=
  Claim7.holds_tied_plain_at .later [] [.data, .listed, .data, .pinned] true (true, "46db334482d72e8127573a5813f208b3ff7272a04e59ed9c5fbe7456393105f3") false over (fun _ h => by cases h) (by as_aux_lemma => kernel_rfl) (fun _ h => by cases h) digestCalls_row_tie rfl ⟨rfl, rfl⟩ (by as_aux_lemma => kernel_rfl) rfl
    (fun f fn hf hfn => by
      obtain rfl : f = 3 := Option.some.inj ((show Tryz.prog.funcNamed "sluicegate/sluicegatelaw21.DigestCalls" = some 3 by kernel_rfl).symm.trans hf) |>.symm
      obtain rfl : fn = Tryz.f3 := (Option.some.inj (Tryz.func3.symm.trans hfn)).symm
      exact ⟨by kernel_rfl, fun j t ht => by
        rw [Tryz.params3] at ht
        have hm : t ∈ [9] := by simpa using Array.mem_of_getElem? ht
        have hall : ([9].all fun u => !Tryz.prog.wantsStandIn u) = true := by kernel_rfl
        exact (show Tryz.prog.wantsStandIn t = false by simpa using List.all_eq_true.1 hall t hm)⟩)
    (by as_aux_lemma => kernel_rfl)
#print axioms proved
end Go.Proofs.YtkibhdbmamfjcaaGreatDoor.digestCalls
