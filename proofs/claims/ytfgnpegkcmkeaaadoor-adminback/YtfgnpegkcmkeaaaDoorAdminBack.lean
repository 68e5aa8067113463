/-
  AdminBack: an order that was told is read back, whatever the order and the text; its condition is what the row lists, which the card ties.
-/
import Derived.Test.YtfgnpegkcmkeaaaDoorRows
import Derived.Test.YtfgnpegkcmkeaaaDoorTie
import Derived.Test.YtfgnpegkcmkeaaaDoorCards
import Derived.Test.YtfgnpegkcmkeaaaDoorLyI
import Derived.Test.YtfgnpegkcmkeaaaDoorLyK
import Derived.Test.YtfgnpegkcmkeaaaDoorLyL
import Derived.Test.YtfgnpegkcmkeaaaDoorLyS
import Derived.Test.YtfgnpegkcmkeaaaDoorLyT
import Derived.Test.YtfgnpegkcmkeaaaDoorAdA
import Derived.SevenTiedAt
import Derived.Stop.Joined
namespace Go.Proofs.YtfgnpegkcmkeaaaDoor.adminBack
open Go.Proofs Go.Shelf Go.ChangeShapes Go.WideShapes Go.ChangeAt Go.RowKit Go.Lx
set_option linter.unusedVariables false
set_option linter.constructorNameAsVariable false
set_option maxRecDepth 100000

theorem own : ownKnob Tryd.prog.godebug = none := by kernel_rfl
theorem laidOut : laidOutB Tryd.prog = true := by kernel_rfl
theorem mixed : Tryd.prog.follows .mixedOrders = true := Checked.mixed Tryd.checked

def ρI : Go.Shelf.Ren := ⟨fun n => match n with | 217 => 49 | 219 => 50 | 224 => 67 | 225 => 66 | 266 => 65 | 267 => 68 | 314 => 76 | _ => 0, fun n => match n with | 3 => 3 | 4 => 4 | 5 => 5 | 9 => 9 | 46 => 98 | 51 => 83 | 146 => 128 | _ => 0, fun n => match n with | 1 => 5 | _ => 0⟩

theorem layρI : Lays.n219 Tryd.prog ρI where
  mixed := mixed
  f217 := by kernel_rfl
  f219 := by kernel_rfl
  f224 := by kernel_rfl
  f225 := by kernel_rfl
  f266 := by kernel_rfl
  f267 := by kernel_rfl
  f314 := by kernel_rfl
  t3 := by kernel_rfl
  a3 := fun w => by kernel_rfl
  z3 := fun w => by kernel_rfl
  v3 := fun w => by kernel_rfl
  t4 := by kernel_rfl
  a4 := fun w => by kernel_rfl
  z4 := fun w => by kernel_rfl
  v4 := fun w => by kernel_rfl
  t5 := by kernel_rfl
  a5 := fun w => by kernel_rfl
  z5 := fun w => by kernel_rfl
  v5 := fun w => by kernel_rfl
  t9 := by kernel_rfl
  a9 := fun w => by kernel_rfl
  z9 := fun w => by kernel_rfl
  v9 := fun w => by kernel_rfl
  t46 := by kernel_rfl
  a46 := fun w => by kernel_rfl
  z46 := fun w => by kernel_rfl
  v46 := fun w => by kernel_rfl
  t51 := by kernel_rfl
  a51 := fun w => by kernel_rfl
  z51 := fun w => by kernel_rfl
  v51 := fun w => by kernel_rfl
  t146 := by kernel_rfl
  a146 := fun w => by kernel_rfl
  z146 := fun w => by kernel_rfl
  v146 := fun w => by kernel_rfl
  g1 := by kernel_rfl
theorem enρI : ρI.f 219 = 50 := by kernel_rfl
theorem eρI : Go.Proofs.Enters Tryd.prog (ρI.f 219) := Go.Proofs.enters_of Tryd.func50 (by kernel_rfl) (by first | rfl | kernel_rfl)

def ρD : Go.Shelf.Ren := ⟨fun n => match n with | 197 => 54 | 260 => 71 | _ => 0, fun n => match n with | 0 => 0 | 3 => 3 | 4 => 4 | 5 => 5 | 9 => 9 | 21 => 21 | 46 => 98 | 105 => 94 | 119 => 56 | 138 => 131 | 139 => 132 | _ => 0, fun n => match n with | 3 => 6 | 4 => 7 | _ => 0⟩

theorem layρD : Lays.n197 Tryd.prog ρD where
  mixed := mixed
  f197 := by kernel_rfl
  f260 := by kernel_rfl
  t0 := by kernel_rfl
  a0 := fun w => by kernel_rfl
  z0 := fun w => by kernel_rfl
  v0 := fun w => by kernel_rfl
  t3 := by kernel_rfl
  a3 := fun w => by kernel_rfl
  z3 := fun w => by kernel_rfl
  v3 := fun w => by kernel_rfl
  t4 := by kernel_rfl
  a4 := fun w => by kernel_rfl
  z4 := fun w => by kernel_rfl
  v4 := fun w => by kernel_rfl
  t5 := by kernel_rfl
  a5 := fun w => by kernel_rfl
  z5 := fun w => by kernel_rfl
  v5 := fun w => by kernel_rfl
  t9 := by kernel_rfl
  a9 := fun w => by kernel_rfl
  z9 := fun w => by kernel_rfl
  v9 := fun w => by kernel_rfl
  t21 := by kernel_rfl
  a21 := fun w => by kernel_rfl
  z21 := fun w => by kernel_rfl
  v21 := fun w => by kernel_rfl
  t46 := by kernel_rfl
  a46 := fun w => by kernel_rfl
  z46 := fun w => by kernel_rfl
  v46 := fun w => by kernel_rfl
  t105 := by kernel_rfl
  a105 := fun w => by kernel_rfl
  z105 := fun w => by kernel_rfl
  v105 := fun w => by kernel_rfl
  t119 := by kernel_rfl
  a119 := fun w => by kernel_rfl
  z119 := fun w => by kernel_rfl
  t138 := by kernel_rfl
  a138 := fun w => by kernel_rfl
  z138 := fun w => by kernel_rfl
  v138 := fun w => by kernel_rfl
  t139 := by kernel_rfl
  a139 := fun w => by kernel_rfl
  z139 := fun w => by kernel_rfl
  v139 := fun w => by kernel_rfl
  g3 := by kernel_rfl
  g4 := by kernel_rfl
theorem enρD : ρD.f 197 = 54 := by kernel_rfl
theorem eρD : Go.Proofs.Enters Tryd.prog (ρD.f 197) := Go.Proofs.enters_of Tryd.func54 (by kernel_rfl) (by first | rfl | kernel_rfl)

def ρN : Go.Shelf.Ren := ⟨fun n => match n with | 129 => 61 | 171 => 9 | 243 => 13 | 246 => 26 | 283 => 44 | 284 => 45 | 285 => 46 | 286 => 47 | 317 => 60 | 318 => 62 | 319 => 63 | 320 => 64 | 337 => 74 | 338 => 75 | _ => 0, fun n => match n with | 0 => 0 | 2 => 2 | 3 => 3 | 4 => 4 | 5 => 5 | 9 => 9 | 20 => 20 | 37 => 65 | 46 => 98 | 51 => 83 | 53 => 87 | 171 => 86 | 173 => 90 | 212 => 115 | 213 => 116 | 232 => 133 | 233 => 134 | _ => 0, fun n => match n with | 17 => 4 | 18 => 8 | 19 => 9 | _ => 0⟩

theorem layρN : LaysM.n171 Tryd.prog ρN where
  mixed := mixed
  f129 := by kernel_rfl
  f171 := by kernel_rfl
  f243 := by kernel_rfl
  f246 := by kernel_rfl
  f283 := by kernel_rfl
  f284 := by kernel_rfl
  f285 := by kernel_rfl
  f286 := by kernel_rfl
  f317 := by kernel_rfl
  f318 := by kernel_rfl
  f319 := by kernel_rfl
  f320 := by kernel_rfl
  f337 := by kernel_rfl
  f338 := by kernel_rfl
  t0 := by kernel_rfl
  a0 := fun w => by kernel_rfl
  z0 := fun w => by kernel_rfl
  v0 := fun w => by kernel_rfl
  t2 := by kernel_rfl
  a2 := fun w => by kernel_rfl
  z2 := fun w => by kernel_rfl
  v2 := fun w => by kernel_rfl
  t3 := by kernel_rfl
  a3 := fun w => by kernel_rfl
  z3 := fun w => by kernel_rfl
  v3 := fun w => by kernel_rfl
  t4 := by kernel_rfl
  a4 := fun w => by kernel_rfl
  z4 := fun w => by kernel_rfl
  v4 := fun w => by kernel_rfl
  t5 := by kernel_rfl
  a5 := fun w => by kernel_rfl
  z5 := fun w => by kernel_rfl
  v5 := fun w => by kernel_rfl
  t9 := by kernel_rfl
  a9 := fun w => by kernel_rfl
  z9 := fun w => by kernel_rfl
  v9 := fun w => by kernel_rfl
  t20 := by kernel_rfl
  a20 := fun w => by kernel_rfl
  z20 := fun w => by kernel_rfl
  v20 := fun w => by kernel_rfl
  t37 := by kernel_rfl
  a37 := fun w => by kernel_rfl
  z37 := fun w => by kernel_rfl
  v37 := fun w => by kernel_rfl
  t46 := by kernel_rfl
  a46 := fun w => by kernel_rfl
  z46 := fun w => by kernel_rfl
  v46 := fun w => by kernel_rfl
  t51 := by kernel_rfl
  a51 := fun w => by kernel_rfl
  z51 := fun w => by kernel_rfl
  v51 := fun w => by kernel_rfl
  t53 := by kernel_rfl
  a53 := fun w => by kernel_rfl
  z53 := fun w => by kernel_rfl
  v53 := fun w => by kernel_rfl
  t171 := by kernel_rfl
  a171 := fun w => by kernel_rfl
  z171 := fun w => by kernel_rfl
  v171 := fun w => by kernel_rfl
  t173 := by kernel_rfl
  a173 := fun w => by kernel_rfl
  z173 := fun w => by kernel_rfl
  v173 := fun w => by kernel_rfl
  t212 := by kernel_rfl
  a212 := fun w => by kernel_rfl
  z212 := fun w => by kernel_rfl
  v212 := fun w => by kernel_rfl
  t213 := by kernel_rfl
  a213 := fun w => by kernel_rfl
  z213 := fun w => by kernel_rfl
  t232 := by kernel_rfl
  a232 := fun w => by kernel_rfl
  z232 := fun w => by kernel_rfl
  v232 := fun w => by kernel_rfl
  t233 := by kernel_rfl
  a233 := fun w => by kernel_rfl
  z233 := fun w => by kernel_rfl
  v233 := fun w => by kernel_rfl
  g17 := by kernel_rfl
  g18 := by kernel_rfl
  g19 := by kernel_rfl
  i0 := by kernel_rfl
  i2 := by kernel_rfl
  i3 := by kernel_rfl
  i4 := by kernel_rfl
  i5 := by kernel_rfl
  i9 := by kernel_rfl
  i20 := by kernel_rfl
  i37 := by kernel_rfl
  i46 := by kernel_rfl
  i51 := by kernel_rfl
  i53 := by kernel_rfl
  i171 := by kernel_rfl
  i173 := by kernel_rfl
  i212 := by kernel_rfl
  i232 := by kernel_rfl
  i233 := by kernel_rfl
  m17 := by kernel_rfl
  m18 := by kernel_rfl
  m19 := by kernel_rfl
theorem enρN : ρN.f 171 = 9 := by kernel_rfl
theorem eρN : Go.Proofs.Enters Tryd.prog (ρN.f 171) := Go.Proofs.enters_of Tryd.func9 (by kernel_rfl) (by first | rfl | kernel_rfl)

def ρA : Go.Shelf.Ren := ⟨fun n => match n with | 129 => 61 | 171 => 9 | 172 => 11 | 205 => 57 | 243 => 13 | 244 => 22 | 245 => 23 | 246 => 26 | 247 => 38 | 279 => 39 | 280 => 40 | 281 => 41 | 282 => 42 | 283 => 44 | 284 => 45 | 285 => 46 | 286 => 47 | 287 => 55 | 316 => 56 | 317 => 60 | 318 => 62 | 319 => 63 | 320 => 64 | 321 => 72 | 322 => 73 | 337 => 74 | 338 => 75 | _ => 0, fun n => match n with | 0 => 0 | 2 => 2 | 3 => 3 | 4 => 4 | 5 => 5 | 9 => 9 | 20 => 20 | 21 => 21 | 37 => 65 | 46 => 98 | 51 => 83 | 53 => 87 | 75 => 44 | 76 => 45 | 80 => 68 | 85 => 75 | 127 => 93 | 143 => 122 | 145 => 124 | 167 => 74 | 168 => 77 | 171 => 86 | 173 => 90 | 175 => 96 | 210 => 100 | 212 => 115 | 213 => 116 | 232 => 133 | 233 => 134 | _ => 0, fun n => match n with | 15 => 2 | 16 => 3 | 17 => 4 | 18 => 8 | 19 => 9 | _ => 0⟩

theorem layρA : LaysC.n172 Tryd.prog ρA where
  mixed := mixed
  f129 := by kernel_rfl
  f171 := by kernel_rfl
  f172 := by kernel_rfl
  f205 := by kernel_rfl
  f243 := by kernel_rfl
  f244 := by kernel_rfl
  f245 := by kernel_rfl
  f246 := by kernel_rfl
  f247 := by kernel_rfl
  f279 := by kernel_rfl
  f280 := by kernel_rfl
  f281 := by kernel_rfl
  f282 := by kernel_rfl
  f283 := by kernel_rfl
  f284 := by kernel_rfl
  f285 := by kernel_rfl
  f286 := by kernel_rfl
  f287 := by kernel_rfl
  f316 := by kernel_rfl
  f317 := by kernel_rfl
  f318 := by kernel_rfl
  f319 := by kernel_rfl
  f320 := by kernel_rfl
  f321 := by kernel_rfl
  f322 := by kernel_rfl
  f337 := by kernel_rfl
  f338 := by kernel_rfl
  t0 := by kernel_rfl
  a0 := fun w => by kernel_rfl
  z0 := fun w => by kernel_rfl
  v0 := fun w => by kernel_rfl
  t2 := by kernel_rfl
  a2 := fun w => by kernel_rfl
  z2 := fun w => by kernel_rfl
  v2 := fun w => by kernel_rfl
  t3 := by kernel_rfl
  a3 := fun w => by kernel_rfl
  z3 := fun w => by kernel_rfl
  v3 := fun w => by kernel_rfl
  t4 := by kernel_rfl
  a4 := fun w => by kernel_rfl
  z4 := fun w => by kernel_rfl
  v4 := fun w => by kernel_rfl
  t5 := by kernel_rfl
  a5 := fun w => by kernel_rfl
  z5 := fun w => by kernel_rfl
  v5 := fun w => by kernel_rfl
  t9 := by kernel_rfl
  a9 := fun w => by kernel_rfl
  z9 := fun w => by kernel_rfl
  v9 := fun w => by kernel_rfl
  t20 := by kernel_rfl
  a20 := fun w => by kernel_rfl
  z20 := fun w => by kernel_rfl
  v20 := fun w => by kernel_rfl
  t21 := by kernel_rfl
  a21 := fun w => by kernel_rfl
  z21 := fun w => by kernel_rfl
  v21 := fun w => by kernel_rfl
  t37 := by kernel_rfl
  a37 := fun w => by kernel_rfl
  z37 := fun w => by kernel_rfl
  v37 := fun w => by kernel_rfl
  t46 := by kernel_rfl
  a46 := fun w => by kernel_rfl
  z46 := fun w => by kernel_rfl
  v46 := fun w => by kernel_rfl
  t51 := by kernel_rfl
  a51 := fun w => by kernel_rfl
  z51 := fun w => by kernel_rfl
  v51 := fun w => by kernel_rfl
  t53 := by kernel_rfl
  a53 := fun w => by kernel_rfl
  z53 := fun w => by kernel_rfl
  v53 := fun w => by kernel_rfl
  t75 := by kernel_rfl
  a75 := fun w => by kernel_rfl
  z75 := fun w => by kernel_rfl
  v75 := fun w => by kernel_rfl
  t76 := by kernel_rfl
  a76 := fun w => by kernel_rfl
  z76 := fun w => by kernel_rfl
  v76 := fun w => by kernel_rfl
  t85 := by kernel_rfl
  a85 := fun w => by kernel_rfl
  z85 := fun w => by kernel_rfl
  v85 := fun w => by kernel_rfl
  t127 := by kernel_rfl
  a127 := fun w => by kernel_rfl
  z127 := fun w => by kernel_rfl
  v127 := fun w => by kernel_rfl
  t143 := by kernel_rfl
  a143 := fun w => by kernel_rfl
  z143 := fun w => by kernel_rfl
  v143 := fun w => by kernel_rfl
  t145 := by kernel_rfl
  a145 := fun w => by kernel_rfl
  z145 := fun w => by kernel_rfl
  v145 := fun w => by kernel_rfl
  t167 := by kernel_rfl
  a167 := fun w => by kernel_rfl
  z167 := fun w => by kernel_rfl
  v167 := fun w => by kernel_rfl
  t168 := by kernel_rfl
  a168 := fun w => by kernel_rfl
  z168 := fun w => by kernel_rfl
  v168 := fun w => by kernel_rfl
  t171 := by kernel_rfl
  a171 := fun w => by kernel_rfl
  z171 := fun w => by kernel_rfl
  v171 := fun w => by kernel_rfl
  t173 := by kernel_rfl
  a173 := fun w => by kernel_rfl
  z173 := fun w => by kernel_rfl
  v173 := fun w => by kernel_rfl
  t175 := by kernel_rfl
  a175 := fun w => by kernel_rfl
  z175 := fun w => by kernel_rfl
  v175 := fun w => by kernel_rfl
  t210 := by kernel_rfl
  a210 := fun w => by kernel_rfl
  z210 := fun w => by kernel_rfl
  v210 := fun w => by kernel_rfl
  t212 := by kernel_rfl
  a212 := fun w => by kernel_rfl
  z212 := fun w => by kernel_rfl
  v212 := fun w => by kernel_rfl
  t213 := by kernel_rfl
  a213 := fun w => by kernel_rfl
  z213 := fun w => by kernel_rfl
  t232 := by kernel_rfl
  a232 := fun w => by kernel_rfl
  z232 := fun w => by kernel_rfl
  v232 := fun w => by kernel_rfl
  t233 := by kernel_rfl
  a233 := fun w => by kernel_rfl
  z233 := fun w => by kernel_rfl
  v233 := fun w => by kernel_rfl
  g15 := by kernel_rfl
  g16 := by kernel_rfl
  g17 := by kernel_rfl
  g18 := by kernel_rfl
  g19 := by kernel_rfl
  t80 := by kernel_rfl
  a80 := fun w => by kernel_rfl
  z80 := fun w => by kernel_rfl
  v80 := fun w => by kernel_rfl
  i0 := by kernel_rfl
  i2 := by kernel_rfl
  i3 := by kernel_rfl
  i4 := by kernel_rfl
  i5 := by kernel_rfl
  i9 := by kernel_rfl
  i20 := by kernel_rfl
  i21 := by kernel_rfl
  i37 := by kernel_rfl
  i46 := by kernel_rfl
  i51 := by kernel_rfl
  i53 := by kernel_rfl
  i75 := by kernel_rfl
  i76 := by kernel_rfl
  i80 := by kernel_rfl
  i85 := by kernel_rfl
  i127 := by kernel_rfl
  i143 := by kernel_rfl
  i145 := by kernel_rfl
  i167 := by kernel_rfl
  i168 := by kernel_rfl
  i171 := by kernel_rfl
  i173 := by kernel_rfl
  i175 := by kernel_rfl
  i210 := by kernel_rfl
  i212 := by kernel_rfl
  i232 := by kernel_rfl
  i233 := by kernel_rfl
  m15 := by kernel_rfl
  m16 := by kernel_rfl
  m17 := by kernel_rfl
  m18 := by kernel_rfl
  m19 := by kernel_rfl
  c0 := by kernel_rfl
  c2 := by kernel_rfl
  c3 := by kernel_rfl
  c4 := by kernel_rfl
  c5 := by kernel_rfl
  c9 := by kernel_rfl
  c20 := by kernel_rfl
  c21 := by kernel_rfl
  c37 := by kernel_rfl
  c46 := by kernel_rfl
  c51 := by kernel_rfl
  c53 := by kernel_rfl
  c75 := by kernel_rfl
  c76 := by kernel_rfl
  c80 := by kernel_rfl
  c85 := by kernel_rfl
  c127 := by kernel_rfl
  c143 := by kernel_rfl
  c145 := by kernel_rfl
  c167 := by kernel_rfl
  c168 := by kernel_rfl
  c171 := by kernel_rfl
  c173 := by kernel_rfl
  c175 := by kernel_rfl
  c210 := by kernel_rfl
  c212 := by kernel_rfl
  c213 := by kernel_rfl
  c232 := by kernel_rfl
  c233 := by kernel_rfl
theorem enρA : ρA.f 172 = 11 := by kernel_rfl
theorem eρA : Go.Proofs.Enters Tryd.prog (ρA.f 172) := Go.Proofs.enters_of Tryd.func11 (by kernel_rfl) (by first | rfl | kernel_rfl)


theorem e3ok : ∀ c, c < 256 → ((listedInts (Rows.laid_unicode_utf8_first : DataW Unit)).map (V.int .u8))[c]? = some (.int .u8 (Lib.firstT c)) := by
  intro c hc
  have h : ∀ i : Fin 256, (listedInts (Rows.laid_unicode_utf8_first : DataW Unit))[i.val]? = some ((Lib.firstT i.val : Nat) : Int) := by decide +kernel
  rw [List.getElem?_map, h ⟨c, hc⟩]
  rfl
theorem e4ok : ∀ i, i < 16 → ((listedPairs (Rows.laid_unicode_utf8_acceptRanges : DataW Unit)).map (V.int .u8))[2 * i]? = some (.int .u8 (Lib.accLo i)) ∧ ((listedPairs (Rows.laid_unicode_utf8_acceptRanges : DataW Unit)).map (V.int .u8))[2 * i + 1]? = some (.int .u8 (Lib.accHi i)) := by
  intro i hi
  have h : ∀ i : Fin 16, (listedPairs (Rows.laid_unicode_utf8_acceptRanges : DataW Unit))[2 * i.val]? = some ((Lib.accLo i.val : Nat) : Int) ∧ (listedPairs (Rows.laid_unicode_utf8_acceptRanges : DataW Unit))[2 * i.val + 1]? = some ((Lib.accHi i.val : Nat) : Int) := by decide +kernel
  rw [List.getElem?_map, List.getElem?_map, (h ⟨i, hi⟩).1, (h ⟨i, hi⟩).2]
  exact ⟨rfl, rfl⟩
theorem pow_eq : listedInts (Rows.laid_internal_strconv_uint64pow10 : DataW Unit) = Lib.pow10Tab := by decide +kernel
noncomputable def glA (mx : Int) : T (List V) := (((T.leaf).set 0 (some ((listedInts (Rows.laid_strings_asciiSpace : DataW Unit)).map (V.int .u8)))).set 6 (some ((listedInts (Rows.laid_unicode_utf8_first : DataW Unit)).map (V.int .u8)))).set 5 (some [.int .i64 mx])
noncomputable def glB (mx : Int) : T (List V) := (glA mx).set 7 (some ((listedPairs (Rows.laid_unicode_utf8_acceptRanges : DataW Unit)).map (V.int .u8)))
noncomputable def glC (mx : Int) : T (List V) := (glB mx).set 4 (some (Lib.pow10Tab.map (V.int .u64)))
noncomputable def gl (mx : Int) : T (List V) := ((glC mx).set 2 (some [])).set 3 (some [])
noncomputable def exts (P : Program) : List (FuncId × (List V → M V)) := [(65, pureM idxStr), (70, pureM sameV), (50, pureM index2), (54, pureM decStr)]
noncomputable def cfg (P : Program) (mx : Int) : Cfg := { P := P, lf := 100000, gl := gl mx, sum := sums (exts P) }

theorem exts_all (mx : Int) : ∀ p ∈ exts Tryd.prog, ExtSum Tryd.prog (gl mx) p.1 p.2 := by
  intro p hp
  simp only [exts, List.mem_cons, List.mem_nil_iff, or_false] at hp
  rcases hp with rfl | rfl | rfl | rfl
  · exact extSum_pure Tryd.func65 (by kernel_rfl) (by kernel_rfl) (by kernel_rfl) (by kernel_rfl) (e := Extern.BytealgIndexByte.indexByte) idxStr_ok
  · exact extSum_pure Tryd.func70 (by kernel_rfl) (by kernel_rfl) (by kernel_rfl) (by kernel_rfl) (e := Extern.AbiNoEscape.same) sameV_ok
  · have h := extSum_index (P := Tryd.prog) (ρ := ρI) (gl := gl mx) (m := mx) layρI (by kernel_rfl) eρI
    rw [enρI] at h
    exact h
  · have h := extSum_decode (P := Tryd.prog) (ρ := ρD) (gl := gl mx) layρD (c3 := (listedInts (Rows.laid_unicode_utf8_first : DataW Unit)).map (V.int .u8)) (c4 := (listedPairs (Rows.laid_unicode_utf8_acceptRanges : DataW Unit)).map (V.int .u8)) rfl rfl e3ok e4ok eρD
    rw [enρD] at h
    exact h
theorem exts_ok (mx : Int) : SumOk (cfg Tryd.prog mx) := sumOk_list _ (exts Tryd.prog) rfl (exts_all mx)
theorem nice_memo1 (m : Memo1) (vs : List V) : Go.Wx.Nice (memo1M m vs) := by
  unfold memo1M
  cases sameArgs m.args vs
  · exact Go.Wx.Nice.err _
  · rw [cond_true]
    exact Go.Wx.Nice.bnd (Go.Wx.Nice.alloc _) fun _ => Go.Wx.Nice.ret _
theorem nice_memo1s : ∀ (l : List Memo1) (vs : List V), Go.Wx.Nice (memo1sM l vs)
  | [], _ => Go.Wx.Nice.err _
  | m :: l, vs => by
    unfold memo1sM
    cases sameArgs m.args vs
    · exact nice_memo1s l vs
    · exact nice_memo1 m vs
theorem livesRun (mx : Int) : yes (callM (cfg Tryd.prog mx) 100 4 [] st0) = true := by kernel_rfl
noncomputable def sigs : Memo1 := ⟨[.str signsT], 35, signsL.map V.str, 9, false⟩
theorem sigsOk (mx : Int) : Memo1Ok (cfg Tryd.prog mx) 99 12 sigs := memo1Ok_of (k := 0) rfl rfl (by kernel_rfl)
noncomputable def ordM (k : Nat) : Memo1 := ⟨[.str (wordsK k)], (fieldsK k).length, (fieldsK k).map V.str, 9, false⟩
theorem ordOk1 (mx : Int) : Memo1Ok (cfg Tryd.prog mx) 99 12 (ordM 1) := memo1Ok_of (k := 0) rfl rfl (by kernel_rfl)
theorem ordOk2 (mx : Int) : Memo1Ok (cfg Tryd.prog mx) 99 12 (ordM 2) := memo1Ok_of (k := 0) rfl rfl (by kernel_rfl)
theorem ordOk3 (mx : Int) : Memo1Ok (cfg Tryd.prog mx) 99 12 (ordM 3) := memo1Ok_of (k := 0) rfl rfl (by kernel_rfl)
theorem ordOk4 (mx : Int) : Memo1Ok (cfg Tryd.prog mx) 99 12 (ordM 4) := memo1Ok_of (k := 0) rfl rfl (by kernel_rfl)
theorem ordOk5 (mx : Int) : Memo1Ok (cfg Tryd.prog mx) 99 12 (ordM 5) := memo1Ok_of (k := 0) rfl rfl (by kernel_rfl)
theorem ordOk6 (mx : Int) : Memo1Ok (cfg Tryd.prog mx) 99 12 (ordM 6) := memo1Ok_of (k := 0) rfl rfl (by kernel_rfl)
theorem ordOk7 (mx : Int) : Memo1Ok (cfg Tryd.prog mx) 99 12 (ordM 7) := memo1Ok_of (k := 0) rfl rfl (by kernel_rfl)
theorem ordOk8 (mx : Int) : Memo1Ok (cfg Tryd.prog mx) 99 12 (ordM 8) := memo1Ok_of (k := 0) rfl rfl (by kernel_rfl)
theorem ordOk9 (mx : Int) : Memo1Ok (cfg Tryd.prog mx) 99 12 (ordM 9) := memo1Ok_of (k := 0) rfl rfl (by kernel_rfl)
theorem ordOk10 (mx : Int) : Memo1Ok (cfg Tryd.prog mx) 99 12 (ordM 10) := memo1Ok_of (k := 0) rfl rfl (by kernel_rfl)
noncomputable def memos : List Memo1 := [sigs, ordM 1, ordM 2, ordM 3, ordM 4, ordM 5, ordM 6, ordM 7, ordM 8, ordM 9, ordM 10]
theorem eL : Go.Proofs.Enters Tryd.prog 4 := Go.Proofs.enters_of Tryd.func4 (by kernel_rfl) (by first | rfl | kernel_rfl)
theorem eF : Go.Proofs.Enters Tryd.prog 12 := Go.Proofs.enters_of Tryd.func12 (by kernel_rfl) (by first | rfl | kernel_rfl)

/-- the setting of the walk over all texts -/
noncomputable def st (mx : Int) : Set0 := { exts := (4, constTrue) :: (12, memo1sM memos) :: (9, pureM itoaV) :: (11, atoiM 100 77) :: exts Tryd.prog, gl := gl mx }
theorem st_ok (mx : Int) (lf : Nat) : SumOk ((st mx).cfg.at lf) := by
  refine sumOk_list _ ((4, constTrue) :: (12, memo1sM memos) :: (9, pureM itoaV) :: (11, atoiM 100 77) :: exts Tryd.prog) rfl ?_
  intro p hp
  rcases List.mem_cons.1 hp with rfl | hp
  · exact extSum_true (cfg Tryd.prog mx) mixed (exts_ok mx) (livesRun mx) rfl eL rfl
  rcases List.mem_cons.1 hp with rfl | hp
  · refine extSum_memo1s (cfg Tryd.prog mx) mixed (exts_ok mx) rfl eF rfl ?_
    intro m hm
    rcases List.mem_cons.1 hm with rfl | hm
    · exact ⟨99, sigsOk mx⟩
    rcases List.mem_cons.1 hm with rfl | hm
    · exact ⟨99, ordOk1 mx⟩
    rcases List.mem_cons.1 hm with rfl | hm
    · exact ⟨99, ordOk2 mx⟩
    rcases List.mem_cons.1 hm with rfl | hm
    · exact ⟨99, ordOk3 mx⟩
    rcases List.mem_cons.1 hm with rfl | hm
    · exact ⟨99, ordOk4 mx⟩
    rcases List.mem_cons.1 hm with rfl | hm
    · exact ⟨99, ordOk5 mx⟩
    rcases List.mem_cons.1 hm with rfl | hm
    · exact ⟨99, ordOk6 mx⟩
    rcases List.mem_cons.1 hm with rfl | hm
    · exact ⟨99, ordOk7 mx⟩
    rcases List.mem_cons.1 hm with rfl | hm
    · exact ⟨99, ordOk8 mx⟩
    rcases List.mem_cons.1 hm with rfl | hm
    · exact ⟨99, ordOk9 mx⟩
    rcases List.mem_cons.1 hm with rfl | hm
    · exact ⟨99, ordOk10 mx⟩
    cases hm
  rcases List.mem_cons.1 hp with rfl | hp
  · have h := extSum_itoa (P := Tryd.prog) (ρ := ρN) (gl := gl mx) layρN (g := 4) (by kernel_rfl) rfl eρN
    rw [enρN] at h
    exact h
  rcases List.mem_cons.1 hp with rfl | hp
  · have h := extSum_atoi (P := Tryd.prog) (ρ := ρA) (gl := gl mx) layρA rfl rfl (sz := 3) (by kernel_rfl) eρA
    rw [enρA] at h
    exact h
  exact exts_all mx p hp
open Go.Wx in
theorem stdF (mx : Int) : StdF (st mx) where
  own := by
    repeat (refine List.forall_mem_cons.2 ⟨rfl, ?_⟩)
    intro f hf
    cases hf
  idx := rfl
  same := rfl
  index := rfl
  decode := rfl
  fields := fun h => by
    refine callW_sum (s := ⟨(h.push (.cells (signsL.map V.str) 9 false)).heap, h.nx + 1, [.wrd h.nx]⟩) (g := memo1sM memos) rfl (nice_memo1s _ _) ?_ ?_ ⟨rfl, rfl⟩
    · rfl
    · rw [LogOk_cons_wrd]
      exact ⟨.inl (Nat.le_refl _), LogOk_nil⟩
open Go.Wx in
theorem std (mx : Int) : StdA (st mx) where
  toStdF := stdF mx
  ownA := by
    repeat (refine List.forall_mem_cons.2 ⟨rfl, ?_⟩)
    intro f hf
    cases hf
  itoa := rfl
  atoi := rfl
  fieldsA := fun k h1 h2 h => by
    have hk : k = 1 ∨ k = 2 ∨ k = 3 ∨ k = 4 ∨ k = 5 ∨ k = 6 ∨ k = 7 ∨ k = 8 ∨ k = 9 ∨ k = 10 := by omega
    rcases hk with rfl | rfl | rfl | rfl | rfl | rfl | rfl | rfl | rfl | rfl
    all_goals
      refine callW_sum (s := ⟨(h.push (.cells ((fieldsK _).map V.str) 9 false)).heap, h.nx + 1, [.wrd h.nx]⟩) (g := memo1sM memos) rfl (nice_memo1s _ _) rfl ?_ ⟨rfl, rfl⟩
      rw [LogOk_cons_wrd]
      exact ⟨.inl (Nat.le_refl _), LogOk_nil⟩
  lives := fun h => by
    refine callW_sum (s := h.st) (g := constTrue) rfl (Nice.ret _) rfl LogOk_nil ⟨rfl, rfl⟩
theorem toNats_len (b : ByteArray) : (toNats b).length = b.size := by
  unfold toNats
  rw [List.length_map]
  first | rfl | exact Array.length_toList | (rw [Array.length_toList]; rfl)
theorem bytes_toNats (b : ByteArray) : Bytes (toNats b) := by
  intro x hx
  simp only [toNats, List.mem_map] at hx
  obtain ⟨y, _, rfl⟩ := hx
  exact y.toNat_lt
open Go.Wx in
theorem walk (mx : Int) (k n : Int) (b : ByteArray) (hb : (toNats b).length < 2 ^ 63) (W : World) (hg : Globs (gl mx) (fun _ => none) W) : Calls Tryd.prog 3 #[.agg #[.int .i64 k, .int .i64 n], .string b] W fun e W' => e = .returned (.bool true) ∧ Below W.heap.size W W' := by
  obtain ⟨v, h', lf, m, l, hrun, _, rfl⟩ := callW_run (back_spec (std mx) k n (toNats b) ⟨.leaf, 0⟩ (bytes_toNats b) hb)
  exact law_calls_g ((st mx).cfg.at lf) mixed (st_ok mx lf) (vs := [.agg [.int .i64 k, .int .i64 n], .str (toNats b)]) (n := m) (by rw [show st0 = (⟨.leaf, 0, []⟩ : St) from rfl, hrun]; rfl) rfl (.cons (.agg (.cons (.int _ _) (.cons (.int _ _) .nil))) (.cons (.str b) .nil)) (ν := fun _ => undef) W hg
theorem str_arg {W : World} {base : Nat} {v : Value} (h : Value.okWide Tryd.prog W .any base 9 v) : ∃ b, v = .string b ∧ (toNats b).length < 2 ^ 63 := by
  have hu : Tryd.prog.underlying 9 = some .string := by kernel_rfl
  unfold Value.okWide at h
  rw [hu] at h
  unfold Cell.okWide at h
  rw [hu] at h
  cases v <;> simp only [Cell.ok, hu] at h
  rename_i b
  refine ⟨b, rfl, ?_⟩
  have e : IntKind.i64.max = 9223372036854775807 := rfl
  rw [e] at h
  have e2 : (toNats b).length = b.size := toNats_len b
  rw [e2]
  omega
theorem int_cell {W : World} {base : Nat} {v : Value} (h : Cell.okWide Tryd.prog W .any base 3 v) : ∃ k, v = .int .i64 k := by
  have hu : Tryd.prog.underlying 3 = some (.int .i64) := by kernel_rfl
  unfold Cell.okWide at h
  rw [hu] at h
  cases v <;> simp only [Cell.ok, hu] at h
  rename_i k n
  obtain ⟨rfl, _⟩ := h
  exact ⟨n, rfl⟩
theorem order_arg {W : World} {base : Nat} {v : Value} (h : Value.okWide Tryd.prog W .any base 23 v) : ∃ k n, v = .agg #[.int .i64 k, .int .i64 n] := by
  obtain ⟨fs, hu⟩ : ∃ fs, Tryd.prog.underlying 23 = some (.struct fs) := ⟨_, Tryd.underlying23⟩
  unfold Value.okWide at h
  rw [hu] at h
  obtain ⟨cs, rfl, hsz, ts, hts, _, hc⟩ := h
  have hcell : Tryd.prog.cellTypes Tryd.prog.depth 23 = some [3, 3] := by kernel_rfl
  have hn : Tryd.prog.cellsOf 23 = 2 := by kernel_rfl
  rw [hcell] at hts
  injection hts with hts
  subst hts
  rw [hn] at hsz
  obtain ⟨u0, a0, b0⟩ := hc 0 cs[0] (by simp [hsz])
  obtain ⟨u1, a1, b1⟩ := hc 1 cs[1] (by simp [hsz])
  cases a0
  cases a1
  obtain ⟨k, e0⟩ := int_cell b0
  obtain ⟨n, e1⟩ := int_cell b1
  refine ⟨k, n, congrArg Value.agg ?_⟩
  refine Array.ext (by simp [hsz]) fun i h1 h2 => ?_
  have : i = 0 ∨ i = 1 := by omega
  rcases this with rfl | rfl
  · exact e0
  · exact e1
def laidL : List (String × DataW Unit) := [("math/bits.deBruijn32tab", Rows.laid_math_bits_deBruijn32tab), ("math/bits.deBruijn64tab", Rows.laid_math_bits_deBruijn64tab), ("internal/strconv.uint64pow10", Rows.laid_internal_strconv_uint64pow10), ("unicode/utf8.acceptRanges", Rows.laid_unicode_utf8_acceptRanges), ("strconv.ErrRange", Rows.laid_strconv_ErrRange), ("strconv.ErrSyntax", Rows.laid_strconv_ErrSyntax), ("unicode.White_Space", Rows.laid_unicode_White_Space), ("strings.asciiSpace", Rows.laid_strings_asciiSpace), ("unicode/utf8.first", Rows.laid_unicode_utf8_first)]

set_option maxRecDepth 100000 in
theorem lifted (os : Os) (started : os.Started) (H : Type) (enc : TypeId × Value → H) :
    ReturnsInHanded {} Tryd.checked os 3 .any (fun w args => (Rows.adminBackSpec.pre enc Tryd.prog Tryd.f3 Rows.adminBackRow.domain false w args ∧ laidMetH Tryd.prog laidL w) ∧ sizedMet enc Tryd.prog Tryd.f3 (OpenSpec.ofChange Rows.adminBackSpec) false w args)
      (Rows.adminBackSpec.post enc Tryd.prog Tryd.f3 false true false false) := by
  refine returns_shaped (C := Tryd.checked) (X := fun w _ => laidMetH Tryd.prog laidL w) (fun _ _ _ hh h => h.of_heap hh) own started (by kernel_rfl) Tryd.func3
    (ChangeSpec.witness_shaped (enc := enc) (C := Tryd.checked) (os := os) (X := fun w _ => laidMetH Tryd.prog laidL w) false (World.laidAll Tryd.prog os laidL) #[.agg #[.int .i64 0, .int .i64 0], .string ⟨#[]⟩] 8 (World.laidAll_os _ _ _)
      (World.shaped_of_ZipB (by kernel_rfl) (by kernel_rfl)) (by kernel_rfl) (by kernel_rfl) (by kernel_rfl)
      (by rw [MakeChecks.laidMetH_plain _ _ _ (by kernel_rfl)]; exact laidMet_laidAll _ (by kernel_rfl) (by kernel_rfl))) ?_
  intro W base args ds gs before hsh hval0 hW hL
  have hL' := hL
  rw [MakeChecks.laidMetH_plain _ _ _ (by kernel_rfl)] at hL'
  obtain ⟨mx, hmx⟩ := shaped_int hsh (g := 5) (zero := #[.int .i64 0]) (t := 3) (k := .i64) (of_decide_eq_true (by kernel_rfl)) (by kernel_rfl) rfl (by kernel_rfl) (by kernel_rfl) (by kernel_rfl)
  have hg0 : Globs (glA mx) (fun _ => none) W := Globs.add (Globs.add (Globs.add (Globs.none) (laid_ints hL' (List.mem_of_getElem? (i := 7) rfl) (d := (Rows.laid_strings_asciiSpace : DataW Unit)) (k := .u8) (n := 256) (g := 0) (t := 56) (e := 5) (by kernel_rfl) (by kernel_rfl) (by kernel_rfl) (by kernel_rfl) (by kernel_rfl) (by kernel_rfl))) (laid_ints hL' (List.mem_of_getElem? (i := 8) rfl) (d := (Rows.laid_unicode_utf8_first : DataW Unit)) (k := .u8) (n := 256) (g := 6) (t := 56) (e := 5) (by kernel_rfl) (by kernel_rfl) (by kernel_rfl) (by kernel_rfl) (by kernel_rfl) (by kernel_rfl))) hmx
  have hg1 : Globs (glB mx) (fun _ => none) W := Globs.add hg0 (laid_pairs hL' (List.mem_of_getElem? (i := 3) rfl) (d := (Rows.laid_unicode_utf8_acceptRanges : DataW Unit)) (k := .u8) (n := 16) (g := 7) (t := 132) (e := 131) (e1 := 5) (f0 := { name := "lo", type := 5, offset := 0, embedded := false, tag := "", pkgPath := "unicode/utf8", byteOffset := 0 }) (f1 := { name := "hi", type := 5, offset := 1, embedded := false, tag := "", pkgPath := "unicode/utf8", byteOffset := 1 }) (by kernel_rfl) (by kernel_rfl) (by kernel_rfl) (by kernel_rfl) (by kernel_rfl) (by kernel_rfl) (by kernel_rfl) (by kernel_rfl) rfl rfl (by kernel_rfl) (by kernel_rfl) (by kernel_rfl))
  have hpw : Holds W 4 (Lib.pow10Tab.map (V.int .u64)) := by
    have h := laid_ints hL' (List.mem_of_getElem? (i := 2) rfl) (d := (Rows.laid_internal_strconv_uint64pow10 : DataW Unit)) (k := .u64) (n := 20) (g := 4) (t := 115) (e := 87) (by kernel_rfl) (by kernel_rfl) (by kernel_rfl) (by kernel_rfl) (by kernel_rfl) (by kernel_rfl)
    rw [pow_eq] at h
    exact h
  have hg2 : Globs (glC mx) (fun _ => none) W := Globs.addTab hg1 hpw (laid_size hL' (List.mem_of_getElem? (i := 2) rfl) (d := (Rows.laid_internal_strconv_uint64pow10 : DataW Unit)) (n := 20) (g := 4) (t := 115) (e := 87) (k := 20) (by kernel_rfl) (by kernel_rfl) (by kernel_rfl) (by kernel_rfl))
  obtain ⟨hf2, hf2'⟩ := laid_face hL' (List.mem_of_getElem? (i := 5) rfl) (d := (Rows.laid_strconv_ErrSyntax : DataW Unit)) (g := 2) (t := 44) (by kernel_rfl) (by kernel_rfl) Tryd.underlying44
  obtain ⟨hf3, hf3'⟩ := laid_face hL' (List.mem_of_getElem? (i := 4) rfl) (d := (Rows.laid_strconv_ErrRange : DataW Unit)) (g := 3) (t := 44) (by kernel_rfl) (by kernel_rfl) Tryd.underlying44
  have hg : Globs (gl mx) (fun _ => none) W := Globs.addFace (Globs.addFace hg2 hf2 hf2') hf3 hf3'
  have hval : ∀ (j : Nat) t v, Tryd.f3.params[j]? = some t → args[j]? = some v → Value.okWide Tryd.prog W .any base t v := hval0
  have hW' := hW
  obtain ⟨p, q, hA0, hV, rfl, hfz, hnd⟩ := hW
  have hA : DataW.TrodAll enc Tryd.prog W 0 (fun _ => true) true Tryd.f3.params.toList args.toList ds p := hA0
  rw [Tryd.params3] at hA hval
  obtain ⟨v0, v1, d0, d1, p0, p1, rfl, rfl, rfl, h0, h1⟩ := trodAll_two hA
  obtain ⟨rfl, rfl⟩ := trodVars_none hV
  simp only [List.append_nil] at hW'
  obtain ⟨k, n, rfl⟩ := order_arg (hval 0 23 v0 rfl rfl)
  obtain ⟨b, rfl, hbs⟩ := str_arg (hval 1 9 v1 rfl rfl)
  refine (walk mx k n b hbs W hg).mono fun e W' ⟨he, hb⟩ => ?_
  subst he
  refine ⟨_, rfl, post_true laidOut hW' hb rfl ?_ rfl Tryd.underlying4 rfl rfl rfl⟩
  rw [Tryd.params3]
  intro t ht
  simp at ht
  rcases ht with rfl | rfl
  · exact ⟨by kernel_rfl, of_decide_eq_true (by kernel_rfl)⟩
  · exact ⟨by kernel_rfl, of_decide_eq_true (by kernel_rfl)⟩
theorem k_inPlace : (Rows.adminBackRow.inPlace == Tryd.prog.inPlace 3) = true := by kernel_rfl
theorem k_unfollowed : (Rows.adminBackRow.unfollowed == Tryd.prog.unfollowed 3) = true := by kernel_rfl
theorem k_recurses : (Rows.adminBackRow.recurses == Tryd.prog.recurses 3) = true := by kernel_rfl
theorem k_named : (Rows.adminBackRow.named == Tryd.prog.varsNamed 3) = true := by kernel_rfl
theorem closed : joinedFacts Tryd.prog 3 Tryd.f3 Rows.adminBackSpec Rows.adminBackRow = true := by
  unfold joinedFacts
  rw [k_inPlace, k_unfollowed, k_recurses, k_named]
  kernel_rfl


theorem over : Rows.AdminBackSaid :=
  OpenClaim.holds_of_wide 3 Tryd.f3 rfl rfl rfl rfl rfl rfl rfl ⟨rfl, rfl, rfl, rfl, rfl⟩ rfl rfl rfl rfl rfl (by kernel_rfl) Tryd.func3 closed
    (of_decide_eq_true (by kernel_rfl)) (by unfold Func.isWrapper; first | (rw [if_pos (by decide +kernel)]; kernel_rfl) | (rw [if_neg (by decide +kernel)]; exact ⟨rfl, rfl⟩))
    (fun os started H enc _ => lifted os started H enc)

/-- THE STATEMENT -/
theorem proved : Rows.AdminBackCardSaid :=
  Claim7.holds_tied_plain_at .later [] [.data, .data, .data, .data, .sentinel, .sentinel, .listed, .data, .pinned] true (true, "84099249f278951de1d3cddcc180e8c4a6edd54bccc1c5948ff7b2f77035c271") true over (fun _ h => by cases h) (by as_aux_lemma => kernel_rfl) (fun _ h => by cases h) adminBack_row_tie rfl ⟨rfl, rfl⟩ (by as_aux_lemma => kernel_rfl) rfl
    (fun f fn hf hfn => by
      obtain rfl : f = 3 := Option.some.inj ((show Tryd.prog.funcNamed "sluicegate/sluicegatelaw30.AdminBack" = some 3 by kernel_rfl).symm.trans hf) |>.symm
      obtain rfl : fn = Tryd.f3 := (Option.some.inj (Tryd.func3.symm.trans hfn)).symm
      exact ⟨by kernel_rfl, fun j t ht => by
        rw [Tryd.params3] at ht
        have hm : t ∈ [23, 9] := by simpa using Array.mem_of_getElem? ht
        have hall : ([23, 9].all fun u => !Tryd.prog.wantsStandIn u) = true := by kernel_rfl
        exact (show Tryd.prog.wantsStandIn t = false by simpa using List.all_eq_true.1 hall t hm)⟩)
    (by as_aux_lemma => kernel_rfl)
#print axioms proved
end Go.Proofs.YtfgnpegkcmkeaaaDoor.adminBack
