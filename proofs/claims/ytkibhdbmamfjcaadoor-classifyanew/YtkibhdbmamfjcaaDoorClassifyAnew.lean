/-
  ClassifyAnew: what can be said anew says the same, and pins nothing, whatever the text; its condition is what the row lists, which the card ties.
-/
import Derived.Test.YtkibhdbmamfjcaaDoorRows
import Derived.Test.YtkibhdbmamfjcaaDoorTie
import Derived.Test.YtkibhdbmamfjcaaDoorCards
import Derived.Test.YtkibhdbmamfjcaaDoorLyI
import Derived.Test.YtkibhdbmamfjcaaDoorLyK
import Derived.Test.YtkibhdbmamfjcaaDoorLyL
import Derived.Test.YtkibhdbmamfjcaaDoorLyP
import Derived.Test.YtkibhdbmamfjcaaDoorClF
import Derived.SevenTiedAt
import Derived.Stop.Joined
namespace Go.Proofs.YtkibhdbmamfjcaaDoor.classifyAnew
open Go.Proofs Go.Shelf Go.ChangeShapes Go.WideShapes Go.ChangeAt Go.RowKit Go.Lx
set_option linter.unusedVariables false
set_option linter.constructorNameAsVariable false
set_option maxRecDepth 100000

theorem own : ownKnob Tryd.prog.godebug = none := by kernel_rfl
theorem laidOut : laidOutB Tryd.prog = true := by kernel_rfl
theorem mixed : Tryd.prog.follows .mixedOrders = true := Checked.mixed Tryd.checked

def cfg0 (P : Program) : Cfg := { P := P, lf := 100000, gl := .leaf, sum := fun _ => none }

def ρI : Go.Shelf.Ren := ⟨fun n => match n with | 217 => 113 | 219 => 114 | 224 => 138 | 225 => 137 | 266 => 136 | 267 => 139 | 314 => 151 | _ => 0, fun n => match n with | 3 => 3 | 4 => 4 | 5 => 5 | 9 => 9 | 46 => 71 | 51 => 135 | 146 => 167 | _ => 0, fun n => match n with | 1 => 2 | _ => 0⟩

theorem layI : Lays.n219 Tryd.prog ρI where
  mixed := mixed
  f217 := by kernel_rfl
  f219 := by kernel_rfl
  f224 := by kernel_rfl
  f225 := by kernel_rfl
  f266 := by kernel_rfl
  f267 := by kernel_rfl
  f314 := by kernel_rfl
  t3 := by kernel_rfl
  a3 := fun w => by kernel_rfl
  z3 := fun w => by kernel_rfl
  v3 := fun w => by kernel_rfl
  t4 := by kernel_rfl
  a4 := fun w => by kernel_rfl
  z4 := fun w => by kernel_rfl
  v4 := fun w => by kernel_rfl
  t5 := by kernel_rfl
  a5 := fun w => by kernel_rfl
  z5 := fun w => by kernel_rfl
  v5 := fun w => by kernel_rfl
  t9 := by kernel_rfl
  a9 := fun w => by kernel_rfl
  z9 := fun w => by kernel_rfl
  v9 := fun w => by kernel_rfl
  t46 := by kernel_rfl
  a46 := fun w => by kernel_rfl
  z46 := fun w => by kernel_rfl
  v46 := fun w => by kernel_rfl
  t51 := by kernel_rfl
  a51 := fun w => by kernel_rfl
  z51 := fun w => by kernel_rfl
  v51 := fun w => by kernel_rfl
  t146 := by kernel_rfl
  a146 := fun w => by kernel_rfl
  z146 := fun w => by kernel_rfl
  v146 := fun w => by kernel_rfl
  g1 := by kernel_rfl

theorem fI219 : ρI.f 219 = 114 := by kernel_rfl
theorem eI : Go.Proofs.Enters Tryd.prog (ρI.f 219) := Go.Proofs.enters_of Tryd.func114 (by kernel_rfl) (by first | rfl | kernel_rfl)

def ρG : Go.Shelf.Ren := ⟨fun n => match n with | 241 => 135 | 277 => 150 | _ => 0, fun n => match n with | 0 => 0 | 3 => 3 | 5 => 5 | 37 => 41 | 70 => 86 | 72 => 88 | _ => 0, fun n => n⟩

theorem layG : Lays.n241 Tryd.prog ρG where
  mixed := mixed
  f241 := by kernel_rfl
  f277 := by kernel_rfl
  t0 := by kernel_rfl
  a0 := fun w => by kernel_rfl
  z0 := fun w => by kernel_rfl
  v0 := fun w => by kernel_rfl
  t3 := by kernel_rfl
  a3 := fun w => by kernel_rfl
  z3 := fun w => by kernel_rfl
  v3 := fun w => by kernel_rfl
  t37 := by kernel_rfl
  a37 := fun w => by kernel_rfl
  z37 := fun w => by kernel_rfl
  v37 := fun w => by kernel_rfl
  t70 := by kernel_rfl
  a70 := fun w => by kernel_rfl
  z70 := fun w => by kernel_rfl
  v70 := fun w => by kernel_rfl
  t72 := by kernel_rfl
  a72 := fun w => by kernel_rfl
  z72 := fun w => by kernel_rfl
  v72 := fun w => by kernel_rfl

theorem xG : Builder.Extra Tryd.prog ρG where
  sizeBuilder := by kernel_rfl
  liesBuilder := by kernel_rfl
  t5 := by kernel_rfl
  a5 := fun w => by kernel_rfl
  z5 := fun w => by kernel_rfl
  v5 := fun w => by kernel_rfl
  infoByte := by kernel_rfl
  cellsByte := by kernel_rfl
  sizeByte := by kernel_rfl
  neB5 := by decide

theorem fG241 : ρG.f 241 = 135 := by kernel_rfl
theorem tG5 : ρG.t 5 = 5 := by kernel_rfl
theorem eG : Go.Proofs.Enters Tryd.prog (ρG.f 241) := Go.Proofs.enters_of Tryd.func135 (by kernel_rfl) (by first | rfl | kernel_rfl)


def ρD : Go.Shelf.Ren := ⟨fun n => match n with | 197 => 118 | 260 => 142 | _ => 0, fun n => match n with | 0 => 0 | 3 => 3 | 4 => 4 | 5 => 5 | 9 => 9 | 21 => 21 | 46 => 71 | 105 => 128 | 119 => 121 | 138 => 170 | 139 => 171 | _ => 0, fun n => match n with | 3 => 3 | 4 => 4 | _ => 0⟩
theorem layD : Lays.n197 Tryd.prog ρD where
  mixed := mixed
  f197 := by kernel_rfl
  f260 := by kernel_rfl
  t0 := by kernel_rfl
  a0 := fun w => by kernel_rfl
  z0 := fun w => by kernel_rfl
  v0 := fun w => by kernel_rfl
  t3 := by kernel_rfl
  a3 := fun w => by kernel_rfl
  z3 := fun w => by kernel_rfl
  v3 := fun w => by kernel_rfl
  t4 := by kernel_rfl
  a4 := fun w => by kernel_rfl
  z4 := fun w => by kernel_rfl
  v4 := fun w => by kernel_rfl
  t5 := by kernel_rfl
  a5 := fun w => by kernel_rfl
  z5 := fun w => by kernel_rfl
  v5 := fun w => by kernel_rfl
  t9 := by kernel_rfl
  a9 := fun w => by kernel_rfl
  z9 := fun w => by kernel_rfl
  v9 := fun w => by kernel_rfl
  t21 := by kernel_rfl
  a21 := fun w => by kernel_rfl
  z21 := fun w => by kernel_rfl
  v21 := fun w => by kernel_rfl
  t46 := by kernel_rfl
  a46 := fun w => by kernel_rfl
  z46 := fun w => by kernel_rfl
  v46 := fun w => by kernel_rfl
  t105 := by kernel_rfl
  a105 := fun w => by kernel_rfl
  z105 := fun w => by kernel_rfl
  v105 := fun w => by kernel_rfl
  t119 := by kernel_rfl
  a119 := fun w => by kernel_rfl
  z119 := fun w => by kernel_rfl
  t138 := by kernel_rfl
  a138 := fun w => by kernel_rfl
  z138 := fun w => by kernel_rfl
  v138 := fun w => by kernel_rfl
  t139 := by kernel_rfl
  a139 := fun w => by kernel_rfl
  z139 := fun w => by kernel_rfl
  v139 := fun w => by kernel_rfl
  g3 := by kernel_rfl
  g4 := by kernel_rfl
theorem fD197 : ρD.f 197 = 118 := by kernel_rfl
theorem eD : Go.Proofs.Enters Tryd.prog (ρD.f 197) := Go.Proofs.enters_of Tryd.func118 (by kernel_rfl) (by first | rfl | kernel_rfl)


def ρR : Go.Shelf.Ren := ⟨fun n => match n with | 138 => 124 | 143 => 69 | 154 => 85 | 155 => 49 | 165 => 110 | 166 => 111 | 169 => 72 | 195 => 143 | 197 => 118 | 217 => 113 | 218 => 144 | 219 => 114 | 224 => 138 | 225 => 137 | 240 => 117 | 241 => 135 | 260 => 142 | 266 => 136 | 267 => 139 | 276 => 141 | 277 => 150 | 314 => 151 | _ => 0, fun n => match n with | 0 => 0 | 3 => 3 | 4 => 4 | 5 => 5 | 9 => 9 | 20 => 20 | 21 => 21 | 37 => 41 | 46 => 71 | 51 => 135 | 70 => 86 | 72 => 88 | 75 => 91 | 76 => 124 | 80 => 89 | 105 => 128 | 119 => 121 | 127 => 127 | 138 => 170 | 139 => 171 | 146 => 167 | 164 => 152 | _ => 0, fun n => match n with | 1 => 2 | 3 => 3 | 4 => 4 | _ => 0⟩

theorem layρR : Lays.n155 Tryd.prog ρR where
  mixed := mixed
  f138 := by kernel_rfl
  f143 := by kernel_rfl
  f154 := by kernel_rfl
  f155 := by kernel_rfl
  f165 := by kernel_rfl
  f166 := by kernel_rfl
  f169 := by kernel_rfl
  f195 := by kernel_rfl
  f197 := by kernel_rfl
  f217 := by kernel_rfl
  f218 := by kernel_rfl
  f219 := by kernel_rfl
  f224 := by kernel_rfl
  f225 := by kernel_rfl
  f240 := by kernel_rfl
  f241 := by kernel_rfl
  f260 := by kernel_rfl
  f266 := by kernel_rfl
  f267 := by kernel_rfl
  f276 := by kernel_rfl
  f277 := by kernel_rfl
  f314 := by kernel_rfl
  t0 := by kernel_rfl
  a0 := fun w => by kernel_rfl
  z0 := fun w => by kernel_rfl
  v0 := fun w => by kernel_rfl
  t3 := by kernel_rfl
  a3 := fun w => by kernel_rfl
  z3 := fun w => by kernel_rfl
  v3 := fun w => by kernel_rfl
  t4 := by kernel_rfl
  a4 := fun w => by kernel_rfl
  z4 := fun w => by kernel_rfl
  v4 := fun w => by kernel_rfl
  t5 := by kernel_rfl
  a5 := fun w => by kernel_rfl
  z5 := fun w => by kernel_rfl
  v5 := fun w => by kernel_rfl
  t9 := by kernel_rfl
  a9 := fun w => by kernel_rfl
  z9 := fun w => by kernel_rfl
  v9 := fun w => by kernel_rfl
  t20 := by kernel_rfl
  a20 := fun w => by kernel_rfl
  z20 := fun w => by kernel_rfl
  v20 := fun w => by kernel_rfl
  t21 := by kernel_rfl
  a21 := fun w => by kernel_rfl
  z21 := fun w => by kernel_rfl
  v21 := fun w => by kernel_rfl
  t37 := by kernel_rfl
  a37 := fun w => by kernel_rfl
  z37 := fun w => by kernel_rfl
  v37 := fun w => by kernel_rfl
  t46 := by kernel_rfl
  a46 := fun w => by kernel_rfl
  z46 := fun w => by kernel_rfl
  v46 := fun w => by kernel_rfl
  t51 := by kernel_rfl
  a51 := fun w => by kernel_rfl
  z51 := fun w => by kernel_rfl
  v51 := fun w => by kernel_rfl
  t70 := by kernel_rfl
  a70 := fun w => by kernel_rfl
  z70 := fun w => by kernel_rfl
  v70 := fun w => by kernel_rfl
  t72 := by kernel_rfl
  a72 := fun w => by kernel_rfl
  z72 := fun w => by kernel_rfl
  v72 := fun w => by kernel_rfl
  t75 := by kernel_rfl
  a75 := fun w => by kernel_rfl
  z75 := fun w => by kernel_rfl
  v75 := fun w => by kernel_rfl
  t76 := by kernel_rfl
  a76 := fun w => by kernel_rfl
  z76 := fun w => by kernel_rfl
  v76 := fun w => by kernel_rfl
  t105 := by kernel_rfl
  a105 := fun w => by kernel_rfl
  z105 := fun w => by kernel_rfl
  v105 := fun w => by kernel_rfl
  t119 := by kernel_rfl
  a119 := fun w => by kernel_rfl
  z119 := fun w => by kernel_rfl
  t127 := by kernel_rfl
  a127 := fun w => by kernel_rfl
  z127 := fun w => by kernel_rfl
  v127 := fun w => by kernel_rfl
  t138 := by kernel_rfl
  a138 := fun w => by kernel_rfl
  z138 := fun w => by kernel_rfl
  v138 := fun w => by kernel_rfl
  t139 := by kernel_rfl
  a139 := fun w => by kernel_rfl
  z139 := fun w => by kernel_rfl
  v139 := fun w => by kernel_rfl
  t146 := by kernel_rfl
  a146 := fun w => by kernel_rfl
  z146 := fun w => by kernel_rfl
  v146 := fun w => by kernel_rfl
  t164 := by kernel_rfl
  a164 := fun w => by kernel_rfl
  z164 := fun w => by kernel_rfl
  v164 := fun w => by kernel_rfl
  g1 := by kernel_rfl
  g3 := by kernel_rfl
  g4 := by kernel_rfl
theorem enρR : ρR.f 155 = 49 := by kernel_rfl
theorem eρR : Go.Proofs.Enters Tryd.prog (ρR.f 155) := Go.Proofs.enters_of Tryd.func49 (by kernel_rfl) (by first | rfl | kernel_rfl)
theorem xρR : Builder.Extra Tryd.prog ρR where
  sizeBuilder := by kernel_rfl
  liesBuilder := by kernel_rfl
  t5 := by kernel_rfl
  a5 := fun w => by kernel_rfl
  z5 := fun w => by kernel_rfl
  v5 := fun w => by kernel_rfl
  infoByte := by kernel_rfl
  cellsByte := by kernel_rfl
  sizeByte := by kernel_rfl
  neB5 := by decide


def ρJ : Go.Shelf.Ren := ⟨fun n => match n with | 156 => 65 | 165 => 110 | 166 => 111 | 169 => 72 | 240 => 117 | 241 => 135 | 276 => 141 | 277 => 150 | _ => 0, fun n => match n with | 0 => 0 | 3 => 3 | 4 => 4 | 5 => 5 | 9 => 9 | 20 => 20 | 31 => 29 | 37 => 41 | 70 => 86 | 72 => 88 | 75 => 91 | 76 => 124 | 80 => 89 | 127 => 127 | 164 => 152 | _ => 0, fun n => n⟩

theorem layρJ : Lays.n156 Tryd.prog ρJ where
  mixed := mixed
  f156 := by kernel_rfl
  f165 := by kernel_rfl
  f166 := by kernel_rfl
  f169 := by kernel_rfl
  f240 := by kernel_rfl
  f241 := by kernel_rfl
  f276 := by kernel_rfl
  f277 := by kernel_rfl
  t0 := by kernel_rfl
  a0 := fun w => by kernel_rfl
  z0 := fun w => by kernel_rfl
  v0 := fun w => by kernel_rfl
  t3 := by kernel_rfl
  a3 := fun w => by kernel_rfl
  z3 := fun w => by kernel_rfl
  v3 := fun w => by kernel_rfl
  t4 := by kernel_rfl
  a4 := fun w => by kernel_rfl
  z4 := fun w => by kernel_rfl
  v4 := fun w => by kernel_rfl
  t9 := by kernel_rfl
  a9 := fun w => by kernel_rfl
  z9 := fun w => by kernel_rfl
  v9 := fun w => by kernel_rfl
  t20 := by kernel_rfl
  a20 := fun w => by kernel_rfl
  z20 := fun w => by kernel_rfl
  v20 := fun w => by kernel_rfl
  t31 := by kernel_rfl
  a31 := fun w => by kernel_rfl
  z31 := fun w => by kernel_rfl
  v31 := fun w => by kernel_rfl
  t37 := by kernel_rfl
  a37 := fun w => by kernel_rfl
  z37 := fun w => by kernel_rfl
  v37 := fun w => by kernel_rfl
  t70 := by kernel_rfl
  a70 := fun w => by kernel_rfl
  z70 := fun w => by kernel_rfl
  v70 := fun w => by kernel_rfl
  t72 := by kernel_rfl
  a72 := fun w => by kernel_rfl
  z72 := fun w => by kernel_rfl
  v72 := fun w => by kernel_rfl
  t75 := by kernel_rfl
  a75 := fun w => by kernel_rfl
  z75 := fun w => by kernel_rfl
  v75 := fun w => by kernel_rfl
  t76 := by kernel_rfl
  a76 := fun w => by kernel_rfl
  z76 := fun w => by kernel_rfl
  v76 := fun w => by kernel_rfl
  t127 := by kernel_rfl
  a127 := fun w => by kernel_rfl
  z127 := fun w => by kernel_rfl
  v127 := fun w => by kernel_rfl
  t164 := by kernel_rfl
  a164 := fun w => by kernel_rfl
  z164 := fun w => by kernel_rfl
  v164 := fun w => by kernel_rfl
theorem enρJ : ρJ.f 156 = 65 := by kernel_rfl
theorem eρJ : Go.Proofs.Enters Tryd.prog (ρJ.f 156) := Go.Proofs.enters_of Tryd.func65 (by kernel_rfl) (by first | rfl | kernel_rfl)
theorem xρJ : Builder.Extra Tryd.prog ρJ where
  sizeBuilder := by kernel_rfl
  liesBuilder := by kernel_rfl
  t5 := by kernel_rfl
  a5 := fun w => by kernel_rfl
  z5 := fun w => by kernel_rfl
  v5 := fun w => by kernel_rfl
  infoByte := by kernel_rfl
  cellsByte := by kernel_rfl
  sizeByte := by kernel_rfl
  neB5 := by decide


theorem e3ok : ∀ c, c < 256 → ((listedInts (Rows.laid_unicode_utf8_first : DataW Unit)).map (V.int .u8))[c]? = some (.int .u8 (Lib.firstT c)) := by
  intro c hc
  have h : ∀ i : Fin 256, (listedInts (Rows.laid_unicode_utf8_first : DataW Unit))[i.val]? = some ((Lib.firstT i.val : Nat) : Int) := by decide +kernel
  rw [List.getElem?_map, h ⟨c, hc⟩]
  rfl
theorem e4ok : ∀ i, i < 16 → ((listedPairs (Rows.laid_unicode_utf8_acceptRanges : DataW Unit)).map (V.int .u8))[2 * i]? = some (.int .u8 (Lib.accLo i)) ∧ ((listedPairs (Rows.laid_unicode_utf8_acceptRanges : DataW Unit)).map (V.int .u8))[2 * i + 1]? = some (.int .u8 (Lib.accHi i)) := by
  intro i hi
  have h : ∀ i : Fin 16, (listedPairs (Rows.laid_unicode_utf8_acceptRanges : DataW Unit))[2 * i.val]? = some ((Lib.accLo i.val : Nat) : Int) ∧ (listedPairs (Rows.laid_unicode_utf8_acceptRanges : DataW Unit))[2 * i.val + 1]? = some ((Lib.accHi i.val : Nat) : Int) := by decide +kernel
  rw [List.getElem?_map, List.getElem?_map, (h ⟨i, hi⟩).1, (h ⟨i, hi⟩).2]
  exact ⟨rfl, rfl⟩
noncomputable def glA (mx : Int) : T (List V) := (((T.leaf).set 0 (some ((listedInts (Rows.laid_strings_asciiSpace : DataW Unit)).map (V.int .u8)))).set 3 (some ((listedInts (Rows.laid_unicode_utf8_first : DataW Unit)).map (V.int .u8)))).set 2 (some [.int .i64 mx])
noncomputable def gl (mx : Int) : T (List V) := (glA mx).set 4 (some ((listedPairs (Rows.laid_unicode_utf8_acceptRanges : DataW Unit)).map (V.int .u8)))
noncomputable def exts (P : Program) : List (FuncId × (List V → M V)) := [(136, pureM idxStr), (141, pureM sameV), (144, pureM cntStr), (114, pureM index2), (135, growB 5), (118, pureM decStr)]
noncomputable def cfg (P : Program) (mx : Int) : Cfg := { P := P, lf := 100000, gl := gl mx, sum := sums (exts P) }

theorem exts_all (mx : Int) : ∀ p ∈ exts Tryd.prog, ExtSum Tryd.prog (gl mx) p.1 p.2 := by
  intro p hp
  simp only [exts, List.mem_cons, List.mem_nil_iff, or_false] at hp
  rcases hp with rfl | rfl | rfl | rfl | rfl | rfl
  · exact extSum_pure Tryd.func136 (by kernel_rfl) (by kernel_rfl) (by kernel_rfl) (by kernel_rfl) (e := Extern.BytealgIndexByte.indexByte) idxStr_ok
  · exact extSum_pure Tryd.func141 (by kernel_rfl) (by kernel_rfl) (by kernel_rfl) (by kernel_rfl) (e := Extern.AbiNoEscape.same) sameV_ok
  · exact extSum_pure Tryd.func144 (by kernel_rfl) (by kernel_rfl) (by kernel_rfl) (by kernel_rfl) (e := Extern.BytealgCount.count) cntStr_ok
  · have h := extSum_index (P := Tryd.prog) (ρ := ρI) (gl := gl mx) (m := mx) layI (by kernel_rfl) eI
    rw [fI219] at h
    exact h
  · have h := extSum_grow (P := Tryd.prog) (ρ := ρG) (gl := gl mx) layG xG eG
    rw [fG241, tG5] at h
    exact h
  · have h := extSum_decode (P := Tryd.prog) (ρ := ρD) (gl := gl mx) layD (c3 := (listedInts (Rows.laid_unicode_utf8_first : DataW Unit)).map (V.int .u8)) (c4 := (listedPairs (Rows.laid_unicode_utf8_acceptRanges : DataW Unit)).map (V.int .u8)) rfl rfl e3ok e4ok eD
    rw [fD197] at h
    exact h


theorem exts_ok (mx : Int) : SumOk (cfg Tryd.prog mx) := sumOk_list _ (exts Tryd.prog) rfl (exts_all mx)
theorem nice_memo1 (m : Memo1) (vs : List V) : Go.Wx.Nice (memo1M m vs) := by
  unfold memo1M
  cases sameArgs m.args vs
  · exact Go.Wx.Nice.err _
  · rw [cond_true]
    exact Go.Wx.Nice.bnd (Go.Wx.Nice.alloc _) fun _ => Go.Wx.Nice.ret _
theorem nice_memo1s : ∀ (l : List Memo1) (vs : List V), Go.Wx.Nice (memo1sM l vs)
  | [], _ => Go.Wx.Nice.err _
  | m :: l, vs => by
    unfold memo1sM
    cases sameArgs m.args vs
    · exact nice_memo1s l vs
    · exact nice_memo1 m vs
theorem livesRunC (mx : Int) : yes (callM (cfg Tryd.prog mx) 100 26 [] st0) = true := by kernel_rfl
noncomputable def sigs : Memo1 := ⟨[.str signsT], 35, signsL.map V.str, 9, false⟩
theorem sigsOk (mx : Int) : Memo1Ok (cfg Tryd.prog mx) 99 62 sigs := memo1Ok_of (k := 0) rfl rfl (by kernel_rfl)
noncomputable def odds : Memo1 := ⟨[.str oddT], 19, oddL.map V.str, 9, false⟩
theorem oddsOk (mx : Int) : Memo1Ok (cfg Tryd.prog mx) 99 62 odds := memo1Ok_of (k := 0) rfl rfl (by kernel_rfl)
noncomputable def lcks : Memo1 := ⟨[.str lockT], 5, lockL.map V.str, 9, false⟩
theorem lcksOk (mx : Int) : Memo1Ok (cfg Tryd.prog mx) 99 62 lcks := memo1Ok_of (k := 0) rfl rfl (by kernel_rfl)
noncomputable def vars : Memo1 := ⟨[.str varT], 4, varL.map V.str, 9, false⟩
theorem varsOk (mx : Int) : Memo1Ok (cfg Tryd.prog mx) 99 62 vars := memo1Ok_of (k := 0) rfl rfl (by kernel_rfl)
theorem eLC : Go.Proofs.Enters Tryd.prog 26 := Go.Proofs.enters_of Tryd.func26 (by kernel_rfl) (by first | rfl | kernel_rfl)
theorem eF : Go.Proofs.Enters Tryd.prog 62 := Go.Proofs.enters_of Tryd.func62 (by kernel_rfl) (by first | rfl | kernel_rfl)

/-- the setting of the walk over all texts -/
noncomputable def st (mx : Int) : Set0 := { exts := (26, constTrue) :: (62, memo1sM [sigs, odds, lcks, vars]) :: (49, pureM replV) :: (65, joinM) :: exts Tryd.prog, gl := gl mx }
theorem st_ok (mx : Int) (lf : Nat) : SumOk ((st mx).cfg.at lf) := by
  refine sumOk_list _ ((26, constTrue) :: (62, memo1sM [sigs, odds, lcks, vars]) :: (49, pureM replV) :: (65, joinM) :: exts Tryd.prog) rfl ?_
  intro p hp
  rcases List.mem_cons.1 hp with rfl | hp
  · exact extSum_true (cfg Tryd.prog mx) mixed (exts_ok mx) (livesRunC mx) rfl eLC rfl
  rcases List.mem_cons.1 hp with rfl | hp
  · refine extSum_memo1s (cfg Tryd.prog mx) mixed (exts_ok mx) rfl eF rfl ?_
    intro m hm
    rcases List.mem_cons.1 hm with rfl | hm
    · exact ⟨99, sigsOk mx⟩
    rcases List.mem_cons.1 hm with rfl | hm
    · exact ⟨99, oddsOk mx⟩
    rcases List.mem_cons.1 hm with rfl | hm
    · exact ⟨99, lcksOk mx⟩
    rcases List.mem_cons.1 hm with rfl | hm
    · exact ⟨99, varsOk mx⟩
    cases hm
  rcases List.mem_cons.1 hp with rfl | hp
  · have h := extSum_repl (P := Tryd.prog) (ρ := ρR) (gl := gl mx) (m := mx) layρR xρR (by kernel_rfl) eρR
    rw [enρR] at h
    exact h
  rcases List.mem_cons.1 hp with rfl | hp
  · have h := extSum_join (P := Tryd.prog) (ρ := ρJ) (gl := gl mx) layρJ xρJ eρJ
    rw [enρJ] at h
    exact h
  exact exts_all mx p hp
open Go.Wx in
theorem stdF (mx : Int) : StdF (st mx) where
  own := by
    repeat (refine List.forall_mem_cons.2 ⟨rfl, ?_⟩)
    intro f hf
    cases hf
  idx := rfl
  same := rfl
  index := rfl
  grow := rfl
  decode := rfl
  fields := fun h => by
    refine callW_sum (s := ⟨(h.push (.cells (signsL.map V.str) 9 false)).heap, h.nx + 1, [.wrd h.nx]⟩) (g := memo1sM [sigs, odds, lcks, vars]) rfl (nice_memo1s _ _) ?_ ?_ ⟨rfl, rfl⟩
    · rfl
    · rw [LogOk_cons_wrd]
      exact ⟨.inl (Nat.le_refl _), LogOk_nil⟩
open Go.Wx in
theorem stdC (mx : Int) : StdC (st mx) where
  toStdF := stdF mx
  ownC := by
    repeat (refine List.forall_mem_cons.2 ⟨rfl, ?_⟩)
    intro f hf
    cases hf
  oddF := fun h => by
    refine callW_sum (s := ⟨(h.push (.cells (oddL.map V.str) 9 false)).heap, h.nx + 1, [.wrd h.nx]⟩) (g := memo1sM [sigs, odds, lcks, vars]) rfl (nice_memo1s _ _) ?_ ?_ ⟨rfl, rfl⟩
    · rfl
    · rw [LogOk_cons_wrd]
      exact ⟨.inl (Nat.le_refl _), LogOk_nil⟩
  livesC := fun h => by
    refine callW_sum (s := h.st) (g := constTrue) rfl (Nice.ret _) rfl LogOk_nil ⟨rfl, rfl⟩
open Go.Wx in
theorem std (mx : Int) : StdE (st mx) where
  toStdC := stdC mx
  lockF := fun h => by
    refine callW_sum (s := ⟨(h.push (.cells (lockL.map V.str) 9 false)).heap, h.nx + 1, [.wrd h.nx]⟩) (g := memo1sM [sigs, odds, lcks, vars]) rfl (nice_memo1s _ _) ?_ ?_ ⟨rfl, rfl⟩
    · rfl
    · rw [LogOk_cons_wrd]
      exact ⟨.inl (Nat.le_refl _), LogOk_nil⟩
  varF := fun h => by
    refine callW_sum (s := ⟨(h.push (.cells (varL.map V.str) 9 false)).heap, h.nx + 1, [.wrd h.nx]⟩) (g := memo1sM [sigs, odds, lcks, vars]) rfl (nice_memo1s _ _) ?_ ?_ ⟨rfl, rfl⟩
    · rfl
    · rw [LogOk_cons_wrd]
      exact ⟨.inl (Nat.le_refl _), LogOk_nil⟩
open Go.Wx in
theorem stdN (mx : Int) : StdN (st mx) where
  toStdE := std mx
  ownN := by
    repeat (refine List.forall_mem_cons.2 ⟨rfl, ?_⟩)
    intro f hf
    cases hf
  repl := rfl
  join := rfl
theorem toNats_len (b : ByteArray) : (toNats b).length = b.size := by
  unfold toNats
  rw [List.length_map]
  first | rfl | exact Array.length_toList | (rw [Array.length_toList]; rfl)
theorem bytes_toNats (b : ByteArray) : Bytes (toNats b) := by
  intro x hx
  simp only [toNats, List.mem_map] at hx
  obtain ⟨y, _, rfl⟩ := hx
  exact y.toNat_lt
open Go.Wx in
theorem walk (mx : Int) (a : ByteArray) (ha : (toNats a).length < 2 ^ 63) (W : World) (hg : Globs (gl mx) (fun _ => none) W) : Calls Tryd.prog 11 #[.string a] W fun e W' => e = .returned (.bool true) ∧ Below W.heap.size W W' := by
  obtain ⟨v, h', lf, n, l, hrun, _, rfl⟩ := callW_run (anewlaw_spec (stdN mx) (toNats a) ⟨.leaf, 0⟩ (bytes_toNats a) ha)
  exact law_calls_g ((st mx).cfg.at lf) mixed (st_ok mx lf) (vs := [.str (toNats a)]) (n := n) (by rw [show st0 = (⟨.leaf, 0, []⟩ : St) from rfl, hrun]; rfl) rfl (.cons (.str a) .nil) (ν := fun _ => undef) W hg
theorem str_arg {W : World} {base : Nat} {v : Value} (h : Value.okWide Tryd.prog W .any base 9 v) : ∃ b, v = .string b ∧ (toNats b).length < 2 ^ 63 := by
  have hu : Tryd.prog.underlying 9 = some .string := by kernel_rfl
  unfold Value.okWide at h
  rw [hu] at h
  unfold Cell.okWide at h
  rw [hu] at h
  cases v <;> simp only [Cell.ok, hu] at h
  rename_i b
  refine ⟨b, rfl, ?_⟩
  have e : IntKind.i64.max = 9223372036854775807 := rfl
  rw [e] at h
  have e2 : (toNats b).length = b.size := toNats_len b
  rw [e2]
  omega
def laidL : List (String × DataW Unit) := [("unicode/utf8.acceptRanges", Rows.laid_unicode_utf8_acceptRanges), ("unicode.White_Space", Rows.laid_unicode_White_Space), ("strings.asciiSpace", Rows.laid_strings_asciiSpace), ("unicode/utf8.first", Rows.laid_unicode_utf8_first)]

set_option maxRecDepth 100000 in
theorem lifted (os : Os) (started : os.Started) (H : Type) (enc : TypeId × Value → H) :
    ReturnsInHanded {} Tryd.checked os 11 .any (fun w args => (Rows.classifyAnewSpec.pre enc Tryd.prog Tryd.f11 Rows.classifyAnewRow.domain false w args ∧ laidMetH Tryd.prog laidL w) ∧ sizedMet enc Tryd.prog Tryd.f11 (OpenSpec.ofChange Rows.classifyAnewSpec) false w args)
      (Rows.classifyAnewSpec.post enc Tryd.prog Tryd.f11 false true false false) := by
  refine returns_shaped (C := Tryd.checked) (X := fun w _ => laidMetH Tryd.prog laidL w) (fun _ _ _ hh h => h.of_heap hh) own started (by kernel_rfl) Tryd.func11
    (ChangeSpec.witness_shaped (enc := enc) (C := Tryd.checked) (os := os) (X := fun w _ => laidMetH Tryd.prog laidL w) false (World.laidAll Tryd.prog os laidL) #[.string ⟨#[]⟩] 8 (World.laidAll_os _ _ _)
      (World.shaped_of_ZipB (by kernel_rfl) (by kernel_rfl)) (by kernel_rfl) (by kernel_rfl) (by kernel_rfl)
      (by rw [MakeChecks.laidMetH_plain _ _ _ (by kernel_rfl)]; exact laidMet_laidAll _ (by kernel_rfl) (by kernel_rfl))) ?_
  intro W base args ds gs before hsh hval0 hW hL
  have hL' := hL
  rw [MakeChecks.laidMetH_plain _ _ _ (by kernel_rfl)] at hL'
  obtain ⟨mx, hmx⟩ := shaped_int hsh (g := 2) (zero := #[.int .i64 0]) (t := 3) (k := .i64) (of_decide_eq_true (by kernel_rfl)) (by kernel_rfl) rfl (by kernel_rfl) (by kernel_rfl) (by kernel_rfl)
  have hg0 : Globs (glA mx) (fun _ => none) W := Globs.add (Globs.add (Globs.add (Globs.none) (laid_ints hL' (List.mem_of_getElem? (i := 2) rfl) (d := (Rows.laid_strings_asciiSpace : DataW Unit)) (k := .u8) (n := 256) (g := 0) (t := 121) (e := 5) (by kernel_rfl) (by kernel_rfl) (by kernel_rfl) (by kernel_rfl) (by kernel_rfl) (by kernel_rfl))) (laid_ints hL' (List.mem_of_getElem? (i := 3) rfl) (d := (Rows.laid_unicode_utf8_first : DataW Unit)) (k := .u8) (n := 256) (g := 3) (t := 121) (e := 5) (by kernel_rfl) (by kernel_rfl) (by kernel_rfl) (by kernel_rfl) (by kernel_rfl) (by kernel_rfl))) hmx
  have hg : Globs (gl mx) (fun _ => none) W := Globs.add hg0 (laid_pairs hL' (List.mem_of_getElem? (i := 0) rfl) (d := (Rows.laid_unicode_utf8_acceptRanges : DataW Unit)) (k := .u8) (n := 16) (g := 4) (t := 171) (e := 170) (e1 := 5) (f0 := { name := "lo", type := 5, offset := 0, embedded := false, tag := "", pkgPath := "unicode/utf8", byteOffset := 0 }) (f1 := { name := "hi", type := 5, offset := 1, embedded := false, tag := "", pkgPath := "unicode/utf8", byteOffset := 1 }) (by kernel_rfl) (by kernel_rfl) (by kernel_rfl) (by kernel_rfl) (by kernel_rfl) (by kernel_rfl) (by kernel_rfl) (by kernel_rfl) rfl rfl (by kernel_rfl) (by kernel_rfl) (by kernel_rfl))
  have hval : ∀ (j : Nat) t v, Tryd.f11.params[j]? = some t → args[j]? = some v → Value.okWide Tryd.prog W .any base t v := hval0
  have hW' := hW
  obtain ⟨p, q, hA0, hV, rfl, hfz, hnd⟩ := hW
  have hA : DataW.TrodAll enc Tryd.prog W 0 (fun _ => true) true Tryd.f11.params.toList args.toList ds p := hA0
  rw [Tryd.params11] at hA hval
  obtain ⟨v0, d0, rfl, rfl, h0⟩ := trodAll_one hA
  obtain ⟨rfl, rfl⟩ := trodVars_none hV
  simp only [List.append_nil] at hW'
  obtain ⟨a, rfl, has⟩ := str_arg (hval 0 9 v0 rfl rfl)
  refine (walk mx a has W hg).mono fun e W' ⟨he, hb⟩ => ?_
  subst he
  refine ⟨_, rfl, post_true laidOut hW' hb rfl ?_ rfl Tryd.underlying4 rfl rfl rfl⟩
  rw [Tryd.params11]
  intro t ht
  simp at ht; subst ht
  exact ⟨by kernel_rfl, of_decide_eq_true (by kernel_rfl)⟩
theorem k_inPlace : (Rows.classifyAnewRow.inPlace == Tryd.prog.inPlace 11) = true := by kernel_rfl
theorem k_unfollowed : (Rows.classifyAnewRow.unfollowed == Tryd.prog.unfollowed 11) = true := by kernel_rfl
theorem k_recurses : (Rows.classifyAnewRow.recurses == Tryd.prog.recurses 11) = true := by kernel_rfl
theorem k_named : (Rows.classifyAnewRow.named == Tryd.prog.varsNamed 11) = true := by kernel_rfl
theorem closed : joinedFacts Tryd.prog 11 Tryd.f11 Rows.classifyAnewSpec Rows.classifyAnewRow = true := by
  unfold joinedFacts
  rw [k_inPlace, k_unfollowed, k_recurses, k_named]
  kernel_rfl


theorem over : Rows.ClassifyAnewSaid :=
  OpenClaim.holds_of_wide 11 Tryd.f11 rfl rfl rfl rfl rfl rfl rfl ⟨rfl, rfl, rfl, rfl, rfl⟩ rfl rfl rfl rfl rfl (by kernel_rfl) Tryd.func11 closed
    (of_decide_eq_true (by kernel_rfl)) (by unfold Func.isWrapper; first | (rw [if_pos (by decide +kernel)]; kernel_rfl) | (rw [if_neg (by decide +kernel)]; exact ⟨rfl, rfl⟩))
    (fun os started H enc _ => lifted os started H enc)

/-- THE STATEMENT -/
theorem proved : Rows.ClassifyAnewCardSaid :=
  Claim7.holds_tied_plain_at .later [] [.data, .listed, .data, .pinned] true (true, "eee026a2cbb38d31889dcab513ce5fec20ad3f0278a0907df69fc01d6fc162e8") false over (fun _ h => by cases h) (by as_aux_lemma => kernel_rfl) (fun _ h => by cases h) classifyAnew_row_tie rfl ⟨rfl, rfl⟩ (by as_aux_lemma => kernel_rfl) rfl
    (fun f fn hf hfn => by
      obtain rfl : f = 11 := Option.some.inj ((show Tryd.prog.funcNamed "sluicegate/sluicegatelaw20.ClassifyAnew" = some 11 by kernel_rfl).symm.trans hf) |>.symm
      obtain rfl : fn = Tryd.f11 := (Option.some.inj (Tryd.func11.symm.trans hfn)).symm
      exact ⟨by kernel_rfl, fun j t ht => by
        rw [Tryd.params11] at ht
        have hm : t ∈ [9] := by simpa using Array.mem_of_getElem? ht
        have hall : ([9].all fun u => !Tryd.prog.wantsStandIn u) = true := by kernel_rfl
        exact (show Tryd.prog.wantsStandIn t = false by simpa using List.all_eq_true.1 hall t hm)⟩)
    (by as_aux_lemma => kernel_rfl)
#print axioms proved
end Go.Proofs.YtkibhdbmamfjcaaDoor.classifyAnew
