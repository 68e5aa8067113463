/-
  DigestNames: the worked examples of the chapter on digests come out as they are written. The law is run by the machine of LxA to LxC; LxX shows that the model does what that machine does; the row's card is closed by the builder.
-/
import Derived.Test.YtkibhdbmamfjcaaDoorRows
import Derived.Test.YtkibhdbmamfjcaaDoorTie
import Derived.Test.YtkibhdbmamfjcaaDoorCards
import Derived.Test.YtkibhdbmamfjcaaDoorLyI
import Derived.SevenTiedAt
import Derived.Stop.Joined
namespace Go.Proofs.YtkibhdbmamfjcaaDoor.digestNames
open Go.Proofs Go.Shelf Go.ChangeShapes Go.WideShapes Go.ChangeAt Go.RowKit Go.Lx
set_option linter.unusedVariables false

theorem own : ownKnob Tryd.prog.godebug = none := by kernel_rfl
theorem laidOut : laidOutB Tryd.prog = true := by kernel_rfl
theorem mixed : Tryd.prog.follows .mixedOrders = true := Checked.mixed Tryd.checked

def cfg0 (P : Program) : Cfg := { P := P, lf := 100000, gl := .leaf, sum := fun _ => none }

def ρI : Go.Shelf.Ren := ⟨fun n => match n with | 217 => 113 | 219 => 114 | 224 => 138 | 225 => 137 | 266 => 136 | 267 => 139 | 314 => 151 | _ => 0, fun n => match n with | 3 => 3 | 4 => 4 | 5 => 5 | 9 => 9 | 46 => 71 | 51 => 135 | 146 => 167 | _ => 0, fun n => match n with | 1 => 2 | _ => 0⟩

theorem layI : Lays.n219 Tryd.prog ρI where
  mixed := mixed
  f217 := by kernel_rfl
  f219 := by kernel_rfl
  f224 := by kernel_rfl
  f225 := by kernel_rfl
  f266 := by kernel_rfl
  f267 := by kernel_rfl
  f314 := by kernel_rfl
  t3 := by kernel_rfl
  a3 := fun w => by kernel_rfl
  z3 := fun w => by kernel_rfl
  v3 := fun w => by kernel_rfl
  t4 := by kernel_rfl
  a4 := fun w => by kernel_rfl
  z4 := fun w => by kernel_rfl
  v4 := fun w => by kernel_rfl
  t5 := by kernel_rfl
  a5 := fun w => by kernel_rfl
  z5 := fun w => by kernel_rfl
  v5 := fun w => by kernel_rfl
  t9 := by kernel_rfl
  a9 := fun w => by kernel_rfl
  z9 := fun w => by kernel_rfl
  v9 := fun w => by kernel_rfl
  t46 := by kernel_rfl
  a46 := fun w => by kernel_rfl
  z46 := fun w => by kernel_rfl
  v46 := fun w => by kernel_rfl
  t51 := by kernel_rfl
  a51 := fun w => by kernel_rfl
  z51 := fun w => by kernel_rfl
  v51 := fun w => by kernel_rfl
  t146 := by kernel_rfl
  a146 := fun w => by kernel_rfl
  z146 := fun w => by kernel_rfl
  v146 := fun w => by kernel_rfl
  g1 := by kernel_rfl

theorem fI219 : ρI.f 219 = 114 := by kernel_rfl
theorem eI : Go.Proofs.Enters Tryd.prog (ρI.f 219) := Go.Proofs.enters_of Tryd.func114 (by kernel_rfl) (by first | rfl | kernel_rfl)

def ρG : Go.Shelf.Ren := ⟨fun n => match n with | 241 => 135 | 277 => 150 | _ => 0, fun n => match n with | 0 => 0 | 3 => 3 | 5 => 5 | 37 => 41 | 70 => 86 | 72 => 88 | _ => 0, fun n => n⟩

theorem layG : Lays.n241 Tryd.prog ρG where
  mixed := mixed
  f241 := by kernel_rfl
  f277 := by kernel_rfl
  t0 := by kernel_rfl
  a0 := fun w => by kernel_rfl
  z0 := fun w => by kernel_rfl
  v0 := fun w => by kernel_rfl
  t3 := by kernel_rfl
  a3 := fun w => by kernel_rfl
  z3 := fun w => by kernel_rfl
  v3 := fun w => by kernel_rfl
  t37 := by kernel_rfl
  a37 := fun w => by kernel_rfl
  z37 := fun w => by kernel_rfl
  v37 := fun w => by kernel_rfl
  t70 := by kernel_rfl
  a70 := fun w => by kernel_rfl
  z70 := fun w => by kernel_rfl
  v70 := fun w => by kernel_rfl
  t72 := by kernel_rfl
  a72 := fun w => by kernel_rfl
  z72 := fun w => by kernel_rfl
  v72 := fun w => by kernel_rfl

theorem xG : Builder.Extra Tryd.prog ρG where
  sizeBuilder := by kernel_rfl
  liesBuilder := by kernel_rfl
  t5 := by kernel_rfl
  a5 := fun w => by kernel_rfl
  z5 := fun w => by kernel_rfl
  v5 := fun w => by kernel_rfl
  infoByte := by kernel_rfl
  cellsByte := by kernel_rfl
  sizeByte := by kernel_rfl
  neB5 := by decide

theorem fG241 : ρG.f 241 = 135 := by kernel_rfl
theorem tG5 : ρG.t 5 = 5 := by kernel_rfl
theorem eG : Go.Proofs.Enters Tryd.prog (ρG.f 241) := Go.Proofs.enters_of Tryd.func135 (by kernel_rfl) (by first | rfl | kernel_rfl)

noncomputable def gl (mx : Int) : T (List V) := ((T.leaf).set 0 (some ((listedInts (Rows.laid_strings_asciiSpace : DataW Unit)).map (V.int .u8)))).set 2 (some [.int .i64 mx])
noncomputable def extsM (P : Program) : List (FuncId × (List V → M V)) := [(136, pureM idxStr), (141, pureM sameV), (144, pureM cntStr), (114, pureM index2), (135, growB 5)]
noncomputable def cfgM (P : Program) (mx : Int) : Cfg := { P := P, lf := 100000, gl := gl mx, sum := sums (extsM P) }

theorem extsM_ok (mx : Int) : SumOk (cfgM Tryd.prog mx) := by
  refine sumOk_list _ (extsM Tryd.prog) rfl ?_
  intro p hp
  simp only [extsM, List.mem_cons, List.mem_nil_iff, or_false] at hp
  rcases hp with rfl | rfl | rfl | rfl | rfl
  · exact extSum_pure Tryd.func136 (by kernel_rfl) (by kernel_rfl) (by kernel_rfl) (by kernel_rfl) (e := Extern.BytealgIndexByte.indexByte) idxStr_ok
  · exact extSum_pure Tryd.func141 (by kernel_rfl) (by kernel_rfl) (by kernel_rfl) (by kernel_rfl) (e := Extern.AbiNoEscape.same) sameV_ok
  · exact extSum_pure Tryd.func144 (by kernel_rfl) (by kernel_rfl) (by kernel_rfl) (by kernel_rfl) (e := Extern.BytealgCount.count) cntStr_ok
  · have h := extSum_index (P := Tryd.prog) (ρ := ρI) (gl := gl mx) (m := mx) layI (by kernel_rfl) eI
    rw [fI219] at h
    exact h
  · have h := extSum_grow (P := Tryd.prog) (ρ := ρG) (gl := gl mx) layG xG eG
    rw [fG241, tG5] at h
    exact h
def memo0_0 : Memo := ⟨[.str [83, 69, 76, 69, 67, 84, 32, 42, 32, 70, 82, 79, 77, 32, 116, 32, 87, 72, 69, 82, 69, 32, 97, 61, 49, 32, 65, 78, 68, 32, 98, 61, 39, 120, 39]], 12, [.int .i64 1, .str [115, 101, 108, 101, 99, 116], .int .i64 0, .int .i64 5, .str [42], .int .i64 7, .int .i64 1, .str [102, 114, 111, 109], .int .i64 9, .int .i64 1, .str [116], .int .i64 14, .int .i64 1, .str [119, 104, 101, 114, 101], .int .i64 16, .int .i64 1, .str [97], .int .i64 22, .int .i64 5, .str [61], .int .i64 23, .int .i64 4, .str [49], .int .i64 24, .int .i64 1, .str [97, 110, 100], .int .i64 26, .int .i64 1, .str [98], .int .i64 30, .int .i64 5, .str [61], .int .i64 31, .int .i64 3, .str [120], .int .i64 32], 36, [.agg [.int .i64 0, .int .i64 0]]⟩
theorem memo0_0_ok (mx : Int) : MemoOk (cfgM Tryd.prog mx) 99 14 memo0_0 := memoOk_row (k := 191) (by decide) rfl rfl rfl (by kernel_rfl)
def memo0_1 : Memo := ⟨[.str [105, 110, 115, 101, 114, 116, 32, 105, 110, 116, 111, 32, 116, 32, 118, 97, 108, 117, 101, 115, 32, 40, 49, 44, 45, 50, 41, 44, 40, 51, 44, 52, 41, 32, 59]], 17, [.int .i64 1, .str [105, 110, 115, 101, 114, 116], .int .i64 0, .int .i64 1, .str [105, 110, 116, 111], .int .i64 7, .int .i64 1, .str [116], .int .i64 12, .int .i64 1, .str [118, 97, 108, 117, 101, 115], .int .i64 14, .int .i64 5, .str [40], .int .i64 21, .int .i64 4, .str [49], .int .i64 22, .int .i64 5, .str [44], .int .i64 23, .int .i64 5, .str [45], .int .i64 24, .int .i64 4, .str [50], .int .i64 25, .int .i64 5, .str [41], .int .i64 26, .int .i64 5, .str [44], .int .i64 27, .int .i64 5, .str [40], .int .i64 28, .int .i64 4, .str [51], .int .i64 29, .int .i64 5, .str [44], .int .i64 30, .int .i64 4, .str [52], .int .i64 31, .int .i64 5, .str [41], .int .i64 32, .int .i64 5, .str [59], .int .i64 34], 36, [.agg [.int .i64 0, .int .i64 0]]⟩
theorem memo0_1_ok (mx : Int) : MemoOk (cfgM Tryd.prog mx) 99 14 memo0_1 := memoOk_row (k := 307) (by decide) rfl rfl rfl (by kernel_rfl)
def memo0_2 : Memo := ⟨[.str [115, 101, 108, 101, 99, 116, 32, 45, 49, 44, 32, 97, 45, 49, 44, 32, 40, 45, 49, 44, 98, 41, 44, 32, 105, 110, 32, 40, 49, 44, 50, 44, 51, 41]], 23, [.int .i64 1, .str [115, 101, 108, 101, 99, 116], .int .i64 0, .int .i64 5, .str [45], .int .i64 7, .int .i64 4, .str [49], .int .i64 8, .int .i64 5, .str [44], .int .i64 9, .int .i64 1, .str [97], .int .i64 11, .int .i64 5, .str [45], .int .i64 12, .int .i64 4, .str [49], .int .i64 13, .int .i64 5, .str [44], .int .i64 14, .int .i64 5, .str [40], .int .i64 16, .int .i64 5, .str [45], .int .i64 17, .int .i64 4, .str [49], .int .i64 18, .int .i64 5, .str [44], .int .i64 19, .int .i64 1, .str [98], .int .i64 20, .int .i64 5, .str [41], .int .i64 21, .int .i64 5, .str [44], .int .i64 22, .int .i64 1, .str [105, 110], .int .i64 24, .int .i64 5, .str [40], .int .i64 27, .int .i64 4, .str [49], .int .i64 28, .int .i64 5, .str [44], .int .i64 29, .int .i64 4, .str [50], .int .i64 30, .int .i64 5, .str [44], .int .i64 31, .int .i64 4, .str [51], .int .i64 32, .int .i64 5, .str [41], .int .i64 33], 36, [.agg [.int .i64 0, .int .i64 0]]⟩
theorem memo0_2_ok (mx : Int) : MemoOk (cfgM Tryd.prog mx) 99 14 memo0_2 := memoOk_row (k := 423) (by decide) rfl rfl rfl (by kernel_rfl)
def memo0_3 : Memo := ⟨[.str [115, 101, 108, 101, 99, 116, 32, 47, 42, 43, 32, 120, 32, 42, 47, 32, 64, 97, 44, 32, 96, 66, 96]], 5, [.int .i64 1, .str [115, 101, 108, 101, 99, 116], .int .i64 0, .int .i64 9, .str [47, 42, 43, 32, 120, 32, 42, 47], .int .i64 7, .int .i64 6, .str [97], .int .i64 16, .int .i64 5, .str [44], .int .i64 18, .int .i64 2, .str [66], .int .i64 20], 36, [.agg [.int .i64 0, .int .i64 0]]⟩
theorem memo0_3_ok (mx : Int) : MemoOk (cfgM Tryd.prog mx) 99 14 memo0_3 := memoOk_row (k := 88) (by decide) rfl rfl rfl (by kernel_rfl)
theorem eM0 : Go.Proofs.Enters Tryd.prog 14 := Go.Proofs.enters_of Tryd.func14 (by kernel_rfl) (by first | rfl | kernel_rfl)
noncomputable def exts (P : Program) : List (FuncId × (List V → M V)) := [(136, pureM idxStr), (141, pureM sameV), (144, pureM cntStr), (114, pureM index2), (135, growB 5), (14, memoM [memo0_0, memo0_1, memo0_2, memo0_3])]
noncomputable def cfg (P : Program) (mx : Int) : Cfg := { P := P, lf := 100000, gl := gl mx, sum := sums (exts P) }

theorem exts_ok (mx : Int) : SumOk (cfg Tryd.prog mx) := by
  refine sumOk_list _ (exts Tryd.prog) rfl ?_
  intro p hp
  simp only [exts, List.mem_cons, List.mem_nil_iff, or_false] at hp
  rcases hp with rfl | rfl | rfl | rfl | rfl | rfl
  · exact extSum_pure Tryd.func136 (by kernel_rfl) (by kernel_rfl) (by kernel_rfl) (by kernel_rfl) (e := Extern.BytealgIndexByte.indexByte) idxStr_ok
  · exact extSum_pure Tryd.func141 (by kernel_rfl) (by kernel_rfl) (by kernel_rfl) (by kernel_rfl) (e := Extern.AbiNoEscape.same) sameV_ok
  · exact extSum_pure Tryd.func144 (by kernel_rfl) (by kernel_rfl) (by kernel_rfl) (by kernel_rfl) (e := Extern.BytealgCount.count) cntStr_ok
  · have h := extSum_index (P := Tryd.prog) (ρ := ρI) (gl := gl mx) (m := mx) layI (by kernel_rfl) eI
    rw [fI219] at h
    exact h
  · have h := extSum_grow (P := Tryd.prog) (ρ := ρG) (gl := gl mx) layG xG eG
    rw [fG241, tG5] at h
    exact h
  · exact extSum_memo (cfgM Tryd.prog mx) mixed (extsM_ok mx) rfl eM0 rfl (fun m hm => by
      simp only [List.mem_cons, List.mem_nil_iff, or_false] at hm
      rcases hm with rfl | rfl | rfl | rfl
      · exact ⟨99, memo0_0_ok mx⟩
      · exact ⟨99, memo0_1_ok mx⟩
      · exact ⟨99, memo0_2_ok mx⟩
      · exact ⟨99, memo0_3_ok mx⟩)

theorem run (mx : Int) : yes (callM (cfg Tryd.prog mx) 100 6 [] st0) = true := by kernel_rfl

theorem walk (mx : Int) (W : World) (hg : Globs (gl mx) (fun _ => none) W) : Calls Tryd.prog 6 #[] W fun e W' => e = .returned (.bool true) ∧ Below W.heap.size W W' :=
  law_calls_g (cfg Tryd.prog mx) mixed (exts_ok mx) (run mx) rfl (VsRel.nil (μ := fun _ => none) (ν := fun _ => undef)) W hg

def laidL : List (String × DataW Unit) := [("unicode/utf8.acceptRanges", Rows.laid_unicode_utf8_acceptRanges), ("unicode.White_Space", Rows.laid_unicode_White_Space), ("strings.asciiSpace", Rows.laid_strings_asciiSpace), ("unicode/utf8.first", Rows.laid_unicode_utf8_first)]

set_option maxRecDepth 100000 in
theorem lifted (os : Os) (started : os.Started) (H : Type) (enc : TypeId × Value → H) :
    ReturnsInHanded {} Tryd.checked os 6 .any (fun w args => (Rows.digestNamesSpec.pre enc Tryd.prog Tryd.f6 Rows.digestNamesRow.domain false w args ∧ laidMetH Tryd.prog laidL w) ∧ sizedMet enc Tryd.prog Tryd.f6 (OpenSpec.ofChange Rows.digestNamesSpec) false w args)
      (Rows.digestNamesSpec.post enc Tryd.prog Tryd.f6 false true false false) := by
  refine returns_shaped (C := Tryd.checked) (X := fun w _ => laidMetH Tryd.prog laidL w) (fun _ _ _ hh h => h.of_heap hh) own started (by kernel_rfl) Tryd.func6
    (ChangeSpec.witness_shaped (enc := enc) (C := Tryd.checked) (os := os) (X := fun w _ => laidMetH Tryd.prog laidL w) false (World.laidAll Tryd.prog os laidL) #[] 8 (World.laidAll_os _ _ _)
      (World.shaped_of_ZipB (by kernel_rfl) (by kernel_rfl)) (by kernel_rfl) (by kernel_rfl) (by kernel_rfl)
      (by rw [MakeChecks.laidMetH_plain _ _ _ (by kernel_rfl)]; exact laidMet_laidAll _ (by kernel_rfl) (by kernel_rfl))) ?_
  intro W base args ds gs before hsh hval0 hW hL
  have hL' := hL
  rw [MakeChecks.laidMetH_plain _ _ _ (by kernel_rfl)] at hL'
  obtain ⟨mx, hmx⟩ := shaped_int hsh (g := 2) (zero := #[.int .i64 0]) (t := 3) (k := .i64) (of_decide_eq_true (by kernel_rfl)) (by kernel_rfl) rfl (by kernel_rfl) (by kernel_rfl) (by kernel_rfl)
  have hg : Globs (gl mx) (fun _ => none) W := Globs.add (Globs.add (Globs.none) (laid_ints hL' (List.mem_of_getElem? (i := 2) rfl) (d := (Rows.laid_strings_asciiSpace : DataW Unit)) (k := .u8) (n := 256) (g := 0) (t := 121) (e := 5) (by kernel_rfl) (by kernel_rfl) (by kernel_rfl) (by kernel_rfl) (by kernel_rfl) (by kernel_rfl))) hmx
  have hval : ∀ (j : Nat) t v, Tryd.f6.params[j]? = some t → args[j]? = some v → Value.okWide Tryd.prog W .any base t v := hval0
  have hW' := hW
  obtain ⟨p, q, hA0, hV, rfl, hfz, hnd⟩ := hW
  have hA : DataW.TrodAll enc Tryd.prog W 0 (fun _ => true) true Tryd.f6.params.toList args.toList ds p := hA0
  rw [Tryd.params6] at hA hval
  obtain ⟨rfl, rfl, rfl⟩ := trodAll_none hA
  obtain ⟨rfl, rfl⟩ := trodVars_none hV
  simp only [List.append_nil] at hW'
  refine (walk mx W hg).mono fun e W' ⟨he, hb⟩ => ?_
  subst he
  refine ⟨_, rfl, post_true laidOut hW' hb rfl ?_ rfl Tryd.underlying4 rfl rfl rfl⟩
  rw [Tryd.params6]
  intro t ht
  simp at ht
theorem k_inPlace : (Rows.digestNamesRow.inPlace == Tryd.prog.inPlace 6) = true := by kernel_rfl
theorem k_unfollowed : (Rows.digestNamesRow.unfollowed == Tryd.prog.unfollowed 6) = true := by kernel_rfl
theorem k_recurses : (Rows.digestNamesRow.recurses == Tryd.prog.recurses 6) = true := by kernel_rfl
theorem k_named : (Rows.digestNamesRow.named == Tryd.prog.varsNamed 6) = true := by kernel_rfl
theorem closed : joinedFacts Tryd.prog 6 Tryd.f6 Rows.digestNamesSpec Rows.digestNamesRow = true := by
  unfold joinedFacts
  rw [k_inPlace, k_unfollowed, k_recurses, k_named]
  kernel_rfl


theorem over : Rows.DigestNamesSaid :=
  OpenClaim.holds_of_wide 6 Tryd.f6 rfl rfl rfl rfl rfl rfl rfl ⟨rfl, rfl, rfl, rfl, rfl⟩ rfl rfl rfl rfl rfl (by kernel_rfl) Tryd.func6 closed
    (of_decide_eq_true (by kernel_rfl)) (by unfold Func.isWrapper; first | (rw [if_pos (by decide +kernel)]; kernel_rfl) | (rw [if_neg (by decide +kernel)]; exact ⟨rfl, rfl⟩))
    (fun os started H enc _ => lifted os started H enc)

/-- THE STATEMENT -/
theorem proved : Rows.DigestNamesCardSaid :=
  Claim7.holds_tied_plain_at .later [] [.data, .listed, .data, .pinned] true (true, "eee026a2cbb38d31889dcab513ce5fec20ad3f0278a0907df69fc01d6fc162e8") false over (fun _ h => by cases h) (by as_aux_lemma => kernel_rfl) (fun _ h => by cases h) digestNames_row_tie rfl ⟨rfl, rfl⟩ (by as_aux_lemma => kernel_rfl) rfl
    (fun f fn hf hfn => by
      obtain rfl : f = 6 := Option.some.inj ((show Tryd.prog.funcNamed "sluicegate/sluicegatelaw21.DigestNames" = some 6 by kernel_rfl).symm.trans hf) |>.symm
      obtain rfl : fn = Tryd.f6 := (Option.some.inj (Tryd.func6.symm.trans hfn)).symm
      exact ⟨by kernel_rfl, fun j t ht => by
        rw [Tryd.params6] at ht
        simp at ht⟩)
    (by as_aux_lemma => kernel_rfl)
#print axioms proved
end Go.Proofs.YtkibhdbmamfjcaaDoor.digestNames
