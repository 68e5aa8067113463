/-
  ClassifyNames: the worked examples of the chapter on what statements do come out as they are written: a closed statement; its condition is what the row lists (tables of Go's library as the program lays them), which the card ties; whatever the variable MaxLen of internal/bytealg holds. The law is run by the machine of LxA to LxC; LxX shows that the model does what that machine does; the row's card is closed by the builder.
-/
import Derived.Test.YtkibhdbmamfjcaaDoorRows
import Derived.Test.YtkibhdbmamfjcaaDoorTie
import Derived.Test.YtkibhdbmamfjcaaDoorCards
import Derived.Test.YtkibhdbmamfjcaaDoorLyH
import Derived.SevenTiedAt
import Derived.Stop.Joined
namespace Go.Proofs.YtkibhdbmamfjcaaDoor.classifyNames
open Go.Proofs Go.Shelf Go.ChangeShapes Go.WideShapes Go.ChangeAt Go.RowKit Go.Lx
set_option linter.unusedVariables false

theorem own : ownKnob Tryd.prog.godebug = none := by kernel_rfl
theorem laidOut : laidOutB Tryd.prog = true := by kernel_rfl
theorem mixed : Tryd.prog.follows .mixedOrders = true := Checked.mixed Tryd.checked

def cfg0 (P : Program) : Cfg := { P := P, lf := 100000, gl := .leaf, sum := fun _ => none }

def ρI : Go.Shelf.Ren := ⟨fun n => match n with | 217 => 113 | 219 => 114 | 224 => 138 | 225 => 137 | 266 => 136 | 267 => 139 | 314 => 151 | _ => 0, fun n => match n with | 3 => 3 | 4 => 4 | 5 => 5 | 9 => 9 | 46 => 71 | 51 => 135 | 146 => 167 | _ => 0, fun n => match n with | 1 => 2 | _ => 0⟩

theorem layI : Lays.n219 Tryd.prog ρI where
  mixed := mixed
  f217 := by kernel_rfl
  f219 := by kernel_rfl
  f224 := by kernel_rfl
  f225 := by kernel_rfl
  f266 := by kernel_rfl
  f267 := by kernel_rfl
  f314 := by kernel_rfl
  t3 := by kernel_rfl
  a3 := fun w => by kernel_rfl
  z3 := fun w => by kernel_rfl
  v3 := fun w => by kernel_rfl
  t4 := by kernel_rfl
  a4 := fun w => by kernel_rfl
  z4 := fun w => by kernel_rfl
  v4 := fun w => by kernel_rfl
  t5 := by kernel_rfl
  a5 := fun w => by kernel_rfl
  z5 := fun w => by kernel_rfl
  v5 := fun w => by kernel_rfl
  t9 := by kernel_rfl
  a9 := fun w => by kernel_rfl
  z9 := fun w => by kernel_rfl
  v9 := fun w => by kernel_rfl
  t46 := by kernel_rfl
  a46 := fun w => by kernel_rfl
  z46 := fun w => by kernel_rfl
  v46 := fun w => by kernel_rfl
  t51 := by kernel_rfl
  a51 := fun w => by kernel_rfl
  z51 := fun w => by kernel_rfl
  v51 := fun w => by kernel_rfl
  t146 := by kernel_rfl
  a146 := fun w => by kernel_rfl
  z146 := fun w => by kernel_rfl
  v146 := fun w => by kernel_rfl
  g1 := by kernel_rfl

theorem fI219 : ρI.f 219 = 114 := by kernel_rfl
theorem eI : Go.Proofs.Enters Tryd.prog (ρI.f 219) := Go.Proofs.enters_of Tryd.func114 (by kernel_rfl) (by first | rfl | kernel_rfl)

noncomputable def gl (mx : Int) : T (List V) := ((T.leaf).set 0 (some ((listedInts (Rows.laid_strings_asciiSpace : DataW Unit)).map (V.int .u8)))).set 2 (some [.int .i64 mx])
noncomputable def extsM (P : Program) : List (FuncId × (List V → M V)) := [(136, pureM idxStr), (141, pureM sameV), (114, pureM index2)]
noncomputable def cfgM (P : Program) (mx : Int) : Cfg := { P := P, lf := 100000, gl := gl mx, sum := sums (extsM P) }

theorem extsM_ok (mx : Int) : SumOk (cfgM Tryd.prog mx) := by
  refine sumOk_list _ (extsM Tryd.prog) rfl ?_
  intro p hp
  simp only [extsM, List.mem_cons, List.mem_nil_iff, or_false] at hp
  rcases hp with rfl | rfl | rfl
  · exact extSum_pure Tryd.func136 (by kernel_rfl) (by kernel_rfl) (by kernel_rfl) (by kernel_rfl) (e := Extern.BytealgIndexByte.indexByte) idxStr_ok
  · exact extSum_pure Tryd.func141 (by kernel_rfl) (by kernel_rfl) (by kernel_rfl) (by kernel_rfl) (e := Extern.AbiNoEscape.same) sameV_ok
  · have h := extSum_index (P := Tryd.prog) (ρ := ρI) (gl := gl mx) (m := mx) layI (by kernel_rfl) eI
    rw [fI219] at h
    exact h
def memo0_0 : Memo := ⟨[.str [83, 69, 76, 69, 67, 84, 32, 49, 59, 32, 115, 101, 116, 32, 115, 101, 115, 115, 105, 111, 110, 32, 115, 113, 108, 95, 109, 111, 100, 101, 61, 39, 120, 39]], 2, [.int .i64 1, .str [], .str [], .int .i64 5, .str [115, 113, 108, 95, 109, 111, 100, 101], .str [120]], 45, [.agg [.int .i64 0, .int .i64 0]]⟩
theorem memo0_0_ok (mx : Int) : MemoOk (cfgM Tryd.prog mx) 99 30 memo0_0 := memoOk_row (k := 353) (by decide) rfl rfl rfl (by kernel_rfl)
def memo0_1 : Memo := ⟨[.str [83, 69, 84, 32, 64, 97, 32, 61, 32, 45, 53, 59, 32, 115, 101, 116, 32, 97, 32, 61, 32, 49, 44, 32, 98, 32, 61, 32, 50, 59, 32, 83, 69, 84, 32, 97, 117, 116, 111, 99, 111, 109, 109, 105, 116, 61, 48]], 3, [.int .i64 7, .str [97], .str [45, 53], .int .i64 13, .str [], .str [], .int .i64 13, .str [], .str []], 45, [.agg [.int .i64 0, .int .i64 0]]⟩
theorem memo0_1_ok (mx : Int) : MemoOk (cfgM Tryd.prog mx) 99 30 memo0_1 := memoOk_row (k := 697) (by decide) rfl rfl rfl (by kernel_rfl)
def memo0_2 : Memo := ⟨[.str [99, 114, 101, 97, 116, 101, 32, 116, 101, 109, 112, 111, 114, 97, 114, 121, 32, 116, 97, 98, 108, 101, 32, 115, 46, 116, 32, 40, 97, 32, 105, 110, 116, 41, 59, 32, 100, 114, 111, 112, 32, 116, 97, 98, 108, 101, 32, 116]], 2, [.int .i64 8, .str [115, 46, 116], .str [], .int .i64 2, .str [], .str []], 45, [.agg [.int .i64 0, .int .i64 0]]⟩
theorem memo0_2_ok (mx : Int) : MemoOk (cfgM Tryd.prog mx) 99 30 memo0_2 := memoOk_row (k := 439) (by decide) rfl rfl rfl (by kernel_rfl)
def memo0_3 : Memo := ⟨[.str [115, 101, 108, 101, 99, 116, 32, 103, 101, 116, 95, 108, 111, 99, 107, 40, 39, 108, 39, 44, 32, 53, 41, 59, 32, 115, 101, 108, 101, 99, 116, 32, 103, 101, 116, 95, 108, 111, 99, 107, 40, 39, 108, 39, 44, 32, 53, 41, 44, 32, 49]], 2, [.int .i64 10, .str [108], .str [], .int .i64 13, .str [], .str []], 45, [.agg [.int .i64 0, .int .i64 0]]⟩
theorem memo0_3_ok (mx : Int) : MemoOk (cfgM Tryd.prog mx) 99 30 memo0_3 := memoOk_row (k := 420) (by decide) rfl rfl rfl (by kernel_rfl)
def memo0_4 : Memo := ⟨[.str [47, 42, 33, 52, 48, 49, 48, 49, 32, 83, 69, 84, 32, 120, 61, 49, 42, 47, 59, 32, 115, 101, 108, 101, 99, 116, 32, 108, 97, 115, 116, 95, 105, 110, 115, 101, 114, 116, 95, 105, 100, 40, 41, 59, 32, 115, 101, 108, 101, 99, 116, 32, 96, 119, 97, 114, 110, 105, 110, 103, 115, 96]], 3, [.int .i64 13, .str [], .str [], .int .i64 13, .str [], .str [], .int .i64 1, .str [], .str []], 45, [.agg [.int .i64 0, .int .i64 0]]⟩
theorem memo0_4_ok (mx : Int) : MemoOk (cfgM Tryd.prog mx) 99 30 memo0_4 := memoOk_row (k := 328) (by decide) rfl rfl rfl (by kernel_rfl)
def memo0_5 : Memo := ⟨[.str [83, 84, 65, 82, 84, 32, 84, 82, 65, 78, 83, 65, 67, 84, 73, 79, 78, 32, 82, 69, 65, 68, 32, 79, 78, 76, 89, 59, 32, 114, 111, 108, 108, 98, 97, 99, 107, 32, 116, 111, 32, 112, 59, 32, 115, 97, 118, 101, 112, 111, 105, 110, 116, 32, 112, 59, 32, 120, 97, 32, 115, 116, 97, 114, 116, 32, 39, 120, 39]], 4, [.int .i64 3, .str [], .str [], .int .i64 1, .str [], .str [], .int .i64 1, .str [], .str [], .int .i64 13, .str [], .str []], 45, [.agg [.int .i64 0, .int .i64 0]]⟩
theorem memo0_5_ok (mx : Int) : MemoOk (cfgM Tryd.prog mx) 99 30 memo0_5 := memoOk_row (k := 597) (by decide) rfl rfl rfl (by kernel_rfl)
theorem eM0 : Go.Proofs.Enters Tryd.prog 30 := Go.Proofs.enters_of Tryd.func30 (by kernel_rfl) (by first | rfl | kernel_rfl)
noncomputable def exts (P : Program) : List (FuncId × (List V → M V)) := [(136, pureM idxStr), (141, pureM sameV), (114, pureM index2), (30, memoM [memo0_0, memo0_1, memo0_2, memo0_3, memo0_4, memo0_5])]
noncomputable def cfg (P : Program) (mx : Int) : Cfg := { P := P, lf := 100000, gl := gl mx, sum := sums (exts P) }

theorem exts_ok (mx : Int) : SumOk (cfg Tryd.prog mx) := by
  refine sumOk_list _ (exts Tryd.prog) rfl ?_
  intro p hp
  simp only [exts, List.mem_cons, List.mem_nil_iff, or_false] at hp
  rcases hp with rfl | rfl | rfl | rfl
  · exact extSum_pure Tryd.func136 (by kernel_rfl) (by kernel_rfl) (by kernel_rfl) (by kernel_rfl) (e := Extern.BytealgIndexByte.indexByte) idxStr_ok
  · exact extSum_pure Tryd.func141 (by kernel_rfl) (by kernel_rfl) (by kernel_rfl) (by kernel_rfl) (e := Extern.AbiNoEscape.same) sameV_ok
  · have h := extSum_index (P := Tryd.prog) (ρ := ρI) (gl := gl mx) (m := mx) layI (by kernel_rfl) eI
    rw [fI219] at h
    exact h
  · exact extSum_memo (cfgM Tryd.prog mx) mixed (extsM_ok mx) rfl eM0 rfl (fun m hm => by
      simp only [List.mem_cons, List.mem_nil_iff, or_false] at hm
      rcases hm with rfl | rfl | rfl | rfl | rfl | rfl
      · exact ⟨99, memo0_0_ok mx⟩
      · exact ⟨99, memo0_1_ok mx⟩
      · exact ⟨99, memo0_2_ok mx⟩
      · exact ⟨99, memo0_3_ok mx⟩
      · exact ⟨99, memo0_4_ok mx⟩
      · exact ⟨99, memo0_5_ok mx⟩)

theorem run (mx : Int) : yes (callM (cfg Tryd.prog mx) 100 10 [] st0) = true := by kernel_rfl

theorem walk (mx : Int) (W : World) (hg : Globs (gl mx) (fun _ => none) W) : Calls Tryd.prog 10 #[] W fun e W' => e = .returned (.bool true) ∧ Below W.heap.size W W' :=
  law_calls_g (cfg Tryd.prog mx) mixed (exts_ok mx) (run mx) rfl (VsRel.nil (μ := fun _ => none) (ν := fun _ => undef)) W hg

def laidL : List (String × DataW Unit) := [("unicode/utf8.acceptRanges", Rows.laid_unicode_utf8_acceptRanges), ("unicode.White_Space", Rows.laid_unicode_White_Space), ("strings.asciiSpace", Rows.laid_strings_asciiSpace), ("unicode/utf8.first", Rows.laid_unicode_utf8_first)]

set_option maxRecDepth 100000 in
theorem lifted (os : Os) (started : os.Started) (H : Type) (enc : TypeId × Value → H) :
    ReturnsInHanded {} Tryd.checked os 10 .any (fun w args => (Rows.classifyNamesSpec.pre enc Tryd.prog Tryd.f10 Rows.classifyNamesRow.domain false w args ∧ laidMetH Tryd.prog laidL w) ∧ sizedMet enc Tryd.prog Tryd.f10 (OpenSpec.ofChange Rows.classifyNamesSpec) false w args)
      (Rows.classifyNamesSpec.post enc Tryd.prog Tryd.f10 false true false false) := by
  refine returns_shaped (C := Tryd.checked) (X := fun w _ => laidMetH Tryd.prog laidL w) (fun _ _ _ hh h => h.of_heap hh) own started (by kernel_rfl) Tryd.func10
    (ChangeSpec.witness_shaped (enc := enc) (C := Tryd.checked) (os := os) (X := fun w _ => laidMetH Tryd.prog laidL w) false (World.laidAll Tryd.prog os laidL) #[] 8 (World.laidAll_os _ _ _)
      (World.shaped_of_ZipB (by kernel_rfl) (by kernel_rfl)) (by kernel_rfl) (by kernel_rfl) (by kernel_rfl)
      (by rw [MakeChecks.laidMetH_plain _ _ _ (by kernel_rfl)]; exact laidMet_laidAll _ (by kernel_rfl) (by kernel_rfl))) ?_
  intro W base args ds gs before hsh hval0 hW hL
  have hL' := hL
  rw [MakeChecks.laidMetH_plain _ _ _ (by kernel_rfl)] at hL'
  obtain ⟨mx, hmx⟩ := shaped_int hsh (g := 2) (zero := #[.int .i64 0]) (t := 3) (k := .i64) (of_decide_eq_true (by kernel_rfl)) (by kernel_rfl) rfl (by kernel_rfl) (by kernel_rfl) (by kernel_rfl)
  have hg : Globs (gl mx) (fun _ => none) W := Globs.add (Globs.add (Globs.none) (laid_ints hL' (List.mem_of_getElem? (i := 2) rfl) (d := (Rows.laid_strings_asciiSpace : DataW Unit)) (k := .u8) (n := 256) (g := 0) (t := 121) (e := 5) (by kernel_rfl) (by kernel_rfl) (by kernel_rfl) (by kernel_rfl) (by kernel_rfl) (by kernel_rfl))) hmx
  have hval : ∀ (j : Nat) t v, Tryd.f10.params[j]? = some t → args[j]? = some v → Value.okWide Tryd.prog W .any base t v := hval0
  have hW' := hW
  obtain ⟨p, q, hA0, hV, rfl, hfz, hnd⟩ := hW
  have hA : DataW.TrodAll enc Tryd.prog W 0 (fun _ => true) true Tryd.f10.params.toList args.toList ds p := hA0
  rw [Tryd.params10] at hA hval
  obtain ⟨rfl, rfl, rfl⟩ := trodAll_none hA
  obtain ⟨rfl, rfl⟩ := trodVars_none hV
  simp only [List.append_nil] at hW'
  refine (walk mx W hg).mono fun e W' ⟨he, hb⟩ => ?_
  subst he
  refine ⟨_, rfl, post_true laidOut hW' hb rfl ?_ rfl Tryd.underlying4 rfl rfl rfl⟩
  rw [Tryd.params10]
  intro t ht
  simp at ht
theorem k_inPlace : (Rows.classifyNamesRow.inPlace == Tryd.prog.inPlace 10) = true := by kernel_rfl
theorem k_unfollowed : (Rows.classifyNamesRow.unfollowed == Tryd.prog.unfollowed 10) = true := by kernel_rfl
theorem k_recurses : (Rows.classifyNamesRow.recurses == Tryd.prog.recurses 10) = true := by kernel_rfl
theorem k_named : (Rows.classifyNamesRow.named == Tryd.prog.varsNamed 10) = true := by kernel_rfl
theorem closed : joinedFacts Tryd.prog 10 Tryd.f10 Rows.classifyNamesSpec Rows.classifyNamesRow = true := by
  unfold joinedFacts
  rw [k_inPlace, k_unfollowed, k_recurses, k_named]
  kernel_rfl


theorem over : Rows.ClassifyNamesSaid :=
  OpenClaim.holds_of_wide 10 Tryd.f10 rfl rfl rfl rfl rfl rfl rfl ⟨rfl, rfl, rfl, rfl, rfl⟩ rfl rfl rfl rfl rfl (by kernel_rfl) Tryd.func10 closed
    (of_decide_eq_true (by kernel_rfl)) (by unfold Func.isWrapper; first | (rw [if_pos (by decide +kernel)]; kernel_rfl) | (rw [if_neg (by decide +kernel)]; exact ⟨rfl, rfl⟩))
    (fun os started H enc _ => lifted os started H enc)

/-- THE STATEMENT -/
theorem proved : Rows.ClassifyNamesCardSaid :=
  Claim7.holds_tied_plain_at .later [] [.data, .listed, .data, .pinned] true (true, "eee026a2cbb38d31889dcab513ce5fec20ad3f0278a0907df69fc01d6fc162e8") false over (fun _ h => by cases h) (by as_aux_lemma => kernel_rfl) (fun _ h => by cases h) classifyNames_row_tie rfl ⟨rfl, rfl⟩ (by as_aux_lemma => kernel_rfl) rfl
    (fun f fn hf hfn => by
      obtain rfl : f = 10 := Option.some.inj ((show Tryd.prog.funcNamed "sluicegate/sluicegatelaw20.ClassifyNames" = some 10 by kernel_rfl).symm.trans hf) |>.symm
      obtain rfl : fn = Tryd.f10 := (Option.some.inj (Tryd.func10.symm.trans hfn)).symm
      exact ⟨by kernel_rfl, fun j t ht => by
        rw [Tryd.params10] at ht
        simp at ht⟩)
    (by as_aux_lemma => kernel_rfl)
#print axioms proved
end Go.Proofs.YtkibhdbmamfjcaaDoor.classifyNames
