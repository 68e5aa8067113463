/-
  EngineNil: an engine that is not there, or that nobody made, refuses every call: for every act; its condition is what the row lists (tables of Go's library as the program lays them), which the card ties. The law is run by the machine of LxA to LxC, its argument not looked into; LxX shows that the model does what that machine does; the row's card is closed by the builder.
-/
import Derived.Test.YtnmfghfegmhcmaaGreatDoorRows
import Derived.Test.YtnmfghfegmhcmaaGreatDoorTie
import Derived.Test.YtnmfghfegmhcmaaGreatDoorCards
import Derived.Test.YtnmfghfegmhcmaaGreatDoorLyF
import Derived.SevenTiedAt
import Derived.Stop.Joined
namespace Go.Proofs.YtnmfghfegmhcmaaGreatDoor.engineNil
open Go.Proofs Go.Shelf Go.ChangeShapes Go.WideShapes Go.ChangeAt Go.RowKit Go.Lx
set_option linter.unusedVariables false

theorem own : ownKnob Tryz.prog.godebug = none := by kernel_rfl
theorem laidOut : laidOutB Tryz.prog = true := by kernel_rfl
theorem mixed : Tryz.prog.follows .mixedOrders = true := Checked.mixed Tryz.checked

def cfg0 (P : Program) : Cfg := { P := P, lf := 100000, gl := .leaf, sum := fun _ => none }

def ρ0 : Go.Shelf.Ren := ⟨fun n => match n with | 6 => 78 | 8 => 107 | 9 => 108 | 10 => 109 | 11 => 134 | _ => 0, fun n => match n with | 0 => 0 | 3 => 124 | 4 => 4 | 23 => 126 | 24 => 129 | 26 => 43 | 28 => 132 | 33 => 167 | _ => 0, fun n => n⟩

theorem lay0 : KeyLay Tryz.prog ρ0 .u32 4 where
  mixed := mixed
  f6 := ⟨ "slices.Sorted[uint32]", by kernel_rfl, by kernel_rfl⟩
  f8 := ⟨ "slices.Collect[uint32]", by kernel_rfl, by kernel_rfl⟩
  f10 := ⟨ "maps.Keys[map[uint32]*sluicegate/api.Stmt,uint32,*sluicegate/api.Stmt]$1", by kernel_rfl, by kernel_rfl⟩
  f11 := ⟨ "slices.AppendSeq[[]uint32,uint32]", by kernel_rfl, by kernel_rfl⟩
  t0 := by kernel_rfl
  a0 := fun w => by kernel_rfl
  z0 := fun w => by kernel_rfl
  v0 := fun w => by kernel_rfl
  t4 := by kernel_rfl
  a4 := fun w => by kernel_rfl
  z4 := fun w => by kernel_rfl
  v4 := fun w => by kernel_rfl
  t23 := by kernel_rfl
  a23 := fun w => by kernel_rfl
  z23 := fun w => by kernel_rfl
  v23 := fun w => by kernel_rfl
  t24 := by kernel_rfl
  a24 := fun w => by kernel_rfl
  z24 := fun w => by kernel_rfl
  v24 := fun w => by kernel_rfl
  t26 := by kernel_rfl
  a26 := fun w => by kernel_rfl
  z26 := fun w => by kernel_rfl
  v26 := fun w => by kernel_rfl
  t28 := by kernel_rfl
  a28 := fun w => by kernel_rfl
  z28 := fun w => by kernel_rfl
  v28 := fun w => by kernel_rfl
  t33 := by kernel_rfl
  a33 := fun w => by kernel_rfl
  z33 := fun w => by kernel_rfl
  v33 := fun w => by kernel_rfl
  i26 := by kernel_rfl

theorem e9_0 : Go.Proofs.Enters Tryz.prog (ρ0.f 9) := Go.Proofs.enters_of Tryz.func108 (by kernel_rfl) (by first | rfl | kernel_rfl)
theorem e6_0 : Go.Proofs.Enters Tryz.prog (ρ0.f 6) := Go.Proofs.enters_of Tryz.func78 (by kernel_rfl) (by first | rfl | kernel_rfl)

noncomputable def gl : T (List V) := .leaf
noncomputable def exts (P : Program) : List (FuncId × (List V → M V)) := [(78, sortedM (cfg0 P) 41 109 108 .u32 43), (223, idxM)]
noncomputable def cfg (P : Program) : Cfg := { P := P, lf := 100000, gl := gl, sum := sums (exts P) }

theorem exts_ok : SumOk (cfg Tryz.prog) := by
  refine sumOk_list _ (exts Tryz.prog) rfl ?_
  intro p hp
  simp only [exts, List.mem_cons, List.mem_nil_iff, or_false] at hp
  rcases hp with rfl | rfl
  · exact extSum_sorted (cfg0 Tryz.prog) mixed (sumOk_none _ rfl) rfl lay0 rfl (by kernel_rfl) e9_0 e6_0 (by decide) (n := 40) (by kernel_rfl) _
  · exact extSum_idx Tryz.func223 (by kernel_rfl) (by kernel_rfl) (by kernel_rfl) (by kernel_rfl)

theorem run : yes (callM (cfg Tryz.prog) 100 4 [symAgg 0 5] st0) = true := by kernel_rfl

theorem walk (cs : List Value) (hl : cs.length = 5) (h1 : ∀ x ∈ cs, x.oneCell' = true) (W : World) (hg : Globs gl (fun _ => none) W) : Calls Tryz.prog 4 ⟨[.agg ⟨cs⟩]⟩ W fun e W' => e = .returned (.bool true) ∧ Below W.heap.size W W' := by
  have hs := symAgg_rel (μ := fun _ => none) h1
  rw [hl] at hs
  exact law_calls_g (cfg Tryz.prog) mixed exts_ok run rfl hs W hg

theorem und : isStructD (Tryz.prog.underlying 42) = true := by kernel_rfl
theorem cellsOf : Tryz.prog.cellsOf 42 = 5 := by kernel_rfl

def laidL : List (String × DataW Unit) := [("math/bits.deBruijn32tab", Rows.laid_math_bits_deBruijn32tab), ("math/bits.deBruijn64tab", Rows.laid_math_bits_deBruijn64tab), ("internal/strconv.uint64pow10", Rows.laid_internal_strconv_uint64pow10), ("unicode/utf8.acceptRanges", Rows.laid_unicode_utf8_acceptRanges), ("unicode.White_Space", Rows.laid_unicode_White_Space), ("strings.asciiSpace", Rows.laid_strings_asciiSpace), ("unicode/utf8.first", Rows.laid_unicode_utf8_first)]

set_option maxRecDepth 100000 in
theorem lifted (os : Os) (started : os.Started) (H : Type) (enc : TypeId × Value → H) :
    ReturnsInHanded {} Tryz.checked os 4 .any (fun w args => (Rows.engineNilSpec.pre enc Tryz.prog Tryz.f4 Rows.engineNilRow.domain false w args ∧ laidMetH Tryz.prog laidL w) ∧ sizedMet enc Tryz.prog Tryz.f4 (OpenSpec.ofChange Rows.engineNilSpec) false w args)
      (Rows.engineNilSpec.post enc Tryz.prog Tryz.f4 false true false false) := by
  refine returnsInHanded_of_change_and (C := Tryz.checked) (X := fun w _ => laidMetH Tryz.prog laidL w) (fun _ _ _ hh h => h.of_heap hh) own started (by kernel_rfl) Tryz.func4
    (ChangeSpec.witness_shaped (enc := enc) (C := Tryz.checked) (os := os) (X := fun w _ => laidMetH Tryz.prog laidL w) false (World.laidAll Tryz.prog os laidL) #[.agg #[.int .i64 0, .slice none 0 0, .string .empty, .bool false, .int .u16 0]] 8 (World.laidAll_os _ _ _)
      (World.shaped_of_ZipB (by kernel_rfl) (by kernel_rfl)) (by kernel_rfl) (by kernel_rfl) (by kernel_rfl)
      (by rw [MakeChecks.laidMetH_plain _ _ _ (by kernel_rfl)]; exact laidMet_laidAll _ (by kernel_rfl) (by kernel_rfl))) ?_
  intro W base args ds gs before hval0 hW _ _ hL _
  have hL' := hL
  rw [MakeChecks.laidMetH_plain _ _ _ (by kernel_rfl)] at hL'
  have hg : Globs gl (fun _ => none) W := Globs.none
  have hval : ∀ (j : Nat) t v, Tryz.f4.params[j]? = some t → args[j]? = some v → Value.okWide Tryz.prog W .any base t v := hval0
  have hW' := hW
  obtain ⟨p, q, hA0, hV, rfl, hfz, hnd⟩ := hW
  have hA : DataW.TrodAll enc Tryz.prog W 0 (fun _ => true) true Tryz.f4.params.toList args.toList ds p := hA0
  rw [Tryz.params4] at hA hval
  obtain ⟨v0, d0, rfl, rfl, h0⟩ := trodAll_one hA
  obtain ⟨rfl, rfl⟩ := trodVars_none hV
  simp only [List.append_nil] at hW'
  obtain ⟨fs, hfs⟩ := isStructD_ok und
  obtain ⟨cs, rfl, hl, h1⟩ := struct_cells hfs (hval 0 42 v0 rfl rfl)
  rw [cellsOf] at hl
  refine (walk cs hl h1 W hg).mono fun e W' ⟨he, hb⟩ => ?_
  subst he
  refine ⟨_, rfl, post_true laidOut hW' hb rfl ?_ rfl Tryz.underlying4 rfl rfl rfl⟩
  rw [Tryz.params4]
  intro t ht
  simp at ht; subst ht
  exact ⟨by kernel_rfl, of_decide_eq_true (by kernel_rfl)⟩
theorem k_inPlace : (Rows.engineNilRow.inPlace == Tryz.prog.inPlace 4) = true := by kernel_rfl
theorem k_unfollowed : (Rows.engineNilRow.unfollowed == Tryz.prog.unfollowed 4) = true := by kernel_rfl
theorem k_recurses : (Rows.engineNilRow.recurses == Tryz.prog.recurses 4) = true := by kernel_rfl
theorem k_named : (Rows.engineNilRow.named == Tryz.prog.varsNamed 4) = true := by kernel_rfl
theorem closed : joinedFacts Tryz.prog 4 Tryz.f4 Rows.engineNilSpec Rows.engineNilRow = true := by
  unfold joinedFacts
  rw [k_inPlace, k_unfollowed, k_recurses, k_named]
  kernel_rfl


theorem over : Rows.EngineNilSaid :=
  OpenClaim.holds_of_wide 4 Tryz.f4 rfl rfl rfl rfl rfl rfl rfl ⟨rfl, rfl, rfl, rfl, rfl⟩ rfl rfl rfl rfl rfl (by kernel_rfl) Tryz.func4 closed
    (of_decide_eq_true (by kernel_rfl)) (by unfold Func.isWrapper; first | (rw [if_pos (by decide +kernel)]; kernel_rfl) | (rw [if_neg (by decide +kernel)]; exact ⟨rfl, rfl⟩))
    (fun os started H enc _ => lifted os started H enc)

/-- THE STATEMENT -/
theorem proved : Rows.EngineNilCardSaid :=
  Claim7.holds_tied_plain_at .later [] [.data, .data, .data, .data, .listed, .data, .pinned] true (true, "cfb6c10a26d7aea33264990c8065b9331de8df501466bd83e9876052855c1544") false over (fun _ h => by cases h) (by as_aux_lemma => kernel_rfl) (fun _ h => by cases h) engineNil_row_tie rfl ⟨rfl, rfl⟩ (by as_aux_lemma => kernel_rfl) rfl
    (fun f fn hf hfn => by
      obtain rfl : f = 4 := Option.some.inj ((show Tryz.prog.funcNamed "sluicegate/sluicegatelaw29.EngineNil" = some 4 by kernel_rfl).symm.trans hf) |>.symm
      obtain rfl : fn = Tryz.f4 := (Option.some.inj (Tryz.func4.symm.trans hfn)).symm
      exact ⟨by kernel_rfl, fun j t ht => by
        rw [Tryz.params4] at ht
        have hm : t ∈ [42] := by simpa using Array.mem_of_getElem? ht
        have hall : ([42].all fun u => !Tryz.prog.wantsStandIn u) = true := by kernel_rfl
        exact (show Tryz.prog.wantsStandIn t = false by simpa using List.all_eq_true.1 hall t hm)⟩)
    (by as_aux_lemma => kernel_rfl)
#print axioms proved
end Go.Proofs.YtnmfghfegmhcmaaGreatDoor.engineNil
