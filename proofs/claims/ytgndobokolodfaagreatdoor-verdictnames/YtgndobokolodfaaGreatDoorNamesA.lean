/-
  VerdictNames: The worked examples of the chapter on verdicts come out as they are written. The law is run by the machine of LxA to LxC; LxX shows that the model does what that machine does; the row's card is closed by the builder.
-/
import Derived.Test.YtgndobokolodfaaGreatDoorRows
import Derived.Test.YtgndobokolodfaaGreatDoorTie
import Derived.Test.YtgndobokolodfaaGreatDoorCards
import Derived.Test.YtgndobokolodfaaGreatDoorLyH
import Derived.Test.YtgndobokolodfaaGreatDoorLyW
import Derived.SevenTiedAt
import Derived.Stop.Joined
namespace Go.Proofs.YtgndobokolodfaaGreatDoor.verdictNames
open Go.Proofs Go.Shelf Go.ChangeShapes Go.WideShapes Go.ChangeAt Go.RowKit Go.Lx
set_option linter.unusedVariables false

theorem own : ownKnob Tryz.prog.godebug = none := by kernel_rfl
theorem laidOut : laidOutB Tryz.prog = true := by kernel_rfl
theorem mixed : Tryz.prog.follows .mixedOrders = true := Checked.mixed Tryz.checked

def cfg0 (P : Program) : Cfg := { P := P, lf := 100000, gl := .leaf, sum := fun _ => none }

def ρ0 : Go.Shelf.Ren := ⟨fun n => match n with | 6 => 17 | 8 => 42 | 9 => 43 | 10 => 44 | 11 => 89 | _ => 0, fun n => match n with | 0 => 0 | 3 => 77 | 4 => 4 | 23 => 76 | 24 => 71 | 26 => 3 | 28 => 74 | 33 => 125 | _ => 0, fun n => n⟩

theorem lay0 : KeyLay Tryz.prog ρ0 .i64 8 where
  mixed := mixed
  f6 := ⟨ "slices.Sorted[int]", by kernel_rfl, by kernel_rfl⟩
  f8 := ⟨ "slices.Collect[int]", by kernel_rfl, by kernel_rfl⟩
  f10 := ⟨ "maps.Keys[map[int]*sluicegate/verdict.twin,int,*sluicegate/verdict.twin]$1", by kernel_rfl, by kernel_rfl⟩
  f11 := ⟨ "slices.AppendSeq[[]int,int]", by kernel_rfl, by kernel_rfl⟩
  t0 := by kernel_rfl
  a0 := fun w => by kernel_rfl
  z0 := fun w => by kernel_rfl
  v0 := fun w => by kernel_rfl
  t4 := by kernel_rfl
  a4 := fun w => by kernel_rfl
  z4 := fun w => by kernel_rfl
  v4 := fun w => by kernel_rfl
  t23 := by kernel_rfl
  a23 := fun w => by kernel_rfl
  z23 := fun w => by kernel_rfl
  v23 := fun w => by kernel_rfl
  t24 := by kernel_rfl
  a24 := fun w => by kernel_rfl
  z24 := fun w => by kernel_rfl
  v24 := fun w => by kernel_rfl
  t26 := by kernel_rfl
  a26 := fun w => by kernel_rfl
  z26 := fun w => by kernel_rfl
  v26 := fun w => by kernel_rfl
  t28 := by kernel_rfl
  a28 := fun w => by kernel_rfl
  z28 := fun w => by kernel_rfl
  v28 := fun w => by kernel_rfl
  t33 := by kernel_rfl
  a33 := fun w => by kernel_rfl
  z33 := fun w => by kernel_rfl
  v33 := fun w => by kernel_rfl
  i26 := by kernel_rfl

theorem e9_0 : Go.Proofs.Enters Tryz.prog (ρ0.f 9) := Go.Proofs.enters_of Tryz.func43 (by kernel_rfl) (by first | rfl | kernel_rfl)
theorem e6_0 : Go.Proofs.Enters Tryz.prog (ρ0.f 6) := Go.Proofs.enters_of Tryz.func17 (by kernel_rfl) (by first | rfl | kernel_rfl)

def ρ1 : Go.Shelf.Ren := ⟨fun n => match n with | 6 => 17 | 8 => 42 | 9 => 43 | 10 => 228 | 11 => 89 | _ => 0, fun n => match n with | 0 => 0 | 3 => 240 | 4 => 4 | 23 => 175 | 24 => 71 | 26 => 3 | 28 => 74 | 33 => 125 | _ => 0, fun n => n⟩

theorem lay1 : KeyLay Tryz.prog ρ1 .i64 8 where
  mixed := mixed
  f6 := ⟨ "slices.Sorted[int]", by kernel_rfl, by kernel_rfl⟩
  f8 := ⟨ "slices.Collect[int]", by kernel_rfl, by kernel_rfl⟩
  f10 := ⟨ "maps.Keys[map[int]*sluicegate/api.Conn,int,*sluicegate/api.Conn]$1", by kernel_rfl, by kernel_rfl⟩
  f11 := ⟨ "slices.AppendSeq[[]int,int]", by kernel_rfl, by kernel_rfl⟩
  t0 := by kernel_rfl
  a0 := fun w => by kernel_rfl
  z0 := fun w => by kernel_rfl
  v0 := fun w => by kernel_rfl
  t4 := by kernel_rfl
  a4 := fun w => by kernel_rfl
  z4 := fun w => by kernel_rfl
  v4 := fun w => by kernel_rfl
  t23 := by kernel_rfl
  a23 := fun w => by kernel_rfl
  z23 := fun w => by kernel_rfl
  v23 := fun w => by kernel_rfl
  t24 := by kernel_rfl
  a24 := fun w => by kernel_rfl
  z24 := fun w => by kernel_rfl
  v24 := fun w => by kernel_rfl
  t26 := by kernel_rfl
  a26 := fun w => by kernel_rfl
  z26 := fun w => by kernel_rfl
  v26 := fun w => by kernel_rfl
  t28 := by kernel_rfl
  a28 := fun w => by kernel_rfl
  z28 := fun w => by kernel_rfl
  v28 := fun w => by kernel_rfl
  t33 := by kernel_rfl
  a33 := fun w => by kernel_rfl
  z33 := fun w => by kernel_rfl
  v33 := fun w => by kernel_rfl
  i26 := by kernel_rfl

theorem e9_1 : Go.Proofs.Enters Tryz.prog (ρ1.f 9) := Go.Proofs.enters_of Tryz.func43 (by kernel_rfl) (by first | rfl | kernel_rfl)
theorem e6_1 : Go.Proofs.Enters Tryz.prog (ρ1.f 6) := Go.Proofs.enters_of Tryz.func17 (by kernel_rfl) (by first | rfl | kernel_rfl)

def ρ2 : Go.Shelf.Ren := ⟨fun n => match n with | 6 => 48 | 8 => 92 | 9 => 93 | 10 => 94 | 11 => 143 | _ => 0, fun n => match n with | 0 => 0 | 3 => 141 | 4 => 4 | 23 => 129 | 24 => 85 | 26 => 34 | 28 => 139 | 33 => 225 | _ => 0, fun n => n⟩

theorem lay2 : KeyLay Tryz.prog ρ2 .u32 4 where
  mixed := mixed
  f6 := ⟨ "slices.Sorted[uint32]", by kernel_rfl, by kernel_rfl⟩
  f8 := ⟨ "slices.Collect[uint32]", by kernel_rfl, by kernel_rfl⟩
  f10 := ⟨ "maps.Keys[map[uint32]*sluicegate/api.Held,uint32,*sluicegate/api.Held]$1", by kernel_rfl, by kernel_rfl⟩
  f11 := ⟨ "slices.AppendSeq[[]uint32,uint32]", by kernel_rfl, by kernel_rfl⟩
  t0 := by kernel_rfl
  a0 := fun w => by kernel_rfl
  z0 := fun w => by kernel_rfl
  v0 := fun w => by kernel_rfl
  t4 := by kernel_rfl
  a4 := fun w => by kernel_rfl
  z4 := fun w => by kernel_rfl
  v4 := fun w => by kernel_rfl
  t23 := by kernel_rfl
  a23 := fun w => by kernel_rfl
  z23 := fun w => by kernel_rfl
  v23 := fun w => by kernel_rfl
  t24 := by kernel_rfl
  a24 := fun w => by kernel_rfl
  z24 := fun w => by kernel_rfl
  v24 := fun w => by kernel_rfl
  t26 := by kernel_rfl
  a26 := fun w => by kernel_rfl
  z26 := fun w => by kernel_rfl
  v26 := fun w => by kernel_rfl
  t28 := by kernel_rfl
  a28 := fun w => by kernel_rfl
  z28 := fun w => by kernel_rfl
  v28 := fun w => by kernel_rfl
  t33 := by kernel_rfl
  a33 := fun w => by kernel_rfl
  z33 := fun w => by kernel_rfl
  v33 := fun w => by kernel_rfl
  i26 := by kernel_rfl

theorem e9_2 : Go.Proofs.Enters Tryz.prog (ρ2.f 9) := Go.Proofs.enters_of Tryz.func93 (by kernel_rfl) (by first | rfl | kernel_rfl)
theorem e6_2 : Go.Proofs.Enters Tryz.prog (ρ2.f 6) := Go.Proofs.enters_of Tryz.func48 (by kernel_rfl) (by first | rfl | kernel_rfl)

def ρ3 : Go.Shelf.Ren := ⟨fun n => match n with | 6 => 73 | 8 => 110 | 9 => 111 | 10 => 112 | 11 => 166 | _ => 0, fun n => match n with | 0 => 0 | 3 => 3 | 4 => 4 | 23 => 99 | 24 => 29 | 26 => 9 | 28 => 198 | 33 => 259 | _ => 0, fun n => n⟩

theorem lay3 : KeyLay0 Tryz.prog ρ3 where
  mixed := mixed
  f6 := ⟨ "slices.Sorted[string]", by kernel_rfl, by kernel_rfl⟩
  f8 := ⟨ "slices.Collect[string]", by kernel_rfl, by kernel_rfl⟩
  f10 := ⟨ "maps.Keys[map[string]int,string,int]$1", by kernel_rfl, by kernel_rfl⟩
  f11 := ⟨ "slices.AppendSeq[[]string,string]", by kernel_rfl, by kernel_rfl⟩
  t0 := by kernel_rfl
  a0 := fun w => by kernel_rfl
  z0 := fun w => by kernel_rfl
  v0 := fun w => by kernel_rfl
  t4 := by kernel_rfl
  a4 := fun w => by kernel_rfl
  z4 := fun w => by kernel_rfl
  v4 := fun w => by kernel_rfl
  t23 := by kernel_rfl
  a23 := fun w => by kernel_rfl
  z23 := fun w => by kernel_rfl
  v23 := fun w => by kernel_rfl
  t24 := by kernel_rfl
  a24 := fun w => by kernel_rfl
  z24 := fun w => by kernel_rfl
  v24 := fun w => by kernel_rfl
  t26 := by kernel_rfl
  a26 := fun w => by kernel_rfl
  z26 := fun w => by kernel_rfl
  v26 := fun w => by kernel_rfl
  t28 := by kernel_rfl
  a28 := fun w => by kernel_rfl
  z28 := fun w => by kernel_rfl
  v28 := fun w => by kernel_rfl
  t33 := by kernel_rfl
  a33 := fun w => by kernel_rfl
  z33 := fun w => by kernel_rfl
  v33 := fun w => by kernel_rfl
  i26 := by kernel_rfl

theorem e9_3 : Go.Proofs.Enters Tryz.prog (ρ3.f 9) := Go.Proofs.enters_of Tryz.func111 (by kernel_rfl) (by first | rfl | kernel_rfl)
theorem e6_3 : Go.Proofs.Enters Tryz.prog (ρ3.f 6) := Go.Proofs.enters_of Tryz.func73 (by kernel_rfl) (by first | rfl | kernel_rfl)

noncomputable def gl : T (List V) := .leaf
noncomputable def exts (P : Program) : List (FuncId × (List V → M V)) := [(17, atClosure 44 (sortedM (cfg0 P) 41 44 43 .i64 3) (sortedM (cfg0 P) 41 228 43 .i64 3)), (48, sortedM (cfg0 P) 41 94 93 .u32 34), (73, sorted0M 112), (308, idxM), (369, pureM idxStr)]
noncomputable def cfg (P : Program) : Cfg := { P := P, lf := 100000, gl := gl, sum := sums (exts P) }

theorem exts_ok : SumOk (cfg Tryz.prog) := by
  refine sumOk_list _ (exts Tryz.prog) rfl ?_
  intro p hp
  simp only [exts, List.mem_cons, List.mem_nil_iff, or_false] at hp
  rcases hp with rfl | rfl | rfl | rfl | rfl
  · exact extSum_at (extSum_sorted (cfg0 Tryz.prog) mixed (sumOk_none _ rfl) rfl lay0 rfl (by kernel_rfl) e9_0 e6_0 (by decide) (n := 40) (by kernel_rfl) _) (extSum_sorted (cfg0 Tryz.prog) mixed (sumOk_none _ rfl) rfl lay1 rfl (by kernel_rfl) e9_1 e6_1 (by decide) (n := 40) (by kernel_rfl) _)
  · exact extSum_sorted (cfg0 Tryz.prog) mixed (sumOk_none _ rfl) rfl lay2 rfl (by kernel_rfl) e9_2 e6_2 (by decide) (n := 40) (by kernel_rfl) _
  · exact extSum_sorted0 (cfg0 Tryz.prog) mixed (sumOk_none _ rfl) rfl lay3 rfl e9_3 e6_3 (n := 40) (by kernel_rfl) _
  · exact extSum_idx Tryz.func308 (by kernel_rfl) (by kernel_rfl) (by kernel_rfl) (by kernel_rfl)
  · exact extSum_pure Tryz.func369 (by kernel_rfl) (by kernel_rfl) (by kernel_rfl) (by kernel_rfl) (e := Extern.BytealgIndexByte.indexByte) idxStr_ok

theorem run : yes (callM (cfg Tryz.prog) 100 3 [] st0) = true := by kernel_rfl

theorem walk  (W : World) (hg : Globs gl (fun _ => none) W) : Calls Tryz.prog 3 #[] W fun e W' => e = .returned (.bool true) ∧ Below W.heap.size W W' :=
  law_calls_g (cfg Tryz.prog) mixed (exts_ok) run rfl (VsRel.nil (μ := fun _ => none) (ν := fun _ => undef)) W hg

def laidL : List (String × DataW Unit) := [("math/bits.deBruijn32tab", Rows.laid_math_bits_deBruijn32tab), ("math/bits.deBruijn64tab", Rows.laid_math_bits_deBruijn64tab), ("internal/strconv.uint64pow10", Rows.laid_internal_strconv_uint64pow10), ("unicode/utf8.acceptRanges", Rows.laid_unicode_utf8_acceptRanges), ("unicode.White_Space", Rows.laid_unicode_White_Space), ("strings.asciiSpace", Rows.laid_strings_asciiSpace), ("unicode/utf8.first", Rows.laid_unicode_utf8_first)]

set_option maxRecDepth 100000 in
theorem lifted (os : Os) (started : os.Started) (H : Type) (enc : TypeId × Value → H) :
    ReturnsInHanded {} Tryz.checked os 3 .any (fun w args => (Rows.verdictNamesSpec.pre enc Tryz.prog Tryz.f3 Rows.verdictNamesRow.domain false w args ∧ laidMetH Tryz.prog laidL w) ∧ sizedMet enc Tryz.prog Tryz.f3 (OpenSpec.ofChange Rows.verdictNamesSpec) false w args)
      (Rows.verdictNamesSpec.post enc Tryz.prog Tryz.f3 false true false false) := by
  refine returnsInHanded_of_change_and (C := Tryz.checked) (X := fun w _ => laidMetH Tryz.prog laidL w) (fun _ _ _ hh h => h.of_heap hh) own started (by kernel_rfl) Tryz.func3
    (ChangeSpec.witness_shaped (enc := enc) (C := Tryz.checked) (os := os) (X := fun w _ => laidMetH Tryz.prog laidL w) false (World.laidAll Tryz.prog os laidL) #[] 8 (World.laidAll_os _ _ _)
      (World.shaped_of_ZipB (by kernel_rfl) (by kernel_rfl)) (by kernel_rfl) (by kernel_rfl) (by kernel_rfl)
      (by rw [MakeChecks.laidMetH_plain _ _ _ (by kernel_rfl)]; exact laidMet_laidAll _ (by kernel_rfl) (by kernel_rfl))) ?_
  intro W base args ds gs before hval0 hW _ _ hL _
  have hL' := hL
  rw [MakeChecks.laidMetH_plain _ _ _ (by kernel_rfl)] at hL'
  have hg : Globs gl (fun _ => none) W := Globs.none
  have hval : ∀ (j : Nat) t v, Tryz.f3.params[j]? = some t → args[j]? = some v → Value.okWide Tryz.prog W .any base t v := hval0
  have hW' := hW
  obtain ⟨p, q, hA0, hV, rfl, hfz, hnd⟩ := hW
  have hA : DataW.TrodAll enc Tryz.prog W 0 (fun _ => true) true Tryz.f3.params.toList args.toList ds p := hA0
  rw [Tryz.params3] at hA hval
  obtain ⟨rfl, rfl, rfl⟩ := trodAll_none hA
  obtain ⟨rfl, rfl⟩ := trodVars_none hV
  simp only [List.append_nil] at hW'
  refine (walk W hg).mono fun e W' ⟨he, hb⟩ => ?_
  subst he
  refine ⟨_, rfl, post_true laidOut hW' hb rfl ?_ rfl Tryz.underlying4 rfl rfl rfl⟩
  rw [Tryz.params3]
  intro t ht
  simp at ht
theorem k_inPlace : (Rows.verdictNamesRow.inPlace == Tryz.prog.inPlace 3) = true := by kernel_rfl
theorem k_unfollowed : (Rows.verdictNamesRow.unfollowed == Tryz.prog.unfollowed 3) = true := by kernel_rfl
theorem k_recurses : (Rows.verdictNamesRow.recurses == Tryz.prog.recurses 3) = true := by kernel_rfl
theorem k_named : (Rows.verdictNamesRow.named == Tryz.prog.varsNamed 3) = true := by kernel_rfl
theorem closed : joinedFacts Tryz.prog 3 Tryz.f3 Rows.verdictNamesSpec Rows.verdictNamesRow = true := by
  unfold joinedFacts
  rw [k_inPlace, k_unfollowed, k_recurses, k_named]
  kernel_rfl


theorem over : Rows.VerdictNamesSaid :=
  OpenClaim.holds_of_wide 3 Tryz.f3 rfl rfl rfl rfl rfl rfl rfl ⟨rfl, rfl, rfl, rfl, rfl⟩ rfl rfl rfl rfl rfl (by kernel_rfl) Tryz.func3 closed
    (of_decide_eq_true (by kernel_rfl)) (by unfold Func.isWrapper; first | (rw [if_pos (by decide +kernel)]; kernel_rfl) | (rw [if_neg (by decide +kernel)]; exact ⟨rfl, rfl⟩))
    (fun os started H enc _ => lifted os started H enc)

end Go.Proofs.YtgndobokolodfaaGreatDoor.verdictNames
