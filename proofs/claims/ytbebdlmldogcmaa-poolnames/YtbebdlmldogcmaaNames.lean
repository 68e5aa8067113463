/-
  PoolNames: the worked examples of the chapter on pools come out as they are written: a closed statement, without conditions. The law is run by the machine of LxA to LxC; LxX shows that the model does what that machine does.
-/
import Derived.Test.YtbebdlmldogcmaaRows
import Derived.Test.YtbebdlmldogcmaaLyE
namespace Go.Proofs.Ytbebdlmldogcmaa.poolNames
open Go.Proofs Go.Shelf Go.ChangeShapes Go.WideShapes Go.ChangeAt Go.RowKit Go.Lx
set_option linter.unusedVariables false

theorem own : ownKnob Try.prog.godebug = none := by kernel_rfl
theorem laidOut : laidOutB Try.prog = true := by kernel_rfl
theorem mixed : Try.prog.follows .mixedOrders = true := Checked.mixed Try.checked

def ρ : Go.Shelf.Ren := ⟨fun n => match n with | 6 => 47 | 8 => 55 | 9 => 56 | 10 => 57 | 11 => 58 | _ => 0, fun n => match n with | 0 => 0 | 3 => 64 | 4 => 4 | 23 => 52 | 24 => 36 | 26 => 3 | 28 => 81 | 33 => 58 | _ => 0, fun n => n⟩

theorem lay : KeyLay Try.prog ρ .i64 8 where
  mixed := mixed
  f6 := ⟨ "slices.Sorted[int]", by kernel_rfl, by kernel_rfl⟩
  f8 := ⟨ "slices.Collect[int]", by kernel_rfl, by kernel_rfl⟩
  f10 := ⟨ "maps.Keys[map[int]*sluicegate/api.Conn,int,*sluicegate/api.Conn]$1", by kernel_rfl, by kernel_rfl⟩
  f11 := ⟨ "slices.AppendSeq[[]int,int]", by kernel_rfl, by kernel_rfl⟩
  t0 := by kernel_rfl
  a0 := fun w => by kernel_rfl
  z0 := fun w => by kernel_rfl
  v0 := fun w => by kernel_rfl
  t4 := by kernel_rfl
  a4 := fun w => by kernel_rfl
  z4 := fun w => by kernel_rfl
  v4 := fun w => by kernel_rfl
  t23 := by kernel_rfl
  a23 := fun w => by kernel_rfl
  z23 := fun w => by kernel_rfl
  v23 := fun w => by kernel_rfl
  t24 := by kernel_rfl
  a24 := fun w => by kernel_rfl
  z24 := fun w => by kernel_rfl
  v24 := fun w => by kernel_rfl
  t26 := by kernel_rfl
  a26 := fun w => by kernel_rfl
  z26 := fun w => by kernel_rfl
  v26 := fun w => by kernel_rfl
  t28 := by kernel_rfl
  a28 := fun w => by kernel_rfl
  z28 := fun w => by kernel_rfl
  v28 := fun w => by kernel_rfl
  t33 := by kernel_rfl
  a33 := fun w => by kernel_rfl
  z33 := fun w => by kernel_rfl
  v33 := fun w => by kernel_rfl
  i26 := by kernel_rfl

def cfg0 (P : Program) : Cfg := { P := P, lf := 100000, ng := 0, sum := fun _ => none }
def cfg (P : Program) : Cfg := { P := P, lf := 100000, ng := 0, sum := sums [(47, sortedM (cfg0 P) 41 57 56 .i64 3)] }

theorem e9 : Go.Proofs.Enters Try.prog (ρ.f 9) := Go.Proofs.enters_of Try.func56 (by kernel_rfl) (by first | rfl | kernel_rfl)
theorem e6 : Go.Proofs.Enters Try.prog (ρ.f 6) := Go.Proofs.enters_of Try.func47 (by kernel_rfl) (by first | rfl | kernel_rfl)

theorem exts_ok : SumOk (cfg Try.prog) := by
  refine sumOk_list _ [(47, sortedM (cfg0 Try.prog) 41 57 56 .i64 3)] rfl ?_
  intro p hp
  simp only [List.mem_cons, List.mem_nil_iff, or_false] at hp
  subst hp
  exact extSum_sorted (cfg0 Try.prog) mixed (sumOk_none _ rfl) rfl lay rfl (by kernel_rfl) e9 e6 (by decide) (n := 40) (by kernel_rfl) 0

theorem run : yes (callM (cfg Try.prog) 100 3 [] st0) = true := by kernel_rfl

theorem walk (W : World) : Calls Try.prog 3 #[] W fun e W' => e = .returned (.bool true) ∧ Below W.heap.size W W' :=
  law_calls (cfg Try.prog) mixed exts_ok rfl run rfl (VsRel.nil (μ := fun _ => none) (ν := fun _ => undef)) W

set_option maxRecDepth 100000 in
theorem lifted (os : Os) (started : os.Started) (H : Type) (enc : TypeId × Value → H) :
    ReturnsInHanded {} Try.checked os 3 .any (Rows.poolNamesSpec.pre6 enc Try.prog Try.f3 Rows.poolNamesRow.domain false) (Rows.poolNamesSpec.post enc Try.prog Try.f3 false true false false) := by
  refine returnsInHanded_of_change (C := Try.checked) own started (by kernel_rfl) Try.func3
    (ChangeSpec.witness6 (enc := enc) (C := Try.checked) false ⟨#[], #[], []⟩ 8 (by kernel_rfl) (by kernel_rfl) (by kernel_rfl) (by kernel_rfl)) ?_
  intro W base args ds gs before hval0 hW hcnd _
  have hval : ∀ (j : Nat) t v, Try.f3.params[j]? = some t → args[j]? = some v → Value.okWide Try.prog W .any base t v := hval0
  have hW' := hW
  obtain ⟨p, q, hA0, hV, rfl, hfz, hnd⟩ := hW
  have hA : DataW.TrodAll enc Try.prog W 0 (fun _ => true) true Try.f3.params.toList args.toList ds p := hA0
  rw [Try.params3] at hA hval
  obtain ⟨rfl, rfl, rfl⟩ := trodAll_none hA
  refine (walk W).mono fun e W' ⟨he, hb⟩ => ?_
  subst he
  refine ⟨_, rfl, post_true laidOut hW' hb rfl ?_ rfl Try.underlying4 rfl rfl rfl⟩
  rw [Try.params3]
  intro t ht
  simp at ht

theorem over : Rows.PoolNamesSaid :=
  OpenClaim.holds_of_wide 3 Try.f3 rfl rfl rfl rfl rfl rfl rfl ⟨rfl, rfl, rfl, rfl, rfl⟩ rfl rfl rfl rfl rfl (by kernel_rfl) Try.func3 (by kernel_rfl)
    (of_decide_eq_true (by kernel_rfl)) (by unfold Func.isWrapper; first | (rw [if_pos (by decide +kernel)]; kernel_rfl) | (rw [if_neg (by decide +kernel)]; exact ⟨rfl, rfl⟩))
    (fun os started H enc _ => lifted os started H enc)

/-- THE STATEMENT -/
theorem proved : Rows.PoolNamesSaid :=
  over
#print axioms proved
end Go.Proofs.Ytbebdlmldogcmaa.poolNames

