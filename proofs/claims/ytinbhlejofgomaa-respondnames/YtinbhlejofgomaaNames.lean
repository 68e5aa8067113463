/-
  RespondNames: the worked examples of the chapter on answers come out as they are written, kinds and errors have their numbers: a closed statement, without conditions. The law is run by the machine of LxA to LxC; LxX shows that the model does what that machine does.
-/
import Derived.Test.YtinbhlejofgomaaRows
import Derived.Test.YtinbhlejofgomaaLxZ
namespace Go.Proofs.Ytinbhlejofgomaa.respondNames
open Go.ChangeShapes Go.WideShapes Go.ChangeAt Go.RowKit Go.Lx
set_option linter.unusedVariables false

theorem own : ownKnob Try.prog.godebug = none := by kernel_rfl
theorem laidOut : laidOutB Try.prog = true := by kernel_rfl
theorem mixed : Try.prog.follows .mixedOrders = true := Checked.mixed Try.checked

def exts : List (FuncId × (List V → M V)) := [(94, idxM)]
def cfg (P : Program) : Cfg := { P := P, lf := 100000, ng := 0, sum := sums exts }

theorem exts_ok : SumOk (cfg Try.prog) := by
  refine sumOk_list _ exts rfl ?_
  intro p hp
  simp only [exts, List.mem_cons, List.mem_nil_iff, or_false] at hp
  subst hp
  · exact extSum_idx Try.func94 (by kernel_rfl) (by kernel_rfl) (by kernel_rfl) (by kernel_rfl)

theorem run : yes (callM (cfg Try.prog) 100 3 [] st0) = true := by kernel_rfl

theorem walk (W : World) : Calls Try.prog 3 #[] W fun e W' => e = .returned (.bool true) ∧ Below W.heap.size W W' :=
  law_calls (cfg Try.prog) mixed exts_ok rfl run rfl (VsRel.nil (μ := fun _ => none) (ν := fun _ => undef)) W

set_option maxRecDepth 100000 in
theorem lifted (os : Os) (started : os.Started) (H : Type) (enc : TypeId × Value → H) :
    ReturnsInHanded {} Try.checked os 3 .any (Rows.respondNamesSpec.pre6 enc Try.prog Try.f3 Rows.respondNamesRow.domain false) (Rows.respondNamesSpec.post enc Try.prog Try.f3 false true false false) := by
  refine returnsInHanded_of_change (C := Try.checked) own started (by kernel_rfl) Try.func3
    (ChangeSpec.witness6 (enc := enc) (C := Try.checked) false ⟨#[], #[], []⟩ 8 (by kernel_rfl) (by kernel_rfl) (by kernel_rfl) (by kernel_rfl)) ?_
  intro W base args ds gs before hval0 hW hcnd _
  have hval : ∀ (j : Nat) t v, Try.f3.params[j]? = some t → args[j]? = some v → Value.okWide Try.prog W .any base t v := hval0
  have hW' := hW
  obtain ⟨p, q, hA0, hV, rfl, hfz, hnd⟩ := hW
  have hA : DataW.TrodAll enc Try.prog W 0 (fun _ => true) true Try.f3.params.toList args.toList ds p := hA0
  rw [Try.params3] at hA hval
  obtain ⟨rfl, rfl, rfl⟩ := trodAll_none hA
  refine (walk W).mono fun e W' ⟨he, hb⟩ => ?_
  subst he
  refine ⟨_, rfl, post_true laidOut hW' hb rfl ?_ rfl Try.underlying4 rfl rfl rfl⟩
  rw [Try.params3]
  intro t ht
  simp at ht

theorem over : Rows.RespondNamesSaid :=
  OpenClaim.holds_of_wide 3 Try.f3 rfl rfl rfl rfl rfl rfl rfl ⟨rfl, rfl, rfl, rfl, rfl⟩ rfl rfl rfl rfl rfl (by kernel_rfl) Try.func3 (by kernel_rfl)
    (of_decide_eq_true (by kernel_rfl)) (by unfold Func.isWrapper; first | (rw [if_pos (by decide +kernel)]; kernel_rfl) | (rw [if_neg (by decide +kernel)]; exact ⟨rfl, rfl⟩))
    (fun os started H enc _ => lifted os started H enc)

/-- THE STATEMENT -/
theorem proved : Rows.RespondNamesSaid :=
  over
#print axioms proved
end Go.Proofs.Ytinbhlejofgomaa.respondNames
