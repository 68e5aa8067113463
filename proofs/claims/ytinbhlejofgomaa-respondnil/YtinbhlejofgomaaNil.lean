/-
  RespondNil: a responder that is not there, or that nobody made, refuses every call: for every slice of bytes handed in, without conditions. The law is run by the machine of LxA to LxC, its argument not looked into; LxX shows that the model does what that machine does.
-/
import Derived.Test.YtinbhlejofgomaaRows
import Derived.Test.YtinbhlejofgomaaLxZ
namespace Go.Proofs.Ytinbhlejofgomaa.respondNil
open Go.ChangeShapes Go.WideShapes Go.ChangeAt Go.RowKit Go.Lx
set_option linter.unusedVariables false

theorem own : ownKnob Try.prog.godebug = none := by kernel_rfl
theorem laidOut : laidOutB Try.prog = true := by kernel_rfl
theorem mixed : Try.prog.follows .mixedOrders = true := Checked.mixed Try.checked

def exts : List (FuncId × (List V → M V)) := [(94, idxM)]
def cfg (P : Program) : Cfg := { P := P, lf := 100000, ng := 0, sum := sums exts }

theorem exts_ok : SumOk (cfg Try.prog) := by
  refine sumOk_list _ exts rfl ?_
  intro p hp
  simp only [exts, List.mem_cons, List.mem_nil_iff, or_false] at hp
  subst hp
  · exact extSum_idx Try.func94 (by kernel_rfl) (by kernel_rfl) (by kernel_rfl) (by kernel_rfl)

theorem run : yes (callM (cfg Try.prog) 100 4 [V.sym 0] st0) = true := by kernel_rfl

theorem und : Try.prog.underlying 27 = some (.slice 5) := by kernel_rfl

theorem walk (v : Value) (h1 : v.oneCell' = true) (W : World) : Calls Try.prog 4 #[v] W fun e W' => e = .returned (.bool true) ∧ Below W.heap.size W W' :=
  law_calls (cfg Try.prog) mixed exts_ok rfl run rfl (.cons (VRel.sym (μ := fun _ => none) (ν := fun _ => v) 0 h1) .nil) W

set_option maxRecDepth 100000 in
theorem lifted (os : Os) (started : os.Started) (H : Type) (enc : TypeId × Value → H) :
    ReturnsInHanded {} Try.checked os 4 .any (Rows.respondNilSpec.pre6 enc Try.prog Try.f4 Rows.respondNilRow.domain false) (Rows.respondNilSpec.post enc Try.prog Try.f4 false true false false) := by
  refine returnsInHanded_of_change (C := Try.checked) own started (by kernel_rfl) Try.func4
    (ChangeSpec.witness6 (enc := enc) (C := Try.checked) false ⟨#[], #[.slice none 0 0], []⟩ 8 (by kernel_rfl) (by kernel_rfl) (by kernel_rfl) (by kernel_rfl)) ?_
  intro W base args ds gs before hval0 hW hcnd _
  have hval : ∀ (j : Nat) t v, Try.f4.params[j]? = some t → args[j]? = some v → Value.okWide Try.prog W .any base t v := hval0
  have hW' := hW
  obtain ⟨p, q, hA0, hV, rfl, hfz, hnd⟩ := hW
  have hA : DataW.TrodAll enc Try.prog W 0 (fun _ => true) true Try.f4.params.toList args.toList ds p := hA0
  rw [Try.params4] at hA hval
  obtain ⟨v0, d0, rfl, rfl, h0⟩ := trodAll_one hA
  have h1 : v0.oneCell' = true := by
    have := hval 0 27 v0 rfl rfl
    unfold Value.okWide at this
    rw [und] at this
    exact Cell_one this
  refine (walk v0 h1 W).mono fun e W' ⟨he, hb⟩ => ?_
  subst he
  refine ⟨_, rfl, post_true laidOut hW' hb rfl ?_ rfl Try.underlying4 rfl rfl rfl⟩
  rw [Try.params4]
  intro t ht
  simp at ht; subst ht
  exact ⟨by kernel_rfl, of_decide_eq_true (by kernel_rfl)⟩

theorem over : Rows.RespondNilSaid :=
  OpenClaim.holds_of_wide 4 Try.f4 rfl rfl rfl rfl rfl rfl rfl ⟨rfl, rfl, rfl, rfl, rfl⟩ rfl rfl rfl rfl rfl (by kernel_rfl) Try.func4 (by kernel_rfl)
    (of_decide_eq_true (by kernel_rfl)) (by unfold Func.isWrapper; first | (rw [if_pos (by decide +kernel)]; kernel_rfl) | (rw [if_neg (by decide +kernel)]; exact ⟨rfl, rfl⟩))
    (fun os started H enc _ => lifted os started H enc)

/-- THE STATEMENT -/
theorem proved : Rows.RespondNilSaid :=
  over
#print axioms proved
end Go.Proofs.Ytinbhlejofgomaa.respondNil
