/-
  StmtmapNil: a map that is not there, or that nobody made, refuses every call: for every act, without conditions. The law is run by the machine of LxA to LxC, its argument's fields not looked into; LxX shows that the model does what that machine does.
-/
import Derived.Test.YtcccbbgjmjnagaaRows
import Derived.Test.YtcccbbgjmjnagaaLxY
namespace Go.Proofs.Ytcccbbgjmjnagaa.stmtmapNil
open Go.ChangeShapes Go.WideShapes Go.ChangeAt Go.RowKit Go.Lx
set_option linter.unusedVariables false

theorem own : ownKnob Try.prog.godebug = none := by kernel_rfl
theorem laidOut : laidOutB Try.prog = true := by kernel_rfl
theorem mixed : Try.prog.follows .mixedOrders = true := Checked.mixed Try.checked

def cfg (P : Program) : Cfg := { P := P, lf := 100000, ng := 0, sum := fun _ => none }

theorem run : yes (callM (cfg Try.prog) 100 6 [symAgg 0 13] st0) = true := by kernel_rfl

theorem walk (cs : List Value) (hl : cs.length = 13) (h1 : ∀ x ∈ cs, x.oneCell' = true) (W : World) : Calls Try.prog 6 ⟨[.agg ⟨cs⟩]⟩ W fun e W' => e = .returned (.bool true) ∧ Below W.heap.size W W' := by
  have hs := symAgg_rel (μ := fun _ => none) h1
  rw [hl] at hs
  exact law_calls (cfg Try.prog) mixed (sumOk_none _ rfl) rfl run rfl hs W

theorem und33 : isStructD (Try.prog.underlying 33) = true := by kernel_rfl
theorem cells33 : Try.prog.cellsOf 33 = 13 := by kernel_rfl

set_option maxRecDepth 100000 in
theorem lifted (os : Os) (started : os.Started) (H : Type) (enc : TypeId × Value → H) :
    ReturnsInHanded {} Try.checked os 6 .any (Rows.stmtmapNilSpec.pre6 enc Try.prog Try.f6 Rows.stmtmapNilRow.domain false) (Rows.stmtmapNilSpec.post enc Try.prog Try.f6 false true false false) := by
  refine returnsInHanded_of_change (C := Try.checked) own started (by kernel_rfl) Try.func6
    (ChangeSpec.witness6 (enc := enc) (C := Try.checked) false ⟨#[], #[.agg #[.int .i64 0, .int .u32 0, .string .empty, .int .u16 0, .int .u16 0, .int .i64 0, .int .u32 0, .bool false, .bool false, .int .u32 0, .int .i64 0, .int .u32 0, .bool false]], []⟩ 8 (by kernel_rfl) (by kernel_rfl) (by kernel_rfl) (by kernel_rfl)) ?_
  intro W base args ds gs before hval0 hW hcnd _
  have hval : ∀ (j : Nat) t v, Try.f6.params[j]? = some t → args[j]? = some v → Value.okWide Try.prog W .any base t v := hval0
  have hW' := hW
  obtain ⟨p, q, hA0, hV, rfl, hfz, hnd⟩ := hW
  have hA : DataW.TrodAll enc Try.prog W 0 (fun _ => true) true Try.f6.params.toList args.toList ds p := hA0
  rw [Try.params6] at hA hval
  obtain ⟨v0, d0, rfl, rfl, h0⟩ := trodAll_one hA
  obtain ⟨fs, hfs⟩ := isStructD_ok und33
  obtain ⟨cs, rfl, hl, h1⟩ := struct_cells hfs (hval 0 33 v0 rfl rfl)
  rw [cells33] at hl
  refine (walk cs hl h1 W).mono fun e W' ⟨he, hb⟩ => ?_
  subst he
  refine ⟨_, rfl, post_true laidOut hW' hb rfl ?_ rfl Try.underlying4 rfl rfl rfl⟩
  rw [Try.params6]
  intro t ht
  simp at ht; subst ht
  exact ⟨by kernel_rfl, of_decide_eq_true (by kernel_rfl)⟩

theorem over : Rows.stmtmapNilRow.holds Try.pinned (OpenSpec.ofChange Rows.stmtmapNilSpec) :=
  OpenClaim.holds_of_wide 6 Try.f6 rfl rfl rfl rfl rfl rfl rfl ⟨rfl, rfl, rfl, rfl, rfl⟩ rfl rfl rfl rfl rfl (by kernel_rfl) Try.func6 (by kernel_rfl)
    (of_decide_eq_true (by kernel_rfl)) (by unfold Func.isWrapper; first | (rw [if_pos (by decide +kernel)]; kernel_rfl) | (rw [if_neg (by decide +kernel)]; exact ⟨rfl, rfl⟩))
    (fun os started H enc _ => lifted os started H enc)

/-- THE STATEMENT -/
theorem proved : Rows.StmtmapNilSaid :=
  over
#print axioms proved
end Go.Proofs.Ytcccbbgjmjnagaa.stmtmapNil
