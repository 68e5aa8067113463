/-
  ProxyNil: A proxy that is not there, or that nobody made, refuses every event. The law is run by the machine of LxA to LxC.
-/
import Derived.Test.YthhdkonpejmgcaaGreatDoorLvB
import Derived.Test.YthhdkonpejmgcaaGreatDoorRows
import Derived.Test.YthhdkonpejmgcaaGreatDoorTiJ
import Derived.Test.YthhdkonpejmgcaaGreatDoorCards
import Derived.Test.YthhdkonpejmgcaaGreatDoorLy3
import Derived.Test.YthhdkonpejmgcaaGreatDoorNaA
import Derived.SevenTiedAt
import Derived.Stop.Joined
namespace Go.Proofs.YthhdkonpejmgcaaGreatDoor.proxyNil
open Go.Proofs Go.Shelf Go.ChangeShapes Go.WideShapes Go.ChangeAt Go.RowKit Go.Lx Go.Proofs.YthhdkonpejmgcaaGreatDoor.proxyLives
set_option linter.unusedVariables false

theorem run : yes (callM (cfg Tryz.prog) 100 4 [symAgg 0 6] st0) = true := by kernel_rfl

theorem walk (cs : List Value) (hl : cs.length = 6) (h1 : ∀ x ∈ cs, x.oneCell' = true)  (W : World) (hg : Globs gl (fun _ => none) .leaf W) : Calls Tryz.prog 4 ⟨[.agg ⟨cs⟩]⟩ W fun e W' => e = .returned (.bool true) ∧ Below W.heap.size W W' := by
  have hs := symAgg_rel (μ := fun _ => none) h1
  rw [hl] at hs
  exact law_calls_g (cfg Tryz.prog) mixed (exts_ok) run rfl hs W hg

theorem und : isStructD (Tryz.prog.underlying 29) = true := by kernel_rfl
theorem cellsOf : Tryz.prog.cellsOf 29 = 6 := by kernel_rfl


set_option maxRecDepth 100000 in
theorem lifted (os : Os) (started : os.Started) (H : Type) (enc : TypeId × Value → H) :
    ReturnsInHanded {} Tryz.checked os 4 .any (fun w args => (Rows.proxyNilSpec.pre enc Tryz.prog Tryz.f4 Rows.proxyNilRow.domain false w args ∧ laidMetH Tryz.prog laidL w) ∧ sizedMet enc Tryz.prog Tryz.f4 (OpenSpec.ofChange Rows.proxyNilSpec) false w args)
      (Rows.proxyNilSpec.post enc Tryz.prog Tryz.f4 false true false false) := by
  refine returnsInHanded_of_change_and (C := Tryz.checked) (X := fun w _ => laidMetH Tryz.prog laidL w) (fun _ _ _ hh h => h.of_heap hh) own started (by kernel_rfl) Tryz.func4
    (ChangeSpec.witness_shaped (enc := enc) (C := Tryz.checked) (os := os) (X := fun w _ => laidMetH Tryz.prog laidL w) false (W3 os) #[.agg #[.int .i64 0, .int .i64 0, .int .i64 0, .int .i64 0, .bool false, .slice none 0 0]] 8 rfl
      (w3_shaped os _) (by kernel_rfl) (by kernel_rfl) (by kernel_rfl)
      (by rw [MakeChecks.laidMetH_plain _ _ _ (by kernel_rfl)]; exact w3_laid os _)) ?_
  intro W base args ds gs before hval0 hW _ _ hL _
  have hL' := hL
  rw [MakeChecks.laidMetH_plain _ _ _ (by kernel_rfl)] at hL'
  have hg : Globs gl (fun _ => none) .leaf W := Globs.none
  have hval : ∀ (j : Nat) t v, Tryz.f4.params[j]? = some t → args[j]? = some v → Value.okWide Tryz.prog W .any base t v := hval0
  have hW' := hW
  obtain ⟨p, q, hA0, hV, rfl, hfz, hnd⟩ := hW
  have hA : DataW.TrodAll enc Tryz.prog W 0 (fun _ => true) true Tryz.f4.params.toList args.toList ds p := hA0
  rw [Tryz.params4] at hA hval
  obtain ⟨v0, d0, rfl, rfl, h0⟩ := trodAll_one hA
  obtain ⟨rfl, rfl⟩ := trodVars_none hV
  simp only [List.append_nil] at hW'
  obtain ⟨fs, hfs⟩ := isStructD_ok und
  obtain ⟨cs, rfl, hl, h1⟩ := struct_cells hfs (hval 0 29 v0 rfl rfl)
  rw [cellsOf] at hl
  refine (walk cs hl h1 W hg).mono fun e W' ⟨he, hb⟩ => ?_
  subst he
  refine ⟨_, rfl, post_true laidOut hW' hb rfl ?_ rfl Tryz.underlying4 rfl rfl rfl⟩
  rw [Tryz.params4]
  intro t ht
  simp at ht; subst ht
  exact ⟨by kernel_rfl, of_decide_eq_true (by kernel_rfl)⟩
end Go.Proofs.YthhdkonpejmgcaaGreatDoor.proxyNil
