/-
  strconv.FormatInt at base ten stands in, at every number, by the shelf's contract.
-/
import Derived.Test.YtfgnpegkcmkeaaaGreatDoorLyS
import Derived.Shelf.Strconv.Itoa4
set_option linter.unusedSimpArgs false
set_option linter.unusedVariables false
namespace Go.Lx
noncomputable section
open Go.RowKit Go.Shelf Go.Proofs
def fmtV : List V → Option V
 | [.int .i64 n, .int .i64 10] => if -9223372036854775808 ≤ n ∧ n ≤ 9223372036854775807 then some (.str (itoaF n)) else none
 | _ => none
theorem extSum_fmt {P : Program} {ρ : Ren} {gl : T (List V)} (L : LaysM.n173 P ρ) {g : Nat} (hg0 : P.globalNamed "internal/strconv.uint64pow10" = some g) (hgl : gl.get g = some (Lib.pow10Tab.map (V.int .u64))) (he : Enters P (ρ.f 173)) : ExtSum P gl (ρ.f 173) (pureM fmtV) := by
 refine ⟨local_pureM _, fun vs v s s' w μ ν rs h hr hf hg ha => ?_⟩
 unfold pureM at h
 cases hv : fmtV vs with
 | none => rw [hv] at h; exact (err_ok h).elim
 | some x =>
   rw [hv] at h
   obtain ⟨rfl, rfl⟩ := ret_ok h
   unfold fmtV at hv
   split at hv
   ·rename_i n
    split at hv
    ·rename_i hb
     injection hv with hv; subst hv
     cases ha with
     | cons h1 h2 =>
     cases h2 with
     | cons h2 h3 =>
     cases h3
     cases h1
     cases h2
     obtain ⟨rc, e, frz, g1, g2⟩ := hg.there _ _ hgl
     have hsz := hg.tab _ _ _ _ _ hgl (by rw [List.length_map, Lib.pow10Tab_length]) g1
     have htab : Lib.TabIs P w "internal/strconv.uint64pow10" .u64 Lib.pow10Tab := by
      unfold Lib.TabIs World.var?
      rw [hg0]
      simp only [Option.bind_some, g1]
      congr 1
      refine Array.ext (by simp [hsz, Lib.pow10Tab_length]) fun i h1 h2 => ?_
      have hi : i < Lib.pow10Tab.length := by simpa using h2
      obtain ⟨r, g3, g4⟩ := g2 i (.int .u64 Lib.pow10Tab[i]) (by rw [List.getElem?_map, List.getElem?_eq_getElem hi]; rfl)
      have hr0 : r = .int .u64 Lib.pow10Tab[i] := by cases g4 (fun _ => none) (fun _ => undef); rfl
      rw [Array.getElem?_eq_getElem h1] at g3
      injection g3 with g3
      rw [g3, hr0]
      simp
     left
     refine ⟨he _ _, (Any.strconv_FormatInt_10 L n hb.1 hb.2 w htab).mono ?_⟩
     rintro e' w' ⟨rfl, k, os, rfl⟩
     refine ⟨_, rfl, μ, ?_, StepOk.below hr ?_⟩
     ·have e1 : itoaF n = toNats ⟨(Lib.itoa n).toArray⟩ := (toNats_mk _).symm
      rw [e1]
      exact .str _
     ·exact ⟨rfl, rfl, rfl, by simp [Go.Sort.grow, World.drewN], fun b hb => Go.Sort.heap_grow_old (w.drewN k) os (by simpa [World.drewN] using hb)⟩
    ·cases hv
   ·cases hv
end
end Go.Lx
