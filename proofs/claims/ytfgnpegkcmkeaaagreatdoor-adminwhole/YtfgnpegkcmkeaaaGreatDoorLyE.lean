/-
  slices.Sorted over maps.Keys stands in as one function of the machine: it reads the map and makes the sorted slice.
-/
import Derived.Test.YtfgnpegkcmkeaaaGreatDoorLyD
set_option linter.unusedSimpArgs false
set_option linter.unusedVariables false
namespace Go.Lx
noncomputable section
open Go.Proofs Go.Maps Go.RowKit Go.Shelf
open Go.MapKept (Stamped)
theorem StepOk.below {P : Program} {μ : Mu} {ν : Nat → Value} {h : T Ob} {n : Nat} {w w' : World} (hr : Rel P μ ν h w.heap) (hb : Below w.heap.size w w') : StepOk P μ ν h n w μ h n w' where
 le := Mu.le_refl _
 new := fun _ _ => rfl
 rel := ⟨fun k o hk => by
  obtain ⟨p, hp, ho⟩ := hr.ob k o hk
  exact ⟨p, hp, ho.mono (Mu.le_refl _) (hb.block _ ho.there)⟩, hr.sep⟩
 os := hb.os
 tape := hb.tape
 output := hb.output
 size := hb.size
 block := fun b h1 _ => hb.block b h1
 newblk := fun k p h1 h2 => by rw [h1] at h2; cases h2
 ro := fun k c p h1 hp => by
  obtain ⟨q, hq, ho⟩ := hr.ob k _ h1
  rw [hp] at hq; cases hq
  exact ⟨h1, hb.block _ ho.there⟩
theorem StepOk.grow {P : Program} {μ : Mu} {ν : Nat → Value} {h : T Ob} {n : Nat} {w w' : World} {ob : Ob} {p : Pl} (hr : Rel P μ ν h w.heap) (hk : μ n = none) (hb : Below w.heap.size w w') (hp : w.heap.size ≤ p.blk)
  (ho : ORel P (upd μ n p) ν p w'.heap ob) : StepOk P μ ν h n w (upd μ n p) (h.set n (some ob)) (n + 1) w' where
 le := upd_le _ hk
 new := fun k hk' => upd_ne _ _ (by omega)
 rel := by
  have old : ∀ k o, k ≠ n → (h.set n (some ob)).get k = some o → h.get k = some o := fun k o hne hk' => by rwa [T.get_set_ne _ _ hne] at hk'
  refine ⟨fun k o hk' => ?_, fun k k' o o' p1 p2 h1 h2 hne hro g1 g2 => ?_⟩
  ·by_cases e : k = n
   ·subst e
    rw [T.get_set_same] at hk'
    cases hk'
    exact ⟨p, upd_same _ _ _, ho⟩
   ·obtain ⟨q, hq, hoq⟩ := hr.ob k o (old k o e hk')
    exact ⟨q, by rw [upd_ne _ _ e]; exact hq, hoq.mono (upd_le _ hk) (hb.block _ hoq.there)⟩
  ·have lt : ∀ j oj q, j ≠ n → (h.set n (some ob)).get j = some oj → upd μ n p j = some q → q.blk < w.heap.size := fun j oj q hj h3 h4 => by
    obtain ⟨q', hq', hoq⟩ := hr.ob j oj (old j oj hj h3)
    rw [upd_ne _ _ hj, hq'] at h4
    cases h4
    exact hoq.there
   by_cases e : k = n
   ·have e' : k' ≠ n := fun x => hne (e.trans x.symm)
    have := lt k' o' p2 e' h2 g2
    subst e
    rw [upd_same] at g1; cases g1
    omega
   ·by_cases e' : k' = n
    ·have := lt k o p1 e h1 g1
     subst e'
     rw [upd_same] at g2; cases g2
     omega
    ·rw [upd_ne _ _ e] at g1; rw [upd_ne _ _ e'] at g2
     exact hr.sep k k' o o' p1 p2 (old k o e h1) (old k' o' e' h2) hne hro g1 g2
 os := hb.os
 tape := hb.tape
 output := hb.output
 size := hb.size
 block := fun b h1 _ => hb.block b h1
 newblk := fun k q h1 h2 => by
  by_cases e : k = n
  ·subst e; rw [upd_same] at h1; cases h1; exact .inl hp
  ·rw [upd_ne _ _ e] at h1; rw [h1] at h2; cases h2
 ro := fun k c q h1 hq => by
  have hne : k ≠ n := fun e => by rw [e, hk] at hq; cases hq
  obtain ⟨q', hq', ho⟩ := hr.ob k _ h1
  rw [hq] at hq'; cases hq'
  exact ⟨by rw [T.get_set, if_neg hne]; exact h1, hb.block _ ho.there⟩
variable {ρ : Ren} {kd : IntKind} {bs : Nat}
end
end Go.Lx
