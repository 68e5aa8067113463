/-
  strconv.Itoa and strconv.Atoi stand in, at every number and every text, by the shelf's contracts.
-/
import Derived.Test.YtfgnpegkcmkeaaaGreatDoorLyP
import Derived.Shelf.Strconv.AtoiAll
import Derived.Shelf.Strconv.Itoa3
import Derived.Lib.AtoiAll
set_option linter.unusedSimpArgs false
set_option linter.unusedVariables false
namespace Go.Lx
noncomputable section
open Go.RowKit Go.Shelf Go.Proofs
def itoaF (n : Int) : List Nat := toN (Lib.itoa n)
def itoaV : List V → Option V
 | [.int .i64 n] => if -9223372036854775808 ≤ n ∧ n ≤ 9223372036854775807 then some (.str (itoaF n)) else none
 | _ => none
theorem extSum_itoa {P : Program} {ρ : Ren} {gl : T (List V)} (L : LaysM.n171 P ρ) {g : Nat} (hg0 : P.globalNamed "internal/strconv.uint64pow10" = some g) (hgl : gl.get g = some (Lib.pow10Tab.map (V.int .u64))) (he : Enters P (ρ.f 171)) : ExtSum P gl (ρ.f 171) (pureM itoaV) := by
 refine ⟨local_pureM _, fun vs v s s' w μ ν rs h hr hf hg ha => ?_⟩
 unfold pureM at h
 cases hv : itoaV vs with
 | none => rw [hv] at h; exact (err_ok h).elim
 | some x =>
   rw [hv] at h
   obtain ⟨rfl, rfl⟩ := ret_ok h
   unfold itoaV at hv
   split at hv
   ·rename_i n
    split at hv
    ·rename_i hb
     injection hv with hv; subst hv
     cases ha with
     | cons h1 h2 =>
     cases h2
     cases h1
     obtain ⟨rc, e, frz, g1, g2⟩ := hg.there _ _ hgl
     have hsz := hg.tab _ _ _ _ _ hgl (by rw [List.length_map, Lib.pow10Tab_length]) g1
     have htab : Lib.TabIs P w "internal/strconv.uint64pow10" .u64 Lib.pow10Tab := by
      unfold Lib.TabIs World.var?
      rw [hg0]
      simp only [Option.bind_some, g1]
      congr 1
      refine Array.ext (by simp [hsz, Lib.pow10Tab_length]) fun i h1 h2 => ?_
      have hi : i < Lib.pow10Tab.length := by simpa using h2
      obtain ⟨r, g3, g4⟩ := g2 i (.int .u64 Lib.pow10Tab[i]) (by rw [List.getElem?_map, List.getElem?_eq_getElem hi]; rfl)
      have hr0 : r = .int .u64 Lib.pow10Tab[i] := by cases g4 (fun _ => none) (fun _ => undef); rfl
      rw [Array.getElem?_eq_getElem h1] at g3
      injection g3 with g3
      rw [g3, hr0]
      simp
     left
     refine ⟨he _ _, (Any.strconv_Itoa L n hb.1 hb.2 w htab).mono ?_⟩
     rintro e' w' ⟨rfl, k, os, rfl⟩
     refine ⟨_, rfl, μ, ?_, StepOk.below hr ?_⟩
     ·have e1 : itoaF n = toNats ⟨(Lib.itoa n).toArray⟩ := (toNats_mk _).symm
      rw [e1]
      exact .str _
     ·exact ⟨rfl, rfl, rfl, by simp [Go.Sort.grow, World.drewN], fun b hb => Go.Sort.heap_grow_old (w.drewN k) os (by simpa [World.drewN] using hb)⟩
    ·cases hv
   ·cases hv
def atoiM (tE tP : TypeId) : List V → M V
 | [.str s] => bif Nat.ble s.length 100000 then (match Lib.atoiAll (toU s) with
   | .ok v => Lx.ret (.tuple [.int .i64 v, .nilIface])
   | .range => Lx.bnd (alloc (.cells [] tE true)) fun k => Lx.ret (.tuple [.int .i64 (Lib.atoiSat (toU s)), .iface tP (.ptr k 0)])
   | _ => Lx.bnd (alloc (.cells [] tE true)) fun k => Lx.ret (.tuple [.int .i64 0, .iface tP (.ptr k 0)])) else err "atoi"
 | _ => err "atoi"
theorem local_atoiM (tE tP : TypeId) (vs : List V) : Local (atoiM tE tP vs) := by
 unfold atoiM
 split
 ·refine Local.cond ?_ (Local.err _)
  split
  ·exact Local.ret _
  ·exact Local.bnd (Local.alloc _) fun _ => Local.ret _
  ·exact Local.bnd (Local.alloc _) fun _ => Local.ret _
 ·exact Local.err _
theorem extSum_atoi {P : Program} {ρ : Ren} {gl : T (List V)} (L : LaysC.n172 P ρ) (h15 : gl.get (ρ.g 15) = some []) (h16 : gl.get (ρ.g 16) = some []) {sz : Nat} (hsz : szT P (ρ.t 210) = some sz) (he : Enters P (ρ.f 172)) : ExtSum P gl (ρ.f 172) (atoiM (ρ.t 210) (ρ.t 168)) := by
 refine ⟨local_atoiM _ _, fun vs v s s' w μ ν rs h hr hf hg ha => ?_⟩
 unfold atoiM at h
 split at h
 ·rename_i a
  cases hl : Nat.ble a.length 100000
  ·rw [hl, cond_false] at h; exact (err_ok h).elim
  rw [hl, cond_true] at h
  have hl := ble_iff.1 hl
  cases ha with
  | cons h1 h2 =>
  cases h2
  cases h1 with
  | str A =>
  rw [toU_toNats] at h
  rw [toNats_length] at hl
  cases hA : Lib.atoiAll A.data.toList with
  | ok x =>
    rw [hA] at h
    obtain ⟨rfl, rfl⟩ := ret_ok h
    left
    refine ⟨he _ _, (Any.strconv_Atoi_ok L A (by omega) x hA w).mono ?_⟩
    rintro e' w' ⟨rfl, hw⟩
    refine ⟨_, rfl, μ, .tuple (.cons (.int _ _) (.cons .nilIface .nil)), StepOk.below hr ?_⟩
    rcases hw with rfl | ⟨t, rfl⟩
    ·exact Below.refl _ _
    ·exact Lib.bytesWorld_below _ _ _
  | range =>
    rw [hA] at h
    obtain ⟨k, s4, g7, g8⟩ := bnd_ok h
    obtain ⟨rfl, rfl⟩ := alloc_ok g7
    obtain ⟨rfl, rfl⟩ := ret_ok g8
    obtain ⟨ev, f1, f2⟩ := hg.face _ h16
    left
    refine ⟨he _ _, (Any.strconv_Atoi_range L A (by omega) hA ev w f1 f2).mono ?_⟩
    rintro e' w' ⟨N, rfl, n1, n2, hb⟩
    have hfr : μ s.next = none := hf _ (Nat.le_refl _) (Nat.lt_succ_self _)
    let pn : Pl := ⟨N, 0, true, sz, 0⟩
    refine ⟨_, rfl, upd μ s.next pn, ?_, StepOk.grow (p := pn) hr hfr hb n1 ⟨rfl, fun _ => hsz, _, _, n2, (fun e => by cases e), by simp [pn], by simp [pn], fun i hi => by omega, fun i v hi => by simp at hi⟩⟩
    exact .tuple (.cons (.int _ _) (.cons (.iface (.ptr (p := pn) (upd_same _ _ _))) .nil))
  | _ =>
    rw [hA] at h
    obtain ⟨k, s4, g7, g8⟩ := bnd_ok h
    obtain ⟨rfl, rfl⟩ := alloc_ok g7
    obtain ⟨rfl, rfl⟩ := ret_ok g8
    obtain ⟨ev, f1, f2⟩ := hg.face _ h15
    left
    refine ⟨he _ _, (Any.strconv_Atoi_syntax L A (by omega) hA ev w f1 f2).mono ?_⟩
    rintro e' w' ⟨N, rfl, n1, n2, hb⟩
    have hfr : μ s.next = none := hf _ (Nat.le_refl _) (Nat.lt_succ_self _)
    let pn : Pl := ⟨N, 0, true, sz, 0⟩
    refine ⟨_, rfl, upd μ s.next pn, ?_, StepOk.grow (p := pn) hr hfr hb n1 ⟨rfl, fun _ => hsz, _, _, n2, (fun e => by cases e), by simp [pn], by simp [pn], fun i hi => by omega, fun i v hi => by simp at hi⟩⟩
    exact .tuple (.cons (.int _ _) (.cons (.iface (.ptr (p := pn) (upd_same _ _ _))) .nil))
 ·exact (err_ok h).elim
end
end Go.Lx
