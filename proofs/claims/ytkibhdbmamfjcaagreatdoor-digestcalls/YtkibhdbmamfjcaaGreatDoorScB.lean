/-
  Several texts of one walk, joined.
-/
import Derived.Test.YtkibhdbmamfjcaaGreatDoorScA
set_option linter.unusedSimpArgs false
set_option linter.unusedVariables false
set_option maxRecDepth 10000
namespace Go.Proofs.YtkibhdbmamfjcaaGreatDoor
open Int (reduceLE reduceLT reduceToNat)
open Nat (reduceLeDiff reduceEqDiff reduceAdd)
open Go.Proofs Go.Lx Go.Wx Go.IntWalk
noncomputable section

variable {S : Set0} (hS : Std S)
include hS
theorem rdigit_spec (b : Nat) (h : H) : Exact S.cfg 96 [.int .u8 b] h (bo (isDigit b)) := by
  refine into Tryz.f96 _ Tryz.func96 (hS.own _ (by decide)) rfl rfl (by kernel_rfl) (by kernel_rfl) ?_
  simp +contextual (disch := first | (simp only [fq]; done) | omega) only [wps, fW, reduceLE, reduceLT, reduceLeDiff, UInt8.reduceToNat, ↓reduceIte, reduceEqDiff, reduceAdd, reduceCtorEq, reduceToNat, Tryz.f96]
  exact bo_eq (by unfold isDigit; omega)
theorem rblank_spec (b : Nat) (h : H) : Exact S.cfg 34 [.int .u8 b] h (bo (isBlank b)) := by
  refine into Tryz.f34 _ Tryz.func34 (hS.own _ (by decide)) rfl rfl (by kernel_rfl) (by kernel_rfl) ?_
  simp +contextual (disch := first | (simp only [fq]; done) | omega) only [wps, fW, reduceLE, reduceLT, reduceLeDiff, UInt8.reduceToNat, ↓reduceIte, reduceEqDiff, reduceAdd, reduceCtorEq, reduceToNat, Tryz.f34]
  exact bo_eq (by unfold isBlank; omega)
theorem rhex_spec (b : Nat) (h : H) : Exact S.cfg 98 [.int .u8 b] h (bo (isHex b)) := by
  refine into Tryz.f98 _ Tryz.func98 (hS.own _ (by decide)) rfl rfl (by kernel_rfl) (by kernel_rfl) ?_
  simp +contextual (disch := first | (simp only [fq]; done) | omega) only [wps, fW, reduceLE, reduceLT, reduceLeDiff, UInt8.reduceToNat, ↓reduceIte, reduceEqDiff, reduceAdd, reduceCtorEq, reduceToNat, Tryz.f98]
  refine callF_exact (rdigit_spec hS _ _) ?_
  simp +contextual (disch := first | (simp only [fq]; done) | omega) only [wps, fW, reduceLE, reduceLT, reduceLeDiff, UInt8.reduceToNat, ↓reduceIte, reduceEqDiff, reduceAdd, reduceCtorEq, reduceToNat, Tryz.f98]
  exact bo_eq (by unfold isHex; exact or_assoc)
theorem rdigits_spec (s : List Nat) (p : Nat) (h : H) (hs : s.length < 2 ^ 62) (hp : p < 2 ^ 62) : Exact S.cfg 99 [.str s, .int .i64 p] h (.int .i64 ((p + countW isDigit (s.drop p) : Nat))) := by
  refine into Tryz.f99 _ Tryz.func99 (hS.own _ (by decide)) rfl rfl (by kernel_rfl) (by kernel_rfl) ?_
  simp +contextual (disch := first | (simp only [fq]; done) | omega) only [wps, fW, reduceLE, reduceLT, reduceLeDiff, UInt8.reduceToNat, ↓reduceIte, reduceEqDiff, reduceAdd, reduceCtorEq, reduceToNat]
  refine run_loop (fun m env h' => ∃ i : Nat, m = s.length - (p + i) ∧ env 1 = .int .i64 ((p + i : Nat)) ∧ env 0 = .str s ∧ (p + i ≤ s.length ∨ i = 0) ∧ i ≤ countW isDigit (s.drop p) ∧ h' = h) (s.length - p) ⟨0, by simp +contextual (disch := first | (simp only [fq]; done) | omega) only [wps, fW, reduceLE, reduceLT, reduceLeDiff, UInt8.reduceToNat, ↓reduceIte, reduceEqDiff, reduceAdd, reduceCtorEq, reduceToNat]⟩ ?_
  rintro m env h' ⟨i, rfl, h3, h0, hi, hd, rfl⟩
  have e1 : s.getD (p + i) 0 = (s.drop p).getD i 0 := by simp [List.getD_eq_getElem?_getD]
  have e2 : (s.drop p).length = s.length - p := List.length_drop
  simp +contextual (disch := first | (simp only [fq]; done) | omega) only [wps, fW, reduceLE, reduceLT, reduceLeDiff, UInt8.reduceToNat, ↓reduceIte, reduceEqDiff, reduceAdd, reduceCtorEq, reduceToNat, h3, h0, Tryz.f99]
  refine gCall_exact (first := []) (cap := []) (fun hlt => rdigit_spec hS _ _) (fun fp => ?_)
  simp +contextual (disch := first | (simp only [fq]; done) | omega) only [wps, fW, reduceLE, reduceLT, reduceLeDiff, UInt8.reduceToNat, ↓reduceIte, reduceEqDiff, reduceAdd, reduceCtorEq, reduceToNat, h3, h0, Tryz.f99]
  refine ⟨fun hlt => ?_, fun hn => ?_⟩
  · exact ⟨_, by omega, i + 1, rfl, by omega, .inl (by omega), countW_step hd (by omega) (by rw [← e1]; exact hlt.2)⟩
  · rw [countW_stop hd (by
      by_cases hlt : p + i < s.length
      · exact .inr (fun q => hn ⟨hlt, by rw [e1]; exact q⟩)
      · exact .inl (by omega))]
theorem rlower_spec (s : List Nat) (h : H) (hs : s.length < 2 ^ 61) (hb : Bytes s) : Pure S.cfg 74 [.str s] h fun v _ => v = .str (lowS s) := by
  refine into Tryz.f74 _ Tryz.func74 (hS.own _ (by decide)) rfl rfl (by kernel_rfl) (by kernel_rfl) ?_
  simp +contextual (disch := first | (simp only [fq]; done) | omega) only [wps, fW, reduceLE, reduceLT, reduceLeDiff, UInt8.reduceToNat, ↓reduceIte, reduceEqDiff, reduceAdd, reduceCtorEq, reduceToNat, Tryz.f74]
  refine run_loop (fun m env h' => ∃ i : Nat, m = s.length - i ∧ env 3 = .slice h.nx 0 s.length s.length ∧ env 4 = .int .i64 i ∧ i ≤ s.length ∧ Ext h h' ∧ h.nx < h'.nx ∧ h'.get h.nx = some (.cells (bytesV (partS s i)) 5 true)) s.length ⟨0, by simp +contextual (disch := first | (simp only [fq]; done) | omega) only [wps, fW, reduceLE, reduceLT, reduceLeDiff, UInt8.reduceToNat, ↓reduceIte, reduceEqDiff, reduceAdd, reduceCtorEq, reduceToNat]; exact ⟨rfl, (Ext.refl h).push _, by omega, by simp [partS, lowS]⟩⟩ ?_
  rintro m env h' ⟨i, rfl, h3, h4, hi, hx, hn, hg⟩
  by_cases hlt : i < s.length
  · have hel : (partS s i)[i]? = some (s.getD i 0) := by
      unfold partS
      rw [List.getElem?_append_right (by simp [lowS]; omega)]
      simp [lowS, Nat.min_eq_left hi, List.getD_eq_getElem?_getD, List.getElem?_eq_getElem hlt]
    have hbi := hb.getD i
    by_cases hr : 65 ≤ s.getD i 0 ∧ s.getD i 0 ≤ 90
    · simp +contextual (disch := first | (simp only [fq]; done) | omega) only [wps, fW, reduceLE, reduceLT, reduceLeDiff, UInt8.reduceToNat, ↓reduceIte, reduceEqDiff, reduceAdd, reduceCtorEq, reduceToNat, h3, h4, hg, hel, hlt, hr, Tryz.f74]
      refine ⟨by rw [partS_len s i hi]; omega, _, ?_, i + 1, rfl, rfl, by omega, hx.put (Nat.le_refl _) _, hn, ?_⟩
      · omega
      · have hw : IntKind.u8.wrap ((s.getD i 0 : Nat) + 32) = ((lowB (s.getD i 0) : Nat) : Int) := by
          rw [u8_in ((s.getD i 0 : Nat) + 32) (by omega)]
          unfold lowB
          rw [if_pos hr]
          omega
        rw [hw, partS_put s i hlt]
    · simp +contextual (disch := first | (simp only [fq]; done) | omega) only [wps, fW, reduceLE, reduceLT, reduceLeDiff, UInt8.reduceToNat, ↓reduceIte, reduceEqDiff, reduceAdd, reduceCtorEq, reduceToNat, h3, h4, hg, hel, hlt, hr, Tryz.f74]
      exact ⟨_, by omega, i + 1, rfl, rfl, by omega, hx, hn, by rw [partS_same s i hlt hr]⟩
  · have e : i = s.length := by omega
    subst e
    have hp : partS s s.length = lowS s := by simp [partS]
    rw [hp] at hg
    have hr : rdN (some (.cells (bytesV (lowS s)) 5 true)) 0 s.length = some (lowS s) := by
      have := rdN_bytes (e := 5) (p := true) (lowS_bytes hb)
      rwa [show (lowS s).length = s.length by simp [lowS]] at this
    simp +contextual (disch := first | (simp only [fq]; done) | omega) only [wps, fW, reduceLE, reduceLT, reduceLeDiff, UInt8.reduceToNat, ↓reduceIte, reduceEqDiff, reduceAdd, reduceCtorEq, reduceToNat, h3, h4, hg, hlt, hr, Tryz.f74]
    exact hx
end
end Go.Proofs.YtkibhdbmamfjcaaGreatDoor
set_option linter.unusedSimpArgs false
set_option linter.unusedVariables false
set_option maxRecDepth 10000
namespace Go.Proofs.YtkibhdbmamfjcaaGreatDoor
open Int (reduceLE reduceLT reduceToNat)
open Nat (reduceLeDiff reduceEqDiff reduceAdd)
open Go.Proofs Go.Lx Go.Wx Go.IntWalk
noncomputable section

theorem dec_ascii {s : List Nat} (h : s.getD 0 0 < 128) : dec s = (s.getD 0 0, 1) := by
  unfold dec
  simp only [cond_eq_ite, Nat.blt_eq]
  rw [if_pos h]
theorem dec_big {s : List Nat} (h : ¬ s.getD 0 0 < 128) : 128 ≤ (dec s).1 := by
  unfold dec
  simp only [cond_eq_ite, Nat.blt_eq, Nat.ble_eq, Bool.and_eq_true]
  rw [if_neg h]
  repeat' split
  all_goals simp only [Utf8.runeError]
  all_goals omega
def letN (t : List Nat) : Nat := if t = [] then 0 else if badR t then 0 else if letterR (dec t).1 then (dec t).2 else 0

theorem letN_of {t : List Nat} (h0 : t ≠ []) (hb : ¬ badR t) (hl : letterR (dec t).1) : letN t = (dec t).2 := by unfold letN; rw [if_neg h0, if_neg hb, if_pos hl]
theorem letN_no {t : List Nat} (h0 : t ≠ []) (hb : ¬ badR t) (hl : ¬ letterR (dec t).1) : letN t = 0 := by unfold letN; rw [if_neg h0, if_neg hb, if_neg hl]
theorem letN_bad {t : List Nat} (hb : badR t) : letN t = 0 := by unfold letN; simp [hb]
theorem letN_le (t : List Nat) : letN t ≤ t.length := by
  unfold letN
  split
  · exact Nat.zero_le _
  · rename_i h0
    split
    · exact Nat.zero_le _
    · split
      · exact dec_le t h0
      · exact Nat.zero_le _
theorem ascii_good {t : List Nat} {c : Nat} (hc : c < 128) (hd : dec t = (c, 1)) : ¬ badR t := by
  unfold badR; rw [hd]; simp; omega
theorem drop_getD (s : List Nat) (p i : Nat) : (s.drop p).getD i 0 = s.getD (p + i) 0 := by simp [List.getD_eq_getElem?_getD]
theorem drop_ne {s : List Nat} {p : Nat} (h : p < s.length) : s.drop p ≠ [] := fun q => by have := congrArg List.length q; simp at this; omega

variable {S : Set0} (hS : Std S)
include hS
theorem letter_spec (s : List Nat) (p : Nat) (h : H) (hs : s.length < 2 ^ 61) (hp : p < 2 ^ 62) (hb : Bytes s) : Exact S.cfg 95 [.str s, .int .i64 p] h (.int .i64 (letN (s.drop p))) := by
  refine into Tryz.f95 _ Tryz.func95 (hS.own _ (by decide)) rfl rfl (by kernel_rfl) (by kernel_rfl) ?_
  by_cases hpl : p < s.length
  · have h0 := drop_ne hpl
    have hc : (s.drop p).getD 0 0 = s.getD p 0 := drop_getD s p 0
    have hbc := hb.getD p
    have hpl2 : ¬ s.length ≤ p := by omega
    by_cases hl : ((97 ≤ s.getD p 0 ∧ s.getD p 0 ≤ 122 ∨ 65 ≤ s.getD p 0 ∧ s.getD p 0 ≤ 90) ∨ s.getD p 0 = 95) ∨ s.getD p 0 = 36
    · simp +contextual (disch := first | (simp only [fq]; done) | omega) only [wps, fW, reduceLE, reduceLT, reduceLeDiff, UInt8.reduceToNat, ↓reduceIte, reduceEqDiff, reduceAdd, reduceCtorEq, reduceToNat, Tryz.f95, hpl, hpl2, hl]
      have hd := dec_ascii (s := s.drop p) (by rw [hc]; omega)
      rw [hc] at hd
      rw [letN_of h0 (ascii_good (by omega) hd) (by rw [hd]; unfold letterR; simp only; omega), hd]
    · by_cases ha : s.getD p 0 < 128
      · simp +contextual (disch := first | (simp only [fq]; done) | omega) only [wps, fW, reduceLE, reduceLT, reduceLeDiff, UInt8.reduceToNat, ↓reduceIte, reduceEqDiff, reduceAdd, reduceCtorEq, reduceToNat, Tryz.f95, hpl, hpl2, hl, ha]
        have hd := dec_ascii (s := s.drop p) (by rw [hc]; omega)
        rw [hc] at hd
        rw [letN_no h0 (ascii_good (by omega) hd) (by rw [hd]; unfold letterR; simp only; omega)]
      · simp +contextual (disch := first | (simp only [fq]; done) | omega) only [wps, fW, reduceLE, reduceLT, reduceLeDiff, UInt8.reduceToNat, ↓reduceIte, reduceEqDiff, reduceAdd, reduceCtorEq, reduceToNat, Tryz.f95, hpl, hpl2, hl, ha]
        refine ⟨by omega, callF_exact (decode_spec hS _ _) ?_⟩
        have hd : decG (s.drop p) = dec (s.drop p) := by
          unfold decG
          rw [if_neg h0]
        have hdp := dec_pos (s.drop p)
        have hdb := dec_big (s := s.drop p) (by rw [hc]; exact ha)
        rw [hd]
        simp +contextual (disch := first | (simp only [fq]; done) | omega) only [wps, fW, reduceLE, reduceLT, reduceLeDiff, UInt8.reduceToNat, ↓reduceIte, reduceEqDiff, reduceAdd, reduceCtorEq, reduceToNat, Tryz.f95, hpl, hpl2, hl, ha]
        refine ⟨fun q => ?_, fun q => ?_⟩
        · rw [letN_bad ⟨q.1, by omega⟩]
        · rw [letN_of h0 (fun b => q ⟨b.1, by have := b.2; omega⟩) (.inl hdb)]
  · have hpl2 : s.length ≤ p := by omega
    simp +contextual (disch := first | (simp only [fq]; done) | omega) only [wps, fW, reduceLE, reduceLT, reduceLeDiff, UInt8.reduceToNat, ↓reduceIte, reduceEqDiff, reduceAdd, reduceCtorEq, reduceToNat, Tryz.f95, hpl, hpl2]
    rw [letN, if_pos (by apply List.drop_eq_nil_of_le; omega)]
theorem many_spec (s : List Nat) (p : Nat) (h : H) (hs : s.length < 2 ^ 61) (hp : p ≤ s.length) (hb : Bytes s) : Exact S.cfg 72 [.str s, .int .i64 p] h (.tuple [.int .i64 ((p + (runF (s.drop p)).1 : Nat)), bo ((runF (s.drop p)).2 = true)]) := by
  refine into Tryz.f72 _ Tryz.func72 (hS.own _ (by decide)) rfl rfl (by kernel_rfl) (by kernel_rfl) ?_
  simp +contextual (disch := first | (simp only [fq]; done) | omega) only [wps, fW, reduceLE, reduceLT, reduceLeDiff, UInt8.reduceToNat, ↓reduceIte, reduceEqDiff, reduceAdd, reduceCtorEq, reduceToNat]
  refine run_loop (fun m env h' => ∃ (i : Nat) (L : Prop), m = s.length - (p + i) ∧ env 1 = .int .i64 ((p + i : Nat)) ∧ env 0 = .str s ∧ env 6 = bo L ∧ p + i ≤ s.length ∧ h' = h ∧ (runF (s.drop p)).1 = i + (runF (s.drop (p + i))).1 ∧ ((runF (s.drop p)).2 = true ↔ (L ∨ (runF (s.drop (p + i))).2 = true))) (s.length - p) ⟨0, False, by simp +contextual (disch := first | (simp only [fq]; done) | omega) only [wps, fW, reduceLE, reduceLT, reduceLeDiff, UInt8.reduceToNat, ↓reduceIte, reduceEqDiff, reduceAdd, reduceCtorEq, reduceToNat]; exact hp⟩ ?_
  rintro m env h' ⟨i, L, rfl, h1, h0, h6, hi, rfl, r1, r2⟩
  by_cases hpl : p + i < s.length
  · have hne := drop_ne hpl
    have hc : (s.drop (p + i)).getD 0 0 = s.getD (p + i) 0 := drop_getD s (p + i) 0
    simp +contextual (disch := first | (simp only [fq]; done) | omega) only [wps, fW, reduceLE, reduceLT, reduceLeDiff, UInt8.reduceToNat, ↓reduceIte, reduceEqDiff, reduceAdd, reduceCtorEq, reduceToNat, h1, h0, h6, hpl, Tryz.f72]
    refine callF_exact (rdigit_spec hS _ _) ?_
    by_cases hd : isDigit (s.getD (p + i) 0)
    · simp +contextual (disch := first | (simp only [fq]; done) | omega) only [wps, fW, reduceLE, reduceLT, reduceLeDiff, UInt8.reduceToNat, ↓reduceIte, reduceEqDiff, reduceAdd, reduceCtorEq, reduceToNat, h1, h0, h6, hpl, hd, Tryz.f72]
      have hda := dec_ascii (s := s.drop (p + i)) (by rw [hc]; have := hd.2; omega)
      rw [hc] at hda
      have e := runF_digit hne (ascii_good (by have := hd.2; omega) hda) (by rw [hda]; unfold letterR; simp only; have h1 := hd.1; have h2 := hd.2; omega) (by rw [hda]; exact hd)
      rw [hda] at e
      simp only [List.drop_drop] at e
      exact ⟨_, by omega, i + 1, L, rfl, by omega, rfl, by omega, by rw [r1, e]; simp only; rw [show p + (i + 1) = p + i + 1 by omega]; omega, by rw [r2, e]; rw [show p + (i + 1) = p + i + 1 by omega]⟩
    · simp +contextual (disch := first | (simp only [fq]; done) | omega) only [wps, fW, reduceLE, reduceLT, reduceLeDiff, UInt8.reduceToNat, ↓reduceIte, reduceEqDiff, reduceAdd, reduceCtorEq, reduceToNat, h1, h0, h6, hpl, hd, Tryz.f72]
      refine callF_exact (letter_spec hS s _ _ hs (by omega) hb) ?_
      by_cases hl : letN (s.drop (p + i)) = 0
      · simp +contextual (disch := first | (simp only [fq]; done) | omega) only [wps, fW, reduceLE, reduceLT, reduceLeDiff, UInt8.reduceToNat, ↓reduceIte, reduceEqDiff, reduceAdd, reduceCtorEq, reduceToNat, h1, h0, h6, hpl, hd, hl, Tryz.f72]
        have e : runF (s.drop (p + i)) = (0, false) := by
          by_cases hbd : badR (s.drop (p + i))
          · exact runF_bad hne hbd
          · by_cases hle : letterR (dec (s.drop (p + i))).1
            · have h1 := letN_of hne hbd hle
              have h2 := dec_pos (s.drop (p + i))
              omega
            · refine runF_stop hne hbd hle fun hdd => ?_
              by_cases ha : (s.drop (p + i)).getD 0 0 < 128
              · rw [dec_ascii ha, hc] at hdd
                exact hd hdd
              · exact hle (.inl (dec_big ha))
        rw [e] at r1 r2
        rw [r1]
        simp only [Nat.add_zero]
        exact congrArg (fun x => V.tuple [V.int .i64 ((p + i : Nat)), x]) (bo_eq (by rw [r2]; simp))
      · have hln := letN_le (s.drop (p + i))
        rw [List.length_drop] at hln
        simp +contextual (disch := first | (simp only [fq]; done) | omega) only [wps, fW, reduceLE, reduceLT, reduceLeDiff, UInt8.reduceToNat, ↓reduceIte, reduceEqDiff, reduceAdd, reduceCtorEq, reduceToNat, h1, h0, h6, hpl, hd, hl, Tryz.f72]
        have hbd : ¬ badR (s.drop (p + i)) := fun q => hl (letN_bad q)
        have hle : letterR (dec (s.drop (p + i))).1 := Decidable.byContradiction fun q => hl (letN_no hne hbd q)
        have e := runF_letter hne hbd hle
        rw [← letN_of hne hbd hle] at e
        simp only [List.drop_drop] at e
        exact ⟨_, by omega, i + letN (s.drop (p + i)), True, rfl, by omega, rfl, by omega, by rw [r1, e]; simp only; rw [show p + (i + letN (s.drop (p + i))) = p + i + letN (s.drop (p + i)) by omega]; omega, by rw [r2, e]; simp⟩
  · simp +contextual (disch := first | (simp only [fq]; done) | omega) only [wps, fW, reduceLE, reduceLT, reduceLeDiff, UInt8.reduceToNat, ↓reduceIte, reduceEqDiff, reduceAdd, reduceCtorEq, reduceToNat, h1, h0, h6, hpl, Tryz.f72]
    have e : runF (s.drop (p + i)) = (0, false) := by
      rw [List.drop_eq_nil_of_le (by omega), runF_nil]
    rw [e] at r1 r2
    rw [r1]
    simp only [Nat.add_zero]
    exact congrArg (fun x => V.tuple [V.int .i64 ((p + i : Nat)), x]) (bo_eq (by rw [r2]; simp))
end
end Go.Proofs.YtkibhdbmamfjcaaGreatDoor
set_option maxHeartbeats 1000000
set_option linter.unusedSimpArgs false
set_option linter.unusedVariables false
set_option maxRecDepth 10000
namespace Go.Proofs.YtkibhdbmamfjcaaGreatDoor
open Int (reduceLE reduceLT reduceToNat)
open Nat (reduceLeDiff reduceEqDiff reduceAdd)
open Go.Proofs Go.Lx Go.Wx Go.IntWalk
noncomputable section
def hexAt (t : List Nat) : Prop := 2 < t.length ∧ t.getD 0 0 = 48 ∧ (t.getD 1 0 = 120 ∨ t.getD 1 0 = 88) ∧ isHex (t.getD 2 0)
theorem hexAt_iff (t : List Nat) : (hexPre t ∧ 0 < countW isHex (t.drop 2)) ↔ hexAt t := by
  unfold hexPre hexAt countW
  match t with
  | [] => simp
  | [a] => simp
  | [a, b] => simp
  | a :: b :: c :: l =>
    by_cases hc : isHex c
    · simp [List.takeWhile_cons, hc]
      omega
    · simp [List.takeWhile_cons, hc]

variable {S : Set0} (hS : Std S)
include hS
theorem rnumber_spec (s : List Nat) (p : Nat) (h : H) (hs : s.length < 2 ^ 61) (hp : p ≤ s.length) (hb : Bytes s) : Exact S.cfg 73 [.str s, .int .i64 p] h (.int .i64 ((p + numN (s.drop p) : Nat))) := by
  have hg0 := drop_getD s p 0
  have hg1 := drop_getD s p 1
  have hg2 := drop_getD s p 2
  have hlen : (s.drop p).length = s.length - p := List.length_drop
  simp only [Nat.add_zero] at hg0
  have hA : hexAt (s.drop p) ↔ (p + 2 < s.length ∧ s.getD p 0 = 48 ∧ (s.getD (p + 1) 0 = 120 ∨ s.getD (p + 1) 0 = 88) ∧ isHex (s.getD (p + 2) 0)) := by
    unfold hexAt
    rw [hg0, hg1, hg2, hlen]
    constructor
    · exact fun ⟨a, b⟩ => ⟨by omega, b⟩
    · exact fun ⟨a, b⟩ => ⟨by omega, b⟩
  refine into Tryz.f73 _ Tryz.func73 (hS.own _ (by decide)) rfl rfl (by kernel_rfl) (by kernel_rfl) ?_
  simp +contextual (disch := first | (simp only [fq]; done) | omega) only [wps, fW, reduceLE, reduceLT, reduceLeDiff, UInt8.reduceToNat, ↓reduceIte, reduceEqDiff, reduceAdd, reduceCtorEq, reduceToNat, Tryz.f73]
  refine ⟨fun q => by omega, fun q => by have := q.1; omega, fun q => by have := q.1.1; omega, gCall_exact (first := []) (cap := []) (fun _ => rhex_spec hS _ _) (fun fp => ?_)⟩
  by_cases hx : hexAt (s.drop p)
  · have hx' := hA.1 hx
    have hc2 := countW_le isHex ((s.drop p).drop 2)
    rw [List.length_drop, hlen] at hc2
    have hN : numN (s.drop p) = 2 + countW isHex ((s.drop p).drop 2) := by rw [numN, if_pos ((hexAt_iff _).2 hx)]
    simp +contextual (disch := first | (simp only [fq]; done) | omega) only [wps, fW, reduceLE, reduceLT, reduceLeDiff, UInt8.reduceToNat, ↓reduceIte, reduceEqDiff, reduceAdd, reduceCtorEq, reduceToNat, hx', Tryz.f73]
    refine run_loop (fun m env h' => ∃ i : Nat, m = s.length - (p + 2 + i) ∧ env 5 = .int .i64 ((p + 2 + i : Nat)) ∧ env 0 = .str s ∧ p + 2 + i ≤ s.length ∧ i ≤ countW isHex ((s.drop p).drop 2) ∧ h' = h) (s.length - (p + 2)) ⟨0, by simp +contextual (disch := first | (simp only [fq]; done) | omega) only [wps, fW, reduceLE, reduceLT, reduceLeDiff, UInt8.reduceToNat, ↓reduceIte, reduceEqDiff, reduceAdd, reduceCtorEq, reduceToNat]; have := hx'.1; omega⟩ ?_
    rintro m env h' ⟨i, rfl, h3, h0, hi, hd, rfl⟩
    have e1 : s.getD (p + 2 + i) 0 = ((s.drop p).drop 2).getD i 0 := by simp [List.getD_eq_getElem?_getD]
    have e2 : ((s.drop p).drop 2).length = s.length - (p + 2) := by rw [List.length_drop, hlen]; omega
    simp +contextual (disch := first | (simp only [fq]; done) | omega) only [wps, fW, reduceLE, reduceLT, reduceLeDiff, UInt8.reduceToNat, ↓reduceIte, reduceEqDiff, reduceAdd, reduceCtorEq, reduceToNat, h3, h0, Tryz.f73]
    refine gCall_exact (first := []) (cap := []) (fun hlt => rhex_spec hS _ _) (fun fp => ?_)
    simp +contextual (disch := first | (simp only [fq]; done) | omega) only [wps, fW, reduceLE, reduceLT, reduceLeDiff, UInt8.reduceToNat, ↓reduceIte, reduceEqDiff, reduceAdd, reduceCtorEq, reduceToNat, h3, h0, Tryz.f73]
    refine ⟨fun hlt => ?_, fun hn => ?_⟩
    · exact ⟨_, by omega, i + 1, rfl, by omega, by omega, countW_step hd (by omega) (by rw [← e1]; exact hlt.2)⟩
    · rw [hN, ← countW_stop hd (by
        by_cases hlt : p + 2 + i < s.length
        · exact .inr (fun q => hn ⟨hlt, by rw [e1]; exact q⟩)
        · exact .inl (by omega))]
      omega
  · have hx' : ¬ (((p + 2 < s.length ∧ s.getD p 0 = 48) ∧ (s.getD (p + 1) 0 = 120 ∨ s.getD (p + 1) 0 = 88)) ∧ isHex (s.getD (p + 2) 0)) := fun q => hx (hA.2 ⟨q.1.1.1, q.1.1.2, q.1.2, q.2⟩)
    have hN : numN (s.drop p) = if deci (s.drop p) = 0 then 0 else expo (s.drop p) (deci (s.drop p)) := by rw [numN, if_neg (fun q => hx ((hexAt_iff _).1 q))]
    have hc1 := countW_le isDigit (s.drop p)
    rw [hlen] at hc1
    simp +contextual (disch := first | (simp only [fq]; done) | omega) only [wps, fW, reduceLE, reduceLT, reduceLeDiff, UInt8.reduceToNat, ↓reduceIte, reduceEqDiff, reduceAdd, reduceCtorEq, reduceToNat, hx', Tryz.f73]
    have hd1 := fun h' => rdigits_spec hS s p h' (by omega) (by omega)
    obtain ⟨t, ht⟩ : ∃ t, t = s.drop p := ⟨_, rfl⟩
    rw [← ht] at hd1 hN hc1 ⊢
    refine callF_exact (hd1 _) ?_
    simp +contextual (disch := first | (simp only [fq]; done) | omega) only [wpr, fW, reduceLE, reduceLT, reduceLeDiff, UInt8.reduceToNat, ↓reduceIte, reduceEqDiff, reduceAdd, reduceCtorEq, reduceToNat, Tryz.f73]
    refine run_cut (fun env' h' => env' 0 = .str s ∧ env' 1 = .int .i64 p ∧ env' 6 = .int .i64 ((p + deci t : Nat)) ∧ env' 7 = bo (0 < deci t) ∧ h' = h) ?_ ?_
    · simp +contextual (disch := first | (simp only [fq]; done) | omega) only [wps, fW, reduceLE, reduceLT, reduceLeDiff, UInt8.reduceToNat, ↓reduceIte, reduceEqDiff, reduceAdd, reduceCtorEq, reduceToNat, Tryz.f73]
      have tg : ∀ i, t.getD i 0 = s.getD (p + i) 0 := fun i => by rw [ht]; exact drop_getD s p i
      have tlen : t.length = s.length - p := by rw [ht]; exact hlen
      have td : ∀ i, s.drop (p + i) = t.drop i := fun i => by rw [ht, List.drop_drop]
      have tg0 := tg (countW isDigit t)
      refine ⟨fun hd => ?_, fun hd => ?_⟩
      · have hc3 := countW_le isDigit (s.drop (p + countW isDigit t + 1))
        rw [List.length_drop] at hc3
        have hdr : s.drop (p + countW isDigit t + 1) = t.drop (countW isDigit t + 1) := by rw [← td, Nat.add_assoc]
        refine callF_exact (rdigits_spec hS s (p + countW isDigit t + 1) _ (by omega) (by omega)) ?_
        rw [hdr] at hc3 ⊢
        simp +contextual (disch := first | (simp only [fq]; done) | omega) only [wps, fW, reduceLE, reduceLT, reduceLeDiff, UInt8.reduceToNat, ↓reduceIte, reduceEqDiff, reduceAdd, reduceCtorEq, reduceToNat, Tryz.f73]
        refine ⟨fun hz => ?_, fun hz => ?_⟩
        · have hdc : deci t = countW isDigit t := by rw [deci, if_neg (fun q => by omega)]
          rw [hN, if_pos (by omega), Nat.add_zero]
        · have hdc : deci t = countW isDigit t + 1 + countW isDigit (t.drop (countW isDigit t + 1)) := by rw [deci, if_pos ⟨by omega, by rw [tg0]; exact hd.2, by omega⟩]
          rw [hdc]
          exact ⟨by omega, bo_eq (by simp; omega)⟩
      · have hdc : deci t = countW isDigit t := by rw [deci, if_neg (fun q => hd ⟨by omega, by rw [← tg0]; exact q.2.1⟩)]
        rw [hdc]
        exact ⟨rfl, bo_eq (by omega)⟩
    · rintro env' h' ⟨h0, h1, h6, h7, rfl⟩
      simp +contextual (disch := first | (simp only [fq]; done) | omega) only [wps, fW, reduceLE, reduceLT, reduceLeDiff, UInt8.reduceToNat, ↓reduceIte, reduceEqDiff, reduceAdd, reduceCtorEq, reduceToNat, Tryz.f73, h0, h1, h6, h7]
      have tg : ∀ i, t.getD i 0 = s.getD (p + i) 0 := fun i => by rw [ht]; exact drop_getD s p i
      have tlen : t.length = s.length - p := by rw [ht]; exact hlen
      have td : ∀ i, s.drop (p + i) = t.drop i := fun i => by rw [ht, List.drop_drop]
      have tg0 := tg (deci t)
      have tg1 : t.getD (deci t + 1) 0 = s.getD (p + deci t + 1) 0 := by rw [tg, Nat.add_assoc]
      have hd4 : deci t ≤ t.length := by
        have hc3 := countW_le isDigit (t.drop (countW isDigit t + 1))
        rw [List.length_drop] at hc3
        unfold deci
        split <;> omega
      refine ⟨fun hz => by rw [hN, if_pos (by omega), Nat.add_zero], fun hz => ?_⟩
      have hN' : numN t = expo t (deci t) := by rw [hN, if_neg (by omega)]
      rw [hN']
      refine ⟨fun he => ⟨fun hk => ?_, fun hk => ?_⟩, fun he => ?_⟩
      · have hK : expK t (deci t) = deci t + 2 := by rw [expK, if_pos ⟨by omega, by rw [tg1]; exact hk.2⟩]
        have hdr : s.drop (p + deci t + 1 + 1) = t.drop (deci t + 2) := by rw [← td]; exact congrArg (fun k => s.drop k) (by omega)
        refine callF_exact (rdigits_spec hS s (p + deci t + 1 + 1) _ (by omega) (by omega)) ?_
        have hc3 := countW_le isDigit (t.drop (deci t + 2))
        rw [List.length_drop] at hc3
        rw [hdr]
        simp +contextual (disch := first | (simp only [fq]; done) | omega) only [wps, fW, reduceLE, reduceLT, reduceLeDiff, UInt8.reduceToNat, ↓reduceIte, reduceEqDiff, reduceAdd, reduceCtorEq, reduceToNat, Tryz.f73, h6]
        rw [← hK] at hc3 ⊢
        refine ⟨fun hr => ?_, fun hr => ?_⟩
        · rw [expo, if_pos ⟨by omega, by rw [tg0]; exact he.2, by omega⟩]
          omega
        · rw [expo, if_neg (fun q => by omega)]
      · have hK : expK t (deci t) = deci t + 1 := by rw [expK, if_neg (fun q => hk ⟨by omega, by rw [← tg1]; exact q.2⟩)]
        have hdr : s.drop (p + deci t + 1) = t.drop (deci t + 1) := by rw [← td]; exact congrArg (fun k => s.drop k) (by omega)
        refine callF_exact (rdigits_spec hS s (p + deci t + 1) _ (by omega) (by omega)) ?_
        have hc3 := countW_le isDigit (t.drop (deci t + 1))
        rw [List.length_drop] at hc3
        rw [hdr]
        simp +contextual (disch := first | (simp only [fq]; done) | omega) only [wps, fW, reduceLE, reduceLT, reduceLeDiff, UInt8.reduceToNat, ↓reduceIte, reduceEqDiff, reduceAdd, reduceCtorEq, reduceToNat, Tryz.f73, h6]
        rw [← hK] at hc3 ⊢
        refine ⟨fun hr => ?_, fun hr => ?_⟩
        · rw [expo, if_pos ⟨by omega, by rw [tg0]; exact he.2, by omega⟩]
          omega
        · rw [expo, if_neg (fun q => by omega)]
      · rw [expo, if_neg (fun q => he ⟨by omega, by rw [← tg0]; exact q.2.1⟩)]
end
end Go.Proofs.YtkibhdbmamfjcaaGreatDoor
set_option maxHeartbeats 1000000
set_option linter.unusedSimpArgs false
set_option linter.unusedVariables false
set_option maxRecDepth 10000
namespace Go.Proofs.YtkibhdbmamfjcaaGreatDoor
open Int (reduceLE reduceLT reduceToNat)
open Nat (reduceLeDiff reduceEqDiff reduceAdd)
open Go.Proofs Go.Lx Go.Wx Go.IntWalk
noncomputable section
def qtF (q : Nat) (t : List Nat) : Option (List Nat × Nat) := if q = 96 then qF t else tF q t
def qtV (p : Nat) (r : Option (List Nat × Nat)) : V := match r with
  | some r => .tuple [.str r.1, .int .i64 ((p + 1 + r.2 : Nat))]
  | none => .tuple [.str [], .int .i64 (-1)]
theorem qt_nil (q : Nat) {s : List Nat} {i : Nat} (hi : s.length ≤ i) : qtF q (s.drop i) = none := by
  rw [List.drop_eq_nil_of_le hi, qtF]
  split <;> rfl
theorem qt_esc {q : Nat} {s : List Nat} {i : Nat} (hi : i + 1 < s.length) (h1 : s.getD i 0 = 92) (h2 : q ≠ 96) : qtF q (s.drop i) = (qtF q (s.drop (i + 2))).map fun r => (escB (s.getD (i + 1) 0) ++ r.1, r.2 + 2) := by
  rw [qtF, if_neg h2, tF_esc hi h1, qtF, if_neg h2]
theorem qt_esc_end {q : Nat} {s : List Nat} {i : Nat} (hi : i + 1 = s.length) (h1 : s.getD i 0 = 92) (h2 : q ≠ 96) : qtF q (s.drop i) = none := by
  rw [qtF, if_neg h2, tF_esc_end hi h1]
theorem qt_end {q : Nat} {s : List Nat} {i : Nat} (hi : i < s.length) (h0 : ¬ (s.getD i 0 = 92 ∧ q ≠ 96)) (h1 : s.getD i 0 = q) (h2 : i + 1 = s.length ∨ s.getD (i + 1) 0 ≠ q) : qtF q (s.drop i) = some ([], 1) := by
  unfold qtF
  by_cases hq : q = 96
  · subst hq
    rw [if_pos rfl, qF_end hi h1 h2]
  · rw [if_neg hq, tF_end hi (fun e => h0 ⟨e, hq⟩) h1 h2]
theorem qt_two {q : Nat} {s : List Nat} {i : Nat} (hi : i + 1 < s.length) (h0 : ¬ (s.getD i 0 = 92 ∧ q ≠ 96)) (h1 : s.getD i 0 = q) (h2 : s.getD (i + 1) 0 = q) : qtF q (s.drop i) = (qtF q (s.drop (i + 2))).map fun r => (q :: r.1, r.2 + 2) := by
  unfold qtF
  by_cases hq : q = 96
  · subst hq
    rw [if_pos rfl, qF_two hi h1 h2, if_pos rfl]
  · rw [if_neg hq, tF_two hi (fun e => h0 ⟨e, hq⟩) h1 h2, if_neg hq]
theorem qt_one {q : Nat} {s : List Nat} {i : Nat} (hi : i < s.length) (h0 : ¬ (s.getD i 0 = 92 ∧ q ≠ 96)) (h1 : s.getD i 0 ≠ q) : qtF q (s.drop i) = (qtF q (s.drop (i + 1))).map fun r => (s.getD i 0 :: r.1, r.2 + 1) := by
  unfold qtF
  by_cases hq : q = 96
  · subst hq
    rw [if_pos rfl, qF_one hi h1, if_pos rfl]
  · rw [if_neg hq, tF_one hi (fun e => h0 ⟨e, hq⟩) h1, if_neg hq]
theorem map_acc {o : Option (List Nat × Nat)} {acc x : List Nat} {k m : Nat} : (o.map fun r => (x ++ r.1, r.2 + m)).map (fun r => (acc ++ r.1, k + r.2)) = o.map fun r => ((acc ++ x) ++ r.1, (k + m) + r.2) := by
  cases o with
  | none => rfl
  | some r => simp only [Option.map_some, List.append_assoc, Option.some.injEq, Prod.mk.injEq, true_and]; omega
theorem escB_ne (b : Nat) : 0 < (escB b).length ∧ (escB b).length ≤ 2 := by
  unfold escB
  repeat' split
  all_goals simp

variable {S : Set0} (hS : Std S)
include hS
theorem rescaped_spec (b : Nat) (h : H) (hb : b < 256) : Pure S.cfg 97 [.int .u8 b] h fun v _ => v = .str (escB b) := by
  refine into Tryz.f97 _ Tryz.func97 (hS.own _ (by decide)) rfl rfl (by kernel_rfl) (by kernel_rfl) ?_
  have hx : Ext h h := Ext.refl h
  have hr : rdN (some (.cells [.int .u8 b] 5 false)) 0 1 = some [b] := rdN_bytes (l := [b]) (e := 5) (p := false) (by simpa using hb)
  have hr2 : rdN (some (.cells [.int .u8 b] 5 true)) 0 1 = some [b] := rdN_bytes (l := [b]) (e := 5) (p := true) (by simpa using hb)
  simp +contextual (disch := first | (simp only [fq]; done) | omega) only [wps, fW, reduceLE, reduceLT, reduceLeDiff, UInt8.reduceToNat, ↓reduceIte, reduceEqDiff, reduceAdd, reduceCtorEq, reduceToNat, Tryz.f97, hr, hr2]
  refine ⟨fun _ => ⟨hx, rfl⟩, fun h1 => ⟨fun _ => ⟨hx, rfl⟩, fun h2 => ⟨fun _ => ⟨hx, rfl⟩, fun h3 => ⟨fun _ => ⟨hx, rfl⟩, fun h4 => ⟨fun _ => ⟨hx, rfl⟩, fun h5 => ⟨fun _ => ⟨hx, rfl⟩, fun h6 => ⟨fun _ => ⟨hx.push _, rfl⟩, fun h7 => ⟨fun _ => ⟨hx.push _, rfl⟩, fun h8 => ⟨hx.push _, ?_⟩⟩⟩⟩⟩⟩⟩⟩⟩
  simp [escB, h1, h2, h3, h4, h5, h6, h7, h8]
theorem has_spec (s w : List Nat) (p : Nat) (h : H) (hs : s.length < 2 ^ 61) (hw : w.length < 2 ^ 20) (hp : p ≤ s.length) : Exact S.cfg 68 [.str s, .str w, .int .i64 p] h (bo (hasP (s.drop p) w)) := by
  refine into Tryz.f68 _ Tryz.func68 (hS.own _ (by decide)) rfl rfl (by kernel_rfl) (by kernel_rfl) ?_
  simp +contextual (disch := first | (simp only [fq]; done) | omega) only [wps, fW, reduceLE, reduceLT, reduceLeDiff, UInt8.reduceToNat, ↓reduceIte, reduceEqDiff, reduceAdd, reduceCtorEq, reduceToNat, Tryz.f68]
  refine ⟨fun _ => by omega, bo_eq ?_⟩
  unfold hasP
  rw [List.drop_take, List.length_drop, show p + w.length - p = w.length by omega]
  constructor
  · exact fun ⟨a, b⟩ => ⟨by omega, b⟩
  · exact fun ⟨a, b⟩ => ⟨by omega, b⟩
omit hS
theorem isPre_iff : ∀ (w s : List Nat), isPre w s = true ↔ hasP s w
  | [], s => by simp [isPre, hasP]
  | a :: w, [] => by simp [isPre, hasP]
  | a :: w, b :: s => by
    have ih := isPre_iff w s
    unfold hasP at ih ⊢
    simp only [isPre, Bool.and_eq_true, ih, List.length_cons, List.take_succ_cons, List.cons.injEq]
    rw [Nat.beq_eq]
    constructor
    · exact fun ⟨x, y, z⟩ => ⟨by omega, x.symm, z⟩
    · exact fun ⟨x, y, z⟩ => ⟨y.symm, by omega, z⟩
theorem findS_hit {w t : List Nat} (h0 : t ≠ []) (h : hasP t w) : findS w t = some 0 := by
  cases t with
  | nil => exact absurd rfl h0
  | cons x l =>
    unfold findS
    rw [if_pos ((isPre_iff _ _).2 h)]
theorem findS_step {w t : List Nat} (h0 : t ≠ []) (h : ¬ hasP t w) : findS w t = (findS w (t.drop 1)).map (· + 1) := by
  cases t with
  | nil => exact absurd rfl h0
  | cons x l =>
    rw [findS.eq_def]
    simp only
    rw [if_neg (fun q => h ((isPre_iff _ _).1 q))]
    rfl
theorem findS_short {w t : List Nat} (h : t.length < w.length) : findS w t = none := by
  cases hf : findS w t with
  | none => rfl
  | some i => have := findS_le hf; omega
include hS
theorem ends_spec (s w : List Nat) (p : Nat) (h : H) (hs : s.length < 2 ^ 61) (hw : w.length < 2 ^ 20) (hw0 : w ≠ []) (hp : p ≤ s.length) : Exact S.cfg 69 [.str s, .str w, .int .i64 p] h (match findS w (s.drop p) with
    | some i => .int .i64 ((p + i + w.length : Nat))
    | none => .int .i64 (-1)) := by
  refine into Tryz.f69 _ Tryz.func69 (hS.own _ (by decide)) rfl rfl (by kernel_rfl) (by kernel_rfl) ?_
  simp +contextual (disch := first | (simp only [fq]; done) | omega) only [wps, fW, reduceLE, reduceLT, reduceLeDiff, UInt8.reduceToNat, ↓reduceIte, reduceEqDiff, reduceAdd, reduceCtorEq, reduceToNat, Tryz.f69]
  refine run_loop (fun m env h' => ∃ (i : Nat), m = s.length + 1 - (p + i) ∧ env 7 = .int .i64 ((p + i : Nat)) ∧ env 0 = .str s ∧ env 1 = .str w ∧ p + i ≤ s.length + 1 ∧ h' = h ∧ findS w (s.drop p) = (findS w (s.drop (p + i))).map (i + ·)) (s.length + 1 - p) ⟨0, by simp +contextual (disch := first | (simp only [fq]; done) | omega) only [wps, fW, reduceLE, reduceLT, reduceLeDiff, UInt8.reduceToNat, ↓reduceIte, reduceEqDiff, reduceAdd, reduceCtorEq, reduceToNat]; exact ⟨by omega, by cases findS w (s.drop p) <;> rfl⟩⟩ ?_
  rintro m env h' ⟨i, rfl, h7, h0, h1, hi, rfl, hr⟩
  simp +contextual (disch := first | (simp only [fq]; done) | omega) only [wps, fW, reduceLE, reduceLT, reduceLeDiff, UInt8.reduceToNat, ↓reduceIte, reduceEqDiff, reduceAdd, reduceCtorEq, reduceToNat, h7, h0, h1, Tryz.f69]
  have hsub : (s.take (p + i + w.length)).drop (p + i) = (s.drop (p + i)).take w.length := by rw [List.drop_take, show p + i + w.length - (p + i) = w.length by omega]
  have hw1 : 0 < w.length := List.length_pos_iff.2 hw0
  rw [hsub]
  refine ⟨fun hl => ⟨by omega, fun he => ?_, fun he => ?_⟩, fun hl => ?_⟩
  · have hne : s.drop (p + i) ≠ [] := drop_ne (by omega)
    rw [hr, findS_hit hne ⟨by rw [List.length_drop]; omega, he⟩]
    rfl
  · have hne : s.drop (p + i) ≠ [] := drop_ne (by omega)
    refine ⟨_, ?_, i + 1, rfl, by omega, by omega, ?_⟩
    · omega
    · rw [hr, findS_step hne (fun q => he q.2), List.drop_drop, show p + (i + 1) = p + i + 1 by omega]
      cases findS w (s.drop (p + i + 1)) with
      | none => rfl
      | some k => show some (i + (k + 1)) = some (i + 1 + k); congr 1; omega
  · rw [hr, findS_short (by rw [List.length_drop]; omega)]
    rfl
theorem rquoted_spec (s : List Nat) (p : Nat) (h : H) (hs : s.length < 2 ^ 26) (hb : Bytes s) (hp : p < s.length) (hq92 : s.getD p 0 ≠ 92) : Pure S.cfg 71 [.str s, .int .i64 p] h fun v _ => v = qtV p (qtF (s.getD p 0) (s.drop (p + 1))) := by
  refine into Tryz.f71 _ Tryz.func71 (hS.own _ (by decide)) rfl rfl (by kernel_rfl) (by kernel_rfl) ?_
  simp +contextual (disch := first | (simp only [fq]; done) | omega) only [wps, fW, reduceLE, reduceLT, reduceLeDiff, UInt8.reduceToNat, ↓reduceIte, reduceEqDiff, reduceAdd, reduceCtorEq, reduceToNat, Tryz.f71, hp]
  obtain ⟨q, hq⟩ : ∃ q, q = s.getD p 0 := ⟨_, rfl⟩
  have hqb : q < 256 := by rw [hq]; exact hb.getD p
  rw [← hq] at hq92 ⊢
  refine run_loop (fun m env h' => ∃ (i : Nat) (acc : List Nat) (v : V), m = s.length - i ∧ env 8 = .int .i64 i ∧ env 0 = .str s ∧ env 6 = .int .u8 q ∧ env 7 = v ∧ p + 1 ≤ i ∧ i ≤ s.length ∧ Acc h.nx h' v (bytesV acc) 5 1 ∧ Bytes acc ∧ acc.length ≤ 2 * i ∧ Ext h h' ∧ qtF q (s.drop (p + 1)) = (qtF q (s.drop i)).map fun r => (acc ++ r.1, (i - (p + 1)) + r.2)) (s.length - (p + 1)) ⟨p + 1, [], .nilslice, by simp +contextual (disch := first | (simp only [fq]; done) | omega) only [wps, fW, reduceLE, reduceLT, reduceLeDiff, UInt8.reduceToNat, ↓reduceIte, reduceEqDiff, reduceAdd, reduceCtorEq, reduceToNat]; exact ⟨by omega, .inl ⟨rfl, rfl⟩, fun b hb => (by simp at hb), Ext.refl h, by cases qtF q (s.drop (p + 1)) <;> simp⟩⟩ ?_
  rintro m env h' ⟨i, acc, v, rfl, h8, h0, h6, h7, hpi, hi, hA, hba, hla, hx, hr⟩
  by_cases hlt : i < s.length
  · simp +contextual (disch := first | (simp only [fq]; done) | omega) only [wps, fW, reduceLE, reduceLT, reduceLeDiff, UInt8.reduceToNat, ↓reduceIte, reduceEqDiff, reduceAdd, reduceCtorEq, reduceToNat, h8, h0, h6, h7, hlt, Tryz.f71]
    have hcl := hA.cell.1
    have hic := hA.cell.2
    have hbi := hb.getD i
    refine ⟨fun hesc => ⟨fun hl => ⟨hx, ?_⟩, fun hl => ⟨by omega, ?_⟩⟩, fun hesc => ?_⟩
    · rw [hr, qt_esc_end (by omega) hesc.1 hesc.2]
      rfl
    · refine callF_pure (rescaped_spec hS _ _ (hb.getD _)) ?_
      rintro v2 h2 hx2 rfl
      simp +contextual (disch := first | (simp only [fq]; done) | omega) only [wps, fW, reduceLE, reduceLT, reduceLeDiff, UInt8.reduceToNat, ↓reduceIte, reduceEqDiff, reduceAdd, reduceCtorEq, reduceToNat, h8, h0, h6, h7, hlt, hcl, hic, Tryz.f71]
      have he := escB_ne (s.getD (i + 1) 0)
      have heb := (escB_bytes (hb.getD (i + 1))).1
      refine append_strV (sv := v) (n0 := h.nx) (cells := bytesV acc) (bs := escB (s.getD (i + 1) 0)) ?_ ap35 ⟨.string, by kernel_rfl, rfl⟩ (hA.stay hx2.1 fun k _ hk => hx2.2 k hk) ?_ he.1 ?_ ?_ ?_ ?_
      · simp +contextual (disch := first | (simp only [fq]; done) | omega) only [wps, fW, reduceLE, reduceLT, reduceLeDiff, UInt8.reduceToNat, ↓reduceIte, reduceEqDiff, reduceAdd, reduceCtorEq, reduceToNat]
      · simp +contextual (disch := first | (simp only [fq]; done) | omega) only [wps, fW, reduceLE, reduceLT, reduceLeDiff, UInt8.reduceToNat, ↓reduceIte, reduceEqDiff, reduceAdd, reduceCtorEq, reduceToNat]
      · rw [bytesV_length]; omega
      · exact fun k hk => by rw [fresh_def]; exact .inl hk
      · intro v3 h3 L hA3 hst hL
        have hcl3 := hA3.cell.1
        have hic3 := hA3.cell.2
        simp +contextual (disch := first | (simp only [fq]; done) | omega) only [wps, fW, reduceLE, reduceLT, reduceLeDiff, UInt8.reduceToNat, ↓reduceIte, reduceEqDiff, reduceAdd, reduceCtorEq, reduceToNat, h8, h0, h6, h7, hlt, hcl, hic, hcl3, hic3, Tryz.f71]
        refine ⟨_, ?_, i + 2, acc ++ escB (s.getD (i + 1) 0), v3, rfl, ?_⟩
        · omega
        · simp +contextual (disch := first | (simp only [fq]; done) | omega) only [wps, fW, reduceLE, reduceLT, reduceLeDiff, UInt8.reduceToNat, ↓reduceIte, reduceEqDiff, reduceAdd, reduceCtorEq, reduceToNat, h0, h6]
          refine ⟨by omega, by omega, by rw [bytesV_append]; exact hA3, fun b hb' => ?_, by omega, StaysBut.ext (n0 := 0) (hx.trans hx2) hst (hA.stay hx2.1 fun k _ hk => hx2.2 k hk), ?_⟩
          · rcases List.mem_append.1 hb' with hb' | hb'
            · exact hba b hb'
            · exact heb b hb'
          · rw [hr, qt_esc (by omega) hesc.1 hesc.2, map_acc, show i + 2 - (p + 1) = i - (p + 1) + 2 by omega]
      · exact Nat.le_trans hx.1 hx2.1
    · have hbs : rdC (some (.cells [.int .u8 (s.getD i 0)] 5 false)) 0 (1 * 1) = some [.int .u8 (s.getD i 0)] := rfl
      by_cases hsq : s.getD i 0 = q
      · by_cases htwo : i + 1 < s.length ∧ s.getD (i + 1) 0 = q
        · simp +contextual (disch := first | (simp only [fq]; done) | omega) only [wps, fW, reduceLE, reduceLT, reduceLeDiff, UInt8.reduceToNat, ↓reduceIte, reduceEqDiff, reduceAdd, reduceCtorEq, reduceToNat, h8, h0, h6, h7, hlt, hcl, hic, hsq, htwo, Tryz.f71]
          refine append_accV (sv := v) (n0 := h.nx) (cells := bytesV acc) (new := [.int .u8 (q : Nat)]) (b2 := h'.nx) (o2 := 0) (n := 1) (m := 1) ?_ ap35 ⟨.slice 5, by kernel_rfl, rfl⟩ hA.push ?_ ?_ ?_ rfl rfl ?_ (by decide) ?_ ?_ ?_
          · simp +contextual (disch := first | (simp only [fq]; done) | omega) only [wps, fW, reduceLE, reduceLT, reduceLeDiff, UInt8.reduceToNat, ↓reduceIte, reduceEqDiff, reduceAdd, reduceCtorEq, reduceToNat]
          · simp +contextual (disch := first | (simp only [fq]; done) | omega) only [wps, fW, reduceLE, reduceLT, reduceLeDiff, UInt8.reduceToNat, ↓reduceIte, reduceEqDiff, reduceAdd, reduceCtorEq, reduceToNat]
          · decide
          · simp +contextual (disch := first | (simp only [fq]; done) | omega) only [wps, fW, reduceLE, reduceLT, reduceLeDiff, UInt8.reduceToNat, ↓reduceIte, reduceEqDiff, reduceAdd, reduceCtorEq, reduceToNat]
            rfl
          · rw [bytesV_length]
            show acc.length + 1 ≤ _
            omega
          · exact fun k hk => by rw [fresh_def]; exact .inl hk
          · intro v3 h3 L hA3 hst hL
            have hcl3 := hA3.cell.1
            have hic3 := hA3.cell.2
            simp +contextual (disch := first | (simp only [fq]; done) | omega) only [wps, fW, reduceLE, reduceLT, reduceLeDiff, UInt8.reduceToNat, ↓reduceIte, reduceEqDiff, reduceAdd, reduceCtorEq, reduceToNat, h8, h0, h6, h7, hlt, hcl, hic, hcl3, hic3, hsq, htwo, Tryz.f71]
            refine ⟨_, ?_, i + 2, acc ++ [q], v3, rfl, ?_⟩
            · omega
            · simp +contextual (disch := first | (simp only [fq]; done) | omega) only [wps, fW, reduceLE, reduceLT, reduceLeDiff, UInt8.reduceToNat, ↓reduceIte, reduceEqDiff, reduceAdd, reduceCtorEq, reduceToNat, h0, h6]
              refine ⟨by omega, by omega, by rw [bytesV_append]; exact hA3, fun b hb' => ?_, by omega, StaysBut.ext (n0 := 0) (hx.push _) hst hA.push, ?_⟩
              · rcases List.mem_append.1 hb' with hb' | hb'
                · exact hba b hb'
                · rw [List.mem_singleton.1 hb']; omega
              · rw [hr, qt_two htwo.1 hesc hsq htwo.2]
                have := map_acc (o := qtF q (s.drop (i + 2))) (acc := acc) (x := [q]) (k := i - (p + 1)) (m := 2)
                rw [show i + 2 - (p + 1) = i - (p + 1) + 2 by omega]
                exact this
          · show h.nx ≤ h'.nx + 1
            have := hx.1
            omega
        · simp +contextual (disch := first | (simp only [fq]; done) | omega) only [wps, fW, reduceLE, reduceLT, reduceLeDiff, UInt8.reduceToNat, ↓reduceIte, reduceEqDiff, reduceAdd, reduceCtorEq, reduceToNat, h8, h0, h6, h7, hlt, hcl, hic, hsq, htwo, Tryz.f71]
          have hend : qtF q (s.drop (p + 1)) = some (acc ++ [], i - (p + 1) + 1) := by
            rw [hr, qt_end hlt hesc hsq (by
              by_cases hl : i + 1 < s.length
              · exact .inr (fun e => htwo ⟨hl, e⟩)
              · exact .inl (by omega))]
            rfl
          rw [List.append_nil] at hend
          rcases hA with ⟨rfl, hnil⟩ | ⟨b, n, h1, h2, rfl, hn, hg, hl⟩
          · have hacc : acc = [] := by simpa [bytesV] using hnil
            simp +contextual (disch := first | (simp only [fq]; done) | omega) only [wps, fW, reduceLE, reduceLT, reduceLeDiff, UInt8.reduceToNat, ↓reduceIte, reduceEqDiff, reduceAdd, reduceCtorEq, reduceToNat, h8, h0, h6, h7, hlt, hcl, hic, hsq, htwo, Tryz.f71]
            exact ⟨hx, by rw [hend, qtV]; simp only; rw [hacc, show p + 1 + (i - (p + 1) + 1) = i + 1 by omega]⟩
          · have hn2 : n = acc.length := by rw [bytesV_length, Nat.mul_one] at hl; exact hl.symm
            subst hn2
            have hrd : rdN (some (.cells (bytesV acc) 5 true)) 0 acc.length = some acc := rdN_bytes hba
            simp +contextual (disch := first | (simp only [fq]; done) | omega) only [wps, fW, reduceLE, reduceLT, reduceLeDiff, UInt8.reduceToNat, ↓reduceIte, reduceEqDiff, reduceAdd, reduceCtorEq, reduceToNat, h8, h0, h6, h7, hlt, hcl, hic, hsq, htwo, hg, hrd, Tryz.f71]
            exact ⟨hx, by rw [hend, qtV]; simp only; rw [show p + 1 + (i - (p + 1) + 1) = i + 1 by omega]⟩
      · simp +contextual (disch := first | (simp only [fq]; done) | omega) only [wps, fW, reduceLE, reduceLT, reduceLeDiff, UInt8.reduceToNat, ↓reduceIte, reduceEqDiff, reduceAdd, reduceCtorEq, reduceToNat, h8, h0, h6, h7, hlt, hcl, hic, hsq, Tryz.f71]
        refine append_accV (sv := v) (n0 := h.nx) (cells := bytesV acc) (new := [.int .u8 (s.getD i 0 : Nat)]) (b2 := h'.nx) (o2 := 0) (n := 1) (m := 1) ?_ ap35 ⟨.slice 5, by kernel_rfl, rfl⟩ hA.push ?_ ?_ ?_ rfl rfl ?_ (by decide) ?_ ?_ ?_
        · simp +contextual (disch := first | (simp only [fq]; done) | omega) only [wps, fW, reduceLE, reduceLT, reduceLeDiff, UInt8.reduceToNat, ↓reduceIte, reduceEqDiff, reduceAdd, reduceCtorEq, reduceToNat]
        · simp +contextual (disch := first | (simp only [fq]; done) | omega) only [wps, fW, reduceLE, reduceLT, reduceLeDiff, UInt8.reduceToNat, ↓reduceIte, reduceEqDiff, reduceAdd, reduceCtorEq, reduceToNat]
        · decide
        · simp +contextual (disch := first | (simp only [fq]; done) | omega) only [wps, fW, reduceLE, reduceLT, reduceLeDiff, UInt8.reduceToNat, ↓reduceIte, reduceEqDiff, reduceAdd, reduceCtorEq, reduceToNat]
          rfl
        · rw [bytesV_length]
          show acc.length + 1 ≤ _
          omega
        · exact fun k hk => by rw [fresh_def]; exact .inl hk
        · intro v3 h3 L hA3 hst hL
          have hcl3 := hA3.cell.1
          have hic3 := hA3.cell.2
          simp +contextual (disch := first | (simp only [fq]; done) | omega) only [wps, fW, reduceLE, reduceLT, reduceLeDiff, UInt8.reduceToNat, ↓reduceIte, reduceEqDiff, reduceAdd, reduceCtorEq, reduceToNat, h8, h0, h6, h7, hlt, hcl, hic, hcl3, hic3, hsq, Tryz.f71]
          refine ⟨_, ?_, i + 1, acc ++ [s.getD i 0], v3, rfl, ?_⟩
          · omega
          · simp +contextual (disch := first | (simp only [fq]; done) | omega) only [wps, fW, reduceLE, reduceLT, reduceLeDiff, UInt8.reduceToNat, ↓reduceIte, reduceEqDiff, reduceAdd, reduceCtorEq, reduceToNat, h0, h6]
            refine ⟨by omega, by omega, by rw [bytesV_append]; exact hA3, fun b hb' => ?_, by omega, StaysBut.ext (n0 := 0) (hx.push _) hst hA.push, ?_⟩
            · rcases List.mem_append.1 hb' with hb' | hb'
              · exact hba b hb'
              · rw [List.mem_singleton.1 hb']; omega
            · rw [hr, qt_one hlt hesc hsq]
              have := map_acc (o := qtF q (s.drop (i + 1))) (acc := acc) (x := [s.getD i 0]) (k := i - (p + 1)) (m := 1)
              rw [show i + 1 - (p + 1) = i - (p + 1) + 1 by omega]
              exact this
        · show h.nx ≤ h'.nx + 1
          have := hx.1
          omega
  · simp +contextual (disch := first | (simp only [fq]; done) | omega) only [wps, fW, reduceLE, reduceLT, reduceLeDiff, UInt8.reduceToNat, ↓reduceIte, reduceEqDiff, reduceAdd, reduceCtorEq, reduceToNat, h8, h0, h6, h7, hlt, Tryz.f71]
    exact ⟨hx, by rw [hr, qt_nil _ (by omega)]; rfl⟩
end
end Go.Proofs.YtkibhdbmamfjcaaGreatDoor
set_option maxHeartbeats 1000000
set_option linter.unusedSimpArgs false
set_option linter.unusedVariables false
set_option maxRecDepth 10000
namespace Go.Proofs.YtkibhdbmamfjcaaGreatDoor
open Int (reduceLE reduceLT reduceToNat)
open Nat (reduceLeDiff reduceEqDiff reduceAdd)
open Go.Proofs Go.Lx Go.Wx Go.IntWalk
noncomputable section

def notNl (b : Nat) : Prop := ¬ b = 10
instance (b : Nat) : Decidable (notNl b) := inferInstanceAs (Decidable (¬ _))
def remD (t : List Nat) : Option Nat :=
  if lineP t then some (countW notNl t)
  else if ¬ hasP t [47, 42] ∨ hasP t [47, 42, 33] ∨ hasP t [47, 42, 43] then some 0
  else (findS [42, 47] (t.drop 2)).map (· + 4)
def atV (p : Nat) (r : Option Nat) : V := match r with
  | some k => .int .i64 ((p + k : Nat))
  | none => .int .i64 (-1)

def onesT : List Nat := [40, 41, 44, 59, 46, 43, 45, 42, 47, 37, 61, 60, 62, 38, 124, 94, 126, 33, 123, 125, 91, 93, 58]
theorem take_one {t : List Nat} (h : t ≠ []) : t.take 1 = [t.getD 0 0] := by
  cases t with
  | nil => exact absurd rfl h
  | cons x l => rfl
theorem ones_step {t : List Nat} (h : t ≠ []) {i : Nat} (hi : i < onesT.length) : trySign t ((onesT.drop i).map fun b => [b]) = if t.getD 0 0 = onesT.getD i 0 then ⟨5, [onesT.getD i 0], 1, 0⟩ else trySign t ((onesT.drop (i + 1)).map fun b => [b]) := by
  have hl : 0 < t.length := List.length_pos_iff.2 h
  rw [drop_cons hi, List.map_cons, trySign]
  by_cases he : t.getD 0 0 = onesT.getD i 0
  · rw [if_pos he, if_pos ⟨hl, by rw [← he]; exact take_one h⟩]
    rfl
  · rw [if_neg he, if_neg]
    intro q
    have q2 := q.2
    have : t.take 1 = [onesT.getD i 0] := q2
    rw [take_one h] at this
    exact he (List.cons.inj this).1
theorem ones_sub {i : Nat} (hi : i < onesT.length) : (onesT.take (i + 1)).drop i = [onesT.getD i 0] := by
  rw [List.drop_take, show i + 1 - i = 1 by omega, drop_cons hi]
  rfl
theorem ones_tab : signsL.drop 12 = onesT.map fun b => [b] := rfl

variable {S : Set0} (hS : Std S)
include hS
theorem remark_spec (s : List Nat) (p : Nat) (h : H) (hs : s.length < 2 ^ 26) (hb : Bytes s) (hp : p < s.length) : Exact S.cfg 35 [.str s, .int .i64 p] h (atV p (remD (s.drop p))) := by
  refine into Tryz.f35 _ Tryz.func35 (hS.own _ (by decide)) rfl rfl (by kernel_rfl) (by kernel_rfl) ?_
  simp +contextual (disch := first | (simp only [fq]; done) | omega) only [wps, fW, reduceLE, reduceLT, reduceLeDiff, UInt8.reduceToNat, ↓reduceIte, reduceEqDiff, reduceAdd, reduceCtorEq, reduceToNat, Tryz.f35, hp]
  have e0 := drop_getD s p 0
  have e2 := drop_getD s p 2
  have hlen : (s.drop p).length = s.length - p := List.length_drop
  have hne := drop_ne hp
  simp only [Nat.add_zero] at e0
  refine gCall_exact (first := []) (cap := []) (fun _ => has_spec hS s [45, 45] p _ (by omega) (by decide) (by omega)) (fun fp => ?_)
  simp +contextual (disch := first | (simp only [fq]; done) | omega) only [wps, fW, reduceLE, reduceLT, reduceLeDiff, UInt8.reduceToNat, ↓reduceIte, reduceEqDiff, reduceAdd, reduceCtorEq, reduceToNat, Tryz.f35, hp]
  refine gCall_exact (first := []) (cap := []) (fun _ => rblank_spec hS _ _) (fun fp => ?_)
  by_cases hl : lineP (s.drop p)
  · have hc : s.getD p 0 = 35 ∨ (hasP (s.drop p) [45, 45] ∧ p + 2 < s.length) ∧ isBlank (s.getD (p + 2) 0) := by
      have := hl
      unfold lineP at this
      rw [e0, e2, hlen] at this
      rcases this with a | ⟨a, b, c⟩
      · exact .inl a
      · exact .inr ⟨⟨a, by omega⟩, c⟩
    simp +contextual (disch := first | (simp only [fq]; done) | omega) only [wps, fW, reduceLE, reduceLT, reduceLeDiff, UInt8.reduceToNat, ↓reduceIte, reduceEqDiff, reduceAdd, reduceCtorEq, reduceToNat, Tryz.f35, hp, hc]
    refine run_loop (fun m env h' => ∃ i : Nat, m = s.length - (p + i) ∧ env 1 = .int .i64 ((p + i : Nat)) ∧ env 0 = .str s ∧ p + i ≤ s.length ∧ i ≤ countW notNl (s.drop p) ∧ h' = h) (s.length - p) ⟨0, by simp +contextual (disch := first | (simp only [fq]; done) | omega) only [wps, fW, reduceLE, reduceLT, reduceLeDiff, UInt8.reduceToNat, ↓reduceIte, reduceEqDiff, reduceAdd, reduceCtorEq, reduceToNat]; omega⟩ ?_
    rintro m env h' ⟨i, rfl, h3, h0, hi, hd, rfl⟩
    have e1 : s.getD (p + i) 0 = (s.drop p).getD i 0 := (drop_getD s p i).symm
    simp +contextual (disch := first | (simp only [fq]; done) | omega) only [wps, fW, reduceLE, reduceLT, reduceLeDiff, UInt8.reduceToNat, ↓reduceIte, reduceEqDiff, reduceAdd, reduceCtorEq, reduceToNat, h3, h0, Tryz.f35]
    refine ⟨fun hlt => ?_, fun hn => ?_⟩
    · exact ⟨_, by omega, i + 1, rfl, by omega, by omega, countW_step hd (by omega) (by rw [← e1]; exact hlt.2)⟩
    · have hr : remD (s.drop p) = some (p + i - p) := by
        rw [remD, if_pos hl, ← countW_stop hd (by
          by_cases hlt : p + i < s.length
          · exact .inr (fun q => hn ⟨hlt, by rw [e1]; exact q⟩)
          · exact .inl (by omega))]
        congr 1
        omega
      rw [hr, atV, show p + (p + i - p) = p + i by omega]
  · have hc : ¬ (s.getD p 0 = 35 ∨ (hasP (s.drop p) [45, 45] ∧ p + 2 < s.length) ∧ isBlank (s.getD (p + 2) 0)) := fun q => by
      refine hl ?_
      unfold lineP
      rw [e0, e2, hlen]
      rcases q with a | ⟨⟨a, b⟩, c⟩
      · exact .inl a
      · exact .inr ⟨a, by omega, c⟩
    simp +contextual (disch := first | (simp only [fq]; done) | omega) only [wps, fW, reduceLE, reduceLT, reduceLeDiff, UInt8.reduceToNat, ↓reduceIte, reduceEqDiff, reduceAdd, reduceCtorEq, reduceToNat, Tryz.f35, hp, hc]
    refine callF_exact (has_spec hS s [47, 42] p _ (by omega) (by decide) (by omega)) ?_
    simp +contextual (disch := first | (simp only [fq]; done) | omega) only [wps, fW, reduceLE, reduceLT, reduceLeDiff, UInt8.reduceToNat, ↓reduceIte, reduceEqDiff, reduceAdd, reduceCtorEq, reduceToNat, Tryz.f35, hp, hc]
    refine gCall_exact (first := []) (cap := []) (fun _ => has_spec hS s [47, 42, 33] p _ (by omega) (by decide) (by omega)) (fun fp => ?_)
    simp +contextual (disch := first | (simp only [fq]; done) | omega) only [wps, fW, reduceLE, reduceLT, reduceLeDiff, UInt8.reduceToNat, ↓reduceIte, reduceEqDiff, reduceAdd, reduceCtorEq, reduceToNat, Tryz.f35, hp, hc]
    refine gCall_exact (first := []) (cap := []) (fun _ => has_spec hS s [47, 42, 43] p _ (by omega) (by decide) (by omega)) (fun fp => ?_)
    simp +contextual (disch := first | (simp only [fq]; done) | omega) only [wps, fW, reduceLE, reduceLT, reduceLeDiff, UInt8.reduceToNat, ↓reduceIte, reduceEqDiff, reduceAdd, reduceCtorEq, reduceToNat, Tryz.f35, hp, hc]
    refine ⟨fun ho => ?_, fun ho => ?_⟩
    · rw [remD, if_neg hl, if_pos (by rcases ho with (a | a) | a; exact .inl a; exact .inr (.inl a); exact .inr (.inr a))]
      rfl
    · have hp2 : hasP (s.drop p) [47, 42] := Decidable.byContradiction fun q => ho (.inl (.inl q))
      have hl2 := hasP_len hp2
      rw [hlen] at hl2
      simp only [List.length_cons, List.length_nil] at hl2
      refine callF_exact (ends_spec hS s [42, 47] (p + 2) _ (by omega) (by decide) (by decide) (by omega)) ?_
      simp +contextual (disch := first | (simp only [fq]; done) | omega) only [wps, fW, reduceLE, reduceLT, reduceLeDiff, UInt8.reduceToNat, ↓reduceIte, reduceEqDiff, reduceAdd, reduceCtorEq, reduceToNat, Tryz.f35]
      rw [remD, if_neg hl, if_neg (fun q => ho (by rcases q with a | a | a; exact .inl (.inl a); exact .inl (.inr a); exact .inr a)), List.drop_drop]
      cases hf : findS [42, 47] (s.drop (p + 2)) with
      | none => rfl
      | some k =>
        show V.int .i64 ((p + 2 + k + 2 : Nat)) = V.int .i64 ((p + (k + 4) : Nat))
        rw [show p + 2 + k + 2 = p + (k + 4) by omega]
theorem rsign_spec (s : List Nat) (p : Nat) (h : H) (hs : s.length < 2 ^ 26) (hb : Bytes s) (hp : p < s.length) : Pure S.cfg 75 [.str s, .int .i64 p] h fun v _ => v = .str (trySign (s.drop p) signsL).text := by
  refine into Tryz.f75 _ Tryz.func75 (hS.own _ (by decide)) rfl rfl (by kernel_rfl) (by kernel_rfl) ?_
  have hne := drop_ne hp
  have e0 := drop_getD s p 0
  simp only [Nat.add_zero] at e0
  simp +contextual (disch := first | (simp only [fq]; done) | omega) only [wps, fW, reduceLE, reduceLT, reduceLeDiff, UInt8.reduceToNat, ↓reduceIte, reduceEqDiff, reduceAdd, reduceCtorEq, reduceToNat, Tryz.f75, hp]
  refine run_loop (fun m env h' => ∃ (j : Nat), m = 12 - j ∧ env 0 = .str s ∧ env 1 = .int .i64 p ∧ env 5 = .slice h.nx 0 12 12 ∧ env 6 = .int .i64 j ∧ j ≤ 12 ∧ Ext h h' ∧ h.nx < h'.nx ∧ h'.get h.nx = some (.cells ((signsL.take 12).map V.str) 9 false) ∧ trySign (s.drop p) signsL = trySign (s.drop p) (signsL.drop j)) 12 ⟨0, by simp +contextual (disch := first | (simp only [fq]; done) | omega) only [wps, fW, reduceLE, reduceLT, reduceLeDiff, UInt8.reduceToNat, ↓reduceIte, reduceEqDiff, reduceAdd, reduceCtorEq, reduceToNat]; exact ⟨(Ext.refl h).push _, by omega, rfl⟩⟩ ?_
  rintro m env h' ⟨j, rfl, h0, h1, h5, h6, hj, hx, hn, hg, hr⟩
  by_cases hlt : j < 12
  · simp +contextual (disch := first | (simp only [fq]; done) | omega) only [wps, fW, reduceLE, reduceLT, reduceLeDiff, UInt8.reduceToNat, ↓reduceIte, reduceEqDiff, reduceAdd, reduceCtorEq, reduceToNat, h0, h1, h5, h6, hg, hlt, Tryz.f75]
    obtain ⟨x, hcf, hdr, hxl⟩ : ∃ (x : List Nat), ((signsL.take 12).map V.str)[j]? = some (.str x) ∧ signsL.drop j = x :: signsL.drop (j + 1) ∧ x.length ≤ 3 := by
      have hjl : j < signsL.length := Nat.lt_of_lt_of_le hlt (by decide)
      have hjt : j < (signsL.take 12).length := hlt
      refine ⟨signsL[j], by rw [List.getElem?_map, List.getElem?_eq_getElem hjt, List.getElem_take]; rfl, List.drop_eq_getElem_cons hjl, ?_⟩
      have : ∀ x ∈ signsL, x.length ≤ 3 := by decide
      exact this _ (List.getElem_mem hjl)
    rw [hdr, trySign] at hr
    simp +contextual (disch := first | (simp only [fq]; done) | omega) only [wps, fW, reduceLE, reduceLT, reduceLeDiff, UInt8.reduceToNat, ↓reduceIte, reduceEqDiff, reduceAdd, reduceCtorEq, reduceToNat, hcf]
    refine callF_exact (has_spec hS s x p _ (by omega) (by omega) (by omega)) ?_
    by_cases hh : hasP (s.drop p) x
    · have hh' : x.length ≤ (s.drop p).length ∧ (s.drop p).take x.length = x := hh
      rw [if_pos hh'] at hr
      simp +contextual (disch := first | (simp only [fq]; done) | omega) only [wps, fW, reduceLE, reduceLT, reduceLeDiff, UInt8.reduceToNat, ↓reduceIte, reduceEqDiff, reduceAdd, reduceCtorEq, reduceToNat, h0, h1, h5, h6, hg, hlt, hcf, hh, Tryz.f75]
      exact ⟨hx, by rw [hr]⟩
    · have hh' : ¬ (x.length ≤ (s.drop p).length ∧ (s.drop p).take x.length = x) := hh
      rw [if_neg hh'] at hr
      simp +contextual (disch := first | (simp only [fq]; done) | omega) only [wps, fW, reduceLE, reduceLT, reduceLeDiff, UInt8.reduceToNat, ↓reduceIte, reduceEqDiff, reduceAdd, reduceCtorEq, reduceToNat, h0, h1, h5, h6, hg, hlt, hcf, hh, Tryz.f75]
      exact ⟨_, by omega, j + 1, rfl, rfl, by omega, hx, hn, hr⟩
  · simp +contextual (disch := first | (simp only [fq]; done) | omega) only [wps, fW, reduceLE, reduceLT, reduceLeDiff, UInt8.reduceToNat, ↓reduceIte, reduceEqDiff, reduceAdd, reduceCtorEq, reduceToNat, h0, h1, h5, h6, hg, hlt, Tryz.f75]
    have hj12 : j = 12 := by omega
    subst hj12
    rw [ones_tab] at hr
    refine run_loop (fun m env h' => ∃ (i : Nat), m = 23 - i ∧ env 0 = .str s ∧ env 1 = .int .i64 p ∧ env 7 = .str onesT ∧ env 8 = .int .i64 i ∧ i ≤ 23 ∧ Ext h h' ∧ trySign (s.drop p) signsL = trySign (s.drop p) ((onesT.drop i).map fun b => [b])) 23 ⟨0, by simp +contextual (disch := first | (simp only [fq]; done) | omega) only [wps, fW, reduceLE, reduceLT, reduceLeDiff, UInt8.reduceToNat, ↓reduceIte, reduceEqDiff, reduceAdd, reduceCtorEq, reduceToNat, h0, h1]; exact ⟨rfl, hx, hr⟩⟩ ?_
    rintro m env h' ⟨i, rfl, h0, h1, h7, h8, hi, hx, hr⟩
    have hol : onesT.length = 23 := rfl
    by_cases hlt : i < 23
    · by_cases heq : s.getD p 0 = onesT.getD i 0
      · simp +contextual (disch := first | (simp only [fq]; done) | omega | exact dok (by kernel_rfl)) only [draw_calm, draw_calmA, wps, fW, reduceLE, reduceLT, reduceLeDiff, UInt8.reduceToNat, ↓reduceIte, reduceEqDiff, reduceAdd, reduceCtorEq, reduceToNat, h0, h1, h7, h8, hol, hlt, hp, heq, Tryz.f75]
        rw [ones_step hne (by omega), if_pos (by rw [e0]; exact heq)] at hr
        exact ⟨⟨by omega, by omega⟩, hx, by rw [hr, ones_sub (by omega)]⟩
      · simp +contextual (disch := first | (simp only [fq]; done) | omega | exact dok (by kernel_rfl)) only [draw_calm, draw_calmA, wps, fW, reduceLE, reduceLT, reduceLeDiff, UInt8.reduceToNat, ↓reduceIte, reduceEqDiff, reduceAdd, reduceCtorEq, reduceToNat, h0, h1, h7, h8, hol, hlt, hp, heq, Tryz.f75]
        rw [ones_step hne (by omega), if_neg (by rw [e0]; exact heq)] at hr
        exact ⟨_, by omega, i + 1, rfl, rfl, by omega, hx, hr⟩
    · simp +contextual (disch := first | (simp only [fq]; done) | omega | exact dok (by kernel_rfl)) only [draw_calm, draw_calmA, wps, fW, reduceLE, reduceLT, reduceLeDiff, UInt8.reduceToNat, ↓reduceIte, reduceEqDiff, reduceAdd, reduceCtorEq, reduceToNat, h0, h1, h7, h8, hol, hlt, hp, Tryz.f75]
      refine ⟨hx, ?_⟩
      have hnil : onesT.drop i = [] := List.drop_eq_nil_of_le (by omega)
      rw [hr, hnil]
      rfl
end
end Go.Proofs.YtkibhdbmamfjcaaGreatDoor
set_option maxHeartbeats 1000000
set_option linter.unusedSimpArgs false
set_option linter.unusedVariables false
set_option maxRecDepth 10000
namespace Go.Proofs.YtkibhdbmamfjcaaGreatDoor
open Int (reduceLE reduceLT reduceToNat)
open Nat (reduceLeDiff reduceEqDiff reduceAdd)
open Go.Proofs Go.Lx Go.Wx Go.IntWalk
noncomputable section

theorem sysN_fuel : ∀ (f : Nat) (t : List Nat), t.length < f → sysN f t = sysN (f + 1) t
  | 0, t, h => absurd h (Nat.not_lt_zero _)
  | f + 1, t, h => by
    rw [sysN, sysN]
    split
    · rename_i hc
      rw [sysN_fuel f (t.drop ((runF t).1 + 1)) (by rw [List.length_drop]; omega)]
    · rfl
theorem sysN_run {f : Nat} {t : List Nat} {n : Nat} (hn : n ≤ t.length) (hr : (runF t).1 = n + (runF (t.drop n)).1) : sysN (f + 1) t = n + sysN (f + 1) (t.drop n) := by
  rw [sysN, sysN, hr, List.length_drop, drop_getD, List.drop_drop]
  by_cases hc : n + (runF (t.drop n)).1 < t.length ∧ t.getD (n + (runF (t.drop n)).1) 0 = 46
  · rw [if_pos hc, if_pos ⟨by omega, hc.2⟩, show n + ((runF (t.drop n)).1 + 1) = n + (runF (t.drop n)).1 + 1 by omega]
    omega
  · rw [if_neg hc, if_neg (fun q => hc ⟨by omega, q.2⟩)]
theorem sysN_dot {f : Nat} {t : List Nat} (h0 : t ≠ []) (hf : t.length ≤ f) (hd : t.getD 0 0 = 46) : sysN (f + 1) t = 1 + sysN (f + 1) (t.drop 1) := by
  have hl : 0 < t.length := List.length_pos_iff.2 h0
  have ha := dec_ascii (s := t) (by omega)
  rw [hd] at ha
  have e := runF_stop h0 (ascii_good (by omega) ha) (by rw [ha]; unfold letterR; simp) (by rw [ha]; unfold isDigit; simp)
  rw [sysN, e]
  simp only
  rw [if_pos ⟨hl, hd⟩, sysN_fuel f (t.drop (0 + 1)) (by rw [List.length_drop]; omega)]
theorem sysN_stop {f : Nat} {t : List Nat} (hl : letN t = 0) (hd : ¬ isDigit (t.getD 0 0)) (hp : ¬ t.getD 0 0 = 46) : sysN (f + 1) t = 0 := by
  have e : (runF t).1 = 0 := by
    by_cases h0 : t = []
    · rw [h0, runF_nil]
    · by_cases hbd : badR t
      · rw [runF_bad h0 hbd]
      · by_cases hle : letterR (dec t).1
        · have h1 := letN_of h0 hbd hle
          have h2 := dec_pos t
          omega
        · rw [runF_stop h0 hbd hle fun hdd => ?_]
          by_cases ha : t.getD 0 0 < 128
          · rw [dec_ascii ha] at hdd
            exact hd hdd
          · exact hle (.inl (dec_big ha))
  rw [sysN, e, if_neg (fun q => hp q.2)]
theorem sysN_digit {f : Nat} {t : List Nat} (h0 : t ≠ []) (hd : isDigit (t.getD 0 0)) : sysN (f + 1) t = 1 + sysN (f + 1) (t.drop 1) := by
  have hl : 0 < t.length := List.length_pos_iff.2 h0
  have ha := dec_ascii (s := t) (by have := hd.2; omega)
  have e := runF_digit h0 (ascii_good (by have := hd.2; omega) ha) (by rw [ha]; unfold letterR; simp only; have h1 := hd.1; have h2 := hd.2; omega) (by rw [ha]; exact hd)
  rw [ha] at e
  exact sysN_run hl (by rw [e])
theorem sysN_letter {f : Nat} {t : List Nat} (hl : letN t ≠ 0) : sysN (f + 1) t = letN t + sysN (f + 1) (t.drop (letN t)) := by
  have h0 : t ≠ [] := fun q => hl (by rw [letN, if_pos q])
  have hbd : ¬ badR t := fun q => hl (letN_bad q)
  have hle : letterR (dec t).1 := Decidable.byContradiction fun q => hl (letN_no h0 hbd q)
  have e := runF_letter h0 hbd hle
  rw [← letN_of h0 hbd hle] at e
  exact sysN_run (letN_le t) (by rw [e])
def resV (p : Nat) (d : FD) : V := if d.e = 0 then .tuple [.agg [.int .i64 d.kind, .str d.text, .int .i64 p], .int .i64 ((p + d.n : Nat)), .int .i64 0] else .tuple [.agg [.int .i64 0, .str [], .int .i64 0], .int .i64 0, .int .i64 d.e]
def varD (t : List Nat) : FD := if hasP t [64, 64] then sysD t else userD t

variable {S : Set0} (hS : Std S)
include hS
omit hS
theorem sub_at (s : List Nat) (p k i : Nat) : (s.take (p + k + i)).drop (p + k) = ((s.drop p).take (k + i)).drop k := by
  rw [List.drop_take, List.drop_take, List.drop_drop, show p + k + i - (p + k) = i by omega, show k + i - k = i by omega]
theorem sys_end {s : List Nat} {p i : Nat} (hh : hasP (s.drop p) [64, 64]) (hE : sysE (s.drop p) = i) (hi : ¬ i = 0) : V.tuple [.agg [.int .i64 7, .str (lowS ((s.take (p + 2 + i)).drop (p + 2))), .int .i64 p], .int .i64 ((p + 2 + i : Nat)), .int .i64 0] = resV p (sysD (s.drop p)) := by
  rw [sysD, if_pos hh, if_neg (by omega), hE, resV, if_pos rfl, sub_at, Nat.add_assoc]
  rfl
theorem sys_bad {s : List Nat} {p : Nat} (hh : hasP (s.drop p) [64, 64]) (hE : sysE (s.drop p) = 0) : V.tuple [.agg [.int .i64 0, .str [], .int .i64 0], .int .i64 0, .int .i64 191] = resV p (sysD (s.drop p)) := by
  rw [sysD, if_pos hh, if_pos hE]
  rfl
theorem lowB_low (b : Nat) : lowB (lowB b) = lowB b := by
  by_cases h : 65 ≤ b ∧ b ≤ 90
  · rw [show lowB b = b + 32 by rw [lowB, if_pos h], lowB, if_neg (by omega)]
  · rw [show lowB b = b by rw [lowB, if_neg h], lowB, if_neg h]
theorem lowS_low (t : List Nat) : lowS (lowS t) = lowS t := by
  unfold lowS
  rw [List.map_map]
  exact List.map_congr_left fun b _ => lowB_low b
theorem runF_pos {t : List Nat} (h : (runF t).2 = true) : 0 < (runF t).1 := by
  by_cases h0 : t = []
  · rw [h0, runF_nil] at h; cases h
  · by_cases hbd : badR t
    · rw [runF_bad h0 hbd] at h; cases h
    · have hp := dec_pos t
      by_cases hle : letterR (dec t).1
      · rw [runF_letter h0 hbd hle]
        show 0 < (dec t).2 + _
        omega
      · by_cases hd : isDigit (dec t).1
        · rw [runF_digit h0 hbd hle hd]
          show 0 < (dec t).2 + _
          omega
        · rw [runF_stop h0 hbd hle hd] at h; cases h
def isQt (c : Nat) : Prop := (c = 96 ∨ c = 39) ∨ c = 34
instance (c : Nat) : Decidable (isQt c) := inferInstanceAs (Decidable (_ ∨ _))
theorem user_quoted {t : List Nat} (h64 : t.getD 0 0 = 64) (hl : 1 < t.length) (hq : isQt (t.getD 1 0)) : userD t = match qtF (t.getD 1 0) (t.drop 2) with
    | some r => ⟨6, lowS r.1, 1 + (r.2 + 1), 0⟩
    | none => FD.bad 190 := by
  have e1 : (t.drop 1).getD 0 0 = t.getD 1 0 := by rw [drop_getD]
  have e2 : (t.drop 1).drop 1 = t.drop 2 := by rw [List.drop_drop]
  rw [userD, if_pos h64, if_neg (by omega)]
  by_cases h96 : t.getD 1 0 = 96
  · rw [qtF, if_pos h96, tryU, quotD, e1, if_pos h96, e2]
    cases qF (t.drop 2) with
    | none => rfl
    | some r => simp
  · have hisq : isQ (t.getD 1 0) := by
      rcases hq with (a | a) | a
      · exact absurd a h96
      · exact .inl a
      · exact .inr a
    rw [qtF, if_neg h96, tryU, quotD, e1, if_neg h96]
    simp only [FD.none, ne_eq, not_true_eq_false, if_false, Nat.lt_irrefl]
    rw [tryU, textD, e1, if_pos hisq, e2]
    cases tF (t.getD 1 0) (t.drop 2) with
    | none => rfl
    | some r => simp
theorem user_plain {t : List Nat} (h64 : t.getD 0 0 = 64) (hq : ¬ (1 < t.length ∧ isQt (t.getD 1 0))) : userD t = if (runF (t.drop 1)).2 = true then ⟨6, lowS ((t.drop 1).take (runF (t.drop 1)).1), 1 + (runF (t.drop 1)).1, 0⟩ else FD.bad 191 := by
  have e1 : (t.drop 1).getD 0 0 = t.getD 1 0 := by rw [drop_getD]
  rw [userD, if_pos h64]
  by_cases hl : t.length = 1
  · rw [if_pos hl, List.drop_eq_nil_of_le (by omega), runF_nil]
    rfl
  · rw [if_neg hl]
    have ht0 : t ≠ [] := fun q => by rw [q] at h64; cases h64
    have hl0 : 0 < t.length := List.length_pos_iff.2 ht0
    have hnq : ¬ isQt (t.getD 1 0) := fun q => hq ⟨by omega, q⟩
    have h96 : ¬ t.getD 1 0 = 96 := fun q => hnq (.inl (.inl q))
    have hisq : ¬ isQ (t.getD 1 0) := fun q => hnq (by rcases q with a | a; exact .inl (.inr a); exact .inr a)
    rw [tryU, quotD, e1, if_neg h96]
    simp only [FD.none, ne_eq, not_true_eq_false, if_false, Nat.lt_irrefl]
    rw [tryU, textD, e1, if_neg hisq]
    simp only [FD.none, ne_eq, not_true_eq_false, if_false, Nat.lt_irrefl]
    rw [tryU, nameD]
    by_cases hr : (runF (t.drop 1)).2 = true
    · have h2 := runF_pos hr
      rw [if_pos hr, if_pos hr]
      simp only [ne_eq, not_true_eq_false, if_false]
      rw [if_pos h2, lowS_low]
    · rw [if_neg hr, if_neg hr]
      rfl
include hS
theorem ruser_spec (s : List Nat) (p : Nat) (h : H) (hs : s.length < 2 ^ 26) (hb : Bytes s) (hp : p < s.length) (h64 : s.getD p 0 = 64) : Pure S.cfg 70 [.str s, .int .i64 p] h fun v _ => v = resV p (varD (s.drop p)) := by
  have hne := drop_ne hp
  have e0 := drop_getD s p 0
  simp only [Nat.add_zero] at e0
  have hlen : (s.drop p).length = s.length - p := List.length_drop
  refine into Tryz.f70 _ Tryz.func70 (hS.own _ (by decide)) rfl rfl (by kernel_rfl) (by kernel_rfl) ?_
  simp +contextual (disch := first | (simp only [fq]; done) | omega) only [wps, fW, reduceLE, reduceLT, reduceLeDiff, UInt8.reduceToNat, ↓reduceIte, reduceEqDiff, reduceAdd, reduceCtorEq, reduceToNat, Tryz.f70, hp]
  refine callF_exact (has_spec hS s [64, 64] p _ (by omega) (by decide) (by omega)) ?_
  by_cases hh : hasP (s.drop p) [64, 64]
  · have hl2 := hasP_len hh
    rw [hlen] at hl2
    simp only [List.length_cons, List.length_nil] at hl2
    simp +contextual (disch := first | (simp only [fq]; done) | omega) only [wps, fW, reduceLE, reduceLT, reduceLeDiff, UInt8.reduceToNat, ↓reduceIte, reduceEqDiff, reduceAdd, reduceCtorEq, reduceToNat, Tryz.f70, hp, hh]
    have hv : varD (s.drop p) = sysD (s.drop p) := by rw [varD, if_pos hh]
    rw [hv]
    have hx1 : ¬ h.nx = h.nx + 1 := by omega
    refine run_loop (fun m env h' => ∃ i : Nat, m = s.length - (p + 2 + i) ∧ env 7 = .int .i64 ((p + 2 + i : Nat)) ∧ env 0 = .str s ∧ env 1 = .int .i64 p ∧ env 4 = .ptr h.nx 0 ∧ p + 2 + i ≤ s.length ∧ h' = h.push (.cells [.int .i64 0, .str [], .int .i64 0] 43 false) ∧ sysE (s.drop p) = i + sysN ((s.drop p).length + 1) (s.drop (p + 2 + i))) (s.length - (p + 2)) ⟨0, by simp +contextual (disch := first | (simp only [fq]; done) | omega) only [wps, fW, reduceLE, reduceLT, reduceLeDiff, UInt8.reduceToNat, ↓reduceIte, reduceEqDiff, reduceAdd, reduceCtorEq, reduceToNat]; exact ⟨by omega, by rw [sysE, List.drop_drop, hlen]⟩⟩ ?_
    rintro m env h' ⟨i, rfl, h7, h0, h1, h4, hi, rfl, hr⟩
    by_cases hlt : p + 2 + i < s.length
    · have hbi := hb.getD (p + 2 + i)
      have hln := letN_le (s.drop (p + 2 + i))
      rw [List.length_drop] at hln
      have hne2 := drop_ne hlt
      have e2 : (s.drop (p + 2 + i)).getD 0 0 = s.getD (p + 2 + i) 0 := by rw [drop_getD, Nat.add_zero]
      have hl3 : (s.drop (p + 2 + i)).length ≤ (s.drop p).length := by rw [List.length_drop, List.length_drop]; omega
      simp +contextual (disch := first | (simp only [fq]; done) | omega) only [wps, fW, reduceLE, reduceLT, reduceLeDiff, UInt8.reduceToNat, ↓reduceIte, reduceEqDiff, reduceAdd, reduceCtorEq, reduceToNat, h0, h1, h4, h7, hlt, Tryz.f70]
      refine callF_exact (letter_spec hS s _ _ (by omega) (by omega) hb) ?_
      simp +contextual (disch := first | (simp only [fq]; done) | omega) only [wps, fW, reduceLE, reduceLT, reduceLeDiff, UInt8.reduceToNat, ↓reduceIte, reduceEqDiff, reduceAdd, reduceCtorEq, reduceToNat, h0, h1, h4, h7, hlt, Tryz.f70]
      refine callF_exact (rdigit_spec hS _ _) ?_
      by_cases hd : isDigit (s.getD (p + 2 + i) 0) ∨ s.getD (p + 2 + i) 0 = 46
      · simp +contextual (disch := first | (simp only [fq]; done) | omega) only [wps, fW, reduceLE, reduceLT, reduceLeDiff, UInt8.reduceToNat, ↓reduceIte, reduceEqDiff, reduceAdd, reduceCtorEq, reduceToNat, h0, h1, h4, h7, hlt, hd, Tryz.f70]
        refine ⟨fun q => absurd q (by decide), fun _ => ?_⟩
        refine ⟨_, ?_, i + 1, rfl, by omega, by omega, ?_⟩
        · omega
        · have hdd : s.drop (p + 2 + (i + 1)) = (s.drop (p + 2 + i)).drop 1 := by rw [List.drop_drop, show p + 2 + (i + 1) = p + 2 + i + 1 by omega]
          rw [hr, hdd, ← hlen]
          rcases hd with hd | hd
          · rw [sysN_digit hne2 (by rw [e2]; exact hd)]
            omega
          · rw [sysN_dot hne2 hl3 (by rw [e2]; exact hd)]
            omega
      · by_cases hz : letN (s.drop (p + 2 + i)) = 0
        · have hE : sysE (s.drop p) = i := by rw [hr]; rw [sysN_stop hz (by rw [e2]; exact fun q => hd (.inl q)) (by rw [e2]; exact fun q => hd (.inr q))]; rfl
          by_cases hi0 : i = 0
          · subst hi0
            simp +contextual (disch := first | (simp only [fq]; done) | omega) only [wps, fW, reduceLE, reduceLT, reduceLeDiff, UInt8.reduceToNat, ↓reduceIte, reduceEqDiff, reduceAdd, reduceCtorEq, reduceToNat, h0, h1, h4, h7, hlt, hd, hz, Tryz.f70]
            exact ⟨((Ext.refl h).push _).put (Nat.le_refl _) _, sys_bad hh hE⟩
          · simp +contextual (disch := first | (simp only [fq]; done) | omega) only [wps, fW, reduceLE, reduceLT, reduceLeDiff, UInt8.reduceToNat, ↓reduceIte, reduceEqDiff, reduceAdd, reduceCtorEq, reduceToNat, h0, h1, h4, h7, hi0, hlt, hd, hz, Tryz.f70]
            refine ⟨fun q => absurd q (by omega), fun _ => ⟨⟨by omega, by omega⟩, callF_pure (rlower_spec hS _ _ (by simp; omega) ((hb.take _).drop _)) ?_⟩⟩
            rintro v2 h2 hx2 rfl
            have g2 : h2.get h.nx = some (.cells [.int .i64 0, .str [], .int .i64 0] 43 false) := by rw [hx2.2 h.nx (Nat.lt_succ_self _), push_get, if_pos rfl]
            simp +contextual (disch := first | (simp only [fq]; done) | omega) only [wps, fW, reduceLE, reduceLT, reduceLeDiff, UInt8.reduceToNat, ↓reduceIte, reduceEqDiff, reduceAdd, reduceCtorEq, reduceToNat, h0, h1, h4, h7, hi0, g2, hlt, hd, hz, Tryz.f70]
            exact ⟨((Ext.refl h).push _ |>.trans hx2).put (Nat.le_refl _) _, sys_end hh hE hi0⟩
        · simp +contextual (disch := first | (simp only [fq]; done) | omega) only [wps, fW, reduceLE, reduceLT, reduceLeDiff, UInt8.reduceToNat, ↓reduceIte, reduceEqDiff, reduceAdd, reduceCtorEq, reduceToNat, h0, h1, h4, h7, hlt, hd, hz, Tryz.f70]
          refine ⟨_, ?_, i + letN (s.drop (p + 2 + i)), rfl, by omega, by omega, ?_⟩
          · omega
          · rw [hr, sysN_letter hz, List.drop_drop, hlen, show p + 2 + (i + letN (s.drop (p + 2 + i))) = p + 2 + i + letN (s.drop (p + 2 + i)) by omega]
            omega
    · have hE : sysE (s.drop p) = i := by have hnil : s.drop (p + 2 + i) = [] := List.drop_eq_nil_of_le (by omega); rw [hr, hnil, sysN_stop (t := []) rfl (by unfold isDigit; simp) (by simp)]; rfl
      by_cases hi0 : i = 0
      · subst hi0
        simp +contextual (disch := first | (simp only [fq]; done) | omega) only [wps, fW, reduceLE, reduceLT, reduceLeDiff, UInt8.reduceToNat, ↓reduceIte, reduceEqDiff, reduceAdd, reduceCtorEq, reduceToNat, h0, h1, h4, h7, hlt, Tryz.f70]
        exact ⟨((Ext.refl h).push _).put (Nat.le_refl _) _, sys_bad hh hE⟩
      · simp +contextual (disch := first | (simp only [fq]; done) | omega) only [wps, fW, reduceLE, reduceLT, reduceLeDiff, UInt8.reduceToNat, ↓reduceIte, reduceEqDiff, reduceAdd, reduceCtorEq, reduceToNat, h0, h1, h4, h7, hi0, hlt, Tryz.f70]
        refine ⟨fun q => absurd q (by omega), fun _ => ⟨⟨by omega, by omega⟩, callF_pure (rlower_spec hS _ _ (by simp; omega) ((hb.take _).drop _)) ?_⟩⟩
        rintro v2 h2 hx2 rfl
        have g2 : h2.get h.nx = some (.cells [.int .i64 0, .str [], .int .i64 0] 43 false) := by rw [hx2.2 h.nx (Nat.lt_succ_self _), push_get, if_pos rfl]
        simp +contextual (disch := first | (simp only [fq]; done) | omega) only [wps, fW, reduceLE, reduceLT, reduceLeDiff, UInt8.reduceToNat, ↓reduceIte, reduceEqDiff, reduceAdd, reduceCtorEq, reduceToNat, h0, h1, h4, h7, hi0, g2, hlt, Tryz.f70]
        exact ⟨((Ext.refl h).push _ |>.trans hx2).put (Nat.le_refl _) _, sys_end hh hE hi0⟩
  · simp +contextual (disch := first | (simp only [fq]; done) | omega) only [wps, fW, reduceLE, reduceLT, reduceLeDiff, UInt8.reduceToNat, ↓reduceIte, reduceEqDiff, reduceAdd, reduceCtorEq, reduceToNat, Tryz.f70, hp, hh]
    have e1 := drop_getD s p 1
    have hv : varD (s.drop p) = userD (s.drop p) := by rw [varD, if_neg hh]
    rw [hv]
    refine ⟨fun hq => ?_, fun hq => ?_⟩
    · have hu := user_quoted (t := s.drop p) (by rw [e0]; exact h64) (by rw [hlen]; omega) (by rw [e1]; exact hq.2)
      rw [e1, List.drop_drop] at hu
      refine callF_pure (rquoted_spec hS s (p + 1) _ hs hb hq.1 (fun q => by rcases hq.2 with (a | a) | a <;> omega)) ?_
      rintro v h1 hx1 rfl
      have g1 : h1.get h.nx = some (.cells [.int .i64 0, .str [], .int .i64 0] 43 false) := by rw [hx1.2 h.nx (Nat.lt_succ_self _), push_get, if_pos rfl]
      have hX : Ext h h1 := ((Ext.refl h).push _).trans hx1
      rw [show p + 1 + 1 = p + 2 from rfl]
      have hqr : ∀ r, qtF (s.getD (p + 1) 0) (s.drop (p + 2)) = some r → Bytes r.1 ∧ r.1.length ≤ (s.drop (p + 2)).length ∧ r.2 ≤ (s.drop (p + 2)).length := fun r hf => by
        unfold qtF at hf
        split at hf
        · exact qF_bytes _ (Nat.le_refl _) (hb.drop _) hf
        · exact tF_bytes (hb.getD _) _ (Nat.le_refl _) (hb.drop _) hf
      have hrb := fun r hf => (hqr r hf).1
      have hrq : ∀ r, qtF (s.getD (p + 1) 0) (s.drop (p + 2)) = some r → r.1.length ≤ s.length := fun r hf => by
        have := (hqr r hf).2.1
        rw [List.length_drop] at this
        omega
      cases hf : qtF (s.getD (p + 1) 0) (s.drop (p + 2)) with
      | none =>
        rw [hf] at hu
        simp +contextual (disch := first | (simp only [fq]; done) | omega) only [wps, fW, reduceLE, reduceLT, reduceLeDiff, UInt8.reduceToNat, ↓reduceIte, reduceEqDiff, reduceAdd, reduceCtorEq, reduceToNat, Tryz.f70, hp, hq, g1, qtV]
        exact ⟨hX.put (Nat.le_refl _) _, by rw [hu]; rfl⟩
      | some r =>
        rw [hf] at hu
        simp +contextual (disch := first | (simp only [fq]; done) | omega) only [wps, fW, reduceLE, reduceLT, reduceLeDiff, UInt8.reduceToNat, ↓reduceIte, reduceEqDiff, reduceAdd, reduceCtorEq, reduceToNat, Tryz.f70, hp, hq, g1, qtV]
        refine ⟨fun q => absurd q (by omega), fun _ => callF_pure (rlower_spec hS _ _ (by have := hrq r hf; omega) (hrb r hf)) ?_⟩
        rintro v2 h2 hx2 rfl
        have hl1 := hx1.1
        have g2 : h2.get h.nx = some (.cells [.int .i64 0, .str [], .int .i64 0] 43 false) := by rw [hx2.2 h.nx (by have : h.nx + 1 ≤ h1.nx := hl1; omega)]; exact g1
        simp +contextual (disch := first | (simp only [fq]; done) | omega) only [wps, fW, reduceLE, reduceLT, reduceLeDiff, UInt8.reduceToNat, ↓reduceIte, reduceEqDiff, reduceAdd, reduceCtorEq, reduceToNat, Tryz.f70, hp, hq, g2, qtV]
        exact ⟨(hX.trans hx2).put (Nat.le_refl _) _, by
          rw [hu, resV, if_pos rfl]
          simp only
          rw [show p + (1 + (r.2 + 1)) = p + 1 + 1 + r.2 by omega]
          rfl⟩
    · have hu := user_plain (t := s.drop p) (by rw [e0]; exact h64) (fun q => hq ⟨by have := q.1; rw [hlen] at this; omega, by rw [← e1]; exact q.2⟩)
      rw [List.drop_drop] at hu
      have hrl := runF_le (s.drop (p + 1))
      rw [List.length_drop] at hrl
      refine callF_exact (many_spec hS s (p + 1) _ (by omega) (by omega) hb) ?_
      by_cases hr : (runF (s.drop (p + 1))).2 = true
      · rw [if_pos hr] at hu
        simp +contextual (disch := first | (simp only [fq]; done) | omega) only [wps, fW, reduceLE, reduceLT, reduceLeDiff, UInt8.reduceToNat, ↓reduceIte, reduceEqDiff, reduceAdd, reduceCtorEq, reduceToNat, Tryz.f70, hp, hq, hr]
        refine ⟨⟨by omega, by omega⟩, callF_pure (rlower_spec hS _ _ (by simp; omega) ((hb.take _).drop _)) ?_⟩
        rintro v2 h2 hx2 rfl
        have g2 : h2.get h.nx = some (.cells [.int .i64 0, .str [], .int .i64 0] 43 false) := by rw [hx2.2 h.nx (Nat.lt_succ_self _), push_get, if_pos rfl]
        simp +contextual (disch := first | (simp only [fq]; done) | omega) only [wps, fW, reduceLE, reduceLT, reduceLeDiff, UInt8.reduceToNat, ↓reduceIte, reduceEqDiff, reduceAdd, reduceCtorEq, reduceToNat, Tryz.f70, hp, hq, g2, hr]
        exact ⟨(((Ext.refl h).push _).trans hx2).put (Nat.le_refl _) _, by
          rw [hu, resV, if_pos rfl]
          simp only
          rw [show (s.take (p + 1 + (runF (s.drop (p + 1))).1)).drop (p + 1) = (s.drop (p + 1)).take (runF (s.drop (p + 1))).1 by rw [List.drop_take]; congr 1; omega, Nat.add_assoc]
          rfl⟩
      · rw [if_neg hr] at hu
        simp +contextual (disch := first | (simp only [fq]; done) | omega) only [wps, fW, reduceLE, reduceLT, reduceLeDiff, UInt8.reduceToNat, ↓reduceIte, reduceEqDiff, reduceAdd, reduceCtorEq, reduceToNat, Tryz.f70, hp, hq, hr]
        exact ⟨((Ext.refl h).push _).put (Nat.le_refl _) _, by rw [hu]; rfl⟩
end
end Go.Proofs.YtkibhdbmamfjcaaGreatDoor
set_option maxHeartbeats 1000000
set_option linter.unusedSimpArgs false
set_option linter.unusedVariables false
set_option maxRecDepth 10000
namespace Go.Proofs.YtkibhdbmamfjcaaGreatDoor
open Int (reduceLE reduceLT reduceToNat)
open Nat (reduceLeDiff reduceEqDiff reduceAdd)
open Go.Proofs Go.Lx Go.Wx Go.IntWalk
noncomputable section

theorem hasP_head {t w : List Nat} (h : hasP t w) (hw : w ≠ []) : t.getD 0 0 = w.getD 0 0 := by
  cases w with
  | nil => exact absurd rfl hw
  | cons a w =>
    cases t with
    | nil => exact absurd h.1 (by simp)
    | cons b t =>
      have := h.2
      simp only [List.length_cons, List.take_succ_cons, List.cons.injEq] at this
      simp [this.1]
theorem countW_zero {q : Nat → Prop} [DecidablePred q] {t : List Nat} (h : ¬ q (t.getD 0 0)) : countW q t = 0 := (countW_stop (Nat.zero_le _) (.inr h)).symm
theorem numN_none {t : List Nat} (h1 : ¬ isDigit (t.getD 0 0)) (h2 : ¬ t.getD 0 0 = 46) : numN t = 0 := by
  have hx : ¬ (hexPre t ∧ 0 < countW isHex (t.drop 2)) := fun q => by
    have h48 : t.getD 0 0 = 48 := by
      have := (hexAt_iff t).1 q
      exact this.2.1
    exact h1 (by rw [h48]; unfold isDigit; omega)
  have h0 := countW_zero h1
  have hd : deci t = 0 := by rw [deci, h0, if_neg (fun q => h2 q.2.1)]
  rw [numN, if_neg hx, if_pos hd]
theorem runF_none {t : List Nat} (hc : t.getD 0 0 < 128) (h1 : ¬ isDigit (t.getD 0 0)) (h2 : ¬ letterR (t.getD 0 0)) : runF t = (0, false) := by
  by_cases h0 : t = []
  · rw [h0, runF_nil]
  · have ha := dec_ascii (s := t) hc
    exact runF_stop h0 (ascii_good hc ha) (by rw [ha]; exact h2) (by rw [ha]; exact h1)
theorem either_none {t : List Nat} (hc : t.getD 0 0 < 128) (h1 : ¬ isDigit (t.getD 0 0)) (h2 : ¬ letterR (t.getD 0 0)) (h3 : ¬ t.getD 0 0 = 46) : eitherD t = FD.none := by
  have hn := numN_none h1 h3
  rw [eitherD, nameN, runF_none hc h1 h2, hn, if_neg (by simp), numD, if_pos hn]
theorem odd_none {t : List Nat} (h : ¬ t.getD 0 0 = 47) : oddD t = FD.none := by
  rw [oddD, if_neg]
  rintro (q | q)
  · exact h (hasP_head q (by simp))
  · exact h (hasP_head q (by simp))
theorem sys_none {t : List Nat} (h : ¬ t.getD 0 0 = 64) : sysD t = FD.none := by
  rw [sysD, if_neg (fun q => h (hasP_head q (by simp)))]
theorem tryW_skip {l : List FD} : tryW (FD.none :: l) = tryW l := by
  rw [tryW]
  simp [FD.none]
theorem tryW_hit {d : FD} {l : List FD} (h : d.e ≠ 0 ∨ 0 < d.n) : tryW (d :: l) = d := by
  rw [tryW]
  by_cases he : d.e ≠ 0
  · rw [if_pos he]
  · rw [if_neg he, if_pos (by rcases h with h | h; exact absurd h he; exact h)]
theorem user_good {t : List Nat} (h64 : t.getD 0 0 = 64) : (userD t).e ≠ 0 ∨ 0 < (userD t).n := by
  by_cases hq : 1 < t.length ∧ isQt (t.getD 1 0)
  · rw [user_quoted h64 hq.1 hq.2]
    cases qtF (t.getD 1 0) (t.drop 2) with
    | none => exact .inl (by simp [FD.bad])
    | some r => exact .inr (by simp only; omega)
  · rw [user_plain h64 hq]
    split
    · exact .inr (by simp only; omega)
    · exact .inl (by simp [FD.bad])
theorem word_var {t : List Nat} (h : t.getD 0 0 = 64) : wordD t = varD t := by
  have hd : ¬ isDigit (t.getD 0 0) := by rw [h]; unfold isDigit; omega
  have hl : ¬ letterR (t.getD 0 0) := by rw [h]; unfold letterR; omega
  have hq : quotD t = FD.none := by rw [quotD, if_neg (by omega)]
  have ht : textD t = FD.none := by rw [textD, if_neg (by unfold isQ; omega)]
  rw [wordD, finds, odd_none (by omega), tryW_skip, either_none (by omega) hd hl (by omega), tryW_skip, hq, tryW_skip, ht, tryW_skip, varD]
  by_cases hh : hasP t [64, 64]
  · rw [if_pos hh, tryW_hit]
    rw [sysD, if_pos hh]
    split
    · exact .inl (by simp [FD.bad])
    · exact .inr (by simp only; omega)
  · rw [if_neg hh, sysD, if_neg hh, tryW_skip, tryW_hit (user_good h)]
theorem word_param {t : List Nat} (h : t.getD 0 0 = 63) : wordD t = ⟨8, [], 1, 0⟩ := by
  have hd : ¬ isDigit (t.getD 0 0) := by rw [h]; unfold isDigit; omega
  have hl : ¬ letterR (t.getD 0 0) := by rw [h]; unfold letterR; omega
  have hq : quotD t = FD.none := by rw [quotD, if_neg (by omega)]
  have ht : textD t = FD.none := by rw [textD, if_neg (by unfold isQ; omega)]
  have hu : userD t = FD.none := by rw [userD, if_neg (by omega)]
  have hs : signD t = ⟨8, [], 1, 0⟩ := by rw [signD, if_pos h]
  rw [wordD, finds, odd_none (by omega), tryW_skip, either_none (by omega) hd hl (by omega), tryW_skip, hq, tryW_skip, ht, tryW_skip, sys_none (by omega), tryW_skip, hu, tryW_skip, hs, tryW_hit (.inr (by simp))]
theorem word_odd {t : List Nat} (h : hasP t [47, 42, 33] ∨ hasP t [47, 42, 43]) : wordD t = match findS [42, 47] (t.drop 3) with
    | some i => ⟨9, t.take (i + 5), i + 5, 0⟩
    | none => FD.bad 190 := by
  have h3 : findS [42, 47] (t.drop 2) = (findS [42, 47] (t.drop 3)).map (· + 1) := by
    have hl : 3 ≤ t.length := by rcases h with h | h <;> exact hasP_len h
    have hc : t.getD 2 0 = 33 ∨ t.getD 2 0 = 43 := by
      match t, h with
      | [], h => simp [hasP] at h
      | [a], h => simp [hasP] at h
      | [a, b], h => simp [hasP] at h
      | a :: b :: c :: l, h =>
        simp [hasP] at h ⊢
        omega
    rw [findS_step (drop_ne (by omega)) (fun q => ?_), List.drop_drop]
    have := hasP_head q (by simp)
    rw [drop_getD] at this
    simp at this hc
    omega
  have ho : oddD t = match findS [42, 47] (t.drop 3) with
      | some i => ⟨9, t.take (i + 5), i + 5, 0⟩
      | none => FD.bad 190 := by
    rw [oddD, if_pos h, h3]
    cases findS [42, 47] (t.drop 3) <;> rfl
  rw [wordD, finds, tryW_hit, ho]
  rw [ho]
  cases findS [42, 47] (t.drop 3) with
  | none => exact .inl (by simp [FD.bad])
  | some i => exact .inr (by simp only; omega)
theorem word_quoted {t : List Nat} (h : isQt (t.getD 0 0)) : wordD t = match qtF (t.getD 0 0) (t.drop 1) with
    | some r => ⟨if t.getD 0 0 = 96 then 2 else 3, r.1, r.2 + 1, 0⟩
    | none => FD.bad 190 := by
  have hd : ¬ isDigit (t.getD 0 0) := by unfold isQt at h; unfold isDigit; omega
  have hl : ¬ letterR (t.getD 0 0) := by unfold isQt at h; unfold letterR; omega
  rw [wordD, finds, odd_none (by unfold isQt at h; omega), tryW_skip, either_none (by unfold isQt at h; omega) hd hl (by unfold isQt at h; omega), tryW_skip]
  by_cases h96 : t.getD 0 0 = 96
  · have hq : quotD t = match qtF (t.getD 0 0) (t.drop 1) with
        | some r => ⟨if t.getD 0 0 = 96 then 2 else 3, r.1, r.2 + 1, 0⟩
        | none => FD.bad 190 := by
      rw [quotD, if_pos h96, qtF, if_pos h96, if_pos h96]
      cases qF (t.drop 1) <;> rfl
    rw [tryW_hit, hq]
    rw [hq]
    cases qtF (t.getD 0 0) (t.drop 1) with
    | none => exact .inl (by simp [FD.bad])
    | some i => exact .inr (by simp only; omega)
  · have hisq : isQ (t.getD 0 0) := by
      rcases h with (a | a) | a
      · exact absurd a h96
      · exact .inl a
      · exact .inr a
    have hq : textD t = match qtF (t.getD 0 0) (t.drop 1) with
        | some r => ⟨if t.getD 0 0 = 96 then 2 else 3, r.1, r.2 + 1, 0⟩
        | none => FD.bad 190 := by
      rw [textD, if_pos hisq, qtF, if_neg h96, if_neg h96]
      cases tF (t.getD 0 0) (t.drop 1) <;> rfl
    rw [show quotD t = FD.none by rw [quotD, if_neg h96], tryW_skip, tryW_hit, hq]
    rw [hq]
    cases qtF (t.getD 0 0) (t.drop 1) with
    | none => exact .inl (by simp [FD.bad])
    | some i => exact .inr (by simp only; omega)
theorem word_plain {t : List Nat} (h1 : ¬ t.getD 0 0 = 64) (h2 : ¬ t.getD 0 0 = 63) (h3 : ¬ hasP t [47, 42]) (h4 : ¬ isQt (t.getD 0 0)) :
    wordD t = if (runF t).2 = true ∧ numN t < (runF t).1 then ⟨1, lowS (t.take (runF t).1), (runF t).1, 0⟩ else if 0 < numN t then ⟨4, t.take (numN t), numN t, 0⟩ else trySign t signsL := by
  have h3' : ∀ c, ¬ hasP t [47, 42, c] := fun c q => h3 (by
    match t, q with
    | [], q => simp [hasP] at q
    | [a], q => simp [hasP] at q
    | a :: b :: l, q => simp [hasP] at q ⊢; exact ⟨q.2.1, q.2.2.1⟩)
  have ho : oddD t = FD.none := by rw [oddD, if_neg (fun q => by rcases q with q | q <;> exact h3' _ q)]
  have hq : quotD t = FD.none := by rw [quotD, if_neg (fun q => h4 (.inl (.inl q)))]
  have ht : textD t = FD.none := by rw [textD, if_neg (fun q => h4 (by rcases q with a | a; exact .inl (.inr a); exact .inr a))]
  have hu : userD t = FD.none := by rw [userD, if_neg h1]
  have hs : signD t = trySign t signsL := by rw [signD, if_neg h2]
  rw [wordD, finds, ho, tryW_skip]
  by_cases hr : (runF t).2 = true ∧ numN t < (runF t).1
  · have he : eitherD t = ⟨1, lowS (t.take (runF t).1), (runF t).1, 0⟩ := by
      rw [eitherD, nameN, if_pos hr.1, if_pos hr.2, nameD, if_pos hr.1]
    rw [if_pos hr, he, tryW_hit (.inr (by show 0 < (runF t).1; omega))]
  · have he : eitherD t = numD t := by
      rw [eitherD, if_neg]
      intro q
      unfold nameN at q
      split at q
      · rename_i hr2; exact hr ⟨hr2, q⟩
      · omega
    rw [if_neg hr, he, numD]
    by_cases hn : 0 < numN t
    · rw [if_pos hn, if_neg (by omega), tryW_hit (.inr hn)]
    · rw [if_neg hn, if_pos (by omega), tryW_skip, hq, tryW_skip, ht, tryW_skip, sys_none h1, tryW_skip, hu, tryW_skip, hs]
      rw [tryW, tryW]
      split
      · rfl
      · split
        · rfl
        · rename_i a b
          exact absurd (trySign_pos (by decide) (by omega)) b
end
end Go.Proofs.YtkibhdbmamfjcaaGreatDoor
set_option maxHeartbeats 1000000
set_option linter.unusedSimpArgs false
set_option linter.unusedVariables false
set_option maxRecDepth 10000
namespace Go.Proofs.YtkibhdbmamfjcaaGreatDoor
open Int (reduceLE reduceLT reduceToNat)
open Nat (reduceLeDiff reduceEqDiff reduceAdd)
open Go.Proofs Go.Lx Go.Wx Go.IntWalk
noncomputable section

theorem trySign_shape (t : List Nat) : ∀ (l : List (List Nat)), (∀ x ∈ l, x ≠ []) → trySign t l = FD.bad 191 ∨ ∃ x, x ≠ [] ∧ trySign t l = ⟨5, x, x.length, 0⟩ ∧ x.length ≤ t.length
  | [], _ => .inl rfl
  | x :: l, h => by
    rw [trySign]
    split
    · rename_i hc
      exact .inr ⟨x, h x (by simp), rfl, hc.1⟩
    · exact trySign_shape t l fun y hy => h y (by simp [hy])

theorem sub_take (s : List Nat) (p k : Nat) : (s.take (p + k)).drop p = (s.drop p).take k := by
  rw [List.drop_take, show p + k - p = k by omega]
variable {S : Set0} (hS : Std S)
include hS
theorem one_spec (s : List Nat) (p : Nat) (h : H) (hs : s.length < 2 ^ 26) (hb : Bytes s) (hp : p < s.length) (hodd : hasP (s.drop p) [47, 42] → (hasP (s.drop p) [47, 42, 33] ∨ hasP (s.drop p) [47, 42, 43])) : Pure S.cfg 36 [.str s, .int .i64 p] h fun v _ => v = resV p (wordD (s.drop p)) := by
  have hne := drop_ne hp
  have e0 := drop_getD s p 0
  simp only [Nat.add_zero] at e0
  have hlen : (s.drop p).length = s.length - p := List.length_drop
  have hx1 : Ext h (h.push (.cells [.int .i64 0, .str [], .int .i64 0] 43 false)) := (Ext.refl h).push _
  have hbp := hb.getD p
  refine into Tryz.f36 _ Tryz.func36 (hS.own _ (by decide)) rfl rfl (by kernel_rfl) (by kernel_rfl) ?_
  by_cases h64 : s.getD p 0 = 64
  · simp +contextual (disch := first | (simp only [fq]; done) | omega) only [wps, fW, reduceLE, reduceLT, reduceLeDiff, UInt8.reduceToNat, ↓reduceIte, reduceEqDiff, reduceAdd, reduceCtorEq, reduceToNat, Tryz.f36, hp, h64]
    refine callF_pure (ruser_spec hS s p _ hs hb hp h64) ?_
    rintro v h2 hx2 rfl
    have g2 : h2.get h.nx = some (.cells [.int .i64 0, .str [], .int .i64 0] 43 false) := by rw [hx2.2 h.nx (Nat.lt_succ_self _), push_get, if_pos rfl]
    rw [word_var (by rw [e0]; exact h64)]
    by_cases hee : (varD (s.drop p)).e = 0
    · simp +contextual (disch := first | (simp only [fq]; done) | omega) only [wps, fW, reduceLE, reduceLT, reduceLeDiff, UInt8.reduceToNat, ↓reduceIte, reduceEqDiff, reduceAdd, reduceCtorEq, reduceToNat, Tryz.f36, hp, h64, g2, resV, hee]
      exact (hx1.trans hx2).put (Nat.le_refl _) _
    · simp +contextual (disch := first | (simp only [fq]; done) | omega) only [wps, fW, reduceLE, reduceLT, reduceLeDiff, UInt8.reduceToNat, ↓reduceIte, reduceEqDiff, reduceAdd, reduceCtorEq, reduceToNat, Tryz.f36, hp, h64, g2, resV, hee]
      exact (hx1.trans hx2).put (Nat.le_refl _) _
  by_cases h63 : s.getD p 0 = 63
  · simp +contextual (disch := first | (simp only [fq]; done) | omega) only [wps, fW, reduceLE, reduceLT, reduceLeDiff, UInt8.reduceToNat, ↓reduceIte, reduceEqDiff, reduceAdd, reduceCtorEq, reduceToNat, Tryz.f36, hp, h63]
    exact ⟨hx1.put (Nat.le_refl _) _, by rw [word_param (by rw [e0]; exact h63)]; rfl⟩
  simp +contextual (disch := first | (simp only [fq]; done) | omega) only [wps, fW, reduceLE, reduceLT, reduceLeDiff, UInt8.reduceToNat, ↓reduceIte, reduceEqDiff, reduceAdd, reduceCtorEq, reduceToNat, Tryz.f36, hp, h64, h63]
  refine callF_exact (has_spec hS s [47, 42] p _ (by omega) (by decide) (by omega)) ?_
  by_cases hh : hasP (s.drop p) [47, 42]
  · have ho := hodd hh
    have hl3 : 3 ≤ s.length - p := by
      rw [← hlen]
      rcases ho with a | a <;> exact hasP_len a
    simp +contextual (disch := first | (simp only [fq]; done) | omega) only [wps, fW, reduceLE, reduceLT, reduceLeDiff, UInt8.reduceToNat, ↓reduceIte, reduceEqDiff, reduceAdd, reduceCtorEq, reduceToNat, Tryz.f36, hp, h64, h63, hh]
    refine callF_exact (ends_spec hS s [42, 47] (p + 3) _ (by omega) (by decide) (by decide) (by omega)) ?_
    rw [word_odd ho, List.drop_drop]
    cases hf : findS [42, 47] (s.drop (p + 3)) with
    | none =>
      simp +contextual (disch := first | (simp only [fq]; done) | omega) only [wps, fW, reduceLE, reduceLT, reduceLeDiff, UInt8.reduceToNat, ↓reduceIte, reduceEqDiff, reduceAdd, reduceCtorEq, reduceToNat, Tryz.f36, hp, h64, h63, hh]
      exact ⟨hx1.put (Nat.le_refl _) _, rfl⟩
    | some i =>
      have hfl := findS_le hf
      rw [List.length_drop] at hfl
      simp only [List.length_cons, List.length_nil] at hfl
      simp +contextual (disch := first | (simp only [fq]; done) | omega) only [wps, fW, reduceLE, reduceLT, reduceLeDiff, UInt8.reduceToNat, ↓reduceIte, reduceEqDiff, reduceAdd, reduceCtorEq, reduceToNat, Tryz.f36, hp, h64, h63, hh]
      refine ⟨fun q => absurd q (by omega), fun _ => ⟨⟨by omega, by omega⟩, hx1.put (Nat.le_refl _) _, ?_⟩⟩
      rw [show p + 3 + i + 2 = p + (i + 5) by omega, sub_take]
      rfl
  by_cases hq : isQt (s.getD p 0)
  · have hq' : (s.getD p 0 = 96 ∨ s.getD p 0 = 39) ∨ s.getD p 0 = 34 := hq
    simp +contextual (disch := first | (simp only [fq]; done) | omega) only [wps, fW, reduceLE, reduceLT, reduceLeDiff, UInt8.reduceToNat, ↓reduceIte, reduceEqDiff, reduceAdd, reduceCtorEq, reduceToNat, Tryz.f36, hp, h64, h63, hh, hq']
    refine callF_pure (rquoted_spec hS s p _ hs hb hp (by omega)) ?_
    rintro v h1 hx2 rfl
    have g1 : h1.get h.nx = some (.cells [.int .i64 0, .str [], .int .i64 0] 43 false) := by rw [hx2.2 h.nx (Nat.lt_succ_self _), push_get, if_pos rfl]
    have hX := hx1.trans hx2
    rw [word_quoted (by rw [e0]; exact hq), e0, List.drop_drop]
    cases hf : qtF (s.getD p 0) (s.drop (p + 1)) with
    | none =>
      simp +contextual (disch := first | (simp only [fq]; done) | omega) only [wps, fW, reduceLE, reduceLT, reduceLeDiff, UInt8.reduceToNat, ↓reduceIte, reduceEqDiff, reduceAdd, reduceCtorEq, reduceToNat, Tryz.f36, hp, h64, h63, hh, hq', g1, qtV]
      exact ⟨hX.put (Nat.le_refl _) _, rfl⟩
    | some r =>
      have hnn : ¬ (p + 1 + r.2 < 0) := by omega
      by_cases h96 : s.getD p 0 = 96
      · simp +contextual (disch := first | (simp only [fq]; done) | omega) only [wps, fW, reduceLE, reduceLT, reduceLeDiff, UInt8.reduceToNat, ↓reduceIte, reduceEqDiff, reduceAdd, reduceCtorEq, reduceToNat, Tryz.f36, hp, h64, h63, hh, hq', g1, qtV, h96, hnn]
        exact ⟨hX.put (Nat.le_refl _) _, by rw [resV, if_pos rfl]; simp only; rw [show p + (r.2 + 1) = p + 1 + r.2 by omega]; rfl⟩
      · simp +contextual (disch := first | (simp only [fq]; done) | omega) only [wps, fW, reduceLE, reduceLT, reduceLeDiff, UInt8.reduceToNat, ↓reduceIte, reduceEqDiff, reduceAdd, reduceCtorEq, reduceToNat, Tryz.f36, hp, h64, h63, hh, hq', g1, qtV, h96, hnn]
        exact ⟨hX.put (Nat.le_refl _) _, by rw [resV, if_pos rfl]; simp only; rw [show p + (r.2 + 1) = p + 1 + r.2 by omega]; rfl⟩
  · have hq' : ¬ ((s.getD p 0 = 96 ∨ s.getD p 0 = 39) ∨ s.getD p 0 = 34) := hq
    simp +contextual (disch := first | (simp only [fq]; done) | omega) only [wps, fW, reduceLE, reduceLT, reduceLeDiff, UInt8.reduceToNat, ↓reduceIte, reduceEqDiff, reduceAdd, reduceCtorEq, reduceToNat, Tryz.f36, hp, h64, h63, hh, hq']
    refine callF_exact (many_spec hS s p _ (by omega) (by omega) hb) ?_
    simp +contextual (disch := first | (simp only [fq]; done) | omega) only [wps, fW, reduceLE, reduceLT, reduceLeDiff, UInt8.reduceToNat, ↓reduceIte, reduceEqDiff, reduceAdd, reduceCtorEq, reduceToNat, Tryz.f36, hp, h64, h63, hh, hq']
    refine callF_exact (rnumber_spec hS s p _ (by omega) (by omega) hb) ?_
    rw [word_plain (by rw [e0]; exact h64) (by rw [e0]; exact h63) hh (by rw [e0]; exact hq)]
    have hrl := runF_le (s.drop p)
    have hnl := numN_le (s.drop p)
    rw [hlen] at hrl hnl
    by_cases hr : (runF (s.drop p)).2 = true ∧ numN (s.drop p) < (runF (s.drop p)).1
    · have hr1 := hr.1
      have hr2 : p + numN (s.drop p) < p + (runF (s.drop p)).1 := by omega
      rw [if_pos hr]
      simp +contextual (disch := first | (simp only [fq]; done) | omega) only [wps, fW, reduceLE, reduceLT, reduceLeDiff, UInt8.reduceToNat, ↓reduceIte, reduceEqDiff, reduceAdd, reduceCtorEq, reduceToNat, Tryz.f36, hp, h64, h63, hh, hq', hr1, hr2]
      refine ⟨⟨by omega, by omega⟩, callF_pure (rlower_spec hS _ _ (by simp; omega) ((hb.take _).drop _)) ?_⟩
      rintro v2 h2 hx2 rfl
      have g2 : h2.get h.nx = some (.cells [.int .i64 0, .str [], .int .i64 0] 43 false) := by rw [hx2.2 h.nx (Nat.lt_succ_self _), push_get, if_pos rfl]
      simp +contextual (disch := first | (simp only [fq]; done) | omega) only [wps, fW, reduceLE, reduceLT, reduceLeDiff, UInt8.reduceToNat, ↓reduceIte, reduceEqDiff, reduceAdd, reduceCtorEq, reduceToNat, Tryz.f36, hp, h64, h63, hh, hq', hr1, hr2, g2]
      exact ⟨(hx1.trans hx2).put (Nat.le_refl _) _, by rw [sub_take]; rfl⟩
    · rw [if_neg hr]
      have hrn : ¬ ((runF (s.drop p)).2 = true ∧ p + numN (s.drop p) < p + (runF (s.drop p)).1) := fun q => hr ⟨q.1, by omega⟩
      by_cases hn : 0 < numN (s.drop p)
      · have hn2 : p < p + numN (s.drop p) := by omega
        rw [if_pos hn]
        simp +contextual (disch := first | (simp only [fq]; done) | omega) only [wps, fW, reduceLE, reduceLT, reduceLeDiff, UInt8.reduceToNat, ↓reduceIte, reduceEqDiff, reduceAdd, reduceCtorEq, reduceToNat, Tryz.f36, hp, h64, h63, hh, hq', hrn, hn2]
        exact ⟨⟨by omega, by omega⟩, hx1.put (Nat.le_refl _) _, by rw [sub_take]; rfl⟩
      · have hn2 : ¬ p < p + numN (s.drop p) := by omega
        rw [if_neg hn]
        simp +contextual (disch := first | (simp only [fq]; done) | omega) only [wps, fW, reduceLE, reduceLT, reduceLeDiff, UInt8.reduceToNat, ↓reduceIte, reduceEqDiff, reduceAdd, reduceCtorEq, reduceToNat, Tryz.f36, hp, h64, h63, hh, hq', hrn, hn2]
        refine callF_pure (rsign_spec hS s p _ hs hb hp) ?_
        rintro v2 h2 hx2 rfl
        have g2 : h2.get h.nx = some (.cells [.int .i64 0, .str [], .int .i64 0] 43 false) := by rw [hx2.2 h.nx (Nat.lt_succ_self _), push_get, if_pos rfl]
        rcases trySign_shape (s.drop p) signsL (by decide) with hb1 | ⟨x, hx0, hb1, hxl⟩
        · rw [hb1]
          simp +contextual (disch := first | (simp only [fq]; done) | omega) only [wps, fW, reduceLE, reduceLT, reduceLeDiff, UInt8.reduceToNat, ↓reduceIte, reduceEqDiff, reduceAdd, reduceCtorEq, reduceToNat, Tryz.f36, hp, h64, h63, hh, hq', hrn, hn2, g2, FD.bad]
          exact ⟨(hx1.trans hx2).put (Nat.le_refl _) _, rfl⟩
        · rw [hb1]
          simp +contextual (disch := first | (simp only [fq]; done) | omega) only [wps, fW, reduceLE, reduceLT, reduceLeDiff, UInt8.reduceToNat, ↓reduceIte, reduceEqDiff, reduceAdd, reduceCtorEq, reduceToNat, Tryz.f36, hp, h64, h63, hh, hq', hrn, hn2, g2, hx0]
          exact ⟨(hx1.trans hx2).put (Nat.le_refl _) _, rfl⟩
end
end Go.Proofs.YtkibhdbmamfjcaaGreatDoor
set_option maxHeartbeats 1000000
set_option linter.unusedSimpArgs false
set_option linter.unusedVariables false
set_option maxRecDepth 10000
namespace Go.Proofs.YtkibhdbmamfjcaaGreatDoor
open Int (reduceLE reduceLT reduceToNat)
open Nat (reduceLeDiff reduceEqDiff reduceAdd)
open Go.Proofs Go.Lx Go.Wx Go.IntWalk
noncomputable section

theorem allR_fuel (s : List Nat) : ∀ (f p : Nat) (acc : List WD), s.length < p + f → allR s f p acc = allR s (f + 1) p acc
  | 0, p, acc, h => by
    rw [allR, allR, if_neg (by omega)]
  | f + 1, p, acc, h => by
    rw [allR]
    conv => rhs; rw [allR]
    split
    · split
      · rfl
      · split
        · exact allR_fuel s f _ _ (by omega)
        · split
          · rfl
          · rename_i hp h1 h2 h3
            have := wordD_pos (s := s.drop p) (by omega)
            exact allR_fuel s f _ _ (by omega)
    · rfl
theorem allR_add (s : List Nat) (f p : Nat) (acc : List WD) (h : s.length < p + f) : ∀ k, allR s f p acc = allR s (f + k) p acc
  | 0 => rfl
  | k + 1 => by rw [allR_add s f p acc h k, ← Nat.add_assoc, allR_fuel s (f + k) p acc (by omega)]
theorem allR_any {s : List Nat} {f g p : Nat} {acc : List WD} (hf : s.length < p + f) (hg : s.length < p + g) : allR s f p acc = allR s g p acc := by
  rcases Nat.le_total f g with h | h
  · rw [allR_add s f p acc hf (g - f), show f + (g - f) = g by omega]
  · rw [allR_add s g p acc hg (f - g), show g + (f - g) = f by omega]
def AR (s : List Nat) (p : Nat) (acc : List WD) : List WD ⊕ (Nat × Nat) := allR s (s.length + 1) p acc
theorem AR_end {s : List Nat} {p : Nat} {acc : List WD} (h : s.length ≤ p) : AR s p acc = .inl acc := by rw [AR, allR, if_neg (by omega)]
theorem AR_step {s : List Nat} {p : Nat} {acc : List WD} (h : p < s.length) : AR s p acc = if (passF (s.drop p)).2 ≠ 0 then .inr ((passF (s.drop p)).2, p) else if 0 < (passF (s.drop p)).1 then AR s (p + (passF (s.drop p)).1) acc else if (wordD (s.drop p)).e ≠ 0 then .inr ((wordD (s.drop p)).e, p) else AR s (p + (wordD (s.drop p)).n) (acc ++ [⟨(wordD (s.drop p)).kind, (wordD (s.drop p)).text, p⟩]) := by
  unfold AR
  rw [allR, if_pos h]
  split
  · rfl
  · split
    · exact allR_any (by omega) (by omega)
    · split
      · rfl
      · rename_i h1 h2 h3
        have := wordD_pos (s := s.drop p) (by omega)
        exact allR_any (by omega) (by omega)
theorem AR_blank {s : List Nat} {p : Nat} {acc : List WD} (h : p < s.length) (hb : isBlank (s.getD p 0)) : AR s p acc = AR s (p + 1) acc := by
  have e0 : (s.drop p).getD 0 0 = s.getD p 0 := by rw [drop_getD, Nat.add_zero]
  have hp : passF (s.drop p) = (1, 0) := by rw [passF, if_pos (by rw [e0]; exact hb)]
  rw [AR_step h, hp, if_neg (by simp), if_pos (by simp)]
theorem findB_count : ∀ (t : List Nat), findB 10 t = if countW notNl t < t.length then some (countW notNl t) else none
  | [] => rfl
  | x :: l => by
    have ih := findB_count l
    unfold countW at *
    rw [findB]
    by_cases hx : x = 10
    · simp [hx, List.takeWhile_cons, notNl]
    · have hn : notNl x := hx
      simp only [List.takeWhile_cons, hn, decide_true, List.length_cons, Nat.add_lt_add_iff_right, if_neg hx, if_true]
      rw [ih]
      split <;> simp_all
theorem line_head {t : List Nat} (h : lineP t) : t.getD 0 0 = 35 ∨ t.getD 0 0 = 45 := by
  rcases h with h | ⟨h, _, _⟩
  · exact .inl h
  · exact .inr (hasP_head h (by simp))
theorem odd_iff {t : List Nat} (h : hasP t [47, 42]) : oddP t ↔ (hasP t [47, 42, 33] ∨ hasP t [47, 42, 43]) := by
  unfold oddP
  match t, h with
  | [], h => simp [hasP] at h
  | [a], h => simp [hasP] at h
  | [a, b], h => simp [hasP]
  | a :: b :: c :: l, h =>
    simp [hasP] at h ⊢
    omega
theorem AR_bad {s : List Nat} {p : Nat} {acc : List WD} (h : p < s.length) (hb : ¬ isBlank (s.getD p 0)) (hr : remD (s.drop p) = none) : AR s p acc = .inr (190, p) := by
  have e0 : (s.drop p).getD 0 0 = s.getD p 0 := by rw [drop_getD, Nat.add_zero]
  unfold remD at hr
  split at hr
  · cases hr
  · rename_i h1
    split at hr
    · cases hr
    · rename_i h2
      have h3 : hasP (s.drop p) [47, 42] := Decidable.byContradiction fun q => h2 (.inl q)
      have hf : findS [42, 47] ((s.drop p).drop 2) = none := by
        cases hf : findS [42, 47] ((s.drop p).drop 2) with
        | none => rfl
        | some i => rw [hf] at hr; cases hr
      have hp : passF (s.drop p) = (0, 190) := by
        rw [passF, if_neg (by rw [e0]; exact hb), if_neg h1, if_neg, hf]
        rintro (q | q)
        · exact q h3
        · exact h2 (.inr ((odd_iff h3).1 q))
      rw [AR_step h, hp, if_pos (by simp)]
theorem AR_rem {s : List Nat} {p k : Nat} {acc : List WD} (h : p < s.length) (hb : ¬ isBlank (s.getD p 0)) (hr : remD (s.drop p) = some k) (hk : 0 < k) : AR s p acc = AR s (p + k) acc := by
  have e0 : (s.drop p).getD 0 0 = s.getD p 0 := by rw [drop_getD, Nat.add_zero]
  have hlen : (s.drop p).length = s.length - p := List.length_drop
  unfold remD at hr
  split at hr
  · rename_i h1
    injection hr with hr
    have hc := findB_count (s.drop p)
    rw [hr] at hc
    by_cases hl : k < (s.drop p).length
    · rw [if_pos hl] at hc
      have hp : passF (s.drop p) = (k + 1, 0) := by rw [passF, if_neg (by rw [e0]; exact hb), if_pos h1, hc]
      have h10 := (findB_lt hc).2
      rw [drop_getD] at h10
      rw [AR_step h, hp, if_neg (by simp), if_pos (by simp), AR_blank (p := p + k) (by omega) (by rw [h10]; unfold isBlank; omega)]
      rfl
    · rw [if_neg hl] at hc
      have hp : passF (s.drop p) = ((s.drop p).length, 0) := by rw [passF, if_neg (by rw [e0]; exact hb), if_pos h1, hc]
      have hkl := countW_le notNl (s.drop p)
      rw [AR_step h, hp, if_neg (by simp), if_pos (by simp only; omega)]
      simp only
      rw [show (s.drop p).length = k by omega]
  · rename_i h1
    split at hr
    · injection hr with hr; omega
    · rename_i h2
      have h3 : hasP (s.drop p) [47, 42] := Decidable.byContradiction fun q => h2 (.inl q)
      cases hf : findS [42, 47] ((s.drop p).drop 2) with
      | none => rw [hf] at hr; cases hr
      | some i =>
        rw [hf] at hr
        injection hr with hr
        have hp : passF (s.drop p) = (k, 0) := by
          rw [passF, if_neg (by rw [e0]; exact hb), if_neg h1, if_neg, hf]
          · have hr : i + 4 = k := hr
            simp only; rw [hr]
          · rintro (q | q)
            · exact q h3
            · exact h2 (.inr ((odd_iff h3).1 q))
        rw [AR_step h, hp, if_neg (by simp), if_pos (by simp only; omega)]
theorem rem_zero {t : List Nat} (hr : remD t = some 0) : ¬ lineP t ∧ (hasP t [47, 42] → (hasP t [47, 42, 33] ∨ hasP t [47, 42, 43])) := by
  unfold remD at hr
  split at hr
  · rename_i h1
    injection hr with hr
    have hh := line_head h1
    have h0 : t ≠ [] := fun q => by rw [q] at hh; simp at hh
    have := countW_step (p := notNl) (s := t) (i := 0) (Nat.zero_le _) (List.length_pos_iff.2 h0) (by unfold notNl; omega)
    omega
  · rename_i h1
    split at hr
    · rename_i h2
      exact ⟨h1, fun q => by rcases h2 with a | a; exact absurd q a; exact a⟩
    · cases hf : findS [42, 47] (t.drop 2) with
      | none => rw [hf] at hr; cases hr
      | some i => rw [hf] at hr; injection hr with hr; have hr : i + 4 = 0 := hr; omega
theorem AR_word {s : List Nat} {p : Nat} {acc : List WD} (h : p < s.length) (hb : ¬ isBlank (s.getD p 0)) (hr : remD (s.drop p) = some 0) : AR s p acc = if (wordD (s.drop p)).e ≠ 0 then .inr ((wordD (s.drop p)).e, p) else AR s (p + (wordD (s.drop p)).n) (acc ++ [⟨(wordD (s.drop p)).kind, (wordD (s.drop p)).text, p⟩]) := by
  have e0 : (s.drop p).getD 0 0 = s.getD p 0 := by rw [drop_getD, Nat.add_zero]
  obtain ⟨h1, h2⟩ := rem_zero hr
  have hp : passF (s.drop p) = (0, 0) := by
    rw [passF, if_neg (by rw [e0]; exact hb), if_neg h1, if_pos]
    by_cases h3 : hasP (s.drop p) [47, 42]
    · exact .inr ((odd_iff h3).2 (h2 h3))
    · exact .inl h3
  rw [AR_step h, hp, if_neg (by simp), if_neg (by simp)]
end
end Go.Proofs.YtkibhdbmamfjcaaGreatDoor
set_option maxHeartbeats 1000000
set_option linter.unusedSimpArgs false
set_option linter.unusedVariables false
set_option maxRecDepth 10000
namespace Go.Proofs.YtkibhdbmamfjcaaGreatDoor
open Int (reduceLE reduceLT reduceToNat)
open Nat (reduceLeDiff reduceEqDiff reduceAdd)
open Go.Proofs Go.Lx Go.Wx Go.IntWalk
noncomputable section

def RefI (s : List Nat) (h : H) (m : Nat) (env : Env) (h' : H) : Prop :=
  ∃ (p : Nat) (acc : List WD) (l : V), m = s.length - p ∧ env 0 = .str s ∧ env 3 = .ptr h.nx 0 ∧ env 4 = l ∧ env 5 = .int .i64 p ∧ p ≤ s.length ∧ acc.length ≤ p ∧ Ext h h' ∧ h.nx < h'.nx ∧ h'.get h.nx = some (.cells [.int .i64 0, .int .i64 0] 25 false) ∧ Acc (h.nx + 1) h' l (wcells acc) 43 3 ∧ allF s = AR s p acc
theorem remD_le {t : List Nat} {k : Nat} (h : remD t = some k) : k ≤ t.length := by
  unfold remD at h
  split at h
  · injection h with h; rw [← h]; exact countW_le _ _
  · split at h
    · injection h with h; omega
    · rename_i h2
      cases hf : findS [42, 47] (t.drop 2) with
      | none => rw [hf] at h; cases h
      | some i =>
        rw [hf] at h; injection h with h
        have h : i + 4 = k := h
        have := findS_le hf
        rw [List.length_drop] at this
        simp only [List.length_cons, List.length_nil] at this
        have hl : 2 ≤ t.length := hasP_len (p := [47, 42]) (Decidable.byContradiction fun q => h2 (.inl q))
        omega
variable {S : Set0} (hS : Std S)
include hS
theorem rall_spec (s : List Nat) (h : H) (hb : Bytes s) (hs : s.length < 2 ^ 63) : Pure S.cfg 13 [.str s] h fun v h' => allV s h.nx h' v := by
  refine into Tryz.f13 _ Tryz.func13 (hS.own _ (by decide)) rfl rfl (by kernel_rfl) (by kernel_rfl) ?_
  have hx1 : ¬ h.nx = h.nx + 1 := by omega
  by_cases hlen : 1048576 < s.length
  · simp +contextual (disch := first | (simp only [fq]; done) | omega) only [wps, fW, reduceLE, reduceLT, reduceLeDiff, UInt8.reduceToNat, ↓reduceIte, reduceEqDiff, reduceAdd, reduceCtorEq, reduceToNat, Tryz.f13, hlen]
    exact ⟨((Ext.refl h).push _).put (Nat.le_refl _) _, by rw [allV, if_pos hlen]⟩
  simp +contextual (disch := first | (simp only [fq]; done) | omega) only [wps, fW, reduceLE, reduceLT, reduceLeDiff, UInt8.reduceToNat, ↓reduceIte, reduceEqDiff, reduceAdd, reduceCtorEq, reduceToNat, Tryz.f13, hlen]
  refine run_loop (RefI s h) s.length ⟨0, [], .nilslice, by simp +contextual (disch := first | (simp only [fq]; done) | omega) only [wps, fW, reduceLE, reduceLT, reduceLeDiff, UInt8.reduceToNat, ↓reduceIte, reduceEqDiff, reduceAdd, reduceCtorEq, reduceToNat, hx1]; exact ⟨by simp, (Ext.refl h).push _, by omega, .inl ⟨rfl, rfl⟩, rfl⟩⟩ ?_
  rintro m env h' ⟨p, acc, l, rfl, e0, e3, e4, e5, hp, hacc, hx, hn1, hg, ha, hr⟩
  have hcl := ha.cell.1
  have hic := ha.cell.2
  by_cases hpl : p < s.length
  · simp +contextual (disch := first | (simp only [fq]; done) | omega) only [wps, fW, reduceLE, reduceLT, reduceLeDiff, UInt8.reduceToNat, ↓reduceIte, reduceEqDiff, reduceAdd, reduceCtorEq, reduceToNat, e0, e3, e4, e5, hpl, hg, hcl, hic, Tryz.f13]
    refine callF_exact (rblank_spec hS _ _) ?_
    by_cases hbl : isBlank (s.getD p 0)
    · simp +contextual (disch := first | (simp only [fq]; done) | omega) only [wps, fW, reduceLE, reduceLT, reduceLeDiff, UInt8.reduceToNat, ↓reduceIte, reduceEqDiff, reduceAdd, reduceCtorEq, reduceToNat, e0, e3, e4, e5, hpl, hg, hcl, hic, hbl, Tryz.f13]
      refine ⟨_, ?_, p + 1, acc, l, rfl, ?_⟩
      · omega
      · simp +contextual (disch := first | (simp only [fq]; done) | omega) only [wps, fW, reduceLE, reduceLT, reduceLeDiff, UInt8.reduceToNat, ↓reduceIte, reduceEqDiff, reduceAdd, reduceCtorEq, reduceToNat, e0, e3, e4, e5]
        exact ⟨by omega, by omega, hx, hn1, hg, ha, by rw [hr, AR_blank hpl hbl]⟩
    · simp +contextual (disch := first | (simp only [fq]; done) | omega) only [wps, fW, reduceLE, reduceLT, reduceLeDiff, UInt8.reduceToNat, ↓reduceIte, reduceEqDiff, reduceAdd, reduceCtorEq, reduceToNat, e0, e3, e4, e5, hpl, hg, hcl, hic, hbl, Tryz.f13]
      refine callF_exact (remark_spec hS s p _ (by omega) hb hpl) ?_
      cases hrm : remD (s.drop p) with
      | none =>
        simp +contextual (disch := first | (simp only [fq]; done) | omega) only [wps, fW, reduceLE, reduceLT, reduceLeDiff, UInt8.reduceToNat, ↓reduceIte, reduceEqDiff, reduceAdd, reduceCtorEq, reduceToNat, e0, e3, e4, e5, hpl, hg, hcl, hic, hbl, atV, Tryz.f13]
        exact ⟨hx.put (Nat.le_refl _) _, by rw [allV, if_neg hlen, hr, AR_bad hpl hbl hrm]; rfl⟩
      | some k =>
        have hkl := remD_le hrm
        rw [List.length_drop] at hkl
        by_cases hk : 0 < k
        · have hk2 : p < p + k := by omega
          have n0 : ¬ p + k < 0 := by omega
          simp +contextual (disch := first | (simp only [fq]; done) | omega) only [wps, fW, reduceLE, reduceLT, reduceLeDiff, UInt8.reduceToNat, ↓reduceIte, reduceEqDiff, reduceAdd, reduceCtorEq, reduceToNat, e0, e3, e4, e5, hpl, hg, hcl, hic, hbl, atV, hk2, n0, Tryz.f13]
          refine ⟨_, ?_, p + k, acc, l, rfl, ?_⟩
          · omega
          · simp +contextual (disch := first | (simp only [fq]; done) | omega) only [wps, fW, reduceLE, reduceLT, reduceLeDiff, UInt8.reduceToNat, ↓reduceIte, reduceEqDiff, reduceAdd, reduceCtorEq, reduceToNat, e0, e3, e4, e5]
            exact ⟨by omega, by omega, hx, hn1, hg, ha, by rw [hr, AR_rem hpl hbl hrm hk]⟩
        · have hk0 : k = 0 := by omega
          subst hk0
          have n0 : ¬ p < 0 := by omega
          have n1 : ¬ p < p := by omega
          have hd0 : s.drop p ≠ [] := drop_ne hpl
          have hdo := wordD_ok hd0 (hb.drop p)
          rw [AR_word hpl hbl hrm] at hr
          simp +contextual (disch := first | (simp only [fq]; done) | omega) only [wps, fW, reduceLE, reduceLT, reduceLeDiff, UInt8.reduceToNat, ↓reduceIte, reduceEqDiff, reduceAdd, reduceCtorEq, reduceToNat, e0, e3, e4, e5, hpl, hg, hcl, hic, hbl, atV, n0, n1, Tryz.f13]
          refine callF_pure (one_spec hS s p _ (by omega) hb hpl (rem_zero hrm).2) ?_
          rintro v h3 hx3 rfl
          have hle := hx3.1
          have g1 : h3.get h.nx = some (.cells [.int .i64 0, .int .i64 0] 25 false) := by rw [hx3.2 h.nx (by omega)]; exact hg
          have ha3 : Acc (h.nx + 1) h3 l (wcells acc) 43 3 := ha.stay hle fun k _ hk => hx3.2 k hk
          have m1 : ¬ h.nx = h3.nx := by omega
          have hX : Ext h h3 := hx.trans hx3
          obtain ⟨d, hd⟩ : ∃ d, d = wordD (s.drop p) := ⟨_, rfl⟩
          have hdn := hdo.2.2
          rw [List.length_drop] at hdn
          have hpos := wordD_pos (s := s.drop p)
          rw [← hd] at hr hdn hpos ⊢
          by_cases hde : d.e = 0
          · rw [if_neg (by simpa using hde)] at hr
            have hdp := hpos hde
            simp +contextual (disch := first | (simp only [fq]; done) | omega) only [wps, fW, reduceLE, reduceLT, reduceLeDiff, UInt8.reduceToNat, ↓reduceIte, reduceEqDiff, reduceAdd, reduceCtorEq, reduceToNat, e0, e3, e4, e5, hpl, hg, hcl, hic, hbl, atV, n0, n1, resV, hde, g1, m1, Tryz.f13]
            refine ⟨.inr (by omega), ?_⟩
            have haH := (ha3.stay (Nat.le_succ _) (fun k _ hk => by rw [put_get, if_neg (by omega), push_get, if_neg (by omega)]) : Acc (h.nx + 1) ((h3.push (.cells [.int .i64 0, .str [], .int .i64 0] 43 false)).put h3.nx (.cells [.int .i64 d.kind, .str d.text, .int .i64 p] 43 false)) l (wcells acc) 43 3).push (ob := .cells [.int .i64 d.kind, .str d.text, .int .i64 p] 43 false)
            refine append_accV (sv := l) (n0 := h.nx + 1) (cells := wcells acc) (new := [.int .i64 d.kind, .str d.text, .int .i64 p]) (b2 := h3.nx + 1) (o2 := 0) (n := 1) (m := 1) ?_ ap30 ⟨.slice 43, by kernel_rfl, rfl⟩ haH ?_ ?_ ?_ rfl rfl ?_ (by decide) ?_ ?_ ?_
            · simp +contextual (disch := first | (simp only [fq]; done) | omega) only [wps, fW, reduceLE, reduceLT, reduceLeDiff, UInt8.reduceToNat, ↓reduceIte, reduceEqDiff, reduceAdd, reduceCtorEq, reduceToNat]
            · simp +contextual (disch := first | (simp only [fq]; done) | omega) only [wps, fW, reduceLE, reduceLT, reduceLeDiff, UInt8.reduceToNat, ↓reduceIte, reduceEqDiff, reduceAdd, reduceCtorEq, reduceToNat]
            · decide
            · simp +contextual (disch := first | (simp only [fq]; done) | omega) only [wps, fW, reduceLE, reduceLT, reduceLeDiff, UInt8.reduceToNat, ↓reduceIte, reduceEqDiff, reduceAdd, reduceCtorEq, reduceToNat, rdC]
              rfl
            · rw [wcells_len]
              show acc.length * 3 + 3 ≤ _
              omega
            · exact fun k hk => by rw [fresh_def]; exact .inl (by omega)
            · intro v h4 L ha4 hst hL
              have hcl4 := ha4.cell.1
              have hic4 := ha4.cell.2
              simp +contextual (disch := first | (simp only [fq]; done) | omega) only [wps, fW, reduceLE, reduceLT, reduceLeDiff, UInt8.reduceToNat, ↓reduceIte, reduceEqDiff, reduceAdd, reduceCtorEq, reduceToNat, e0, e3, e4, e5, hpl, hg, hcl, hic, hbl, n0, n1, hde, hcl4, hic4, Tryz.f13]
              refine ⟨_, ?_, p + d.n, acc ++ [⟨d.kind, d.text, p⟩], v, rfl, ?_⟩
              · omega
              · have hXH : Ext h h4 := StaysBut.ext (n0 := 0) (((hX.push _).put (by omega) _).push _) hst (haH.mono (by omega))
                have hn4 : h3.nx + 1 + 1 ≤ h4.nx := hst.1
                have gf : h4.get h.nx = some (.cells [.int .i64 0, .int .i64 0] 25 false) := by
                  rw [hst.2 h.nx (by show h.nx < h3.nx + 1 + 1; omega) (fun o n m => haH.ne (by omega)), push_get, if_neg (by show ¬ h.nx = h3.nx + 1; omega), put_get, if_neg m1, push_get, if_neg m1]
                  exact g1
                simp +contextual (disch := first | (simp only [fq]; done) | omega) only [wps, fW, reduceLE, reduceLT, reduceLeDiff, UInt8.reduceToNat, ↓reduceIte, reduceEqDiff, reduceAdd, reduceCtorEq, reduceToNat, e0, e3, e4, e5]
                exact ⟨by omega, by omega, hXH, by omega, gf, by rw [wcells_append]; exact ha4, hr⟩
            · show h.nx + 1 ≤ h3.nx + 1 + 1
              omega
          · rw [if_pos (by simpa using hde)] at hr
            simp +contextual (disch := first | (simp only [fq]; done) | omega) only [wps, fW, reduceLE, reduceLT, reduceLeDiff, UInt8.reduceToNat, ↓reduceIte, reduceEqDiff, reduceAdd, reduceCtorEq, reduceToNat, e0, e3, e4, e5, hpl, hg, hcl, hic, hbl, atV, n0, n1, resV, hde, g1, m1, Tryz.f13]
            exact ⟨.inr (by omega), ((hX.push _).put (by omega) _).put (Nat.le_refl _) _, by rw [allV, if_neg hlen, hr]⟩
  · simp +contextual (disch := first | (simp only [fq]; done) | omega) only [wps, fW, reduceLE, reduceLT, reduceLeDiff, UInt8.reduceToNat, ↓reduceIte, reduceEqDiff, reduceAdd, reduceCtorEq, reduceToNat, e0, e3, e4, e5, hpl, hg, hcl, hic, Tryz.f13]
    exact ⟨hx.put (Nat.le_refl _) _, by
      rw [allV, if_neg hlen, hr, AR_end (by omega)]
      exact ⟨l, rfl, (ha.put (by omega)).mono (by omega)⟩⟩
end
end Go.Proofs.YtkibhdbmamfjcaaGreatDoor
