/-
  Several texts of one walk, joined.
-/
import Derived.Test.YtkibhdbmamfjcaaDoorScanB
/-
  scan's reference: variables, whatever the text.
-/
set_option linter.unusedSimpArgs false
set_option linter.unusedVariables false
set_option maxRecDepth 10000
namespace Go.Proofs.YtkibhdbmamfjcaaDoor
open Go.Proofs Go.Lx Go.Wx Go.IntWalk
noncomputable section

theorem sysN_fuel : ∀ (f : Nat) (t : List Nat), t.length < f → sysN f t = sysN (f + 1) t
  | 0, t, h => absurd h (Nat.not_lt_zero _)
  | f + 1, t, h => by
    rw [sysN, sysN]
    split
    · rename_i hc
      rw [sysN_fuel f (t.drop ((runF t).1 + 1)) (by rw [List.length_drop]; omega)]
    · rfl
theorem sysN_run {f : Nat} {t : List Nat} {n : Nat} (hn : n ≤ t.length) (hr : (runF t).1 = n + (runF (t.drop n)).1) : sysN (f + 1) t = n + sysN (f + 1) (t.drop n) := by
  rw [sysN, sysN, hr, List.length_drop, drop_getD, List.drop_drop]
  by_cases hc : n + (runF (t.drop n)).1 < t.length ∧ t.getD (n + (runF (t.drop n)).1) 0 = 46
  · rw [if_pos hc, if_pos ⟨by omega, hc.2⟩, show n + ((runF (t.drop n)).1 + 1) = n + (runF (t.drop n)).1 + 1 by omega]
    omega
  · rw [if_neg hc, if_neg (fun q => hc ⟨by omega, q.2⟩)]
theorem sysN_dot {f : Nat} {t : List Nat} (h0 : t ≠ []) (hf : t.length ≤ f) (hd : t.getD 0 0 = 46) : sysN (f + 1) t = 1 + sysN (f + 1) (t.drop 1) := by
  have hl : 0 < t.length := List.length_pos_iff.2 h0
  have ha := dec_ascii (s := t) (by omega)
  rw [hd] at ha
  have e := runF_stop h0 (ascii_good (by omega) ha) (by rw [ha]; unfold letterR; simp) (by rw [ha]; unfold isDigit; simp)
  rw [sysN, e]
  simp only
  rw [if_pos ⟨hl, hd⟩, sysN_fuel f (t.drop (0 + 1)) (by rw [List.length_drop]; omega)]
theorem sysN_stop {f : Nat} {t : List Nat} (hl : letN t = 0) (hd : ¬ isDigit (t.getD 0 0)) (hp : ¬ t.getD 0 0 = 46) : sysN (f + 1) t = 0 := by
  have e : (runF t).1 = 0 := by
    by_cases h0 : t = []
    · rw [h0, runF_nil]
    · by_cases hbd : badR t
      · rw [runF_bad h0 hbd]
      · by_cases hle : letterR (dec t).1
        · have h1 := letN_of h0 hbd hle
          have h2 := dec_pos t
          omega
        · rw [runF_stop h0 hbd hle fun hdd => ?_]
          by_cases ha : t.getD 0 0 < 128
          · rw [dec_ascii ha] at hdd
            exact hd hdd
          · exact hle (.inl (dec_big ha))
  rw [sysN, e, if_neg (fun q => hp q.2)]
theorem sysN_digit {f : Nat} {t : List Nat} (h0 : t ≠ []) (hd : isDigit (t.getD 0 0)) : sysN (f + 1) t = 1 + sysN (f + 1) (t.drop 1) := by
  have hl : 0 < t.length := List.length_pos_iff.2 h0
  have ha := dec_ascii (s := t) (by have := hd.2; omega)
  have e := runF_digit h0 (ascii_good (by have := hd.2; omega) ha) (by rw [ha]; unfold letterR; simp only; have h1 := hd.1; have h2 := hd.2; omega) (by rw [ha]; exact hd)
  rw [ha] at e
  exact sysN_run hl (by rw [e])
theorem sysN_letter {f : Nat} {t : List Nat} (hl : letN t ≠ 0) : sysN (f + 1) t = letN t + sysN (f + 1) (t.drop (letN t)) := by
  have h0 : t ≠ [] := fun q => hl (by rw [letN, if_pos q])
  have hbd : ¬ badR t := fun q => hl (letN_bad q)
  have hle : letterR (dec t).1 := Decidable.byContradiction fun q => hl (letN_no h0 hbd q)
  have e := runF_letter h0 hbd hle
  rw [← letN_of h0 hbd hle] at e
  exact sysN_run (letN_le t) (by rw [e])

/-- a word that was found at a place, as the reference gives it -/
def resV (p : Nat) (d : FD) : V := if d.e = 0 then .tuple [.agg [.int .i64 d.kind, .str d.text, .int .i64 p], .int .i64 ((p + d.n : Nat)), .int .i64 0] else .tuple [.agg [.int .i64 0, .str [], .int .i64 0], .int .i64 0, .int .i64 d.e]
/-- a variable that begins here -/
def varD (t : List Nat) : FD := if hasP t [64, 64] then sysD t else userD t

variable {S : Set0} (hS : Std S)
include hS
omit hS
theorem sub_at (s : List Nat) (p k i : Nat) : (s.take (p + k + i)).drop (p + k) = ((s.drop p).take (k + i)).drop k := by
  rw [List.drop_take, List.drop_take, List.drop_drop, show p + k + i - (p + k) = i by omega, show k + i - k = i by omega]
theorem sys_end {s : List Nat} {p i : Nat} (hh : hasP (s.drop p) [64, 64]) (hE : sysE (s.drop p) = i) (hi : ¬ i = 0) : V.tuple [.agg [.int .i64 7, .str (lowS ((s.take (p + 2 + i)).drop (p + 2))), .int .i64 p], .int .i64 ((p + 2 + i : Nat)), .int .i64 0] = resV p (sysD (s.drop p)) := by
  rw [sysD, if_pos hh, if_neg (by omega), hE, resV, if_pos rfl, sub_at, Nat.add_assoc]
  rfl
theorem sys_bad {s : List Nat} {p : Nat} (hh : hasP (s.drop p) [64, 64]) (hE : sysE (s.drop p) = 0) : V.tuple [.agg [.int .i64 0, .str [], .int .i64 0], .int .i64 0, .int .i64 191] = resV p (sysD (s.drop p)) := by
  rw [sysD, if_pos hh, if_pos hE]
  rfl
theorem lowB_low (b : Nat) : lowB (lowB b) = lowB b := by
  by_cases h : 65 ≤ b ∧ b ≤ 90
  · rw [show lowB b = b + 32 by rw [lowB, if_pos h], lowB, if_neg (by omega)]
  · rw [show lowB b = b by rw [lowB, if_neg h], lowB, if_neg h]
theorem lowS_low (t : List Nat) : lowS (lowS t) = lowS t := by
  unfold lowS
  rw [List.map_map]
  exact List.map_congr_left fun b _ => lowB_low b
theorem runF_pos {t : List Nat} (h : (runF t).2 = true) : 0 < (runF t).1 := by
  by_cases h0 : t = []
  · rw [h0, runF_nil] at h; cases h
  · by_cases hbd : badR t
    · rw [runF_bad h0 hbd] at h; cases h
    · have hp := dec_pos t
      by_cases hle : letterR (dec t).1
      · rw [runF_letter h0 hbd hle]
        show 0 < (dec t).2 + _
        omega
      · by_cases hd : isDigit (dec t).1
        · rw [runF_digit h0 hbd hle hd]
          show 0 < (dec t).2 + _
          omega
        · rw [runF_stop h0 hbd hle hd] at h; cases h
/-- a byte that opens a quoted text -/
def isQt (c : Nat) : Prop := (c = 96 ∨ c = 39) ∨ c = 34
instance (c : Nat) : Decidable (isQt c) := inferInstanceAs (Decidable (_ ∨ _))
theorem user_quoted {t : List Nat} (h64 : t.getD 0 0 = 64) (hl : 1 < t.length) (hq : isQt (t.getD 1 0)) : userD t = match qtF (t.getD 1 0) (t.drop 2) with
    | some r => ⟨6, lowS r.1, 1 + (r.2 + 1), 0⟩
    | none => FD.bad 190 := by
  have e1 : (t.drop 1).getD 0 0 = t.getD 1 0 := by rw [drop_getD]
  have e2 : (t.drop 1).drop 1 = t.drop 2 := by rw [List.drop_drop]
  rw [userD, if_pos h64, if_neg (by omega)]
  by_cases h96 : t.getD 1 0 = 96
  · rw [qtF, if_pos h96, tryU, quotD, e1, if_pos h96, e2]
    cases qF (t.drop 2) with
    | none => rfl
    | some r => simp
  · have hisq : isQ (t.getD 1 0) := by
      rcases hq with (a | a) | a
      · exact absurd a h96
      · exact .inl a
      · exact .inr a
    rw [qtF, if_neg h96, tryU, quotD, e1, if_neg h96]
    simp only [FD.none, ne_eq, not_true_eq_false, if_false, Nat.lt_irrefl]
    rw [tryU, textD, e1, if_pos hisq, e2]
    cases tF (t.getD 1 0) (t.drop 2) with
    | none => rfl
    | some r => simp
theorem user_plain {t : List Nat} (h64 : t.getD 0 0 = 64) (hq : ¬ (1 < t.length ∧ isQt (t.getD 1 0))) : userD t = if (runF (t.drop 1)).2 = true then ⟨6, lowS ((t.drop 1).take (runF (t.drop 1)).1), 1 + (runF (t.drop 1)).1, 0⟩ else FD.bad 191 := by
  have e1 : (t.drop 1).getD 0 0 = t.getD 1 0 := by rw [drop_getD]
  rw [userD, if_pos h64]
  by_cases hl : t.length = 1
  · rw [if_pos hl, List.drop_eq_nil_of_le (by omega), runF_nil]
    rfl
  · rw [if_neg hl]
    have ht0 : t ≠ [] := fun q => by rw [q] at h64; cases h64
    have hl0 : 0 < t.length := List.length_pos_iff.2 ht0
    have hnq : ¬ isQt (t.getD 1 0) := fun q => hq ⟨by omega, q⟩
    have h96 : ¬ t.getD 1 0 = 96 := fun q => hnq (.inl (.inl q))
    have hisq : ¬ isQ (t.getD 1 0) := fun q => hnq (by rcases q with a | a; exact .inl (.inr a); exact .inr a)
    rw [tryU, quotD, e1, if_neg h96]
    simp only [FD.none, ne_eq, not_true_eq_false, if_false, Nat.lt_irrefl]
    rw [tryU, textD, e1, if_neg hisq]
    simp only [FD.none, ne_eq, not_true_eq_false, if_false, Nat.lt_irrefl]
    rw [tryU, nameD]
    by_cases hr : (runF (t.drop 1)).2 = true
    · have h2 := runF_pos hr
      rw [if_pos hr, if_pos hr]
      simp only [ne_eq, not_true_eq_false, if_false]
      rw [if_pos h2, lowS_low]
    · rw [if_neg hr, if_neg hr]
      rfl
include hS
theorem ruser_spec (s : List Nat) (p : Nat) (h : H) (hs : s.length < 2 ^ 26) (hb : Bytes s) (hp : p < s.length) (h64 : s.getD p 0 = 64) : Pure S.cfg 79 [.str s, .int .i64 p] h fun v _ => v = resV p (varD (s.drop p)) := by
  have hne := drop_ne hp
  have e0 := drop_getD s p 0
  simp only [Nat.add_zero] at e0
  have hlen : (s.drop p).length = s.length - p := List.length_drop
  refine into Tryd.f79 _ Tryd.func79 (hS.own _ (by decide)) rfl rfl (by kernel_rfl) (by kernel_rfl) ?_
  simp +contextual (disch := first | (simp only [facts, clsL, clsS, clsC, isPtrD]; done) | omega) only [wps, facts, wpb, cst, wpk, wpl, forall_const, implies_true, false_implies, Int.reduceLE, Int.reduceLT, Nat.reduceLeDiff, UInt8.reduceToNat, ↓reduceIte, Nat.reduceEqDiff, Nat.reduceAdd, reduceCtorEq, Int.reduceToNat, clsL, clsS, clsC, Tryd.f79, hp]
  refine callF_exact (has_spec hS s [64, 64] p _ (by omega) (by decide) (by omega)) ?_
  by_cases hh : hasP (s.drop p) [64, 64]
  · have hl2 := hasP_len hh
    rw [hlen] at hl2
    simp only [List.length_cons, List.length_nil] at hl2
    simp +contextual (disch := first | (simp only [facts, clsL, clsS, clsC, isPtrD]; done) | omega) only [wps, facts, wpb, cst, wpk, wpl, forall_const, implies_true, false_implies, Int.reduceLE, Int.reduceLT, Nat.reduceLeDiff, UInt8.reduceToNat, ↓reduceIte, Nat.reduceEqDiff, Nat.reduceAdd, reduceCtorEq, Int.reduceToNat, clsL, clsS, clsC, Tryd.f79, hp, hh]
    have hv : varD (s.drop p) = sysD (s.drop p) := by rw [varD, if_pos hh]
    rw [hv]
    have hx1 : ¬ h.nx = h.nx + 1 := by omega
    refine run_loop (fun m env h' => ∃ i : Nat, m = s.length - (p + 2 + i) ∧ env 7 = .int .i64 ((p + 2 + i : Nat)) ∧ env 0 = .str s ∧ env 1 = .int .i64 p ∧ env 4 = .ptr h.nx 0 ∧ p + 2 + i ≤ s.length ∧ h' = h.push (.cells [.int .i64 0, .str [], .int .i64 0] 36 false) ∧ sysE (s.drop p) = i + sysN ((s.drop p).length + 1) (s.drop (p + 2 + i))) (s.length - (p + 2)) ⟨0, by simp +contextual (disch := first | (simp only [facts, clsL, clsS, clsC, isPtrD]; done) | omega) only [wps, facts, wpb, cst, wpk, wpl, forall_const, implies_true, false_implies, Int.reduceLE, Int.reduceLT, Nat.reduceLeDiff, UInt8.reduceToNat, ↓reduceIte, Nat.reduceEqDiff, Nat.reduceAdd, reduceCtorEq, Int.reduceToNat, clsL, clsS, clsC]; exact ⟨by omega, by rw [sysE, List.drop_drop, hlen]⟩⟩ ?_
    rintro m env h' ⟨i, rfl, h7, h0, h1, h4, hi, rfl, hr⟩
    by_cases hlt : p + 2 + i < s.length
    · have hbi := hb.getD (p + 2 + i)
      have hln := letN_le (s.drop (p + 2 + i))
      rw [List.length_drop] at hln
      have hne2 := drop_ne hlt
      have e2 : (s.drop (p + 2 + i)).getD 0 0 = s.getD (p + 2 + i) 0 := by rw [drop_getD, Nat.add_zero]
      have hl3 : (s.drop (p + 2 + i)).length ≤ (s.drop p).length := by rw [List.length_drop, List.length_drop]; omega
      simp +contextual (disch := first | (simp only [facts, clsL, clsS, clsC, isPtrD]; done) | omega) only [wps, facts, wpb, cst, wpk, wpl, forall_const, implies_true, false_implies, Int.reduceLE, Int.reduceLT, Nat.reduceLeDiff, UInt8.reduceToNat, ↓reduceIte, Nat.reduceEqDiff, Nat.reduceAdd, reduceCtorEq, Int.reduceToNat, clsL, clsS, clsC, h0, h1, h4, h7, hlt, Tryd.f79]
      refine callF_exact (letter_spec hS s _ _ (by omega) (by omega) hb) ?_
      simp +contextual (disch := first | (simp only [facts, clsL, clsS, clsC, isPtrD]; done) | omega) only [wps, facts, wpb, cst, wpk, wpl, forall_const, implies_true, false_implies, Int.reduceLE, Int.reduceLT, Nat.reduceLeDiff, UInt8.reduceToNat, ↓reduceIte, Nat.reduceEqDiff, Nat.reduceAdd, reduceCtorEq, Int.reduceToNat, clsL, clsS, clsC, h0, h1, h4, h7, hlt, Tryd.f79]
      refine callF_exact (rdigit_spec hS _ _) ?_
      by_cases hd : isDigit (s.getD (p + 2 + i) 0) ∨ s.getD (p + 2 + i) 0 = 46
      · simp +contextual (disch := first | (simp only [facts, clsL, clsS, clsC, isPtrD]; done) | omega) only [wps, facts, wpb, cst, wpk, wpl, forall_const, implies_true, false_implies, Int.reduceLE, Int.reduceLT, Nat.reduceLeDiff, UInt8.reduceToNat, ↓reduceIte, Nat.reduceEqDiff, Nat.reduceAdd, reduceCtorEq, Int.reduceToNat, clsL, clsS, clsC, h0, h1, h4, h7, hlt, hd, Tryd.f79]
        refine ⟨fun q => absurd q (by decide), fun _ => ?_⟩
        refine ⟨_, ?_, i + 1, rfl, by omega, by omega, ?_⟩
        · omega
        · have hdd : s.drop (p + 2 + (i + 1)) = (s.drop (p + 2 + i)).drop 1 := by rw [List.drop_drop, show p + 2 + (i + 1) = p + 2 + i + 1 by omega]
          rw [hr, hdd, ← hlen]
          rcases hd with hd | hd
          · rw [sysN_digit hne2 (by rw [e2]; exact hd)]
            omega
          · rw [sysN_dot hne2 hl3 (by rw [e2]; exact hd)]
            omega
      · by_cases hz : letN (s.drop (p + 2 + i)) = 0
        · have hE : sysE (s.drop p) = i := by rw [hr]; rw [sysN_stop hz (by rw [e2]; exact fun q => hd (.inl q)) (by rw [e2]; exact fun q => hd (.inr q))]; rfl
          by_cases hi0 : i = 0
          · subst hi0
            simp +contextual (disch := first | (simp only [facts, clsL, clsS, clsC, isPtrD]; done) | omega) only [wps, facts, wpb, cst, wpk, wpl, forall_const, implies_true, false_implies, Int.reduceLE, Int.reduceLT, Nat.reduceLeDiff, UInt8.reduceToNat, ↓reduceIte, Nat.reduceEqDiff, Nat.reduceAdd, reduceCtorEq, Int.reduceToNat, clsL, clsS, clsC, h0, h1, h4, h7, hlt, hd, hz, Tryd.f79]
            exact ⟨((Ext.refl h).push _).put (Nat.le_refl _) _, sys_bad hh hE⟩
          · simp +contextual (disch := first | (simp only [facts, clsL, clsS, clsC, isPtrD]; done) | omega) only [wps, facts, wpb, cst, wpk, wpl, forall_const, implies_true, false_implies, Int.reduceLE, Int.reduceLT, Nat.reduceLeDiff, UInt8.reduceToNat, ↓reduceIte, Nat.reduceEqDiff, Nat.reduceAdd, reduceCtorEq, Int.reduceToNat, clsL, clsS, clsC, h0, h1, h4, h7, hi0, hlt, hd, hz, Tryd.f79]
            refine ⟨fun q => absurd q (by omega), fun _ => ⟨⟨by omega, by omega⟩, callF_pure (rlower_spec hS _ _ (by simp; omega) ((hb.take _).drop _)) ?_⟩⟩
            rintro v2 h2 hx2 rfl
            have g2 : h2.get h.nx = some (.cells [.int .i64 0, .str [], .int .i64 0] 36 false) := by rw [hx2.2 h.nx (Nat.lt_succ_self _), push_get, if_pos rfl]
            simp +contextual (disch := first | (simp only [facts, clsL, clsS, clsC, isPtrD]; done) | omega) only [wps, facts, wpb, cst, wpk, wpl, forall_const, implies_true, false_implies, Int.reduceLE, Int.reduceLT, Nat.reduceLeDiff, UInt8.reduceToNat, ↓reduceIte, Nat.reduceEqDiff, Nat.reduceAdd, reduceCtorEq, Int.reduceToNat, clsL, clsS, clsC, h0, h1, h4, h7, hi0, g2, hlt, hd, hz, Tryd.f79]
            exact ⟨((Ext.refl h).push _ |>.trans hx2).put (Nat.le_refl _) _, sys_end hh hE hi0⟩
        · simp +contextual (disch := first | (simp only [facts, clsL, clsS, clsC, isPtrD]; done) | omega) only [wps, facts, wpb, cst, wpk, wpl, forall_const, implies_true, false_implies, Int.reduceLE, Int.reduceLT, Nat.reduceLeDiff, UInt8.reduceToNat, ↓reduceIte, Nat.reduceEqDiff, Nat.reduceAdd, reduceCtorEq, Int.reduceToNat, clsL, clsS, clsC, h0, h1, h4, h7, hlt, hd, hz, Tryd.f79]
          refine ⟨_, ?_, i + letN (s.drop (p + 2 + i)), rfl, by omega, by omega, ?_⟩
          · omega
          · rw [hr, sysN_letter hz, List.drop_drop, hlen, show p + 2 + (i + letN (s.drop (p + 2 + i))) = p + 2 + i + letN (s.drop (p + 2 + i)) by omega]
            omega
    · have hE : sysE (s.drop p) = i := by have hnil : s.drop (p + 2 + i) = [] := List.drop_eq_nil_of_le (by omega); rw [hr, hnil, sysN_stop (t := []) rfl (by unfold isDigit; simp) (by simp)]; rfl
      by_cases hi0 : i = 0
      · subst hi0
        simp +contextual (disch := first | (simp only [facts, clsL, clsS, clsC, isPtrD]; done) | omega) only [wps, facts, wpb, cst, wpk, wpl, forall_const, implies_true, false_implies, Int.reduceLE, Int.reduceLT, Nat.reduceLeDiff, UInt8.reduceToNat, ↓reduceIte, Nat.reduceEqDiff, Nat.reduceAdd, reduceCtorEq, Int.reduceToNat, clsL, clsS, clsC, h0, h1, h4, h7, hlt, Tryd.f79]
        exact ⟨((Ext.refl h).push _).put (Nat.le_refl _) _, sys_bad hh hE⟩
      · simp +contextual (disch := first | (simp only [facts, clsL, clsS, clsC, isPtrD]; done) | omega) only [wps, facts, wpb, cst, wpk, wpl, forall_const, implies_true, false_implies, Int.reduceLE, Int.reduceLT, Nat.reduceLeDiff, UInt8.reduceToNat, ↓reduceIte, Nat.reduceEqDiff, Nat.reduceAdd, reduceCtorEq, Int.reduceToNat, clsL, clsS, clsC, h0, h1, h4, h7, hi0, hlt, Tryd.f79]
        refine ⟨fun q => absurd q (by omega), fun _ => ⟨⟨by omega, by omega⟩, callF_pure (rlower_spec hS _ _ (by simp; omega) ((hb.take _).drop _)) ?_⟩⟩
        rintro v2 h2 hx2 rfl
        have g2 : h2.get h.nx = some (.cells [.int .i64 0, .str [], .int .i64 0] 36 false) := by rw [hx2.2 h.nx (Nat.lt_succ_self _), push_get, if_pos rfl]
        simp +contextual (disch := first | (simp only [facts, clsL, clsS, clsC, isPtrD]; done) | omega) only [wps, facts, wpb, cst, wpk, wpl, forall_const, implies_true, false_implies, Int.reduceLE, Int.reduceLT, Nat.reduceLeDiff, UInt8.reduceToNat, ↓reduceIte, Nat.reduceEqDiff, Nat.reduceAdd, reduceCtorEq, Int.reduceToNat, clsL, clsS, clsC, h0, h1, h4, h7, hi0, g2, hlt, Tryd.f79]
        exact ⟨((Ext.refl h).push _ |>.trans hx2).put (Nat.le_refl _) _, sys_end hh hE hi0⟩
  · simp +contextual (disch := first | (simp only [facts, clsL, clsS, clsC, isPtrD]; done) | omega) only [wps, facts, wpb, cst, wpk, wpl, forall_const, implies_true, false_implies, Int.reduceLE, Int.reduceLT, Nat.reduceLeDiff, UInt8.reduceToNat, ↓reduceIte, Nat.reduceEqDiff, Nat.reduceAdd, reduceCtorEq, Int.reduceToNat, clsL, clsS, clsC, Tryd.f79, hp, hh]
    have e1 := drop_getD s p 1
    have hv : varD (s.drop p) = userD (s.drop p) := by rw [varD, if_neg hh]
    rw [hv]
    refine ⟨fun hq => ?_, fun hq => ?_⟩
    · have hu := user_quoted (t := s.drop p) (by rw [e0]; exact h64) (by rw [hlen]; omega) (by rw [e1]; exact hq.2)
      rw [e1, List.drop_drop] at hu
      refine callF_pure (rquoted_spec hS s (p + 1) _ hs hb hq.1 (fun q => by rcases hq.2 with (a | a) | a <;> omega)) ?_
      rintro v h1 hx1 rfl
      have g1 : h1.get h.nx = some (.cells [.int .i64 0, .str [], .int .i64 0] 36 false) := by rw [hx1.2 h.nx (Nat.lt_succ_self _), push_get, if_pos rfl]
      have hX : Ext h h1 := ((Ext.refl h).push _).trans hx1
      rw [show p + 1 + 1 = p + 2 from rfl]
      have hqr : ∀ r, qtF (s.getD (p + 1) 0) (s.drop (p + 2)) = some r → Bytes r.1 ∧ r.1.length ≤ (s.drop (p + 2)).length ∧ r.2 ≤ (s.drop (p + 2)).length := fun r hf => by
        unfold qtF at hf
        split at hf
        · exact qF_bytes _ (Nat.le_refl _) (hb.drop _) hf
        · exact tF_bytes (hb.getD _) _ (Nat.le_refl _) (hb.drop _) hf
      have hrb := fun r hf => (hqr r hf).1
      have hrq : ∀ r, qtF (s.getD (p + 1) 0) (s.drop (p + 2)) = some r → r.1.length ≤ s.length := fun r hf => by
        have := (hqr r hf).2.1
        rw [List.length_drop] at this
        omega
      cases hf : qtF (s.getD (p + 1) 0) (s.drop (p + 2)) with
      | none =>
        rw [hf] at hu
        simp +contextual (disch := first | (simp only [facts, clsL, clsS, clsC, isPtrD]; done) | omega) only [wps, facts, wpb, cst, wpk, wpl, forall_const, implies_true, false_implies, Int.reduceLE, Int.reduceLT, Nat.reduceLeDiff, UInt8.reduceToNat, ↓reduceIte, Nat.reduceEqDiff, Nat.reduceAdd, reduceCtorEq, Int.reduceToNat, clsL, clsS, clsC, Tryd.f79, hp, hq, g1, qtV]
        exact ⟨hX.put (Nat.le_refl _) _, by rw [hu]; rfl⟩
      | some r =>
        rw [hf] at hu
        simp +contextual (disch := first | (simp only [facts, clsL, clsS, clsC, isPtrD]; done) | omega) only [wps, facts, wpb, cst, wpk, wpl, forall_const, implies_true, false_implies, Int.reduceLE, Int.reduceLT, Nat.reduceLeDiff, UInt8.reduceToNat, ↓reduceIte, Nat.reduceEqDiff, Nat.reduceAdd, reduceCtorEq, Int.reduceToNat, clsL, clsS, clsC, Tryd.f79, hp, hq, g1, qtV]
        refine ⟨fun q => absurd q (by omega), fun _ => callF_pure (rlower_spec hS _ _ (by have := hrq r hf; omega) (hrb r hf)) ?_⟩
        rintro v2 h2 hx2 rfl
        have hl1 := hx1.1
        have g2 : h2.get h.nx = some (.cells [.int .i64 0, .str [], .int .i64 0] 36 false) := by rw [hx2.2 h.nx (by have : h.nx + 1 ≤ h1.nx := hl1; omega)]; exact g1
        simp +contextual (disch := first | (simp only [facts, clsL, clsS, clsC, isPtrD]; done) | omega) only [wps, facts, wpb, cst, wpk, wpl, forall_const, implies_true, false_implies, Int.reduceLE, Int.reduceLT, Nat.reduceLeDiff, UInt8.reduceToNat, ↓reduceIte, Nat.reduceEqDiff, Nat.reduceAdd, reduceCtorEq, Int.reduceToNat, clsL, clsS, clsC, Tryd.f79, hp, hq, g2, qtV]
        exact ⟨(hX.trans hx2).put (Nat.le_refl _) _, by
          rw [hu, resV, if_pos rfl]
          simp only
          rw [show p + (1 + (r.2 + 1)) = p + 1 + 1 + r.2 by omega]
          rfl⟩
    · have hu := user_plain (t := s.drop p) (by rw [e0]; exact h64) (fun q => hq ⟨by have := q.1; rw [hlen] at this; omega, by rw [← e1]; exact q.2⟩)
      rw [List.drop_drop] at hu
      have hrl := runF_le (s.drop (p + 1))
      rw [List.length_drop] at hrl
      refine callF_exact (many_spec hS s (p + 1) _ (by omega) (by omega) hb) ?_
      by_cases hr : (runF (s.drop (p + 1))).2 = true
      · rw [if_pos hr] at hu
        simp +contextual (disch := first | (simp only [facts, clsL, clsS, clsC, isPtrD]; done) | omega) only [wps, facts, wpb, cst, wpk, wpl, forall_const, implies_true, false_implies, Int.reduceLE, Int.reduceLT, Nat.reduceLeDiff, UInt8.reduceToNat, ↓reduceIte, Nat.reduceEqDiff, Nat.reduceAdd, reduceCtorEq, Int.reduceToNat, clsL, clsS, clsC, Tryd.f79, hp, hq, hr]
        refine ⟨⟨by omega, by omega⟩, callF_pure (rlower_spec hS _ _ (by simp; omega) ((hb.take _).drop _)) ?_⟩
        rintro v2 h2 hx2 rfl
        have g2 : h2.get h.nx = some (.cells [.int .i64 0, .str [], .int .i64 0] 36 false) := by rw [hx2.2 h.nx (Nat.lt_succ_self _), push_get, if_pos rfl]
        simp +contextual (disch := first | (simp only [facts, clsL, clsS, clsC, isPtrD]; done) | omega) only [wps, facts, wpb, cst, wpk, wpl, forall_const, implies_true, false_implies, Int.reduceLE, Int.reduceLT, Nat.reduceLeDiff, UInt8.reduceToNat, ↓reduceIte, Nat.reduceEqDiff, Nat.reduceAdd, reduceCtorEq, Int.reduceToNat, clsL, clsS, clsC, Tryd.f79, hp, hq, g2, hr]
        exact ⟨(((Ext.refl h).push _).trans hx2).put (Nat.le_refl _) _, by
          rw [hu, resV, if_pos rfl]
          simp only
          rw [show (s.take (p + 1 + (runF (s.drop (p + 1))).1)).drop (p + 1) = (s.drop (p + 1)).take (runF (s.drop (p + 1))).1 by rw [List.drop_take]; congr 1; omega, Nat.add_assoc]
          rfl⟩
      · rw [if_neg hr] at hu
        simp +contextual (disch := first | (simp only [facts, clsL, clsS, clsC, isPtrD]; done) | omega) only [wps, facts, wpb, cst, wpk, wpl, forall_const, implies_true, false_implies, Int.reduceLE, Int.reduceLT, Nat.reduceLeDiff, UInt8.reduceToNat, ↓reduceIte, Nat.reduceEqDiff, Nat.reduceAdd, reduceCtorEq, Int.reduceToNat, clsL, clsS, clsC, Tryd.f79, hp, hq, hr]
        exact ⟨((Ext.refl h).push _).put (Nat.le_refl _) _, by rw [hu]; rfl⟩
end
end Go.Proofs.YtkibhdbmamfjcaaDoor

/-
  scan's reference: one word, whatever the text.
-/
set_option linter.unusedSimpArgs false
set_option linter.unusedVariables false
set_option maxRecDepth 10000
namespace Go.Proofs.YtkibhdbmamfjcaaDoor
open Go.Proofs Go.Lx Go.Wx Go.IntWalk
noncomputable section

theorem hasP_head {t w : List Nat} (h : hasP t w) (hw : w ≠ []) : t.getD 0 0 = w.getD 0 0 := by
  cases w with
  | nil => exact absurd rfl hw
  | cons a w =>
    cases t with
    | nil => exact absurd h.1 (by simp)
    | cons b t =>
      have := h.2
      simp only [List.length_cons, List.take_succ_cons, List.cons.injEq] at this
      simp [this.1]
theorem countW_zero {q : Nat → Prop} [DecidablePred q] {t : List Nat} (h : ¬ q (t.getD 0 0)) : countW q t = 0 := (countW_stop (Nat.zero_le _) (.inr h)).symm
theorem numN_none {t : List Nat} (h1 : ¬ isDigit (t.getD 0 0)) (h2 : ¬ t.getD 0 0 = 46) : numN t = 0 := by
  have hx : ¬ (hexPre t ∧ 0 < countW isHex (t.drop 2)) := fun q => by
    have h48 : t.getD 0 0 = 48 := by
      have := (hexAt_iff t).1 q
      exact this.2.1
    exact h1 (by rw [h48]; unfold isDigit; omega)
  have h0 := countW_zero h1
  have hd : deci t = 0 := by rw [deci, h0, if_neg (fun q => h2 q.2.1)]
  rw [numN, if_neg hx, if_pos hd]
theorem runF_none {t : List Nat} (hc : t.getD 0 0 < 128) (h1 : ¬ isDigit (t.getD 0 0)) (h2 : ¬ letterR (t.getD 0 0)) : runF t = (0, false) := by
  by_cases h0 : t = []
  · rw [h0, runF_nil]
  · have ha := dec_ascii (s := t) hc
    exact runF_stop h0 (ascii_good hc ha) (by rw [ha]; exact h2) (by rw [ha]; exact h1)
theorem either_none {t : List Nat} (hc : t.getD 0 0 < 128) (h1 : ¬ isDigit (t.getD 0 0)) (h2 : ¬ letterR (t.getD 0 0)) (h3 : ¬ t.getD 0 0 = 46) : eitherD t = FD.none := by
  have hn := numN_none h1 h3
  rw [eitherD, nameN, runF_none hc h1 h2, hn, if_neg (by simp), numD, if_pos hn]
theorem odd_none {t : List Nat} (h : ¬ t.getD 0 0 = 47) : oddD t = FD.none := by
  rw [oddD, if_neg]
  rintro (q | q)
  · exact h (hasP_head q (by simp))
  · exact h (hasP_head q (by simp))
theorem sys_none {t : List Nat} (h : ¬ t.getD 0 0 = 64) : sysD t = FD.none := by
  rw [sysD, if_neg (fun q => h (hasP_head q (by simp)))]
theorem tryW_skip {l : List FD} : tryW (FD.none :: l) = tryW l := by
  rw [tryW]
  simp [FD.none]
theorem tryW_hit {d : FD} {l : List FD} (h : d.e ≠ 0 ∨ 0 < d.n) : tryW (d :: l) = d := by
  rw [tryW]
  by_cases he : d.e ≠ 0
  · rw [if_pos he]
  · rw [if_neg he, if_pos (by rcases h with h | h; exact absurd h he; exact h)]
theorem user_good {t : List Nat} (h64 : t.getD 0 0 = 64) : (userD t).e ≠ 0 ∨ 0 < (userD t).n := by
  by_cases hq : 1 < t.length ∧ isQt (t.getD 1 0)
  · rw [user_quoted h64 hq.1 hq.2]
    cases qtF (t.getD 1 0) (t.drop 2) with
    | none => exact .inl (by simp [FD.bad])
    | some r => exact .inr (by simp only; omega)
  · rw [user_plain h64 hq]
    split
    · exact .inr (by simp only; omega)
    · exact .inl (by simp [FD.bad])
theorem word_var {t : List Nat} (h : t.getD 0 0 = 64) : wordD t = varD t := by
  have hd : ¬ isDigit (t.getD 0 0) := by rw [h]; unfold isDigit; omega
  have hl : ¬ letterR (t.getD 0 0) := by rw [h]; unfold letterR; omega
  have hq : quotD t = FD.none := by rw [quotD, if_neg (by omega)]
  have ht : textD t = FD.none := by rw [textD, if_neg (by unfold isQ; omega)]
  rw [wordD, finds, odd_none (by omega), tryW_skip, either_none (by omega) hd hl (by omega), tryW_skip, hq, tryW_skip, ht, tryW_skip, varD]
  by_cases hh : hasP t [64, 64]
  · rw [if_pos hh, tryW_hit]
    rw [sysD, if_pos hh]
    split
    · exact .inl (by simp [FD.bad])
    · exact .inr (by simp only; omega)
  · rw [if_neg hh, sysD, if_neg hh, tryW_skip, tryW_hit (user_good h)]
theorem word_param {t : List Nat} (h : t.getD 0 0 = 63) : wordD t = ⟨8, [], 1, 0⟩ := by
  have hd : ¬ isDigit (t.getD 0 0) := by rw [h]; unfold isDigit; omega
  have hl : ¬ letterR (t.getD 0 0) := by rw [h]; unfold letterR; omega
  have hq : quotD t = FD.none := by rw [quotD, if_neg (by omega)]
  have ht : textD t = FD.none := by rw [textD, if_neg (by unfold isQ; omega)]
  have hu : userD t = FD.none := by rw [userD, if_neg (by omega)]
  have hs : signD t = ⟨8, [], 1, 0⟩ := by rw [signD, if_pos h]
  rw [wordD, finds, odd_none (by omega), tryW_skip, either_none (by omega) hd hl (by omega), tryW_skip, hq, tryW_skip, ht, tryW_skip, sys_none (by omega), tryW_skip, hu, tryW_skip, hs, tryW_hit (.inr (by simp))]
theorem word_odd {t : List Nat} (h : hasP t [47, 42, 33] ∨ hasP t [47, 42, 43]) : wordD t = match findS [42, 47] (t.drop 3) with
    | some i => ⟨9, t.take (i + 5), i + 5, 0⟩
    | none => FD.bad 190 := by
  have h3 : findS [42, 47] (t.drop 2) = (findS [42, 47] (t.drop 3)).map (· + 1) := by
    have hl : 3 ≤ t.length := by rcases h with h | h <;> exact hasP_len h
    have hc : t.getD 2 0 = 33 ∨ t.getD 2 0 = 43 := by
      match t, h with
      | [], h => simp [hasP] at h
      | [a], h => simp [hasP] at h
      | [a, b], h => simp [hasP] at h
      | a :: b :: c :: l, h =>
        simp [hasP] at h ⊢
        omega
    rw [findS_step (drop_ne (by omega)) (fun q => ?_), List.drop_drop]
    have := hasP_head q (by simp)
    rw [drop_getD] at this
    simp at this hc
    omega
  have ho : oddD t = match findS [42, 47] (t.drop 3) with
      | some i => ⟨9, t.take (i + 5), i + 5, 0⟩
      | none => FD.bad 190 := by
    rw [oddD, if_pos h, h3]
    cases findS [42, 47] (t.drop 3) <;> rfl
  rw [wordD, finds, tryW_hit, ho]
  rw [ho]
  cases findS [42, 47] (t.drop 3) with
  | none => exact .inl (by simp [FD.bad])
  | some i => exact .inr (by simp only; omega)
theorem word_quoted {t : List Nat} (h : isQt (t.getD 0 0)) : wordD t = match qtF (t.getD 0 0) (t.drop 1) with
    | some r => ⟨if t.getD 0 0 = 96 then 2 else 3, r.1, r.2 + 1, 0⟩
    | none => FD.bad 190 := by
  have hd : ¬ isDigit (t.getD 0 0) := by unfold isQt at h; unfold isDigit; omega
  have hl : ¬ letterR (t.getD 0 0) := by unfold isQt at h; unfold letterR; omega
  rw [wordD, finds, odd_none (by unfold isQt at h; omega), tryW_skip, either_none (by unfold isQt at h; omega) hd hl (by unfold isQt at h; omega), tryW_skip]
  by_cases h96 : t.getD 0 0 = 96
  · have hq : quotD t = match qtF (t.getD 0 0) (t.drop 1) with
        | some r => ⟨if t.getD 0 0 = 96 then 2 else 3, r.1, r.2 + 1, 0⟩
        | none => FD.bad 190 := by
      rw [quotD, if_pos h96, qtF, if_pos h96, if_pos h96]
      cases qF (t.drop 1) <;> rfl
    rw [tryW_hit, hq]
    rw [hq]
    cases qtF (t.getD 0 0) (t.drop 1) with
    | none => exact .inl (by simp [FD.bad])
    | some i => exact .inr (by simp only; omega)
  · have hisq : isQ (t.getD 0 0) := by
      rcases h with (a | a) | a
      · exact absurd a h96
      · exact .inl a
      · exact .inr a
    have hq : textD t = match qtF (t.getD 0 0) (t.drop 1) with
        | some r => ⟨if t.getD 0 0 = 96 then 2 else 3, r.1, r.2 + 1, 0⟩
        | none => FD.bad 190 := by
      rw [textD, if_pos hisq, qtF, if_neg h96, if_neg h96]
      cases tF (t.getD 0 0) (t.drop 1) <;> rfl
    rw [show quotD t = FD.none by rw [quotD, if_neg h96], tryW_skip, tryW_hit, hq]
    rw [hq]
    cases qtF (t.getD 0 0) (t.drop 1) with
    | none => exact .inl (by simp [FD.bad])
    | some i => exact .inr (by simp only; omega)
theorem word_plain {t : List Nat} (h1 : ¬ t.getD 0 0 = 64) (h2 : ¬ t.getD 0 0 = 63) (h3 : ¬ hasP t [47, 42]) (h4 : ¬ isQt (t.getD 0 0)) :
    wordD t = if (runF t).2 = true ∧ numN t < (runF t).1 then ⟨1, lowS (t.take (runF t).1), (runF t).1, 0⟩ else if 0 < numN t then ⟨4, t.take (numN t), numN t, 0⟩ else trySign t signsL := by
  have h3' : ∀ c, ¬ hasP t [47, 42, c] := fun c q => h3 (by
    match t, q with
    | [], q => simp [hasP] at q
    | [a], q => simp [hasP] at q
    | a :: b :: l, q => simp [hasP] at q ⊢; exact ⟨q.2.1, q.2.2.1⟩)
  have ho : oddD t = FD.none := by rw [oddD, if_neg (fun q => by rcases q with q | q <;> exact h3' _ q)]
  have hq : quotD t = FD.none := by rw [quotD, if_neg (fun q => h4 (.inl (.inl q)))]
  have ht : textD t = FD.none := by rw [textD, if_neg (fun q => h4 (by rcases q with a | a; exact .inl (.inr a); exact .inr a))]
  have hu : userD t = FD.none := by rw [userD, if_neg h1]
  have hs : signD t = trySign t signsL := by rw [signD, if_neg h2]
  rw [wordD, finds, ho, tryW_skip]
  by_cases hr : (runF t).2 = true ∧ numN t < (runF t).1
  · have he : eitherD t = ⟨1, lowS (t.take (runF t).1), (runF t).1, 0⟩ := by
      rw [eitherD, nameN, if_pos hr.1, if_pos hr.2, nameD, if_pos hr.1]
    rw [if_pos hr, he, tryW_hit (.inr (by show 0 < (runF t).1; omega))]
  · have he : eitherD t = numD t := by
      rw [eitherD, if_neg]
      intro q
      unfold nameN at q
      split at q
      · rename_i hr2; exact hr ⟨hr2, q⟩
      · omega
    rw [if_neg hr, he, numD]
    by_cases hn : 0 < numN t
    · rw [if_pos hn, if_neg (by omega), tryW_hit (.inr hn)]
    · rw [if_neg hn, if_pos (by omega), tryW_skip, hq, tryW_skip, ht, tryW_skip, sys_none h1, tryW_skip, hu, tryW_skip, hs]
      rw [tryW, tryW]
      split
      · rfl
      · split
        · rfl
        · rename_i a b
          exact absurd (trySign_pos (by decide) (by omega)) b
end
end Go.Proofs.YtkibhdbmamfjcaaDoor

/-
  scan's reference: one word, walked.
-/
set_option linter.unusedSimpArgs false
set_option linter.unusedVariables false
set_option maxRecDepth 10000
namespace Go.Proofs.YtkibhdbmamfjcaaDoor
open Go.Proofs Go.Lx Go.Wx Go.IntWalk
noncomputable section

theorem trySign_shape (t : List Nat) : ∀ (l : List (List Nat)), (∀ x ∈ l, x ≠ []) → trySign t l = FD.bad 191 ∨ ∃ x, x ≠ [] ∧ trySign t l = ⟨5, x, x.length, 0⟩ ∧ x.length ≤ t.length
  | [], _ => .inl rfl
  | x :: l, h => by
    rw [trySign]
    split
    · rename_i hc
      exact .inr ⟨x, h x (by simp), rfl, hc.1⟩
    · exact trySign_shape t l fun y hy => h y (by simp [hy])

theorem sub_take (s : List Nat) (p k : Nat) : (s.take (p + k)).drop p = (s.drop p).take k := by
  rw [List.drop_take, show p + k - p = k by omega]
variable {S : Set0} (hS : Std S)
include hS
theorem one_spec (s : List Nat) (p : Nat) (h : H) (hs : s.length < 2 ^ 26) (hb : Bytes s) (hp : p < s.length) (hodd : hasP (s.drop p) [47, 42] → (hasP (s.drop p) [47, 42, 33] ∨ hasP (s.drop p) [47, 42, 43])) : Pure S.cfg 47 [.str s, .int .i64 p] h fun v _ => v = resV p (wordD (s.drop p)) := by
  have hne := drop_ne hp
  have e0 := drop_getD s p 0
  simp only [Nat.add_zero] at e0
  have hlen : (s.drop p).length = s.length - p := List.length_drop
  have hx1 : Ext h (h.push (.cells [.int .i64 0, .str [], .int .i64 0] 36 false)) := (Ext.refl h).push _
  have hbp := hb.getD p
  refine into Tryd.f47 _ Tryd.func47 (hS.own _ (by decide)) rfl rfl (by kernel_rfl) (by kernel_rfl) ?_
  by_cases h64 : s.getD p 0 = 64
  · simp +contextual (disch := first | (simp only [facts, clsL, clsS, clsC, isPtrD]; done) | omega) only [wps, facts, wpb, cst, wpk, wpl, forall_const, implies_true, false_implies, Int.reduceLE, Int.reduceLT, Nat.reduceLeDiff, UInt8.reduceToNat, ↓reduceIte, Nat.reduceEqDiff, Nat.reduceAdd, reduceCtorEq, Int.reduceToNat, clsL, clsS, clsC, Tryd.f47, hp, h64]
    refine callF_pure (ruser_spec hS s p _ hs hb hp h64) ?_
    rintro v h2 hx2 rfl
    have g2 : h2.get h.nx = some (.cells [.int .i64 0, .str [], .int .i64 0] 36 false) := by rw [hx2.2 h.nx (Nat.lt_succ_self _), push_get, if_pos rfl]
    rw [word_var (by rw [e0]; exact h64)]
    by_cases hee : (varD (s.drop p)).e = 0
    · simp +contextual (disch := first | (simp only [facts, clsL, clsS, clsC, isPtrD]; done) | omega) only [wps, facts, wpb, cst, wpk, wpl, forall_const, implies_true, false_implies, Int.reduceLE, Int.reduceLT, Nat.reduceLeDiff, UInt8.reduceToNat, ↓reduceIte, Nat.reduceEqDiff, Nat.reduceAdd, reduceCtorEq, Int.reduceToNat, clsL, clsS, clsC, Tryd.f47, hp, h64, g2, resV, hee]
      exact (hx1.trans hx2).put (Nat.le_refl _) _
    · simp +contextual (disch := first | (simp only [facts, clsL, clsS, clsC, isPtrD]; done) | omega) only [wps, facts, wpb, cst, wpk, wpl, forall_const, implies_true, false_implies, Int.reduceLE, Int.reduceLT, Nat.reduceLeDiff, UInt8.reduceToNat, ↓reduceIte, Nat.reduceEqDiff, Nat.reduceAdd, reduceCtorEq, Int.reduceToNat, clsL, clsS, clsC, Tryd.f47, hp, h64, g2, resV, hee]
      exact (hx1.trans hx2).put (Nat.le_refl _) _
  by_cases h63 : s.getD p 0 = 63
  · simp +contextual (disch := first | (simp only [facts, clsL, clsS, clsC, isPtrD]; done) | omega) only [wps, facts, wpb, cst, wpk, wpl, forall_const, implies_true, false_implies, Int.reduceLE, Int.reduceLT, Nat.reduceLeDiff, UInt8.reduceToNat, ↓reduceIte, Nat.reduceEqDiff, Nat.reduceAdd, reduceCtorEq, Int.reduceToNat, clsL, clsS, clsC, Tryd.f47, hp, h63]
    exact ⟨hx1.put (Nat.le_refl _) _, by rw [word_param (by rw [e0]; exact h63)]; rfl⟩
  simp +contextual (disch := first | (simp only [facts, clsL, clsS, clsC, isPtrD]; done) | omega) only [wps, facts, wpb, cst, wpk, wpl, forall_const, implies_true, false_implies, Int.reduceLE, Int.reduceLT, Nat.reduceLeDiff, UInt8.reduceToNat, ↓reduceIte, Nat.reduceEqDiff, Nat.reduceAdd, reduceCtorEq, Int.reduceToNat, clsL, clsS, clsC, Tryd.f47, hp, h64, h63]
  refine callF_exact (has_spec hS s [47, 42] p _ (by omega) (by decide) (by omega)) ?_
  by_cases hh : hasP (s.drop p) [47, 42]
  · have ho := hodd hh
    have hl3 : 3 ≤ s.length - p := by
      rw [← hlen]
      rcases ho with a | a <;> exact hasP_len a
    simp +contextual (disch := first | (simp only [facts, clsL, clsS, clsC, isPtrD]; done) | omega) only [wps, facts, wpb, cst, wpk, wpl, forall_const, implies_true, false_implies, Int.reduceLE, Int.reduceLT, Nat.reduceLeDiff, UInt8.reduceToNat, ↓reduceIte, Nat.reduceEqDiff, Nat.reduceAdd, reduceCtorEq, Int.reduceToNat, clsL, clsS, clsC, Tryd.f47, hp, h64, h63, hh]
    refine callF_exact (ends_spec hS s [42, 47] (p + 3) _ (by omega) (by decide) (by decide) (by omega)) ?_
    rw [word_odd ho, List.drop_drop]
    cases hf : findS [42, 47] (s.drop (p + 3)) with
    | none =>
      simp +contextual (disch := first | (simp only [facts, clsL, clsS, clsC, isPtrD]; done) | omega) only [wps, facts, wpb, cst, wpk, wpl, forall_const, implies_true, false_implies, Int.reduceLE, Int.reduceLT, Nat.reduceLeDiff, UInt8.reduceToNat, ↓reduceIte, Nat.reduceEqDiff, Nat.reduceAdd, reduceCtorEq, Int.reduceToNat, clsL, clsS, clsC, Tryd.f47, hp, h64, h63, hh]
      exact ⟨hx1.put (Nat.le_refl _) _, rfl⟩
    | some i =>
      have hfl := findS_le hf
      rw [List.length_drop] at hfl
      simp only [List.length_cons, List.length_nil] at hfl
      simp +contextual (disch := first | (simp only [facts, clsL, clsS, clsC, isPtrD]; done) | omega) only [wps, facts, wpb, cst, wpk, wpl, forall_const, implies_true, false_implies, Int.reduceLE, Int.reduceLT, Nat.reduceLeDiff, UInt8.reduceToNat, ↓reduceIte, Nat.reduceEqDiff, Nat.reduceAdd, reduceCtorEq, Int.reduceToNat, clsL, clsS, clsC, Tryd.f47, hp, h64, h63, hh]
      refine ⟨fun q => absurd q (by omega), fun _ => ⟨⟨by omega, by omega⟩, hx1.put (Nat.le_refl _) _, ?_⟩⟩
      rw [show p + 3 + i + 2 = p + (i + 5) by omega, sub_take]
      rfl
  by_cases hq : isQt (s.getD p 0)
  · have hq' : (s.getD p 0 = 96 ∨ s.getD p 0 = 39) ∨ s.getD p 0 = 34 := hq
    simp +contextual (disch := first | (simp only [facts, clsL, clsS, clsC, isPtrD]; done) | omega) only [wps, facts, wpb, cst, wpk, wpl, forall_const, implies_true, false_implies, Int.reduceLE, Int.reduceLT, Nat.reduceLeDiff, UInt8.reduceToNat, ↓reduceIte, Nat.reduceEqDiff, Nat.reduceAdd, reduceCtorEq, Int.reduceToNat, clsL, clsS, clsC, Tryd.f47, hp, h64, h63, hh, hq']
    refine callF_pure (rquoted_spec hS s p _ hs hb hp (by omega)) ?_
    rintro v h1 hx2 rfl
    have g1 : h1.get h.nx = some (.cells [.int .i64 0, .str [], .int .i64 0] 36 false) := by rw [hx2.2 h.nx (Nat.lt_succ_self _), push_get, if_pos rfl]
    have hX := hx1.trans hx2
    rw [word_quoted (by rw [e0]; exact hq), e0, List.drop_drop]
    cases hf : qtF (s.getD p 0) (s.drop (p + 1)) with
    | none =>
      simp +contextual (disch := first | (simp only [facts, clsL, clsS, clsC, isPtrD]; done) | omega) only [wps, facts, wpb, cst, wpk, wpl, forall_const, implies_true, false_implies, Int.reduceLE, Int.reduceLT, Nat.reduceLeDiff, UInt8.reduceToNat, ↓reduceIte, Nat.reduceEqDiff, Nat.reduceAdd, reduceCtorEq, Int.reduceToNat, clsL, clsS, clsC, Tryd.f47, hp, h64, h63, hh, hq', g1, qtV]
      exact ⟨hX.put (Nat.le_refl _) _, rfl⟩
    | some r =>
      have hnn : ¬ (p + 1 + r.2 < 0) := by omega
      by_cases h96 : s.getD p 0 = 96
      · simp +contextual (disch := first | (simp only [facts, clsL, clsS, clsC, isPtrD]; done) | omega) only [wps, facts, wpb, cst, wpk, wpl, forall_const, implies_true, false_implies, Int.reduceLE, Int.reduceLT, Nat.reduceLeDiff, UInt8.reduceToNat, ↓reduceIte, Nat.reduceEqDiff, Nat.reduceAdd, reduceCtorEq, Int.reduceToNat, clsL, clsS, clsC, Tryd.f47, hp, h64, h63, hh, hq', g1, qtV, h96, hnn]
        exact ⟨hX.put (Nat.le_refl _) _, by rw [resV, if_pos rfl]; simp only; rw [show p + (r.2 + 1) = p + 1 + r.2 by omega]; rfl⟩
      · simp +contextual (disch := first | (simp only [facts, clsL, clsS, clsC, isPtrD]; done) | omega) only [wps, facts, wpb, cst, wpk, wpl, forall_const, implies_true, false_implies, Int.reduceLE, Int.reduceLT, Nat.reduceLeDiff, UInt8.reduceToNat, ↓reduceIte, Nat.reduceEqDiff, Nat.reduceAdd, reduceCtorEq, Int.reduceToNat, clsL, clsS, clsC, Tryd.f47, hp, h64, h63, hh, hq', g1, qtV, h96, hnn]
        exact ⟨hX.put (Nat.le_refl _) _, by rw [resV, if_pos rfl]; simp only; rw [show p + (r.2 + 1) = p + 1 + r.2 by omega]; rfl⟩
  · have hq' : ¬ ((s.getD p 0 = 96 ∨ s.getD p 0 = 39) ∨ s.getD p 0 = 34) := hq
    simp +contextual (disch := first | (simp only [facts, clsL, clsS, clsC, isPtrD]; done) | omega) only [wps, facts, wpb, cst, wpk, wpl, forall_const, implies_true, false_implies, Int.reduceLE, Int.reduceLT, Nat.reduceLeDiff, UInt8.reduceToNat, ↓reduceIte, Nat.reduceEqDiff, Nat.reduceAdd, reduceCtorEq, Int.reduceToNat, clsL, clsS, clsC, Tryd.f47, hp, h64, h63, hh, hq']
    refine callF_exact (many_spec hS s p _ (by omega) (by omega) hb) ?_
    simp +contextual (disch := first | (simp only [facts, clsL, clsS, clsC, isPtrD]; done) | omega) only [wps, facts, wpb, cst, wpk, wpl, forall_const, implies_true, false_implies, Int.reduceLE, Int.reduceLT, Nat.reduceLeDiff, UInt8.reduceToNat, ↓reduceIte, Nat.reduceEqDiff, Nat.reduceAdd, reduceCtorEq, Int.reduceToNat, clsL, clsS, clsC, Tryd.f47, hp, h64, h63, hh, hq']
    refine callF_exact (rnumber_spec hS s p _ (by omega) (by omega) hb) ?_
    rw [word_plain (by rw [e0]; exact h64) (by rw [e0]; exact h63) hh (by rw [e0]; exact hq)]
    have hrl := runF_le (s.drop p)
    have hnl := numN_le (s.drop p)
    rw [hlen] at hrl hnl
    by_cases hr : (runF (s.drop p)).2 = true ∧ numN (s.drop p) < (runF (s.drop p)).1
    · have hr1 := hr.1
      have hr2 : p + numN (s.drop p) < p + (runF (s.drop p)).1 := by omega
      rw [if_pos hr]
      simp +contextual (disch := first | (simp only [facts, clsL, clsS, clsC, isPtrD]; done) | omega) only [wps, facts, wpb, cst, wpk, wpl, forall_const, implies_true, false_implies, Int.reduceLE, Int.reduceLT, Nat.reduceLeDiff, UInt8.reduceToNat, ↓reduceIte, Nat.reduceEqDiff, Nat.reduceAdd, reduceCtorEq, Int.reduceToNat, clsL, clsS, clsC, Tryd.f47, hp, h64, h63, hh, hq', hr1, hr2]
      refine ⟨⟨by omega, by omega⟩, callF_pure (rlower_spec hS _ _ (by simp; omega) ((hb.take _).drop _)) ?_⟩
      rintro v2 h2 hx2 rfl
      have g2 : h2.get h.nx = some (.cells [.int .i64 0, .str [], .int .i64 0] 36 false) := by rw [hx2.2 h.nx (Nat.lt_succ_self _), push_get, if_pos rfl]
      simp +contextual (disch := first | (simp only [facts, clsL, clsS, clsC, isPtrD]; done) | omega) only [wps, facts, wpb, cst, wpk, wpl, forall_const, implies_true, false_implies, Int.reduceLE, Int.reduceLT, Nat.reduceLeDiff, UInt8.reduceToNat, ↓reduceIte, Nat.reduceEqDiff, Nat.reduceAdd, reduceCtorEq, Int.reduceToNat, clsL, clsS, clsC, Tryd.f47, hp, h64, h63, hh, hq', hr1, hr2, g2]
      exact ⟨(hx1.trans hx2).put (Nat.le_refl _) _, by rw [sub_take]; rfl⟩
    · rw [if_neg hr]
      have hrn : ¬ ((runF (s.drop p)).2 = true ∧ p + numN (s.drop p) < p + (runF (s.drop p)).1) := fun q => hr ⟨q.1, by omega⟩
      by_cases hn : 0 < numN (s.drop p)
      · have hn2 : p < p + numN (s.drop p) := by omega
        rw [if_pos hn]
        simp +contextual (disch := first | (simp only [facts, clsL, clsS, clsC, isPtrD]; done) | omega) only [wps, facts, wpb, cst, wpk, wpl, forall_const, implies_true, false_implies, Int.reduceLE, Int.reduceLT, Nat.reduceLeDiff, UInt8.reduceToNat, ↓reduceIte, Nat.reduceEqDiff, Nat.reduceAdd, reduceCtorEq, Int.reduceToNat, clsL, clsS, clsC, Tryd.f47, hp, h64, h63, hh, hq', hrn, hn2]
        exact ⟨⟨by omega, by omega⟩, hx1.put (Nat.le_refl _) _, by rw [sub_take]; rfl⟩
      · have hn2 : ¬ p < p + numN (s.drop p) := by omega
        rw [if_neg hn]
        simp +contextual (disch := first | (simp only [facts, clsL, clsS, clsC, isPtrD]; done) | omega) only [wps, facts, wpb, cst, wpk, wpl, forall_const, implies_true, false_implies, Int.reduceLE, Int.reduceLT, Nat.reduceLeDiff, UInt8.reduceToNat, ↓reduceIte, Nat.reduceEqDiff, Nat.reduceAdd, reduceCtorEq, Int.reduceToNat, clsL, clsS, clsC, Tryd.f47, hp, h64, h63, hh, hq', hrn, hn2]
        refine callF_pure (rsign_spec hS s p _ hs hb hp) ?_
        rintro v2 h2 hx2 rfl
        have g2 : h2.get h.nx = some (.cells [.int .i64 0, .str [], .int .i64 0] 36 false) := by rw [hx2.2 h.nx (Nat.lt_succ_self _), push_get, if_pos rfl]
        rcases trySign_shape (s.drop p) signsL (by decide) with hb1 | ⟨x, hx0, hb1, hxl⟩
        · rw [hb1]
          simp +contextual (disch := first | (simp only [facts, clsL, clsS, clsC, isPtrD]; done) | omega) only [wps, facts, wpb, cst, wpk, wpl, forall_const, implies_true, false_implies, Int.reduceLE, Int.reduceLT, Nat.reduceLeDiff, UInt8.reduceToNat, ↓reduceIte, Nat.reduceEqDiff, Nat.reduceAdd, reduceCtorEq, Int.reduceToNat, clsL, clsS, clsC, Tryd.f47, hp, h64, h63, hh, hq', hrn, hn2, g2, FD.bad]
          exact ⟨(hx1.trans hx2).put (Nat.le_refl _) _, rfl⟩
        · rw [hb1]
          simp +contextual (disch := first | (simp only [facts, clsL, clsS, clsC, isPtrD]; done) | omega) only [wps, facts, wpb, cst, wpk, wpl, forall_const, implies_true, false_implies, Int.reduceLE, Int.reduceLT, Nat.reduceLeDiff, UInt8.reduceToNat, ↓reduceIte, Nat.reduceEqDiff, Nat.reduceAdd, reduceCtorEq, Int.reduceToNat, clsL, clsS, clsC, Tryd.f47, hp, h64, h63, hh, hq', hrn, hn2, g2, hx0]
          exact ⟨(hx1.trans hx2).put (Nat.le_refl _) _, rfl⟩
end
end Go.Proofs.YtkibhdbmamfjcaaDoor

/-
  scan: the words from a place on, step by step as the reference takes them.
-/
set_option linter.unusedSimpArgs false
set_option linter.unusedVariables false
set_option maxRecDepth 10000
namespace Go.Proofs.YtkibhdbmamfjcaaDoor
open Go.Proofs Go.Lx Go.Wx Go.IntWalk
noncomputable section

theorem allR_fuel (s : List Nat) : ∀ (f p : Nat) (acc : List WD), s.length < p + f → allR s f p acc = allR s (f + 1) p acc
  | 0, p, acc, h => by
    rw [allR, allR, if_neg (by omega)]
  | f + 1, p, acc, h => by
    rw [allR]
    conv => rhs; rw [allR]
    split
    · split
      · rfl
      · split
        · exact allR_fuel s f _ _ (by omega)
        · split
          · rfl
          · rename_i hp h1 h2 h3
            have := wordD_pos (s := s.drop p) (by omega)
            exact allR_fuel s f _ _ (by omega)
    · rfl
theorem allR_add (s : List Nat) (f p : Nat) (acc : List WD) (h : s.length < p + f) : ∀ k, allR s f p acc = allR s (f + k) p acc
  | 0 => rfl
  | k + 1 => by rw [allR_add s f p acc h k, ← Nat.add_assoc, allR_fuel s (f + k) p acc (by omega)]
theorem allR_any {s : List Nat} {f g p : Nat} {acc : List WD} (hf : s.length < p + f) (hg : s.length < p + g) : allR s f p acc = allR s g p acc := by
  rcases Nat.le_total f g with h | h
  · rw [allR_add s f p acc hf (g - f), show f + (g - f) = g by omega]
  · rw [allR_add s g p acc hg (f - g), show g + (f - g) = f by omega]
def AR (s : List Nat) (p : Nat) (acc : List WD) : List WD ⊕ (Nat × Nat) := allR s (s.length + 1) p acc
theorem AR_all (s : List Nat) : allF s = AR s 0 [] := rfl
theorem AR_end {s : List Nat} {p : Nat} {acc : List WD} (h : s.length ≤ p) : AR s p acc = .inl acc := by rw [AR, allR, if_neg (by omega)]
theorem AR_step {s : List Nat} {p : Nat} {acc : List WD} (h : p < s.length) : AR s p acc = if (passF (s.drop p)).2 ≠ 0 then .inr ((passF (s.drop p)).2, p) else if 0 < (passF (s.drop p)).1 then AR s (p + (passF (s.drop p)).1) acc else if (wordD (s.drop p)).e ≠ 0 then .inr ((wordD (s.drop p)).e, p) else AR s (p + (wordD (s.drop p)).n) (acc ++ [⟨(wordD (s.drop p)).kind, (wordD (s.drop p)).text, p⟩]) := by
  unfold AR
  rw [allR, if_pos h]
  split
  · rfl
  · split
    · exact allR_any (by omega) (by omega)
    · split
      · rfl
      · rename_i h1 h2 h3
        have := wordD_pos (s := s.drop p) (by omega)
        exact allR_any (by omega) (by omega)
theorem AR_blank {s : List Nat} {p : Nat} {acc : List WD} (h : p < s.length) (hb : isBlank (s.getD p 0)) : AR s p acc = AR s (p + 1) acc := by
  have e0 : (s.drop p).getD 0 0 = s.getD p 0 := by rw [drop_getD, Nat.add_zero]
  have hp : passF (s.drop p) = (1, 0) := by rw [passF, if_pos (by rw [e0]; exact hb)]
  rw [AR_step h, hp, if_neg (by simp), if_pos (by simp)]
theorem findB_count : ∀ (t : List Nat), findB 10 t = if countW notNl t < t.length then some (countW notNl t) else none
  | [] => rfl
  | x :: l => by
    have ih := findB_count l
    unfold countW at *
    rw [findB]
    by_cases hx : x = 10
    · simp [hx, List.takeWhile_cons, notNl]
    · have hn : notNl x := hx
      simp only [List.takeWhile_cons, hn, decide_true, List.length_cons, Nat.add_lt_add_iff_right, if_neg hx, if_true]
      rw [ih]
      split <;> simp_all
theorem line_head {t : List Nat} (h : lineP t) : t.getD 0 0 = 35 ∨ t.getD 0 0 = 45 := by
  rcases h with h | ⟨h, _, _⟩
  · exact .inl h
  · exact .inr (hasP_head h (by simp))
theorem odd_iff {t : List Nat} (h : hasP t [47, 42]) : oddP t ↔ (hasP t [47, 42, 33] ∨ hasP t [47, 42, 43]) := by
  unfold oddP
  match t, h with
  | [], h => simp [hasP] at h
  | [a], h => simp [hasP] at h
  | [a, b], h => simp [hasP]
  | a :: b :: c :: l, h =>
    simp [hasP] at h ⊢
    omega
theorem AR_bad {s : List Nat} {p : Nat} {acc : List WD} (h : p < s.length) (hb : ¬ isBlank (s.getD p 0)) (hr : remD (s.drop p) = none) : AR s p acc = .inr (190, p) := by
  have e0 : (s.drop p).getD 0 0 = s.getD p 0 := by rw [drop_getD, Nat.add_zero]
  unfold remD at hr
  split at hr
  · cases hr
  · rename_i h1
    split at hr
    · cases hr
    · rename_i h2
      have h3 : hasP (s.drop p) [47, 42] := Decidable.byContradiction fun q => h2 (.inl q)
      have hf : findS [42, 47] ((s.drop p).drop 2) = none := by
        cases hf : findS [42, 47] ((s.drop p).drop 2) with
        | none => rfl
        | some i => rw [hf] at hr; cases hr
      have hp : passF (s.drop p) = (0, 190) := by
        rw [passF, if_neg (by rw [e0]; exact hb), if_neg h1, if_neg, hf]
        rintro (q | q)
        · exact q h3
        · exact h2 (.inr ((odd_iff h3).1 q))
      rw [AR_step h, hp, if_pos (by simp)]
theorem AR_rem {s : List Nat} {p k : Nat} {acc : List WD} (h : p < s.length) (hb : ¬ isBlank (s.getD p 0)) (hr : remD (s.drop p) = some k) (hk : 0 < k) : AR s p acc = AR s (p + k) acc := by
  have e0 : (s.drop p).getD 0 0 = s.getD p 0 := by rw [drop_getD, Nat.add_zero]
  have hlen : (s.drop p).length = s.length - p := List.length_drop
  unfold remD at hr
  split at hr
  · rename_i h1
    injection hr with hr
    have hc := findB_count (s.drop p)
    rw [hr] at hc
    by_cases hl : k < (s.drop p).length
    · rw [if_pos hl] at hc
      have hp : passF (s.drop p) = (k + 1, 0) := by rw [passF, if_neg (by rw [e0]; exact hb), if_pos h1, hc]
      have h10 := (findB_lt hc).2
      rw [drop_getD] at h10
      rw [AR_step h, hp, if_neg (by simp), if_pos (by simp), AR_blank (p := p + k) (by omega) (by rw [h10]; unfold isBlank; omega)]
      rfl
    · rw [if_neg hl] at hc
      have hp : passF (s.drop p) = ((s.drop p).length, 0) := by rw [passF, if_neg (by rw [e0]; exact hb), if_pos h1, hc]
      have hkl := countW_le notNl (s.drop p)
      rw [AR_step h, hp, if_neg (by simp), if_pos (by simp only; omega)]
      simp only
      rw [show (s.drop p).length = k by omega]
  · rename_i h1
    split at hr
    · injection hr with hr; omega
    · rename_i h2
      have h3 : hasP (s.drop p) [47, 42] := Decidable.byContradiction fun q => h2 (.inl q)
      cases hf : findS [42, 47] ((s.drop p).drop 2) with
      | none => rw [hf] at hr; cases hr
      | some i =>
        rw [hf] at hr
        injection hr with hr
        have hp : passF (s.drop p) = (k, 0) := by
          rw [passF, if_neg (by rw [e0]; exact hb), if_neg h1, if_neg, hf]
          · have hr : i + 4 = k := hr
            simp only; rw [hr]
          · rintro (q | q)
            · exact q h3
            · exact h2 (.inr ((odd_iff h3).1 q))
        rw [AR_step h, hp, if_neg (by simp), if_pos (by simp only; omega)]
theorem rem_zero {t : List Nat} (hr : remD t = some 0) : ¬ lineP t ∧ (hasP t [47, 42] → (hasP t [47, 42, 33] ∨ hasP t [47, 42, 43])) := by
  unfold remD at hr
  split at hr
  · rename_i h1
    injection hr with hr
    have hh := line_head h1
    have h0 : t ≠ [] := fun q => by rw [q] at hh; simp at hh
    have := countW_step (p := notNl) (s := t) (i := 0) (Nat.zero_le _) (List.length_pos_iff.2 h0) (by unfold notNl; omega)
    omega
  · rename_i h1
    split at hr
    · rename_i h2
      exact ⟨h1, fun q => by rcases h2 with a | a; exact absurd q a; exact a⟩
    · cases hf : findS [42, 47] (t.drop 2) with
      | none => rw [hf] at hr; cases hr
      | some i => rw [hf] at hr; injection hr with hr; have hr : i + 4 = 0 := hr; omega
theorem AR_word {s : List Nat} {p : Nat} {acc : List WD} (h : p < s.length) (hb : ¬ isBlank (s.getD p 0)) (hr : remD (s.drop p) = some 0) : AR s p acc = if (wordD (s.drop p)).e ≠ 0 then .inr ((wordD (s.drop p)).e, p) else AR s (p + (wordD (s.drop p)).n) (acc ++ [⟨(wordD (s.drop p)).kind, (wordD (s.drop p)).text, p⟩]) := by
  have e0 : (s.drop p).getD 0 0 = s.getD p 0 := by rw [drop_getD, Nat.add_zero]
  obtain ⟨h1, h2⟩ := rem_zero hr
  have hp : passF (s.drop p) = (0, 0) := by
    rw [passF, if_neg (by rw [e0]; exact hb), if_neg h1, if_pos]
    by_cases h3 : hasP (s.drop p) [47, 42]
    · exact .inr ((odd_iff h3).2 (h2 h3))
    · exact .inl h3
  rw [AR_step h, hp, if_neg (by simp), if_neg (by simp)]
end
end Go.Proofs.YtkibhdbmamfjcaaDoor

/-
  scan's reference: All, walked.
-/
set_option linter.unusedSimpArgs false
set_option linter.unusedVariables false
set_option maxRecDepth 10000
namespace Go.Proofs.YtkibhdbmamfjcaaDoor
open Go.Proofs Go.Lx Go.Wx Go.IntWalk
noncomputable section

def RefI (s : List Nat) (h : H) (m : Nat) (env : Env) (h' : H) : Prop :=
  ∃ (p : Nat) (acc : List WD) (l : V), m = s.length - p ∧ env 0 = .str s ∧ env 3 = .ptr h.nx 0 ∧ env 4 = l ∧ env 5 = .int .i64 p ∧ p ≤ s.length ∧ acc.length ≤ p ∧ Ext h h' ∧ h.nx < h'.nx ∧ h'.get h.nx = some (.cells [.int .i64 0, .int .i64 0] 26 false) ∧ Acc (h.nx + 1) h' l (wcells acc) 36 3 ∧ allF s = AR s p acc
theorem remD_le {t : List Nat} {k : Nat} (h : remD t = some k) : k ≤ t.length := by
  unfold remD at h
  split at h
  · injection h with h; rw [← h]; exact countW_le _ _
  · split at h
    · injection h with h; omega
    · rename_i h2
      cases hf : findS [42, 47] (t.drop 2) with
      | none => rw [hf] at h; cases h
      | some i =>
        rw [hf] at h; injection h with h
        have h : i + 4 = k := h
        have := findS_le hf
        rw [List.length_drop] at this
        simp only [List.length_cons, List.length_nil] at this
        have hl : 2 ≤ t.length := hasP_len (p := [47, 42]) (Decidable.byContradiction fun q => h2 (.inl q))
        omega
variable {S : Set0} (hS : Std S)
include hS
theorem rall_spec (s : List Nat) (h : H) (hb : Bytes s) (hs : s.length < 2 ^ 63) : Pure S.cfg 15 [.str s] h fun v h' => allV s h.nx h' v := by
  refine into Tryd.f15 _ Tryd.func15 (hS.own _ (by decide)) rfl rfl (by kernel_rfl) (by kernel_rfl) ?_
  have hx1 : ¬ h.nx = h.nx + 1 := by omega
  by_cases hlen : 1048576 < s.length
  · simp +contextual (disch := first | (simp only [facts, clsL, clsS, clsC, isPtrD]; done) | omega) only [wps, facts, wpb, cst, wpk, wpl, forall_const, implies_true, false_implies, Int.reduceLE, Int.reduceLT, Nat.reduceLeDiff, UInt8.reduceToNat, ↓reduceIte, Nat.reduceEqDiff, Nat.reduceAdd, reduceCtorEq, Int.reduceToNat, clsL, clsS, clsC, Tryd.f15, hlen]
    exact ⟨((Ext.refl h).push _).put (Nat.le_refl _) _, by rw [allV, if_pos hlen]⟩
  simp +contextual (disch := first | (simp only [facts, clsL, clsS, clsC, isPtrD]; done) | omega) only [wps, facts, wpb, cst, wpk, wpl, forall_const, implies_true, false_implies, Int.reduceLE, Int.reduceLT, Nat.reduceLeDiff, UInt8.reduceToNat, ↓reduceIte, Nat.reduceEqDiff, Nat.reduceAdd, reduceCtorEq, Int.reduceToNat, clsL, clsS, clsC, Tryd.f15, hlen]
  refine run_loop (RefI s h) s.length ⟨0, [], .nilslice, by simp +contextual (disch := first | (simp only [facts, clsL, clsS, clsC, isPtrD]; done) | omega) only [wps, facts, wpb, cst, wpk, wpl, forall_const, implies_true, false_implies, Int.reduceLE, Int.reduceLT, Nat.reduceLeDiff, UInt8.reduceToNat, ↓reduceIte, Nat.reduceEqDiff, Nat.reduceAdd, reduceCtorEq, Int.reduceToNat, clsL, clsS, clsC, hx1]; exact ⟨by simp, (Ext.refl h).push _, by omega, .inl ⟨rfl, rfl⟩, rfl⟩⟩ ?_
  rintro m env h' ⟨p, acc, l, rfl, e0, e3, e4, e5, hp, hacc, hx, hn1, hg, ha, hr⟩
  have hcl := ha.cell.1
  have hic := ha.cell.2
  by_cases hpl : p < s.length
  · simp +contextual (disch := first | (simp only [facts, clsL, clsS, clsC, isPtrD]; done) | omega) only [wps, facts, wpb, cst, wpk, wpl, forall_const, implies_true, false_implies, Int.reduceLE, Int.reduceLT, Nat.reduceLeDiff, UInt8.reduceToNat, ↓reduceIte, Nat.reduceEqDiff, Nat.reduceAdd, reduceCtorEq, Int.reduceToNat, clsL, clsS, clsC, e0, e3, e4, e5, hpl, hg, hcl, hic, Tryd.f15]
    refine callF_exact (rblank_spec hS _ _) ?_
    by_cases hbl : isBlank (s.getD p 0)
    · simp +contextual (disch := first | (simp only [facts, clsL, clsS, clsC, isPtrD]; done) | omega) only [wps, facts, wpb, cst, wpk, wpl, forall_const, implies_true, false_implies, Int.reduceLE, Int.reduceLT, Nat.reduceLeDiff, UInt8.reduceToNat, ↓reduceIte, Nat.reduceEqDiff, Nat.reduceAdd, reduceCtorEq, Int.reduceToNat, clsL, clsS, clsC, e0, e3, e4, e5, hpl, hg, hcl, hic, hbl, Tryd.f15]
      refine ⟨_, ?_, p + 1, acc, l, rfl, ?_⟩
      · omega
      · simp +contextual (disch := first | (simp only [facts, clsL, clsS, clsC, isPtrD]; done) | omega) only [wps, facts, wpb, cst, wpk, wpl, forall_const, implies_true, false_implies, Int.reduceLE, Int.reduceLT, Nat.reduceLeDiff, UInt8.reduceToNat, ↓reduceIte, Nat.reduceEqDiff, Nat.reduceAdd, reduceCtorEq, Int.reduceToNat, clsL, clsS, clsC, e0, e3, e4, e5]
        exact ⟨by omega, by omega, hx, hn1, hg, ha, by rw [hr, AR_blank hpl hbl]⟩
    · simp +contextual (disch := first | (simp only [facts, clsL, clsS, clsC, isPtrD]; done) | omega) only [wps, facts, wpb, cst, wpk, wpl, forall_const, implies_true, false_implies, Int.reduceLE, Int.reduceLT, Nat.reduceLeDiff, UInt8.reduceToNat, ↓reduceIte, Nat.reduceEqDiff, Nat.reduceAdd, reduceCtorEq, Int.reduceToNat, clsL, clsS, clsC, e0, e3, e4, e5, hpl, hg, hcl, hic, hbl, Tryd.f15]
      refine callF_exact (remark_spec hS s p _ (by omega) hb hpl) ?_
      cases hrm : remD (s.drop p) with
      | none =>
        simp +contextual (disch := first | (simp only [facts, clsL, clsS, clsC, isPtrD]; done) | omega) only [wps, facts, wpb, cst, wpk, wpl, forall_const, implies_true, false_implies, Int.reduceLE, Int.reduceLT, Nat.reduceLeDiff, UInt8.reduceToNat, ↓reduceIte, Nat.reduceEqDiff, Nat.reduceAdd, reduceCtorEq, Int.reduceToNat, clsL, clsS, clsC, e0, e3, e4, e5, hpl, hg, hcl, hic, hbl, atV, Tryd.f15]
        exact ⟨hx.put (Nat.le_refl _) _, by rw [allV, if_neg hlen, hr, AR_bad hpl hbl hrm]; rfl⟩
      | some k =>
        have hkl := remD_le hrm
        rw [List.length_drop] at hkl
        by_cases hk : 0 < k
        · have hk2 : p < p + k := by omega
          have n0 : ¬ p + k < 0 := by omega
          simp +contextual (disch := first | (simp only [facts, clsL, clsS, clsC, isPtrD]; done) | omega) only [wps, facts, wpb, cst, wpk, wpl, forall_const, implies_true, false_implies, Int.reduceLE, Int.reduceLT, Nat.reduceLeDiff, UInt8.reduceToNat, ↓reduceIte, Nat.reduceEqDiff, Nat.reduceAdd, reduceCtorEq, Int.reduceToNat, clsL, clsS, clsC, e0, e3, e4, e5, hpl, hg, hcl, hic, hbl, atV, hk2, n0, Tryd.f15]
          refine ⟨_, ?_, p + k, acc, l, rfl, ?_⟩
          · omega
          · simp +contextual (disch := first | (simp only [facts, clsL, clsS, clsC, isPtrD]; done) | omega) only [wps, facts, wpb, cst, wpk, wpl, forall_const, implies_true, false_implies, Int.reduceLE, Int.reduceLT, Nat.reduceLeDiff, UInt8.reduceToNat, ↓reduceIte, Nat.reduceEqDiff, Nat.reduceAdd, reduceCtorEq, Int.reduceToNat, clsL, clsS, clsC, e0, e3, e4, e5]
            exact ⟨by omega, by omega, hx, hn1, hg, ha, by rw [hr, AR_rem hpl hbl hrm hk]⟩
        · have hk0 : k = 0 := by omega
          subst hk0
          have n0 : ¬ p < 0 := by omega
          have n1 : ¬ p < p := by omega
          have hd0 : s.drop p ≠ [] := drop_ne hpl
          have hdo := wordD_ok hd0 (hb.drop p)
          rw [AR_word hpl hbl hrm] at hr
          simp +contextual (disch := first | (simp only [facts, clsL, clsS, clsC, isPtrD]; done) | omega) only [wps, facts, wpb, cst, wpk, wpl, forall_const, implies_true, false_implies, Int.reduceLE, Int.reduceLT, Nat.reduceLeDiff, UInt8.reduceToNat, ↓reduceIte, Nat.reduceEqDiff, Nat.reduceAdd, reduceCtorEq, Int.reduceToNat, clsL, clsS, clsC, e0, e3, e4, e5, hpl, hg, hcl, hic, hbl, atV, n0, n1, Tryd.f15]
          refine callF_pure (one_spec hS s p _ (by omega) hb hpl (rem_zero hrm).2) ?_
          rintro v h3 hx3 rfl
          have hle := hx3.1
          have g1 : h3.get h.nx = some (.cells [.int .i64 0, .int .i64 0] 26 false) := by rw [hx3.2 h.nx (by omega)]; exact hg
          have ha3 : Acc (h.nx + 1) h3 l (wcells acc) 36 3 := ha.stay hle fun k _ hk => hx3.2 k hk
          have m1 : ¬ h.nx = h3.nx := by omega
          have hX : Ext h h3 := hx.trans hx3
          obtain ⟨d, hd⟩ : ∃ d, d = wordD (s.drop p) := ⟨_, rfl⟩
          have hdn := hdo.2.2
          rw [List.length_drop] at hdn
          have hpos := wordD_pos (s := s.drop p)
          rw [← hd] at hr hdn hpos ⊢
          by_cases hde : d.e = 0
          · rw [if_neg (by simpa using hde)] at hr
            have hdp := hpos hde
            simp +contextual (disch := first | (simp only [facts, clsL, clsS, clsC, isPtrD]; done) | omega) only [wps, facts, wpb, cst, wpk, wpl, forall_const, implies_true, false_implies, Int.reduceLE, Int.reduceLT, Nat.reduceLeDiff, UInt8.reduceToNat, ↓reduceIte, Nat.reduceEqDiff, Nat.reduceAdd, reduceCtorEq, Int.reduceToNat, clsL, clsS, clsC, e0, e3, e4, e5, hpl, hg, hcl, hic, hbl, atV, n0, n1, resV, hde, g1, m1, Tryd.f15]
            refine ⟨.inr (by omega), ?_⟩
            have haH := (ha3.stay (Nat.le_succ _) (fun k _ hk => by rw [put_get, if_neg (by omega), push_get, if_neg (by omega)]) : Acc (h.nx + 1) ((h3.push (.cells [.int .i64 0, .str [], .int .i64 0] 36 false)).put h3.nx (.cells [.int .i64 d.kind, .str d.text, .int .i64 p] 36 false)) l (wcells acc) 36 3).push (ob := .cells [.int .i64 d.kind, .str d.text, .int .i64 p] 36 false)
            refine append_accV (sv := l) (n0 := h.nx + 1) (cells := wcells acc) (new := [.int .i64 d.kind, .str d.text, .int .i64 p]) (b2 := h3.nx + 1) (o2 := 0) (n := 1) (m := 1) ?_ ap23 ⟨.slice 36, by kernel_rfl, rfl⟩ haH ?_ ?_ ?_ rfl rfl ?_ (by decide) ?_ ?_ ?_
            · simp +contextual (disch := first | (simp only [facts, clsL, clsS, clsC, isPtrD]; done) | omega) only [wps, facts, wpb, cst, wpk, wpl, forall_const, implies_true, false_implies, Int.reduceLE, Int.reduceLT, Nat.reduceLeDiff, UInt8.reduceToNat, ↓reduceIte, Nat.reduceEqDiff, Nat.reduceAdd, reduceCtorEq, Int.reduceToNat, clsL, clsS, clsC]
            · simp +contextual (disch := first | (simp only [facts, clsL, clsS, clsC, isPtrD]; done) | omega) only [wps, facts, wpb, cst, wpk, wpl, forall_const, implies_true, false_implies, Int.reduceLE, Int.reduceLT, Nat.reduceLeDiff, UInt8.reduceToNat, ↓reduceIte, Nat.reduceEqDiff, Nat.reduceAdd, reduceCtorEq, Int.reduceToNat, clsL, clsS, clsC]
            · decide
            · simp +contextual (disch := first | (simp only [facts, clsL, clsS, clsC, isPtrD]; done) | omega) only [wps, facts, wpb, cst, wpk, wpl, forall_const, implies_true, false_implies, Int.reduceLE, Int.reduceLT, Nat.reduceLeDiff, UInt8.reduceToNat, ↓reduceIte, Nat.reduceEqDiff, Nat.reduceAdd, reduceCtorEq, Int.reduceToNat, clsL, clsS, clsC, rdC]
              rfl
            · rw [wcells_len]
              show acc.length * 3 + 3 ≤ _
              omega
            · exact fun k hk => by rw [fresh_def]; exact .inl (by omega)
            · intro v h4 L ha4 hst hL
              have hcl4 := ha4.cell.1
              have hic4 := ha4.cell.2
              simp +contextual (disch := first | (simp only [facts, clsL, clsS, clsC, isPtrD]; done) | omega) only [wps, facts, wpb, cst, wpk, wpl, forall_const, implies_true, false_implies, Int.reduceLE, Int.reduceLT, Nat.reduceLeDiff, UInt8.reduceToNat, ↓reduceIte, Nat.reduceEqDiff, Nat.reduceAdd, reduceCtorEq, Int.reduceToNat, clsL, clsS, clsC, e0, e3, e4, e5, hpl, hg, hcl, hic, hbl, n0, n1, hde, hcl4, hic4, Tryd.f15]
              refine ⟨_, ?_, p + d.n, acc ++ [⟨d.kind, d.text, p⟩], v, rfl, ?_⟩
              · omega
              · have hXH : Ext h h4 := StaysBut.ext (n0 := 0) (((hX.push _).put (by omega) _).push _) hst (haH.mono (by omega))
                have hn4 : h3.nx + 1 + 1 ≤ h4.nx := hst.1
                have gf : h4.get h.nx = some (.cells [.int .i64 0, .int .i64 0] 26 false) := by
                  rw [hst.2 h.nx (by show h.nx < h3.nx + 1 + 1; omega) (fun o n m => haH.ne (by omega)), push_get, if_neg (by show ¬ h.nx = h3.nx + 1; omega), put_get, if_neg m1, push_get, if_neg m1]
                  exact g1
                simp +contextual (disch := first | (simp only [facts, clsL, clsS, clsC, isPtrD]; done) | omega) only [wps, facts, wpb, cst, wpk, wpl, forall_const, implies_true, false_implies, Int.reduceLE, Int.reduceLT, Nat.reduceLeDiff, UInt8.reduceToNat, ↓reduceIte, Nat.reduceEqDiff, Nat.reduceAdd, reduceCtorEq, Int.reduceToNat, clsL, clsS, clsC, e0, e3, e4, e5]
                exact ⟨by omega, by omega, hXH, by omega, gf, by rw [wcells_append]; exact ha4, hr⟩
            · show h.nx + 1 ≤ h3.nx + 1 + 1
              omega
          · rw [if_pos (by simpa using hde)] at hr
            simp +contextual (disch := first | (simp only [facts, clsL, clsS, clsC, isPtrD]; done) | omega) only [wps, facts, wpb, cst, wpk, wpl, forall_const, implies_true, false_implies, Int.reduceLE, Int.reduceLT, Nat.reduceLeDiff, UInt8.reduceToNat, ↓reduceIte, Nat.reduceEqDiff, Nat.reduceAdd, reduceCtorEq, Int.reduceToNat, clsL, clsS, clsC, e0, e3, e4, e5, hpl, hg, hcl, hic, hbl, atV, n0, n1, resV, hde, g1, m1, Tryd.f15]
            exact ⟨.inr (by omega), ((hX.push _).put (by omega) _).put (Nat.le_refl _) _, by rw [allV, if_neg hlen, hr]⟩
  · simp +contextual (disch := first | (simp only [facts, clsL, clsS, clsC, isPtrD]; done) | omega) only [wps, facts, wpb, cst, wpk, wpl, forall_const, implies_true, false_implies, Int.reduceLE, Int.reduceLT, Nat.reduceLeDiff, UInt8.reduceToNat, ↓reduceIte, Nat.reduceEqDiff, Nat.reduceAdd, reduceCtorEq, Int.reduceToNat, clsL, clsS, clsC, e0, e3, e4, e5, hpl, hg, hcl, hic, Tryd.f15]
    exact ⟨hx.put (Nat.le_refl _) _, by
      rw [allV, if_neg hlen, hr, AR_end (by omega)]
      exact ⟨l, rfl, (ha.put (by omega)).mono (by omega)⟩⟩
end
end Go.Proofs.YtkibhdbmamfjcaaDoor

/-
  scan.Split and its reference: two faults held against each other; words by their places; what Split gives.
-/
set_option linter.unusedSimpArgs false
set_option linter.unusedVariables false
set_option maxRecDepth 10000
namespace Go.Proofs.YtkibhdbmamfjcaaDoor
open Go.Proofs Go.Lx Go.Wx Go.IntWalk
noncomputable section

theorem eq26_0 (a b c d : Int) : eqT Tryd.prog 26 (.agg [.int .i64 a, .int .i64 b]) (.agg [.int .i64 c, .int .i64 d]) = (match some (a == c) with
    | some true => (match some (b == d) with
      | some true => some true
      | r => r)
    | r => r) := by kernel_rfl
theorem eq26 (a b c d : Int) : eqT Tryd.prog 26 (.agg [.int .i64 a, .int .i64 b]) (.agg [.int .i64 c, .int .i64 d]) = some (decide (a = c ∧ b = d)) := by
  rw [eq26_0]
  by_cases h1 : a = c
  · by_cases h2 : b = d
    · simp [h1, h2]
    · have : (b == d) = false := by simpa using h2
      simp [h1, h2, this]
  · have : (a == c) = false := by simpa using h1
    simp [h1, this]
theorem agg_eql (t : TypeId) (q : Bool) (a b c d : Int) (ht : t = 26) : binV Tryd.prog .eql t q (.agg [.int .i64 a, .int .i64 b]) (.agg [.int .i64 c, .int .i64 d]) = some (bo (a = c ∧ b = d)) := by
  subst ht
  have : binV Tryd.prog .eql 26 q (.agg [.int .i64 a, .int .i64 b]) (.agg [.int .i64 c, .int .i64 d]) = eqOpV Tryd.prog .eql 26 (.agg [.int .i64 a, .int .i64 b]) (.agg [.int .i64 c, .int .i64 d]) := rfl
  rw [this, eqOpV, eq26]
  unfold bo
  by_cases h : a = c ∧ b = d <;> simp [h]
theorem agg_neq (t : TypeId) (q : Bool) (a b c d : Int) (ht : t = 26) : binV Tryd.prog .neq t q (.agg [.int .i64 a, .int .i64 b]) (.agg [.int .i64 c, .int .i64 d]) = some (bo (¬ (a = c ∧ b = d))) := by
  subst ht
  have : binV Tryd.prog .neq 26 q (.agg [.int .i64 a, .int .i64 b]) (.agg [.int .i64 c, .int .i64 d]) = eqOpV Tryd.prog .neq 26 (.agg [.int .i64 a, .int .i64 b]) (.agg [.int .i64 c, .int .i64 d]) := rfl
  rw [this, eqOpV, eq26]
  unfold bo
  by_cases h : a = c ∧ b = d <;> simp [h]

/-- words one behind the other, each before m -/
def Sorted (m : Nat) : Nat → List WD → Prop
  | p, [] => p ≤ m
  | p, w :: l => p ≤ w.at_ ∧ Sorted m (w.at_ + 1) l
theorem Sorted.le {m : Nat} : ∀ {p : Nat} {l : List WD}, Sorted m p l → p ≤ m
  | p, [], h => h
  | p, w :: l, h => by have := Sorted.le h.2; have := h.1; omega
theorem Sorted.snoc {m k : Nat} {w : WD} (hk : w.at_ < k) : ∀ {p : Nat} {l : List WD}, Sorted w.at_ p l → Sorted k p (l ++ [w])
  | p, [], h => ⟨h, hk⟩
  | p, x :: l, h => ⟨h.1, Sorted.snoc (m := m) hk h.2⟩
theorem Sorted.mono {m k : Nat} (hk : m ≤ k) : ∀ {p : Nat} {l : List WD}, Sorted m p l → Sorted k p l
  | p, [], h => Nat.le_trans h hk
  | p, x :: l, h => ⟨h.1, Sorted.mono hk h.2⟩
theorem allR_sorted {s : List Nat} (hb : Bytes s) : ∀ (f p : Nat) (acc ws : List WD), allR s f p acc = .inl ws → p ≤ s.length → Sorted p 0 acc → Sorted s.length 0 ws
  | 0, p, acc, ws, h, hp, hs => by
    rw [allR] at h
    injection h with h
    subst h
    exact hs.mono hp
  | f + 1, p, acc, ws, h, hp, hs => by
    rw [allR] at h
    split at h
    · rename_i hpl
      split at h
      · cases h
      · split at h
        · have := passF_le (drop_ne hpl)
          rw [List.length_drop] at this
          exact allR_sorted hb f _ _ _ h (by omega) (hs.mono (by omega))
        · split at h
          · cases h
          · rename_i h1 h2 h3
            have hn := wordD_pos (s := s.drop p) (by omega)
            have hle := (wordD_ok (drop_ne hpl) (hb.drop p)).2.2
            rw [List.length_drop] at hle
            exact allR_sorted hb f _ _ _ h (by omega) (Sorted.snoc (m := 0) (w := ⟨_, _, p⟩) (by show p < _; omega) hs)
    · injection h with h
      subst h
      exact hs.mono hp
theorem allF_sorted {s : List Nat} {ws : List WD} (hb : Bytes s) (h : allF s = .inl ws) : Sorted s.length 0 ws := allR_sorted hb _ _ _ _ h (Nat.zero_le _) (Nat.le_refl _)

def isCut (w : WD) : Prop := w.kind = 5 ∧ w.text = [59]
instance (w : WD) : Decidable (isCut w) := inferInstanceAs (Decidable (_ ∧ _))
/-- the pieces between signs, from a word on -/
def splitS (s : List Nat) : List WD → Nat → Nat → List (List Nat) → List (List Nat)
  | [], a, n, out => if 0 < n then out ++ [(s.take s.length).drop a] else out
  | w :: l, a, n, out => if isCut w then splitS s l (w.at_ + 1) 0 (if 0 < n then out ++ [(s.take w.at_).drop a] else out) else splitS s l a (n + 1) out
def textsV (l : List (List Nat)) : List V := l.map V.str
/-- what Split gives -/
def splitV (s : List Nat) (n0 : Nat) (h' : H) (v : V) : Prop :=
  if 1048576 < s.length then v = .tuple [.nilslice, .agg [.int .i64 3, .int .i64 (-1)]]
  else match allF s with
    | .inl ws => ∃ l, v = .tuple [l, .agg [.int .i64 0, .int .i64 0]] ∧ Acc n0 h' l (textsV (splitS s ws 0 0 [])) 9 1
    | .inr (e, p) => v = .tuple [.nilslice, .agg [.int .i64 e, .int .i64 p]]
theorem wcells_drop : ∀ (ws : List WD) (i : Nat), (wcells ws).drop (i * 3) = wcells (ws.drop i)
  | ws, 0 => by simp
  | [], i + 1 => by simp [wcells]
  | w :: l, i + 1 => by
    have ih := wcells_drop l i
    rw [show (i + 1) * 3 = 3 + i * 3 by omega, List.drop_succ_cons, ← ih, show wcells (w :: l) = w.cells ++ wcells l from rfl, ← List.drop_drop]
    rfl
theorem wcells_at {ws : List WD} {i : Nat} (hi : i < ws.length) : (wcells ws)[i * 3]? = some (.int .i64 (ws[i].kind : Nat)) ∧ (wcells ws)[i * 3 + 1]? = some (.str ws[i].text) ∧ (wcells ws)[i * 3 + 2]? = some (.int .i64 (ws[i].at_ : Nat)) := by
  have h := wcells_drop ws i
  rw [List.drop_eq_getElem_cons hi, show wcells (ws[i] :: ws.drop (i + 1)) = (ws[i]).cells ++ wcells (ws.drop (i + 1)) from rfl] at h
  have g : ∀ k, (wcells ws)[i * 3 + k]? = ((ws[i]).cells ++ wcells (ws.drop (i + 1)))[k]? := fun k => by rw [← h, List.getElem?_drop]
  exact ⟨g 0, g 1, g 2⟩
theorem allR_bad {s : List Nat} : ∀ (f p : Nat) (acc : List WD) (r : Nat × Nat), allR s f p acc = .inr r → r.1 ≠ 0
  | 0, p, acc, r, h => by rw [allR] at h; cases h
  | f + 1, p, acc, r, h => by
    rw [allR] at h
    split at h
    · split at h
      · rename_i h1; injection h with h; subst h; exact h1
      · split at h
        · exact allR_bad f _ _ _ h
        · split at h
          · rename_i h1; injection h with h; subst h; exact h1
          · exact allR_bad f _ _ _ h
    · cases h
theorem allF_bad {s : List Nat} {e p : Nat} (h : allF s = .inr (e, p)) : e ≠ 0 := allR_bad _ _ _ _ h
end
end Go.Proofs.YtkibhdbmamfjcaaDoor

/-
  scan's reference: Split, walked.
-/
set_option linter.unusedSimpArgs false
set_option linter.unusedVariables false
set_option maxRecDepth 10000
namespace Go.Proofs.YtkibhdbmamfjcaaDoor
open Go.Proofs Go.Lx Go.Wx Go.IntWalk
noncomputable section

theorem Sorted.len {m : Nat} : ∀ {p : Nat} {l : List WD}, Sorted m p l → p + l.length ≤ m
  | p, [], h => h
  | p, w :: l, h => by have := Sorted.len h.2; have := h.1; simp only [List.length_cons]; omega
theorem Sorted.from_ {m : Nat} : ∀ {p q : Nat} {l : List WD}, q ≤ p → Sorted m p l → Sorted m q l
  | p, q, [], h, hs => Nat.le_trans h hs
  | p, q, w :: l, h, hs => ⟨Nat.le_trans h hs.1, hs.2⟩
theorem Sorted.skip {m p : Nat} {w : WD} {l : List WD} (h : Sorted m p (w :: l)) : Sorted m p l := Sorted.from_ (by have := h.1; omega) h.2
def RSplI (s : List Nat) (ws : List WD) (l : V) (h h1 : H) (m : Nat) (env : Env) (h' : H) : Prop :=
  ∃ (i a n : Nat) (out : List (List Nat)) (lst : V), m = ws.length + 1 - i ∧ env 0 = .str s ∧ env 3 = .ptr h.nx 0 ∧ env 4 = l ∧ env 6 = lst ∧ env 7 = .int .i64 a ∧ env 8 = .int .i64 n ∧ env 9 = .int .i64 i ∧ i ≤ ws.length + 1 ∧ out.length ≤ i ∧ n ≤ i ∧ a ≤ s.length + 1 ∧ Ext h1 h' ∧ Acc h1.nx h' lst (textsV out) 9 1 ∧ ((i ≤ ws.length ∧ Sorted s.length a (ws.drop i) ∧ splitS s ws 0 0 [] = splitS s (ws.drop i) a n out) ∨ (i = ws.length + 1 ∧ splitS s ws 0 0 [] = out))
theorem textsV_snoc (l : List (List Nat)) (x : List Nat) : textsV (l ++ [x]) = textsV l ++ [.str x] := by simp [textsV]
variable {S : Set0} (hS : Std S)
include hS
theorem rsplit_spec (s : List Nat) (h : H) (hb : Bytes s) (hs : s.length < 2 ^ 63) : Pure S.cfg 17 [.str s] h fun v h' => splitV s h.nx h' v := by
  refine into Tryd.f17 _ Tryd.func17 (hS.own _ (by decide)) rfl rfl (by kernel_rfl) (by kernel_rfl) ?_
  have a1 := fun q a b c d => agg_neq 26 q a b c d rfl
  simp +contextual (disch := first | (simp only [facts, clsL, clsS, clsC, isPtrD]; done) | omega) only [wps, facts, wpb, cst, wpk, wpl, forall_const, implies_true, false_implies, Int.reduceLE, Int.reduceLT, Nat.reduceLeDiff, UInt8.reduceToNat, ↓reduceIte, Nat.reduceEqDiff, Nat.reduceAdd, reduceCtorEq, Int.reduceToNat, clsL, clsS, clsC, Tryd.f17]
  refine callF_pure (rall_spec hS s _ hb hs) ?_
  intro v h1 hx1 hv
  have hle : h.nx + 1 ≤ h1.nx := hx1.1
  have g1 : h1.get h.nx = some (.cells [.int .i64 0, .int .i64 0] 26 false) := by rw [hx1.2 h.nx (Nat.lt_succ_self _), push_get, if_pos rfl]
  have hX : Ext h h1 := ((Ext.refl h).push _).trans hx1
  have n1 : ¬ h.nx = h1.nx := by omega
  unfold allV at hv
  by_cases hlen : 1048576 < s.length
  · rw [if_pos hlen] at hv
    subst hv
    simp +contextual (disch := first | (simp only [facts, clsL, clsS, clsC, isPtrD]; done) | omega) only [wps, facts, wpb, cst, wpk, wpl, forall_const, implies_true, false_implies, Int.reduceLE, Int.reduceLT, Nat.reduceLeDiff, UInt8.reduceToNat, ↓reduceIte, Nat.reduceEqDiff, Nat.reduceAdd, reduceCtorEq, Int.reduceToNat, clsL, clsS, clsC, Tryd.f17, g1, n1, a1]
    refine ⟨.inr (by omega), draw_by [(0, 2)] (by kernel_rfl) ?_⟩
    simp +contextual (disch := first | (simp only [facts, clsL, clsS, clsC, isPtrD]; done) | omega) only [wps, facts, wpb, cst, wpk, wpl, forall_const, implies_true, false_implies, Int.reduceLE, Int.reduceLT, Nat.reduceLeDiff, UInt8.reduceToNat, ↓reduceIte, Nat.reduceEqDiff, Nat.reduceAdd, reduceCtorEq, Int.reduceToNat, clsL, clsS, clsC, Tryd.f17, g1, n1, a1]
    refine ⟨fun q hq => by
      obtain rfl : q = (0, 2) := by simpa using hq
      exact pair_one rfl rfl (apart_blk fun x hx y hy => by
        have hx := List.mem_singleton.1 hx
        have hy := List.mem_singleton.1 hy
        subst hx hy
        exact fun q => n1 q.symm), ((hX.push _).put (by omega) _).put (Nat.le_refl _) _, ?_⟩
    rw [splitV, if_pos hlen]
  rw [if_neg hlen] at hv
  cases hall : allF s with
  | inr r =>
    obtain ⟨e, p⟩ := r
    rw [hall] at hv
    simp only at hv
    subst hv
    have he := allF_bad hall
    simp +contextual (disch := first | (simp only [facts, clsL, clsS, clsC, isPtrD]; done) | omega) only [wps, facts, wpb, cst, wpk, wpl, forall_const, implies_true, false_implies, Int.reduceLE, Int.reduceLT, Nat.reduceLeDiff, UInt8.reduceToNat, ↓reduceIte, Nat.reduceEqDiff, Nat.reduceAdd, reduceCtorEq, Int.reduceToNat, clsL, clsS, clsC, Tryd.f17, g1, n1, a1, he]
    refine ⟨.inr (by omega), draw_by [(0, 2)] (by kernel_rfl) ?_⟩
    simp +contextual (disch := first | (simp only [facts, clsL, clsS, clsC, isPtrD]; done) | omega) only [wps, facts, wpb, cst, wpk, wpl, forall_const, implies_true, false_implies, Int.reduceLE, Int.reduceLT, Nat.reduceLeDiff, UInt8.reduceToNat, ↓reduceIte, Nat.reduceEqDiff, Nat.reduceAdd, reduceCtorEq, Int.reduceToNat, clsL, clsS, clsC, Tryd.f17, g1, n1, a1, he]
    refine ⟨fun q hq => by
      obtain rfl : q = (0, 2) := by simpa using hq
      exact pair_one rfl rfl (apart_blk fun x hx y hy => by
        have hx := List.mem_singleton.1 hx
        have hy := List.mem_singleton.1 hy
        subst hx hy
        exact fun q => n1 q.symm), ((hX.push _).put (by omega) _).put (Nat.le_refl _) _, ?_⟩
    rw [splitV, if_neg hlen, hall]
  | inl ws =>
    rw [hall] at hv
    obtain ⟨l, rfl, hA⟩ := hv
    have hcl := hA.cell.1
    have hic := hA.cell.2
    simp +contextual (disch := first | (simp only [facts, clsL, clsS, clsC, isPtrD]; done) | omega) only [wps, facts, wpb, cst, wpk, wpl, forall_const, implies_true, false_implies, Int.reduceLE, Int.reduceLT, Nat.reduceLeDiff, UInt8.reduceToNat, ↓reduceIte, Nat.reduceEqDiff, Nat.reduceAdd, reduceCtorEq, Int.reduceToNat, clsL, clsS, clsC, Tryd.f17, g1, n1, a1, hcl, hic]
    refine ⟨.inr (by omega), ?_⟩
    have hso := allF_sorted hb hall
    have hwl := hso.len
    have hll : lenO (some (.slice 36)) l = some (.int .i64 ws.length) := by
      rcases hA with ⟨rfl, hw⟩ | ⟨b, k, _, _, rfl, _, _, hk⟩
      · have : ws.length = 0 := by have := wcells_len ws; rw [hw] at this; simp at this; omega
        rw [this]; rfl
      · have : ws.length = k := by have := wcells_len ws; omega
        rw [this]; rfl
    have n2 : ¬ h1.nx = h.nx := fun q => n1 q.symm
    refine run_loop (RSplI s ws l h h1) (ws.length + 1) ⟨0, 0, 0, [], .nilslice, by simp +contextual (disch := first | (simp only [facts, clsL, clsS, clsC, isPtrD]; done) | omega) only [wps, facts, wpb, cst, wpk, wpl, forall_const, implies_true, false_implies, Int.reduceLE, Int.reduceLT, Nat.reduceLeDiff, UInt8.reduceToNat, ↓reduceIte, Nat.reduceEqDiff, Nat.reduceAdd, reduceCtorEq, Int.reduceToNat, clsL, clsS, clsC, n1, n2]; exact ⟨by omega, ((Ext.refl h1).push _).put (by omega) _, .inl ⟨rfl, rfl⟩, hso⟩⟩ ?_
    rintro m env h' ⟨i, a, n, out, lst, rfl, e0, e3, e4, e6, e7, e8, e9, hi, hol, hni, hal, hx, hAo, hr⟩
    have hcl2 := hAo.cell.1
    have hic2 := hAo.cell.2
    have gf : h'.get h.nx = some (.cells [.int .i64 0, .int .i64 0] 26 false) := by rw [hx.2 h.nx (by omega)]; exact g1
    by_cases hi2 : i ≤ ws.length
    · have hr : Sorted s.length a (ws.drop i) ∧ splitS s ws 0 0 [] = splitS s (ws.drop i) a n out := by
        rcases hr with hr | hr
        · exact hr.2
        · omega
      by_cases hi3 : i < ws.length
      · obtain ⟨w, hw⟩ : ∃ w, w = ws[i] := ⟨_, rfl⟩
        obtain ⟨c0, c1, c2⟩ := wcells_at hi3
        rw [← hw] at c0 c1 c2
        rw [List.drop_eq_getElem_cons hi3, ← hw] at hr
        obtain ⟨b, hlb, hgb, hbn⟩ : ∃ b, l = .slice b 0 ws.length ws.length ∧ h'.get b = some (.cells (wcells ws) 36 true) ∧ b < h1.nx := by
          rcases hA with ⟨_, hw⟩ | ⟨b, k, _, hb2, hl, _, hg, hk⟩
          · have := wcells_len ws; rw [hw] at this; simp at this; omega
          · have : ws.length = k := by have := wcells_len ws; omega
            exact ⟨b, by rw [this]; exact hl, by rw [hx.2 b hb2]; exact hg, hb2⟩
        subst hlb
        by_cases hcut : w.kind = 5 ∧ w.text = [59]
        · have hcut' : isCut w := hcut
          have hwle := hr.1.2.le
          have hwa := hr.1.1
          by_cases hn : 0 < n
          · simp +contextual (disch := first | (simp only [facts, clsL, clsS, clsC, isPtrD]; done) | omega) only [wps, facts, wpb, cst, wpk, wpl, forall_const, implies_true, false_implies, Int.reduceLE, Int.reduceLT, Nat.reduceLeDiff, UInt8.reduceToNat, ↓reduceIte, Nat.reduceEqDiff, Nat.reduceAdd, reduceCtorEq, Int.reduceToNat, clsL, clsS, clsC, Tryd.f17, e0, e3, e4, e6, e7, e8, e9, hi2, hi3, hgb, c0, c1, c2, hcl, hic, hcl2, hic2, hcut, hn]
            refine ⟨⟨by omega, by omega⟩, ?_⟩
            refine append_accV (sv := lst) (n0 := h1.nx) (cells := textsV out) (new := [.str ((s.take w.at_).drop a)]) (b2 := h'.nx) (o2 := 0) (n := 1) (m := 1) ?_ ap29 ⟨.slice 9, by kernel_rfl, rfl⟩ hAo.push ?_ ?_ ?_ rfl rfl ?_ (by decide) ?_ ?_ ?_
            · simp +contextual (disch := first | (simp only [facts, clsL, clsS, clsC, isPtrD]; done) | omega) only [wps, facts, wpb, cst, wpk, wpl, forall_const, implies_true, false_implies, Int.reduceLE, Int.reduceLT, Nat.reduceLeDiff, UInt8.reduceToNat, ↓reduceIte, Nat.reduceEqDiff, Nat.reduceAdd, reduceCtorEq, Int.reduceToNat, clsL, clsS, clsC]
            · simp +contextual (disch := first | (simp only [facts, clsL, clsS, clsC, isPtrD]; done) | omega) only [wps, facts, wpb, cst, wpk, wpl, forall_const, implies_true, false_implies, Int.reduceLE, Int.reduceLT, Nat.reduceLeDiff, UInt8.reduceToNat, ↓reduceIte, Nat.reduceEqDiff, Nat.reduceAdd, reduceCtorEq, Int.reduceToNat, clsL, clsS, clsC]
            · decide
            · simp +contextual (disch := first | (simp only [facts, clsL, clsS, clsC, isPtrD]; done) | omega) only [wps, facts, wpb, cst, wpk, wpl, forall_const, implies_true, false_implies, Int.reduceLE, Int.reduceLT, Nat.reduceLeDiff, UInt8.reduceToNat, ↓reduceIte, Nat.reduceEqDiff, Nat.reduceAdd, reduceCtorEq, Int.reduceToNat, clsL, clsS, clsC, rdC]
              rfl
            · rw [textsV, List.length_map]
              show out.length + 1 ≤ _
              omega
            · exact fun k hk => by rw [fresh_def]; exact .inl (by omega)
            · intro v h4 L ha4 hst hL
              have hcl4 := ha4.cell.1
              have hic4 := ha4.cell.2
              simp +contextual (disch := first | (simp only [facts, clsL, clsS, clsC, isPtrD]; done) | omega) only [wps, facts, wpb, cst, wpk, wpl, forall_const, implies_true, false_implies, Int.reduceLE, Int.reduceLT, Nat.reduceLeDiff, UInt8.reduceToNat, ↓reduceIte, Nat.reduceEqDiff, Nat.reduceAdd, reduceCtorEq, Int.reduceToNat, clsL, clsS, clsC, Tryd.f17, e0, e3, e4, e6, e7, e8, e9, hi2, hi3, hgb, c0, c1, c2, hcl, hic, hcl2, hic2, hcut, hn, hcl4, hic4]
              refine ⟨_, ?_, i + 1, w.at_ + 1, 0, out ++ [(s.take w.at_).drop a], v, rfl, ?_⟩
              · omega
              · simp +contextual (disch := first | (simp only [facts, clsL, clsS, clsC, isPtrD]; done) | omega) only [wps, facts, wpb, cst, wpk, wpl, forall_const, implies_true, false_implies, Int.reduceLE, Int.reduceLT, Nat.reduceLeDiff, UInt8.reduceToNat, ↓reduceIte, Nat.reduceEqDiff, Nat.reduceAdd, reduceCtorEq, Int.reduceToNat, clsL, clsS, clsC, e0, e3, e4]
                exact ⟨by omega, by omega, by omega, StaysBut.ext (n0 := 0) (hx.push _) hst (hAo.push), by rw [textsV_snoc]; exact ha4, .inl ⟨by omega, hr.1.2, by rw [hr.2, splitS, if_pos hcut', if_pos hn]⟩⟩
            · show h1.nx ≤ h'.nx + 1
              have := hx.1
              omega
          · simp +contextual (disch := first | (simp only [facts, clsL, clsS, clsC, isPtrD]; done) | omega) only [wps, facts, wpb, cst, wpk, wpl, forall_const, implies_true, false_implies, Int.reduceLE, Int.reduceLT, Nat.reduceLeDiff, UInt8.reduceToNat, ↓reduceIte, Nat.reduceEqDiff, Nat.reduceAdd, reduceCtorEq, Int.reduceToNat, clsL, clsS, clsC, Tryd.f17, e0, e3, e4, e6, e7, e8, e9, hi2, hi3, hgb, c0, c1, c2, hcl, hic, hcl2, hic2, hcut, hn]
            refine ⟨_, ?_, i + 1, w.at_ + 1, 0, out, lst, rfl, ?_⟩
            · omega
            · simp +contextual (disch := first | (simp only [facts, clsL, clsS, clsC, isPtrD]; done) | omega) only [wps, facts, wpb, cst, wpk, wpl, forall_const, implies_true, false_implies, Int.reduceLE, Int.reduceLT, Nat.reduceLeDiff, UInt8.reduceToNat, ↓reduceIte, Nat.reduceEqDiff, Nat.reduceAdd, reduceCtorEq, Int.reduceToNat, clsL, clsS, clsC, e0, e3, e4]
              exact ⟨by omega, by omega, by omega, by omega, hx, hAo, .inl ⟨by omega, hr.1.2, by rw [hr.2, splitS, if_pos hcut', if_neg hn]⟩⟩
        · have hcut' : ¬ isCut w := hcut
          have hcut2 : ¬ w.kind = 5 ∨ ¬ w.text = [59] := by
            by_cases hk : w.kind = 5
            · exact .inr fun q => hcut ⟨hk, q⟩
            · exact .inl hk
          have hwle := hr.1.2.le
          have hwa := hr.1.1
          simp +contextual (disch := first | (simp only [facts, clsL, clsS, clsC, isPtrD]; done) | omega) only [wps, facts, wpb, cst, wpk, wpl, forall_const, implies_true, false_implies, Int.reduceLE, Int.reduceLT, Nat.reduceLeDiff, UInt8.reduceToNat, ↓reduceIte, Nat.reduceEqDiff, Nat.reduceAdd, reduceCtorEq, Int.reduceToNat, clsL, clsS, clsC, Tryd.f17, e0, e3, e4, e6, e7, e8, e9, hi2, hi3, hgb, c0, c1, c2, hcl, hic, hcl2, hic2, hcut, hcut2]
          refine ⟨_, ?_, i + 1, a, n + 1, out, lst, rfl, ?_⟩
          · omega
          · simp +contextual (disch := first | (simp only [facts, clsL, clsS, clsC, isPtrD]; done) | omega) only [wps, facts, wpb, cst, wpk, wpl, forall_const, implies_true, false_implies, Int.reduceLE, Int.reduceLT, Nat.reduceLeDiff, UInt8.reduceToNat, ↓reduceIte, Nat.reduceEqDiff, Nat.reduceAdd, reduceCtorEq, Int.reduceToNat, clsL, clsS, clsC, e0, e3, e4, e6, e7]
            exact ⟨by omega, by omega, by omega, by omega, hx, hAo, .inl ⟨by omega, Sorted.skip hr.1, by rw [hr.2, splitS, if_neg hcut']⟩⟩
      · have hie : i = ws.length := by omega
        have hnil : ws.drop i = [] := List.drop_eq_nil_of_le (by omega)
        have hale := hr.1.le
        by_cases hn : 0 < n
        · simp +contextual (disch := first | (simp only [facts, clsL, clsS, clsC, isPtrD]; done) | omega) only [wps, facts, wpb, cst, wpk, wpl, forall_const, implies_true, false_implies, Int.reduceLE, Int.reduceLT, Nat.reduceLeDiff, UInt8.reduceToNat, ↓reduceIte, Nat.reduceEqDiff, Nat.reduceAdd, reduceCtorEq, Int.reduceToNat, clsL, clsS, clsC, Tryd.f17, e0, e3, e4, e6, e7, e8, e9, hi2, hi3, hll, hcl, hic, hcl2, hic2, hn]
          refine ⟨by omega, ?_⟩
          refine append_accV (sv := lst) (n0 := h1.nx) (cells := textsV out) (new := [.str ((s.take s.length).drop a)]) (b2 := h'.nx) (o2 := 0) (n := 1) (m := 1) ?_ ap29 ⟨.slice 9, by kernel_rfl, rfl⟩ hAo.push ?_ ?_ ?_ rfl rfl ?_ (by decide) ?_ ?_ ?_
          · simp +contextual (disch := first | (simp only [facts, clsL, clsS, clsC, isPtrD]; done) | omega) only [wps, facts, wpb, cst, wpk, wpl, forall_const, implies_true, false_implies, Int.reduceLE, Int.reduceLT, Nat.reduceLeDiff, UInt8.reduceToNat, ↓reduceIte, Nat.reduceEqDiff, Nat.reduceAdd, reduceCtorEq, Int.reduceToNat, clsL, clsS, clsC]
          · simp +contextual (disch := first | (simp only [facts, clsL, clsS, clsC, isPtrD]; done) | omega) only [wps, facts, wpb, cst, wpk, wpl, forall_const, implies_true, false_implies, Int.reduceLE, Int.reduceLT, Nat.reduceLeDiff, UInt8.reduceToNat, ↓reduceIte, Nat.reduceEqDiff, Nat.reduceAdd, reduceCtorEq, Int.reduceToNat, clsL, clsS, clsC]
          · decide
          · simp +contextual (disch := first | (simp only [facts, clsL, clsS, clsC, isPtrD]; done) | omega) only [wps, facts, wpb, cst, wpk, wpl, forall_const, implies_true, false_implies, Int.reduceLE, Int.reduceLT, Nat.reduceLeDiff, UInt8.reduceToNat, ↓reduceIte, Nat.reduceEqDiff, Nat.reduceAdd, reduceCtorEq, Int.reduceToNat, clsL, clsS, clsC, rdC]
            rfl
          · rw [textsV, List.length_map]
            show out.length + 1 ≤ _
            omega
          · exact fun k hk => by rw [fresh_def]; exact .inl (by omega)
          · intro v h4 L ha4 hst hL
            have hcl4 := ha4.cell.1
            have hic4 := ha4.cell.2
            simp +contextual (disch := first | (simp only [facts, clsL, clsS, clsC, isPtrD]; done) | omega) only [wps, facts, wpb, cst, wpk, wpl, forall_const, implies_true, false_implies, Int.reduceLE, Int.reduceLT, Nat.reduceLeDiff, UInt8.reduceToNat, ↓reduceIte, Nat.reduceEqDiff, Nat.reduceAdd, reduceCtorEq, Int.reduceToNat, clsL, clsS, clsC, Tryd.f17, e0, e3, e4, e6, e7, e8, e9, hi2, hi3, hll, hcl, hic, hcl2, hic2, hn, hcl4, hic4]
            refine ⟨_, ?_, i + 1, s.length + 1, 0, out ++ [(s.take s.length).drop a], v, rfl, ?_⟩
            · omega
            · simp +contextual (disch := first | (simp only [facts, clsL, clsS, clsC, isPtrD]; done) | omega) only [wps, facts, wpb, cst, wpk, wpl, forall_const, implies_true, false_implies, Int.reduceLE, Int.reduceLT, Nat.reduceLeDiff, UInt8.reduceToNat, ↓reduceIte, Nat.reduceEqDiff, Nat.reduceAdd, reduceCtorEq, Int.reduceToNat, clsL, clsS, clsC, e0, e3, e4]
              exact ⟨by omega, by omega, StaysBut.ext (n0 := 0) (hx.push _) hst (hAo.push), by rw [textsV_snoc]; exact ha4, .inr ⟨by omega, by rw [hr.2, hnil, splitS, if_pos hn]⟩⟩
          · show h1.nx ≤ h'.nx + 1
            have := hx.1
            omega
        · simp +contextual (disch := first | (simp only [facts, clsL, clsS, clsC, isPtrD]; done) | omega) only [wps, facts, wpb, cst, wpk, wpl, forall_const, implies_true, false_implies, Int.reduceLE, Int.reduceLT, Nat.reduceLeDiff, UInt8.reduceToNat, ↓reduceIte, Nat.reduceEqDiff, Nat.reduceAdd, reduceCtorEq, Int.reduceToNat, clsL, clsS, clsC, Tryd.f17, e0, e3, e4, e6, e7, e8, e9, hi2, hi3, hll, hcl, hic, hcl2, hic2, hn]
          refine ⟨_, ?_, i + 1, s.length + 1, 0, out, lst, rfl, ?_⟩
          · omega
          · simp +contextual (disch := first | (simp only [facts, clsL, clsS, clsC, isPtrD]; done) | omega) only [wps, facts, wpb, cst, wpk, wpl, forall_const, implies_true, false_implies, Int.reduceLE, Int.reduceLT, Nat.reduceLeDiff, UInt8.reduceToNat, ↓reduceIte, Nat.reduceEqDiff, Nat.reduceAdd, reduceCtorEq, Int.reduceToNat, clsL, clsS, clsC, e0, e3, e4]
            exact ⟨by omega, by omega, by omega, hx, hAo, .inr ⟨by omega, by rw [hr.2, hnil, splitS, if_neg hn]⟩⟩
    · simp +contextual (disch := first | (simp only [facts, clsL, clsS, clsC, isPtrD]; done) | omega) only [wps, facts, wpb, cst, wpk, wpl, forall_const, implies_true, false_implies, Int.reduceLE, Int.reduceLT, Nat.reduceLeDiff, UInt8.reduceToNat, ↓reduceIte, Nat.reduceEqDiff, Nat.reduceAdd, reduceCtorEq, Int.reduceToNat, clsL, clsS, clsC, Tryd.f17, e0, e3, e4, e6, e7, e8, e9, hi2, hll, hcl, hic, hcl2, hic2, gf]
      have hr2 : splitS s ws 0 0 [] = out := by
        rcases hr with hr | hr
        · omega
        · exact hr.2
      refine ⟨(hX.trans hx).put (by omega) _, ?_⟩
      rw [splitV, if_neg hlen, hall]
      exact ⟨lst, rfl, by rw [hr2]; exact (hAo.put (by omega)).mono (by omega)⟩
end
end Go.Proofs.YtkibhdbmamfjcaaDoor

/-
  scan.Split's closure, and the comparing of words and texts.
-/
set_option linter.unusedSimpArgs false
set_option linter.unusedVariables false
set_option maxRecDepth 10000
namespace Go.Proofs.YtkibhdbmamfjcaaDoor
open Go.Proofs Go.Lx Go.Wx Go.IntWalk
noncomputable section

/-- what the closure finds: words, pieces, text, from -/
structure CutH (h : H) (kw ko ks kf b0 : Nat) (s : List Nat) (a n : Nat) (out : List (List Nat)) (lst : V) : Prop where
  gw : h.get kw = some (.cells [.int .i64 n] 3 false)
  go : h.get ko = some (.cells [lst] 29 false)
  gs : h.get ks = some (.cells [.str s] 9 false)
  gf : h.get kf = some (.cells [.int .i64 a] 3 false)
  acc : Acc b0 h lst (textsV out) 9 1
  nx : b0 ≤ h.nx

theorem CutH.stay {h h' : H} {kw ko ks kf b0 : Nat} {s : List Nat} {a n : Nat} {out : List (List Nat)} {lst : V} (hc : CutH h kw ko ks kf b0 s a n out lst) (hx : Ext h h') (h3 : kw < b0) (h4 : ko < b0) (h5 : ks < b0) (h6 : kf < b0) : CutH h' kw ko ks kf b0 s a n out lst := by
  obtain ⟨gw, go, gs, gf, hA, hnx⟩ := hc
  exact ⟨by rw [hx.2 kw (by omega)]; exact gw, by rw [hx.2 ko (by omega)]; exact go, by rw [hx.2 ks (by omega)]; exact gs, by rw [hx.2 kf (by omega)]; exact gf, hA.stay hx.1 fun k _ hk => hx.2 k hk, Nat.le_trans hnx hx.1⟩
theorem CutH.setF {h : H} {kw ko ks kf b0 : Nat} {s : List Nat} {a n : Nat} {out : List (List Nat)} {lst : V} (hc : CutH h kw ko ks kf b0 s a n out lst) (a' : Nat) (h6 : kf < b0) (d1 : ¬ kw = kf) (d2 : ¬ ko = kf) (d3 : ¬ ks = kf) : CutH (h.put kf (.cells [.int .i64 a'] 3 false)) kw ko ks kf b0 s a' n out lst :=
  ⟨by rw [put_get, if_neg d1]; exact hc.gw, by rw [put_get, if_neg d2]; exact hc.go, by rw [put_get, if_neg d3]; exact hc.gs, by rw [put_get, if_pos rfl], hc.acc.put h6, hc.nx⟩
theorem CutH.setW {h : H} {kw ko ks kf b0 : Nat} {s : List Nat} {a n : Nat} {out : List (List Nat)} {lst : V} (hc : CutH h kw ko ks kf b0 s a n out lst) (n' : Nat) (h6 : kw < b0) (d1 : ¬ kf = kw) (d2 : ¬ ko = kw) (d3 : ¬ ks = kw) : CutH (h.put kw (.cells [.int .i64 n'] 3 false)) kw ko ks kf b0 s a n' out lst :=
  ⟨by rw [put_get, if_pos rfl], by rw [put_get, if_neg d2]; exact hc.go, by rw [put_get, if_neg d3]; exact hc.gs, by rw [put_get, if_neg d1]; exact hc.gf, hc.acc.put h6, hc.nx⟩
theorem wcells_take {ws : List WD} {i : Nat} (hi : i < ws.length) : ((wcells ws).drop (i * 3)).take 3 = [.int .i64 (ws[i].kind : Nat), .str ws[i].text, .int .i64 (ws[i].at_ : Nat)] := by
  rw [wcells_drop, List.drop_eq_getElem_cons hi]
  rfl
def SplI (s : List Nat) (ws : List WD) (l : V) (h h1 : H) (m : Nat) (env : Env) (h' : H) : Prop :=
  ∃ (i a n : Nat) (out : List (List Nat)) (lst : V), m = ws.length - i ∧ env 1 = .ptr h.nx 0 ∧ env 3 = .ptr (h.nx + 1) 0 ∧ env 6 = .ptr (h1.nx + 1) 0 ∧ env 7 = .ptr (h1.nx + 1 + 1) 0 ∧ env 8 = .ptr (h1.nx + 1 + 1 + 1) 0 ∧ env 9 = .func 48 [] [.ptr (h1.nx + 1 + 1 + 1) 0, .ptr (h1.nx + 1) 0, .ptr h.nx 0, .ptr (h1.nx + 1 + 1) 0] ∧ env 22 = l ∧ env 23 = .int .i64 ws.length ∧ env 24 = .int .i64 i ∧ i ≤ ws.length ∧ out.length ≤ i ∧ n ≤ i ∧ Ext h1 h' ∧ CutH h' (h1.nx + 1 + 1 + 1) (h1.nx + 1) h.nx (h1.nx + 1 + 1) (h1.nx + 1 + 1 + 1 + 1) s a n out lst ∧ Sorted s.length a (ws.drop i) ∧ splitS s ws 0 0 [] = splitS s (ws.drop i) a n out
variable {S : Set0} (hS : Std S)
include hS
theorem cut_spec (h : H) (n0 kw ko ks kf b0 : Nat) (s : List Nat) (a n t : Nat) (out : List (List Nat)) (lst : V) (hc : CutH h kw ko ks kf b0 s a n out lst) (hat : a ≤ t) (hts : t ≤ s.length) (hs : s.length < 2 ^ 26) (hol : out.length ≤ s.length) (hn : n ≤ s.length + 1)
    (h1 : n0 ≤ kw) (h2 : n0 ≤ ko) (h3 : kw < b0) (h4 : ko < b0) (h5 : ks < b0) (h6 : kf < b0) (d1 : ¬ kw = ko) (d2 : ¬ kw = ks) (d3 : ¬ kw = kf) (d4 : ¬ ko = ks) (d5 : ¬ ko = kf) :
    callW S.cfg (fun k => n0 ≤ k) 48 [.int .i64 t, .ptr kw 0, .ptr ko 0, .ptr ks 0, .ptr kf 0] h fun v h' => v = .tuple [] ∧ h.nx ≤ h'.nx ∧ (∀ k, k < h.nx → k ≠ kw → k ≠ ko → (∀ o n m, lst ≠ .slice k o n m) → h'.get k = h.get k) ∧
      ∃ lst', CutH h' kw ko ks kf b0 s a 0 (if 0 < n then out ++ [(s.take t).drop a] else out) lst' := by
  obtain ⟨gw, go, gs, gf, hA, hnx⟩ := hc
  have hcl := hA.cell.1
  have hic := hA.cell.2
  refine into Tryd.f48 _ Tryd.func48 (hS.own _ (by decide)) rfl rfl (by kernel_rfl) (by kernel_rfl) ?_
  by_cases hn0 : 0 < n
  · simp +contextual (disch := first | (simp only [facts, clsL, clsS, clsC, isPtrD]; done) | omega) only [wps, facts, wpb, cst, wpk, wpl, forall_const, implies_true, false_implies, Int.reduceLE, Int.reduceLT, Nat.reduceLeDiff, UInt8.reduceToNat, ↓reduceIte, Nat.reduceEqDiff, Nat.reduceAdd, reduceCtorEq, Int.reduceToNat, clsL, clsS, clsC, Tryd.f48, gw, go, gs, gf, hn0, hcl, hic]
    refine draw_by [(0, 5)] (by kernel_rfl) ?_
    simp +contextual (disch := first | (simp only [facts, clsL, clsS, clsC, isPtrD]; done) | omega) only [wps, facts, wpb, cst, wpk, wpl, forall_const, implies_true, false_implies, Int.reduceLE, Int.reduceLT, Nat.reduceLeDiff, UInt8.reduceToNat, ↓reduceIte, Nat.reduceEqDiff, Nat.reduceAdd, reduceCtorEq, Int.reduceToNat, clsL, clsS, clsC, Tryd.f48, gw, go, gs, gf, hn0, hcl, hic]
    refine ⟨⟨by omega, by omega⟩, ?_⟩
    have m1 : ¬ kw = h.nx := by omega
    have m2 : ¬ ko = h.nx := by omega
    have m3 : ¬ ks = h.nx := by omega
    have m4 : ¬ kf = h.nx := by omega
    refine append_accV (sv := lst) (n0 := b0) (cells := textsV out) (new := [.str ((s.take t).drop a)]) (b2 := h.nx) (o2 := 0) (n := 1) (m := 1) ?_ ap29 ⟨.slice 9, by kernel_rfl, rfl⟩ hA.push ?_ ?_ ?_ rfl rfl ?_ (by decide) ?_ ?_ ?_
    · simp +contextual (disch := first | (simp only [facts, clsL, clsS, clsC, isPtrD]; done) | omega) only [wps, facts, wpb, cst, wpk, wpl, forall_const, implies_true, false_implies, Int.reduceLE, Int.reduceLT, Nat.reduceLeDiff, UInt8.reduceToNat, ↓reduceIte, Nat.reduceEqDiff, Nat.reduceAdd, reduceCtorEq, Int.reduceToNat, clsL, clsS, clsC]
    · simp +contextual (disch := first | (simp only [facts, clsL, clsS, clsC, isPtrD]; done) | omega) only [wps, facts, wpb, cst, wpk, wpl, forall_const, implies_true, false_implies, Int.reduceLE, Int.reduceLT, Nat.reduceLeDiff, UInt8.reduceToNat, ↓reduceIte, Nat.reduceEqDiff, Nat.reduceAdd, reduceCtorEq, Int.reduceToNat, clsL, clsS, clsC]
    · decide
    · simp +contextual (disch := first | (simp only [facts, clsL, clsS, clsC, isPtrD]; done) | omega) only [wps, facts, wpb, cst, wpk, wpl, forall_const, implies_true, false_implies, Int.reduceLE, Int.reduceLT, Nat.reduceLeDiff, UInt8.reduceToNat, ↓reduceIte, Nat.reduceEqDiff, Nat.reduceAdd, reduceCtorEq, Int.reduceToNat, clsL, clsS, clsC, rdC]
      rfl
    · rw [textsV, List.length_map]
      show out.length + 1 ≤ _
      omega
    · exact fun k hk => by rw [fresh_def]; exact .inr (by omega)
    · intro v h4' L hA4 hst hL
      have hcl4 := hA4.cell.1
      have hic4 := hA4.cell.2
      have hs4 : ∀ k, k < b0 → h4'.get k = h.get k := fun k hk => by
        rw [hst.2 k (by show k < h.nx + 1; omega) (fun o n m => hA.ne hk), push_get, if_neg (by omega)]
      have gw4 := (hs4 kw h3).trans gw
      have go4 := (hs4 ko h4).trans go
      have gs4 := (hs4 ks h5).trans gs
      have gf4 := (hs4 kf h6).trans gf
      have hnx4 : h.nx + 1 ≤ h4'.nx := hst.1
      simp +contextual (disch := first | (simp only [facts, clsL, clsS, clsC, isPtrD]; done) | omega) only [wps, facts, wpb, cst, wpk, wpl, forall_const, implies_true, false_implies, Int.reduceLE, Int.reduceLT, Nat.reduceLeDiff, UInt8.reduceToNat, ↓reduceIte, Nat.reduceEqDiff, Nat.reduceAdd, reduceCtorEq, Int.reduceToNat, clsL, clsS, clsC, Tryd.f48, gw, go, gs, gf, gw4, go4, hn0, hcl, hic, hcl4, hic4, d1]
      refine ⟨.inr (.inr h2), fun q hq => ?_, .inr (.inr h1), by omega, fun k hk c1 c2 c3 => by rw [hst.2 k (by show k < h.nx + 1; omega) c3, push_get, if_neg (by omega)], v, ?_⟩
      · obtain rfl : q = (0, 5) := by simpa using hq
        exact pair_one rfl rfl (apart_blk fun x hx y hy => by
          have hx := List.mem_singleton.1 hx
          have hy := List.mem_singleton.1 hy
          subst hx hy
          exact m2)
      · exact ⟨by rw [put_get, if_pos rfl]; rfl, by rw [put_get, if_neg (fun q => d1 q.symm), put_get, if_pos rfl], by rw [put_get, if_neg (fun q => d2 q.symm), put_get, if_neg (fun q => d4 q.symm)]; exact gs4, by rw [put_get, if_neg (fun q => d3 q.symm), put_get, if_neg (fun q => d5 q.symm)]; exact gf4, by rw [textsV_snoc]; exact (hA4.put h4).put h3, by show b0 ≤ h4'.nx; omega⟩
    · show b0 ≤ h.nx + 1
      omega
  · simp +contextual (disch := first | (simp only [facts, clsL, clsS, clsC, isPtrD]; done) | omega) only [wps, facts, wpb, cst, wpk, wpl, forall_const, implies_true, false_implies, Int.reduceLE, Int.reduceLT, Nat.reduceLeDiff, UInt8.reduceToNat, ↓reduceIte, Nat.reduceEqDiff, Nat.reduceAdd, reduceCtorEq, Int.reduceToNat, clsL, clsS, clsC, Tryd.f48, gw, go, gs, gf, hn0, hcl, hic]
    refine ⟨.inr (.inr h1), lst, ⟨by rw [put_get, if_pos rfl]; rfl, by rw [put_get, if_neg (fun q => d1 q.symm)]; exact go, by rw [put_get, if_neg (fun q => d2 q.symm)]; exact gs, by rw [put_get, if_neg (fun q => d3 q.symm)]; exact gf, hA.put h3, hnx⟩⟩
theorem split_spec (hF : StdF S) (s : List Nat) (h : H) (hb : Bytes s) (hs : s.length < 2 ^ 63) : Pure S.cfg 16 [.str s] h fun v h' => splitV s h.nx h' v := by
  refine into Tryd.f16 _ Tryd.func16 (hS.own _ (by decide)) rfl rfl (by kernel_rfl) (by kernel_rfl) ?_
  have a1 := fun q a b c d => agg_neq 26 q a b c d rfl
  have z0 : ¬ h.nx = h.nx + 1 := by omega
  have z1 : ¬ h.nx + 1 = h.nx := by omega
  simp +contextual (disch := first | (simp only [facts, clsL, clsS, clsC, isPtrD]; done) | omega) only [wps, facts, wpb, cst, wpk, wpl, forall_const, implies_true, false_implies, Int.reduceLE, Int.reduceLT, Nat.reduceLeDiff, UInt8.reduceToNat, ↓reduceIte, Nat.reduceEqDiff, Nat.reduceAdd, reduceCtorEq, Int.reduceToNat, clsL, clsS, clsC, Tryd.f16, z0, z1]
  refine callF_pure (all_spec hF s _ hb hs) ?_
  intro v h1 hx1 hv
  have hle : h.nx + 1 + 1 ≤ h1.nx := hx1.1
  have gs1 : h1.get h.nx = some (.cells [.str s] 9 false) := by rw [hx1.2 h.nx (by show h.nx < h.nx + 1 + 1; omega), push_get, if_neg (by show ¬ h.nx = h.nx + 1; omega), push_get, if_pos rfl]
  have g1 : h1.get (h.nx + 1) = some (.cells [.int .i64 0, .int .i64 0] 26 false) := by rw [hx1.2 (h.nx + 1) (by show h.nx + 1 < h.nx + 1 + 1; omega), push_get]; exact if_pos rfl
  have hX : Ext h h1 := (((Ext.refl h).push _).push _).trans hx1
  have n1 : ¬ h.nx + 1 = h1.nx := by omega
  have n2 : ¬ h.nx = h1.nx := by omega
  unfold allV at hv
  by_cases hlen : 1048576 < s.length
  · rw [if_pos hlen] at hv
    subst hv
    simp +contextual (disch := first | (simp only [facts, clsL, clsS, clsC, isPtrD]; done) | omega) only [wps, facts, wpb, cst, wpk, wpl, forall_const, implies_true, false_implies, Int.reduceLE, Int.reduceLT, Nat.reduceLeDiff, UInt8.reduceToNat, ↓reduceIte, Nat.reduceEqDiff, Nat.reduceAdd, reduceCtorEq, Int.reduceToNat, clsL, clsS, clsC, Tryd.f16, g1, gs1, n1, n2, a1]
    refine ⟨.inr (by omega), draw_by [(0, 2)] (by kernel_rfl) ?_⟩
    simp +contextual (disch := first | (simp only [facts, clsL, clsS, clsC, isPtrD]; done) | omega) only [wps, facts, wpb, cst, wpk, wpl, forall_const, implies_true, false_implies, Int.reduceLE, Int.reduceLT, Nat.reduceLeDiff, UInt8.reduceToNat, ↓reduceIte, Nat.reduceEqDiff, Nat.reduceAdd, reduceCtorEq, Int.reduceToNat, clsL, clsS, clsC, Tryd.f16, g1, gs1, n1, n2, a1]
    refine ⟨.inr (by omega), fun q hq => by
      obtain rfl : q = (0, 2) := by simpa using hq
      exact pair_one rfl rfl (apart_blk fun x hx y hy => by
        have hx := List.mem_singleton.1 hx
        have hy := List.mem_singleton.1 hy
        subst hx hy
        exact fun q => n1 q.symm), ((hX.push _).put (by omega) _).put (by omega) _, ?_⟩
    rw [splitV, if_pos hlen]
  rw [if_neg hlen] at hv
  cases hall : allF s with
  | inr r =>
    obtain ⟨e, p⟩ := r
    rw [hall] at hv
    simp only at hv
    subst hv
    have he := allF_bad hall
    simp +contextual (disch := first | (simp only [facts, clsL, clsS, clsC, isPtrD]; done) | omega) only [wps, facts, wpb, cst, wpk, wpl, forall_const, implies_true, false_implies, Int.reduceLE, Int.reduceLT, Nat.reduceLeDiff, UInt8.reduceToNat, ↓reduceIte, Nat.reduceEqDiff, Nat.reduceAdd, reduceCtorEq, Int.reduceToNat, clsL, clsS, clsC, Tryd.f16, g1, gs1, n1, n2, a1, he]
    refine ⟨.inr (by omega), draw_by [(0, 2)] (by kernel_rfl) ?_⟩
    simp +contextual (disch := first | (simp only [facts, clsL, clsS, clsC, isPtrD]; done) | omega) only [wps, facts, wpb, cst, wpk, wpl, forall_const, implies_true, false_implies, Int.reduceLE, Int.reduceLT, Nat.reduceLeDiff, UInt8.reduceToNat, ↓reduceIte, Nat.reduceEqDiff, Nat.reduceAdd, reduceCtorEq, Int.reduceToNat, clsL, clsS, clsC, Tryd.f16, g1, gs1, n1, n2, a1, he]
    refine ⟨.inr (by omega), fun q hq => by
      obtain rfl : q = (0, 2) := by simpa using hq
      exact pair_one rfl rfl (apart_blk fun x hx y hy => by
        have hx := List.mem_singleton.1 hx
        have hy := List.mem_singleton.1 hy
        subst hx hy
        exact fun q => n1 q.symm), ((hX.push _).put (by omega) _).put (by omega) _, ?_⟩
    rw [splitV, if_neg hlen, hall]
  | inl ws =>
    rw [hall] at hv
    obtain ⟨l, rfl, hA⟩ := hv
    have hcl := hA.cell.1
    have hic := hA.cell.2
    have hso := allF_sorted hb hall
    have hwl := hso.len
    have hll : lenO (some (.slice 36)) l = some (.int .i64 ws.length) := by
      rcases hA with ⟨rfl, hw⟩ | ⟨b, k, _, _, rfl, _, _, hk⟩
      · have : ws.length = 0 := by have := wcells_len ws; rw [hw] at this; simp at this; omega
        rw [this]; rfl
      · have : ws.length = k := by have := wcells_len ws; omega
        rw [this]; rfl
    have k01 : ¬ h1.nx = h1.nx + 1 := by omega
    have k02 : ¬ h1.nx = h1.nx + 1 + 1 := by omega
    have k03 : ¬ h1.nx = h1.nx + 1 + 1 + 1 := by omega
    have k10 : ¬ h1.nx + 1 = h1.nx := by omega
    have k12 : ¬ h1.nx + 1 = h1.nx + 1 + 1 := by omega
    have k13 : ¬ h1.nx + 1 = h1.nx + 1 + 1 + 1 := by omega
    have k20 : ¬ h1.nx + 1 + 1 = h1.nx := by omega
    have k21 : ¬ h1.nx + 1 + 1 = h1.nx + 1 := by omega
    have k23 : ¬ h1.nx + 1 + 1 = h1.nx + 1 + 1 + 1 := by omega
    have k30 : ¬ h1.nx + 1 + 1 + 1 = h1.nx := by omega
    have k31 : ¬ h1.nx + 1 + 1 + 1 = h1.nx + 1 := by omega
    have k32 : ¬ h1.nx + 1 + 1 + 1 = h1.nx + 1 + 1 := by omega
    simp +contextual (disch := first | (simp only [facts, clsL, clsS, clsC, isPtrD]; done) | omega) only [wps, facts, wpb, cst, wpk, wpl, forall_const, implies_true, false_implies, Int.reduceLE, Int.reduceLT, Nat.reduceLeDiff, UInt8.reduceToNat, ↓reduceIte, Nat.reduceEqDiff, Nat.reduceAdd, reduceCtorEq, Int.reduceToNat, clsL, clsS, clsC, Tryd.f16, g1, gs1, n1, n2, a1, hcl, hic, hll, k01, k02, k03, k10, k12, k13, k20, k21, k23, k30, k31, k32]
    refine ⟨.inr (by omega), .inr (by omega), .inr (by omega), ?_⟩
    have c1 : ¬ h.nx = h1.nx + 1 := by omega
    have c2 : ¬ h.nx = h1.nx + 1 + 1 := by omega
    have c3 : ¬ h.nx = h1.nx + 1 + 1 + 1 := by omega
    refine run_loop (SplI s ws l h h1) ws.length ⟨0, 0, 0, [], .nilslice, by simp +contextual (disch := first | (simp only [facts, clsL, clsS, clsC, isPtrD]; done) | omega) only [wps, facts, wpb, cst, wpk, wpl, forall_const, implies_true, false_implies, Int.reduceLE, Int.reduceLT, Nat.reduceLeDiff, UInt8.reduceToNat, ↓reduceIte, Nat.reduceEqDiff, Nat.reduceAdd, reduceCtorEq, Int.reduceToNat, clsL, clsS, clsC, k01, k02, k03, k10, k12, k13, k20, k21, k23, k30, k31, k32, n1, n2, c1, c2, c3]; exact ⟨by omega, (((((((Ext.refl h1).push _).put (Nat.le_refl _) _).push _).push _).push _).put (by omega) _).put (by omega) _, ⟨by simp +contextual (disch := first | (simp only [facts, clsL, clsS, clsC, isPtrD]; done) | omega) only [wps, facts, wpb, cst, wpk, wpl, forall_const, implies_true, false_implies, Int.reduceLE, Int.reduceLT, Nat.reduceLeDiff, UInt8.reduceToNat, ↓reduceIte, Nat.reduceEqDiff, Nat.reduceAdd, reduceCtorEq, Int.reduceToNat, clsL, clsS, clsC, k01, k02, k03, k10, k12, k13, k20, k21, k23, k30, k31, k32]; all_goals rfl, by simp +contextual (disch := first | (simp only [facts, clsL, clsS, clsC, isPtrD]; done) | omega) only [wps, facts, wpb, cst, wpk, wpl, forall_const, implies_true, false_implies, Int.reduceLE, Int.reduceLT, Nat.reduceLeDiff, UInt8.reduceToNat, ↓reduceIte, Nat.reduceEqDiff, Nat.reduceAdd, reduceCtorEq, Int.reduceToNat, clsL, clsS, clsC, k01, k02, k03, k10, k12, k13, k20, k21, k23, k30, k31, k32]; all_goals rfl, by simp +contextual (disch := first | (simp only [facts, clsL, clsS, clsC, isPtrD]; done) | omega) only [wps, facts, wpb, cst, wpk, wpl, forall_const, implies_true, false_implies, Int.reduceLE, Int.reduceLT, Nat.reduceLeDiff, UInt8.reduceToNat, ↓reduceIte, Nat.reduceEqDiff, Nat.reduceAdd, reduceCtorEq, Int.reduceToNat, clsL, clsS, clsC, k01, k02, k03, k10, k12, k13, k20, k21, k23, k30, k31, k32, n2, c1, c2, c3, gs1]; all_goals rfl, by simp +contextual (disch := first | (simp only [facts, clsL, clsS, clsC, isPtrD]; done) | omega) only [wps, facts, wpb, cst, wpk, wpl, forall_const, implies_true, false_implies, Int.reduceLE, Int.reduceLT, Nat.reduceLeDiff, UInt8.reduceToNat, ↓reduceIte, Nat.reduceEqDiff, Nat.reduceAdd, reduceCtorEq, Int.reduceToNat, clsL, clsS, clsC, k01, k02, k03, k10, k12, k13, k20, k21, k23, k30, k31, k32]; all_goals rfl, .inl ⟨rfl, rfl⟩, Nat.le_refl _⟩, hso⟩⟩ ?_
    rintro m env h' ⟨i, a, n, out, lst, rfl, e1, e3, e6, e7, e8, e9, e22, e23, e24, hi, hol, hni, hx, hC, hsr, hr⟩
    have hxl := hx.1
    have gF : h'.get (h.nx + 1) = some (.cells [.int .i64 0, .int .i64 0] 26 false) := by rw [hx.2 (h.nx + 1) (by omega)]; exact g1
    have hCn := hC.nx
    by_cases hi3 : i < ws.length
    · obtain ⟨w, hw⟩ : ∃ w, w = ws[i] := ⟨_, rfl⟩
      have hwt := wcells_take hi3
      rw [← hw] at hwt
      have hwl3 : i * 3 + 3 ≤ (wcells ws).length := by rw [wcells_len]; omega
      rw [List.drop_eq_getElem_cons hi3, ← hw] at hr hsr
      have hsr2 := hsr.2.le
      have hsr1 := hsr.1
      obtain ⟨b, hlb, hgb, hbn⟩ : ∃ b, l = .slice b 0 ws.length ws.length ∧ h'.get b = some (.cells (wcells ws) 36 true) ∧ b < h1.nx := by
        rcases hA with ⟨_, hw⟩ | ⟨b, k, _, hb2, hl, _, hg, hk⟩
        · have := wcells_len ws; rw [hw] at this; simp at this; omega
        · have : ws.length = k := by have := wcells_len ws; omega
          exact ⟨b, by rw [this]; exact hl, by rw [hx.2 b hb2]; exact hg, hb2⟩
      subst hlb
      have b1 : ¬ b = h'.nx := by omega
      have gw := hC.gw
      have gf := hC.gf
      have w0 : ¬ h1.nx + 1 + 1 + 1 = h'.nx := by omega
      have w1 : ¬ h1.nx + 1 + 1 = h'.nx := by omega
      by_cases hcut : w.kind = 5 ∧ w.text = [59]
      · simp +contextual (disch := first | (simp only [facts, clsL, clsS, clsC, isPtrD]; done) | omega) only [wps, facts, wpb, cst, wpk, wpl, forall_const, implies_true, false_implies, Int.reduceLE, Int.reduceLT, Nat.reduceLeDiff, UInt8.reduceToNat, ↓reduceIte, Nat.reduceEqDiff, Nat.reduceAdd, reduceCtorEq, Int.reduceToNat, clsL, clsS, clsC, Tryd.f16, e1, e3, e6, e7, e8, e9, e22, e23, e24, hi3, hgb, hwt, hwl3, hcl, hic, hcut, gw, gf, w0, w1]
        have hx2 : Ext h' ((h'.push (.cells [.int .i64 0, .str [], .int .i64 0] 36 false)).put h'.nx (.cells [.int .i64 (5 : Nat), .str [59], .int .i64 w.at_] 36 false)) := ((Ext.refl h').push _).put (Nat.le_refl _) _
        have hC2 := hC.stay hx2 (by omega) (by omega) (by omega) (by omega)
        refine ⟨.inr (by omega), callF_of (cut_spec hS _ (h1.nx + 1) _ _ _ _ _ s a n w.at_ out lst hC2 (by omega) (by omega) (by omega) (by omega) (by omega) (by omega) (by omega) (by omega) (by omega) (by omega) (by omega) (by omega) (by omega) (by omega) (by omega) (by omega)) (fun k hk => by rw [fresh_def]; exact .inl (by omega)) ?_⟩
        rintro v h5 ⟨rfl, hn5, hfr, lst', hC5⟩
        have hn5' : h'.nx + 1 ≤ h5.nx := hn5
        have g5 : h5.get h'.nx = some (.cells [.int .i64 (5 : Nat), .str [59], .int .i64 w.at_] 36 false) := by
          rw [hfr h'.nx (by show h'.nx < h'.nx + 1; omega) (by omega) (by omega) (fun o n m q => by have := (hC.acc.blk q).2; omega), put_get, if_pos rfl]
        have gf5 := hC5.gf
        simp +contextual (disch := first | (simp only [facts, clsL, clsS, clsC, isPtrD]; done) | omega) only [wps, facts, wpb, cst, wpk, wpl, forall_const, implies_true, false_implies, Int.reduceLE, Int.reduceLT, Nat.reduceLeDiff, UInt8.reduceToNat, ↓reduceIte, Nat.reduceEqDiff, Nat.reduceAdd, reduceCtorEq, Int.reduceToNat, clsL, clsS, clsC, Tryd.f16, e1, e3, e6, e7, e8, e9, e22, e23, e24, hi3, hgb, hwt, hwl3, hcl, hic, hcut, gw, gf, w0, w1, g5, gf5]
        refine ⟨.inr (by omega), _, ?_, i + 1, w.at_ + 1, 0, (if 0 < n then out ++ [(s.take w.at_).drop a] else out), lst', rfl, ?_⟩
        · omega
        · simp +contextual (disch := first | (simp only [facts, clsL, clsS, clsC, isPtrD]; done) | omega) only [wps, facts, wpb, cst, wpk, wpl, forall_const, implies_true, false_implies, Int.reduceLE, Int.reduceLT, Nat.reduceLeDiff, UInt8.reduceToNat, ↓reduceIte, Nat.reduceEqDiff, Nat.reduceAdd, reduceCtorEq, Int.reduceToNat, clsL, clsS, clsC, e1, e3, e6, e7, e8, e9, e22, e23]
          refine ⟨by omega, ?_, ?_, hC5.setF _ (by omega) (by omega) (by omega) (by omega), hsr.2, ?_⟩
          · split
            · rw [List.length_append]; simp; omega
            · omega
          · refine Ext.put ⟨by omega, fun k hk => ?_⟩ (by omega) _
            rw [hfr k (by show k < h'.nx + 1; omega) (by omega) (by omega) (fun o n m q => by have := (hC.acc.blk q).1; omega), put_get, if_neg (by omega), push_get, if_neg (by omega)]
            exact hx.2 k hk
          · have hcut' : isCut w := hcut
            rw [hr, splitS, if_pos hcut']
      · simp +contextual (disch := first | (simp only [facts, clsL, clsS, clsC, isPtrD]; done) | omega) only [wps, facts, wpb, cst, wpk, wpl, forall_const, implies_true, false_implies, Int.reduceLE, Int.reduceLT, Nat.reduceLeDiff, UInt8.reduceToNat, ↓reduceIte, Nat.reduceEqDiff, Nat.reduceAdd, reduceCtorEq, Int.reduceToNat, clsL, clsS, clsC, Tryd.f16, e1, e3, e6, e7, e8, e9, e22, e23, e24, hi3, hgb, hwt, hwl3, hcl, hic, hcut, gw, gf, w0, w1]
        have hx2 : Ext h' ((h'.push (.cells [.int .i64 0, .str [], .int .i64 0] 36 false)).put h'.nx (.cells [.int .i64 w.kind, .str w.text, .int .i64 w.at_] 36 false)) := ((Ext.refl h').push _).put (Nat.le_refl _) _
        have hC2 := hC.stay hx2 (by omega) (by omega) (by omega) (by omega)
        refine ⟨.inr (by omega), .inr (by omega), _, ?_, i + 1, a, n + 1, out, lst, rfl, ?_⟩
        · omega
        · simp +contextual (disch := first | (simp only [facts, clsL, clsS, clsC, isPtrD]; done) | omega) only [wps, facts, wpb, cst, wpk, wpl, forall_const, implies_true, false_implies, Int.reduceLE, Int.reduceLT, Nat.reduceLeDiff, UInt8.reduceToNat, ↓reduceIte, Nat.reduceEqDiff, Nat.reduceAdd, reduceCtorEq, Int.reduceToNat, clsL, clsS, clsC, e1, e3, e6, e7, e8, e9, e22, e23]
          have hcut' : ¬ isCut w := hcut
          exact ⟨by omega, by omega, by omega, (hx.trans hx2).put (by omega) _, hC2.setW _ (by omega) (by omega) (by omega) (by omega), Sorted.skip hsr, by rw [hr, splitS, if_neg hcut']⟩
    · have gs := hC.gs
      simp +contextual (disch := first | (simp only [facts, clsL, clsS, clsC, isPtrD]; done) | omega) only [wps, facts, wpb, cst, wpk, wpl, forall_const, implies_true, false_implies, Int.reduceLE, Int.reduceLT, Nat.reduceLeDiff, UInt8.reduceToNat, ↓reduceIte, Nat.reduceEqDiff, Nat.reduceAdd, reduceCtorEq, Int.reduceToNat, clsL, clsS, clsC, Tryd.f16, e1, e3, e6, e7, e8, e9, e22, e23, e24, hi3, hcl, hic, gF, gs]
      have hnil : ws.drop i = [] := List.drop_eq_nil_of_le (by omega)
      have hsle := hsr.le
      refine callF_of (cut_spec hS _ (h1.nx + 1) _ _ _ _ _ s a n s.length out lst hC (by omega) (by omega) (by omega) (by omega) (by omega) (by omega) (by omega) (by omega) (by omega) (by omega) (by omega) (by omega) (by omega) (by omega) (by omega) (by omega)) (fun k hk => by rw [fresh_def]; exact .inl (by omega)) ?_
      rintro v h5 ⟨rfl, hn5, hfr, lst', hC5⟩
      have hcl5 := hC5.acc.cell.1
      have hic5 := hC5.acc.cell.2
      have go5 := hC5.go
      have gF5 : h5.get (h.nx + 1) = some (.cells [.int .i64 0, .int .i64 0] 26 false) := by
        rw [hfr (h.nx + 1) (by omega) (by omega) (by omega) (fun o n m q => by have := (hC.acc.blk q).1; omega)]
        exact gF
      simp +contextual (disch := first | (simp only [facts, clsL, clsS, clsC, isPtrD]; done) | omega) only [wps, facts, wpb, cst, wpk, wpl, forall_const, implies_true, false_implies, Int.reduceLE, Int.reduceLT, Nat.reduceLeDiff, UInt8.reduceToNat, ↓reduceIte, Nat.reduceEqDiff, Nat.reduceAdd, reduceCtorEq, Int.reduceToNat, clsL, clsS, clsC, Tryd.f16, e1, e3, e6, e7, e8, e9, e22, e23, e24, hi3, hcl, hic, gF5, gs, go5, hcl5, hic5]
      refine ⟨.inr (by omega), Ext.put ⟨by omega, fun k hk => ?_⟩ (by omega) _, ?_⟩
      · rw [hfr k (by omega) (by omega) (by omega) (fun o n m q => by have := (hC.acc.blk q).1; omega)]
        exact (hX.trans hx).2 k hk
      · rw [splitV, if_neg hlen, hall]
        refine ⟨lst', rfl, ?_⟩
        rw [hr, hnil, splitS]
        exact (hC5.acc.put (by omega)).mono (by omega)
end
end Go.Proofs.YtkibhdbmamfjcaaDoor

/-
  ScanCalls, walked: words and texts held against each other; the law.
-/
set_option linter.unusedSimpArgs false
set_option linter.unusedVariables false
set_option maxRecDepth 10000
namespace Go.Proofs.YtkibhdbmamfjcaaDoor
open Go.Proofs Go.Lx Go.Wx Go.IntWalk
noncomputable section

theorem accW {n0 : Nat} {h : H} {l : V} {ws : List WD} (hA : Acc n0 h l (wcells ws) 36 3) : lenO (some (.slice 36)) l = some (.int .i64 ws.length) := by
  rcases hA with ⟨rfl, hw⟩ | ⟨b, k, _, _, rfl, _, _, hk⟩
  · have : ws.length = 0 := by have := wcells_len ws; rw [hw] at this; simp at this; omega
    rw [this]; rfl
  · have : ws.length = k := by have := wcells_len ws; omega
    rw [this]; rfl
theorem accW_blk {n0 : Nat} {h : H} {l : V} {ws : List WD} (hA : Acc n0 h l (wcells ws) 36 3) (h0 : 0 < ws.length) : ∃ b, l = .slice b 0 ws.length ws.length ∧ h.get b = some (.cells (wcells ws) 36 true) ∧ b < h.nx := by
  rcases hA with ⟨_, hw⟩ | ⟨b, k, _, hb2, hl, _, hg, hk⟩
  · have := wcells_len ws; rw [hw] at this; simp at this; omega
  · have : ws.length = k := by have := wcells_len ws; omega
    exact ⟨b, by rw [this]; exact hl, hg, hb2⟩
theorem accT {n0 : Nat} {h : H} {l : V} {ts : List (List Nat)} (hA : Acc n0 h l (textsV ts) 9 1) : lenO (some (.slice 9)) l = some (.int .i64 ts.length) := by
  rcases hA with ⟨rfl, hw⟩ | ⟨b, k, _, _, rfl, _, _, hk⟩
  · have : ts = [] := by simpa [textsV] using hw
    rw [this]; rfl
  · have : ts.length = k := by rw [textsV, List.length_map] at hk; omega
    rw [this]; rfl
theorem accT_blk {n0 : Nat} {h : H} {l : V} {ts : List (List Nat)} (hA : Acc n0 h l (textsV ts) 9 1) (h0 : 0 < ts.length) : ∃ b, l = .slice b 0 ts.length ts.length ∧ h.get b = some (.cells (textsV ts) 9 true) ∧ b < h.nx := by
  rcases hA with ⟨_, hw⟩ | ⟨b, k, _, hb2, hl, _, hg, hk⟩
  · have : ts = [] := by simpa [textsV] using hw
    rw [this] at h0; simp at h0
  · have : ts.length = k := by rw [textsV, List.length_map] at hk; omega
    exact ⟨b, by rw [this]; exact hl, hg, hb2⟩

variable {S : Set0} (hS : Std S)
include hS
theorem sameWords_spec (h : H) (n0 n1 : Nat) (l m : V) (ws : List WD) (hl : Acc n0 h l (wcells ws) 36 3) (hm : Acc n1 h m (wcells ws) 36 3) (hw : ws.length < 2 ^ 40) : Exact S.cfg 18 [l, m, .bool true] h (.bool true) := by
  refine into Tryd.f18 _ Tryd.func18 (hS.own _ (by decide)) rfl rfl (by kernel_rfl) (by kernel_rfl) ?_
  have a1 := accW hl
  have a2 := accW hm
  have c1 := hl.cell.1
  have c2 := hl.cell.2
  have c3 := hm.cell.1
  have c4 := hm.cell.2
  simp +contextual (disch := first | (simp only [facts, clsL, clsS, clsC, isPtrD]; done) | omega) only [wps, facts, wpb, cst, wpk, wpl, forall_const, implies_true, false_implies, Int.reduceLE, Int.reduceLT, Nat.reduceLeDiff, UInt8.reduceToNat, ↓reduceIte, Nat.reduceEqDiff, Nat.reduceAdd, reduceCtorEq, Int.reduceToNat, clsL, clsS, clsC, Tryd.f18, a1, a2, c1, c2, c3, c4]
  refine run_loop (fun k env h' => ∃ i : Nat, k = ws.length - i ∧ env 0 = l ∧ env 1 = m ∧ env 2 = .bool true ∧ env 7 = .int .i64 i ∧ i ≤ ws.length ∧ h' = h) ws.length ⟨0, by simp +contextual (disch := first | (simp only [facts, clsL, clsS, clsC, isPtrD]; done) | omega) only [wps, facts, wpb, cst, wpk, wpl, forall_const, implies_true, false_implies, Int.reduceLE, Int.reduceLT, Nat.reduceLeDiff, UInt8.reduceToNat, ↓reduceIte, Nat.reduceEqDiff, Nat.reduceAdd, reduceCtorEq, Int.reduceToNat, clsL, clsS, clsC]; exact (Nat.sub_zero _).symm⟩ ?_
  rintro k env h' ⟨i, rfl, e0, e1, e2, e7, hi, rfl⟩
  by_cases hi2 : i < ws.length
  · obtain ⟨b, rfl, hgb, _⟩ := accW_blk hl (by omega)
    obtain ⟨b', rfl, hgb', _⟩ := accW_blk hm (by omega)
    obtain ⟨w0, w1, w2⟩ := wcells_at hi2
    simp +contextual (disch := first | (simp only [facts, clsL, clsS, clsC, isPtrD]; done) | omega | exact dok (by kernel_rfl)) only [draw_calm, draw_calmA, wps, facts, wpb, cst, wpk, wpl, forall_const, implies_true, false_implies, Int.reduceLE, Int.reduceLT, Nat.reduceLeDiff, UInt8.reduceToNat, ↓reduceIte, Nat.reduceEqDiff, Nat.reduceAdd, reduceCtorEq, Int.reduceToNat, clsL, clsS, clsC, Tryd.f18, e0, e1, e2, e7, hi2, hgb, hgb', w0, w1, w2]
    exact ⟨_, by omega, i + 1, rfl, rfl, by omega⟩
  · simp +contextual (disch := first | (simp only [facts, clsL, clsS, clsC, isPtrD]; done) | omega) only [wps, facts, wpb, cst, wpk, wpl, forall_const, implies_true, false_implies, Int.reduceLE, Int.reduceLT, Nat.reduceLeDiff, UInt8.reduceToNat, ↓reduceIte, Nat.reduceEqDiff, Nat.reduceAdd, reduceCtorEq, Int.reduceToNat, clsL, clsS, clsC, Tryd.f18, e0, e1, e2, e7, hi2, a1, a2]
theorem sameTexts_spec (h : H) (n0 n1 : Nat) (l m : V) (ts : List (List Nat)) (hl : Acc n0 h l (textsV ts) 9 1) (hm : Acc n1 h m (textsV ts) 9 1) (hw : ts.length < 2 ^ 40) : Exact S.cfg 19 [l, m] h (.bool true) := by
  refine into Tryd.f19 _ Tryd.func19 (hS.own _ (by decide)) rfl rfl (by kernel_rfl) (by kernel_rfl) ?_
  have a1 := accT hl
  have a2 := accT hm
  have c1 := hl.cell.1
  have c2 := hl.cell.2
  have c3 := hm.cell.1
  have c4 := hm.cell.2
  simp +contextual (disch := first | (simp only [facts, clsL, clsS, clsC, isPtrD]; done) | omega) only [wps, facts, wpb, cst, wpk, wpl, forall_const, implies_true, false_implies, Int.reduceLE, Int.reduceLT, Nat.reduceLeDiff, UInt8.reduceToNat, ↓reduceIte, Nat.reduceEqDiff, Nat.reduceAdd, reduceCtorEq, Int.reduceToNat, clsL, clsS, clsC, Tryd.f19, a1, a2, c1, c2, c3, c4]
  refine run_loop (fun k env h' => ∃ i : Nat, k = ts.length - i ∧ env 0 = l ∧ env 1 = m ∧ env 5 = .int .i64 i ∧ i ≤ ts.length ∧ h' = h) ts.length ⟨0, by simp +contextual (disch := first | (simp only [facts, clsL, clsS, clsC, isPtrD]; done) | omega) only [wps, facts, wpb, cst, wpk, wpl, forall_const, implies_true, false_implies, Int.reduceLE, Int.reduceLT, Nat.reduceLeDiff, UInt8.reduceToNat, ↓reduceIte, Nat.reduceEqDiff, Nat.reduceAdd, reduceCtorEq, Int.reduceToNat, clsL, clsS, clsC]; exact (Nat.sub_zero _).symm⟩ ?_
  rintro k env h' ⟨i, rfl, e0, e1, e5, hi, rfl⟩
  by_cases hi2 : i < ts.length
  · obtain ⟨b, rfl, hgb, _⟩ := accT_blk hl (by omega)
    obtain ⟨b', rfl, hgb', _⟩ := accT_blk hm (by omega)
    have w0 : (textsV ts)[i]? = some (.str ts[i]) := by rw [textsV, List.getElem?_map, List.getElem?_eq_getElem hi2]; rfl
    simp +contextual (disch := first | (simp only [facts, clsL, clsS, clsC, isPtrD]; done) | omega | exact dok (by kernel_rfl)) only [draw_calm, draw_calmA, wps, facts, wpb, cst, wpk, wpl, forall_const, implies_true, false_implies, Int.reduceLE, Int.reduceLT, Nat.reduceLeDiff, UInt8.reduceToNat, ↓reduceIte, Nat.reduceEqDiff, Nat.reduceAdd, reduceCtorEq, Int.reduceToNat, clsL, clsS, clsC, Tryd.f19, e0, e1, e5, hi2, hgb, hgb', w0]
    exact ⟨_, by omega, i + 1, rfl, rfl, by omega⟩
  · simp +contextual (disch := first | (simp only [facts, clsL, clsS, clsC, isPtrD]; done) | omega) only [wps, facts, wpb, cst, wpk, wpl, forall_const, implies_true, false_implies, Int.reduceLE, Int.reduceLT, Nat.reduceLeDiff, UInt8.reduceToNat, ↓reduceIte, Nat.reduceEqDiff, Nat.reduceAdd, reduceCtorEq, Int.reduceToNat, clsL, clsS, clsC, Tryd.f19, e0, e1, e5, hi2, a1, a2]
omit hS
/-- the setting, where lives() stands in -/
structure StdL (S : Set0) : Prop extends StdF S where
  lives : ∀ h : H, Exact S.cfg 13 [] h (.bool true)
theorem nil_same {S : Set0} (hS : Std S) (h : H) : Exact S.cfg 18 [.nilslice, .nilslice, .bool true] h (.bool true) := sameWords_spec hS h 0 0 _ _ [] (.inl ⟨rfl, rfl⟩) (.inl ⟨rfl, rfl⟩) (by decide)
theorem nil_texts {S : Set0} (hS : Std S) (h : H) : Exact S.cfg 19 [.nilslice, .nilslice] h (.bool true) := sameTexts_spec hS h 0 0 _ _ [] (.inl ⟨rfl, rfl⟩) (.inl ⟨rfl, rfl⟩) (by decide)
def wordsOf (s : List Nat) : List WD := if 1048576 < s.length then [] else match allF s with
  | .inl ws => ws
  | .inr _ => []
def textsOf (s : List Nat) : List (List Nat) := if 1048576 < s.length then [] else match allF s with
  | .inl ws => splitS s ws 0 0 []
  | .inr _ => []
def faultE (s : List Nat) : Int := if 1048576 < s.length then 3 else match allF s with
  | .inl _ => 0
  | .inr (e, _) => e
def faultP (s : List Nat) : Int := if 1048576 < s.length then -1 else match allF s with
  | .inl _ => 0
  | .inr (_, p) => p
theorem allV_form {s : List Nat} {n0 : Nat} {h : H} {v : V} (hv : allV s n0 h v) : ∃ l, v = .tuple [l, .agg [.int .i64 (faultE s), .int .i64 (faultP s)]] ∧ Acc n0 h l (wcells (wordsOf s)) 36 3 := by
  unfold allV at hv
  unfold faultE faultP wordsOf
  by_cases hl : 1048576 < s.length
  · rw [if_pos hl] at hv
    rw [if_pos hl, if_pos hl, if_pos hl]
    exact ⟨_, hv, .inl ⟨rfl, rfl⟩⟩
  · rw [if_neg hl] at hv
    rw [if_neg hl, if_neg hl, if_neg hl]
    cases ha : allF s with
    | inl ws => rw [ha] at hv; exact hv
    | inr r => rw [ha] at hv; exact ⟨_, hv, .inl ⟨rfl, rfl⟩⟩
theorem splitV_form {s : List Nat} {n0 : Nat} {h : H} {v : V} (hv : splitV s n0 h v) : ∃ l, v = .tuple [l, .agg [.int .i64 (faultE s), .int .i64 (faultP s)]] ∧ Acc n0 h l (textsV (textsOf s)) 9 1 := by
  unfold splitV at hv
  unfold faultE faultP textsOf
  by_cases hl : 1048576 < s.length
  · rw [if_pos hl] at hv
    rw [if_pos hl, if_pos hl, if_pos hl]
    exact ⟨_, hv, .inl ⟨rfl, rfl⟩⟩
  · rw [if_neg hl] at hv
    rw [if_neg hl, if_neg hl, if_neg hl]
    cases ha : allF s with
    | inl ws => rw [ha] at hv; exact hv
    | inr r => rw [ha] at hv; exact ⟨_, hv, .inl ⟨rfl, rfl⟩⟩
theorem splitS_len (s : List Nat) : ∀ (ws : List WD) (a n : Nat) (out : List (List Nat)), (splitS s ws a n out).length ≤ out.length + ws.length + 1
  | [], a, n, out => by
    rw [splitS]
    split <;> simp
  | w :: l, a, n, out => by
    rw [splitS]
    split
    · refine Nat.le_trans (splitS_len s l _ _ _) ?_
      split <;> simp <;> omega
    · refine Nat.le_trans (splitS_len s l _ _ _) ?_
      simp
theorem lens {s : List Nat} (hb : Bytes s) : (wordsOf s).length < 2 ^ 40 ∧ (textsOf s).length < 2 ^ 40 := by
  unfold wordsOf textsOf
  by_cases hl : 1048576 < s.length
  · rw [if_pos hl, if_pos hl]
    exact ⟨by simp, by simp⟩
  · rw [if_neg hl, if_neg hl]
    cases ha : allF s with
    | inr r => exact ⟨by simp, by simp⟩
    | inl ws =>
      have h1 := (allF_sorted hb ha).len
      have h2 := splitS_len s ws 0 0 []
      simp only [List.length_nil] at h2
      exact ⟨by show ws.length < _; omega, by show (splitS s ws 0 0 []).length < _; omega⟩
/-- what the law's four calls give, at once: a list, a fault, twice the same -/
theorem calls_spec {S : Set0} (hS : StdL S) (s : List Nat) (h : H) (hb : Bytes s) (hs : s.length < 2 ^ 63) : Pure S.cfg 3 [.str s] h fun v _ => v = .bool true := by
  refine into Tryd.f3 _ Tryd.func3 (hS.own _ (by decide)) rfl rfl (by kernel_rfl) (by kernel_rfl) ?_
  have b1 := fun q a b c d => agg_eql 26 q a b c d rfl
  simp +contextual (disch := first | (simp only [facts, clsL, clsS, clsC, isPtrD]; done) | omega) only [wps, facts, wpb, cst, wpk, wpl, forall_const, implies_true, false_implies, Int.reduceLE, Int.reduceLT, Nat.reduceLeDiff, UInt8.reduceToNat, ↓reduceIte, Nat.reduceEqDiff, Nat.reduceAdd, reduceCtorEq, Int.reduceToNat, clsL, clsS, clsC, Tryd.f3]
  refine callF_exact (hS.lives _) ?_
  by_cases hm : 2000 < s.length ∧ s.length ≤ 1048576
  · simp +contextual (disch := first | (simp only [facts, clsL, clsS, clsC, isPtrD]; done) | omega) only [wps, facts, wpb, cst, wpk, wpl, forall_const, implies_true, false_implies, Int.reduceLE, Int.reduceLT, Nat.reduceLeDiff, UInt8.reduceToNat, ↓reduceIte, Nat.reduceEqDiff, Nat.reduceAdd, reduceCtorEq, Int.reduceToNat, clsL, clsS, clsC, Tryd.f3, hm]
    exact Ext.refl h
  simp +contextual (disch := first | (simp only [facts, clsL, clsS, clsC, isPtrD]; done) | omega) only [wps, facts, wpb, cst, wpk, wpl, forall_const, implies_true, false_implies, Int.reduceLE, Int.reduceLT, Nat.reduceLeDiff, UInt8.reduceToNat, ↓reduceIte, Nat.reduceEqDiff, Nat.reduceAdd, reduceCtorEq, Int.reduceToNat, clsL, clsS, clsC, Tryd.f3, hm]
  refine callF_pure (all_spec hS.toStdF s _ hb hs) ?_
  intro v1 h1 hx1 hv1
  obtain ⟨l, rfl, hl⟩ := allV_form hv1
  have hlc := hl.cell
  obtain ⟨hl1, hl2⟩ := hlc
  simp +contextual (disch := first | (simp only [facts, clsL, clsS, clsC, isPtrD]; done) | omega) only [wps, facts, wpb, cst, wpk, wpl, forall_const, implies_true, false_implies, Int.reduceLE, Int.reduceLT, Nat.reduceLeDiff, UInt8.reduceToNat, ↓reduceIte, Nat.reduceEqDiff, Nat.reduceAdd, reduceCtorEq, Int.reduceToNat, clsL, clsS, clsC, Tryd.f3, hm, hl1, hl2]
  refine ⟨.inr hx1.1, ?_⟩
  refine callF_pure (rall_spec hS.toStd s _ hb hs) ?_
  intro v2 h2 hx2 hv2
  obtain ⟨m, rfl, hm2⟩ := allV_form hv2
  obtain ⟨hm1, hm3⟩ := hm2.cell
  have q2 : h1.nx + 1 ≤ h2.nx := hx2.1
  simp +contextual (disch := first | (simp only [facts, clsL, clsS, clsC, isPtrD]; done) | omega) only [wps, facts, wpb, cst, wpk, wpl, forall_const, implies_true, false_implies, Int.reduceLE, Int.reduceLT, Nat.reduceLeDiff, UInt8.reduceToNat, ↓reduceIte, Nat.reduceEqDiff, Nat.reduceAdd, reduceCtorEq, Int.reduceToNat, clsL, clsS, clsC, Tryd.f3, hm, hl1, hl2, hm1, hm3]
  refine ⟨.inr (by have := hx1.1; omega), ?_⟩
  refine callF_pure (split_spec hS.toStd hS.toStdF s _ hb hs) ?_
  intro v3 h3 hx3 hv3
  obtain ⟨p, rfl, hp⟩ := splitV_form hv3
  obtain ⟨hp1, hp2⟩ := hp.cell
  have q3 : h2.nx + 1 ≤ h3.nx := hx3.1
  simp +contextual (disch := first | (simp only [facts, clsL, clsS, clsC, isPtrD]; done) | omega) only [wps, facts, wpb, cst, wpk, wpl, forall_const, implies_true, false_implies, Int.reduceLE, Int.reduceLT, Nat.reduceLeDiff, UInt8.reduceToNat, ↓reduceIte, Nat.reduceEqDiff, Nat.reduceAdd, reduceCtorEq, Int.reduceToNat, clsL, clsS, clsC, Tryd.f3, hm, hl1, hl2, hm1, hm3, hp1, hp2]
  have q1 := hx1.1
  refine ⟨.inr (by omega), ?_⟩
  refine callF_pure (rsplit_spec hS.toStd s _ hb hs) ?_
  intro v4 h4 hx4 hv4
  obtain ⟨r, rfl, hr⟩ := splitV_form hv4
  obtain ⟨hr1, hr2⟩ := hr.cell
  have q4 : h3.nx + 1 ≤ h4.nx := hx4.1
  simp +contextual (disch := first | (simp only [facts, clsL, clsS, clsC, isPtrD]; done) | omega) only [wps, facts, wpb, cst, wpk, wpl, forall_const, implies_true, false_implies, Int.reduceLE, Int.reduceLT, Nat.reduceLeDiff, UInt8.reduceToNat, ↓reduceIte, Nat.reduceEqDiff, Nat.reduceAdd, reduceCtorEq, Int.reduceToNat, clsL, clsS, clsC, Tryd.f3, hm, hl1, hl2, hm1, hm3, hp1, hp2, hr1, hr2]
  refine ⟨.inr (by omega), ?_⟩
  have g3 : h4.get h3.nx = some (.cells [.int .i64 (faultE s), .int .i64 (faultP s)] 26 false) := by
    rw [hx4.2 h3.nx (Nat.lt_succ_self _), put_get, if_pos rfl]
  have g2 : h4.get h2.nx = some (.cells [.int .i64 (faultE s), .int .i64 (faultP s)] 26 false) := by
    rw [hx4.2 h2.nx (by show h2.nx < h3.nx + 1; omega), put_get, if_neg (by omega), push_get, if_neg (by omega), hx3.2 h2.nx (Nat.lt_succ_self _), put_get, if_pos rfl]
  have g1 : h4.get h1.nx = some (.cells [.int .i64 (faultE s), .int .i64 (faultP s)] 26 false) := by
    rw [hx4.2 h1.nx (by show h1.nx < h3.nx + 1; omega), put_get, if_neg (by omega), push_get, if_neg (by omega), hx3.2 h1.nx (by show h1.nx < h2.nx + 1; omega), put_get, if_neg (by omega), push_get, if_neg (by omega), hx2.2 h1.nx (Nat.lt_succ_self _), put_get, if_pos rfl]
  have x12 : Ext h1 h2 := (((Ext.refl h1).push _).put (Nat.le_refl _) _).trans hx2
  have x23 : Ext h2 h3 := (((Ext.refl h2).push _).put (Nat.le_refl _) _).trans hx3
  have x34 : Ext h3 h4 := (((Ext.refl h3).push _).put (Nat.le_refl _) _).trans hx4
  obtain ⟨H5, hH5⟩ : ∃ H5, H5 = (h4.push (.cells [.int .i64 0, .int .i64 0] 26 false)).put h4.nx (.cells [.int .i64 (faultE s), .int .i64 (faultP s)] 26 false) := ⟨_, rfl⟩
  have x45 : Ext h4 H5 := by rw [hH5]; exact ((Ext.refl h4).push _).put (Nat.le_refl _) _
  have g4 : H5.get h4.nx = some (.cells [.int .i64 (faultE s), .int .i64 (faultP s)] 26 false) := by rw [hH5, put_get, if_pos rfl]
  have g3' := (x45.2 h3.nx (by omega)).trans g3
  have g2' := (x45.2 h2.nx (by omega)).trans g2
  have g1' := (x45.2 h1.nx (by omega)).trans g1
  rw [← hH5]
  have y1 := ((x12.trans x23).trans x34).trans x45
  have y2 := (x23.trans x34).trans x45
  have y3 := x34.trans x45
  have z1 := hl.stay y1.1 fun k _ hk => y1.2 k hk
  have z2 := hm2.stay y2.1 fun k _ hk => y2.2 k hk
  have z3 := hp.stay y3.1 fun k _ hk => y3.2 k hk
  have z4 := hr.stay x45.1 fun k _ hk => x45.2 k hk
  obtain ⟨w1, w2⟩ := lens hb
  have c1 := sameWords_spec hS.toStd H5 _ _ l m _ z1 z2 w1
  have c2 := sameTexts_spec hS.toStd H5 _ _ p r _ z3 z4 w2
  rw [boolT] at c1 c2
  refine callF_exact c1 ?_
  simp +contextual (disch := first | (simp only [facts, clsL, clsS, clsC, isPtrD]; done) | omega) only [wps, facts, wpb, cst, wpk, wpl, forall_const, implies_true, false_implies, Int.reduceLE, Int.reduceLT, Nat.reduceLeDiff, UInt8.reduceToNat, ↓reduceIte, Nat.reduceEqDiff, Nat.reduceAdd, reduceCtorEq, Int.reduceToNat, clsL, clsS, clsC, Tryd.f3, hm, hl1, hl2, hm1, hm3, hp1, hp2, hr1, hr2, g1', g2', g3', g4, b1]
  refine callF_exact c2 ?_
  simp +contextual (disch := first | (simp only [facts, clsL, clsS, clsC, isPtrD]; done) | omega) only [wps, facts, wpb, cst, wpk, wpl, forall_const, implies_true, false_implies, Int.reduceLE, Int.reduceLT, Nat.reduceLeDiff, UInt8.reduceToNat, ↓reduceIte, Nat.reduceEqDiff, Nat.reduceAdd, reduceCtorEq, Int.reduceToNat, clsL, clsS, clsC, Tryd.f3, hm, hl1, hl2, hm1, hm3, hp1, hp2, hr1, hr2, g1', g2', g3', g4, b1]
  exact hx1.trans y1
end
end Go.Proofs.YtkibhdbmamfjcaaDoor
