/-
  Several texts of one walk, joined.
-/
import Derived.Test.YtkibhdbmamfjcaaDoorScanC
import Derived.Test.YtkibhdbmamfjcaaDoorWxZ
/-
  scan: a text cut off ahead of a sign that ends words has the same words up to there; words from a place on, as a relation.
-/
set_option linter.unusedSimpArgs false
set_option linter.unusedVariables false
set_option maxRecDepth 10000
namespace Go.Proofs.YtkibhdbmamfjcaaDoor
open Go.Proofs Go.Lx Go.Wx Go.IntWalk
noncomputable section

/-- a sign ; or a line's end -/
def stopB (c : Nat) : Prop := c = 59 ∨ c = 10

theorem hasP_le {u x p : List Nat} (h : p.length ≤ u.length) : hasP (u ++ x) p ↔ hasP u p := by
  unfold hasP
  rw [List.take_append_of_le_length h, List.length_append]
  constructor
  · rintro ⟨_, h2⟩; exact ⟨h, h2⟩
  · rintro ⟨_, h2⟩; exact ⟨by omega, h2⟩
theorem hasP_stop {u w p : List Nat} {c : Nat} (hc : c ∉ p) : hasP (u ++ c :: w) p ↔ hasP u p := by
  by_cases hl : p.length ≤ u.length
  · exact hasP_le hl
  · constructor
    · rintro ⟨h1, h2⟩
      refine (hc ?_).elim
      rw [← h2, List.take_append]
      obtain ⟨k, hk⟩ : ∃ k, p.length - u.length = k + 1 := ⟨p.length - u.length - 1, by omega⟩
      rw [hk]
      simp
    · rintro ⟨h1, _⟩; exact (hl h1).elim
theorem countW_cut {p : Nat → Prop} [DecidablePred p] {c : Nat} (hc : ¬ p c) (w : List Nat) : ∀ u : List Nat, countW p (u ++ c :: w) = countW p u
  | [] => by simp [countW, List.takeWhile_cons, hc]
  | x :: u => by
    have ih := countW_cut hc w u
    unfold countW at *
    by_cases hx : p x
    · simp [List.takeWhile_cons, hx]; exact ih
    · simp [List.takeWhile_cons, hx]
theorem getD_lt {u x : List Nat} {i : Nat} (h : i < u.length) : (u ++ x).getD i 0 = u.getD i 0 := by
  simp [List.getD_eq_getElem?_getD, List.getElem?_append_left h]
theorem getD_at {u w : List Nat} {c : Nat} : (u ++ c :: w).getD u.length 0 = c := by
  simp [List.getD_eq_getElem?_getD]
theorem drop_le {u x : List Nat} {i : Nat} (h : i ≤ u.length) : (u ++ x).drop i = u.drop i ++ x := List.drop_append_of_le_length h
theorem take_le {u x : List Nat} {i : Nat} (h : i ≤ u.length) : (u ++ x).take i = u.take i := List.take_append_of_le_length h
theorem len_app {u w : List Nat} {c : Nat} : (u ++ c :: w).length = u.length + w.length + 1 := by simp; omega

section
variable {u w : List Nat} {c : Nat}

theorem deci_cut (hc : stopB c) : deci (u ++ c :: w) = deci u := by
  have hd : ¬ isDigit c := by unfold isDigit; rcases hc with h | h <;> omega
  have h46 : c ≠ 46 := by rcases hc with h | h <;> omega
  have hle := countW_le isDigit u
  unfold deci
  rw [countW_cut hd]
  by_cases hl : countW isDigit u < u.length
  · rw [getD_lt hl, drop_le (by omega), countW_cut hd]
    have h' : countW isDigit u < u.length + w.length + 1 := by omega
    simp only [hl, h', len_app, true_and]
  · have e : countW isDigit u = u.length := by omega
    rw [if_neg, if_neg]
    · exact fun q => hl q.1
    · rw [e, getD_at]
      exact fun q => h46 q.2.1
theorem expK_cut (hc : stopB c) {n : Nat} (hn : n < u.length) : expK (u ++ c :: w) n = expK u n := by
  unfold expK
  by_cases hl : n + 1 < u.length
  · rw [getD_lt hl]
    have h' : n + 1 < u.length + w.length + 1 := by omega
    simp only [hl, h', len_app, true_and]
  · have e : n + 1 = u.length := by omega
    rw [if_neg, if_neg]
    · exact fun q => hl q.1
    · rw [e, getD_at]
      rintro ⟨_, q⟩
      rcases hc with h | h <;> rcases q with q | q <;> omega
theorem expK_le {n : Nat} (hn : n < u.length) : expK u n ≤ u.length := by
  unfold expK
  split <;> omega
theorem expo_cut (hc : stopB c) {n : Nat} (hn : n ≤ u.length) : expo (u ++ c :: w) n = expo u n := by
  have hd : ¬ isDigit c := by unfold isDigit; rcases hc with h | h <;> omega
  unfold expo
  by_cases hl : n < u.length
  · rw [getD_lt hl, expK_cut hc hl, drop_le (expK_le hl), countW_cut hd]
    have h' : n < u.length + w.length + 1 := by omega
    simp only [hl, h', len_app, true_and]
  · have e : n = u.length := by omega
    rw [if_neg, if_neg]
    · exact fun q => hl q.1
    · rw [e, getD_at]
      rintro ⟨_, q, _⟩
      rcases hc with h | h <;> rcases q with q | q <;> omega
theorem deci_le (u : List Nat) : deci u ≤ u.length := by
  have hc2 := countW_le isDigit u
  have hc3 := countW_le isDigit (u.drop (countW isDigit u + 1))
  rw [List.length_drop] at hc3
  unfold deci
  split <;> omega
theorem hexPre_iff (s : List Nat) : hexPre s ↔ (hasP s [48, 120] ∨ hasP s [48, 88]) := Iff.rfl
theorem numN_cut (hc : stopB c) : numN (u ++ c :: w) = numN u := by
  have hh : ¬ isHex c := by unfold isHex isDigit; rcases hc with h | h <;> omega
  have e1 : hexPre (u ++ c :: w) ↔ hexPre u := by
    rw [hexPre_iff, hexPre_iff, hasP_stop (by simp; rcases hc with h | h <;> omega), hasP_stop (by simp; rcases hc with h | h <;> omega)]
  unfold numN
  rw [deci_cut hc, expo_cut hc (deci_le u)]
  by_cases hp : hexPre u
  · have hl : 2 ≤ u.length := by rcases hp with q | q <;> exact q.1
    rw [drop_le hl, countW_cut hh]
    simp only [e1]
  · simp only [e1, hp, false_and, if_false]
theorem dec_cut (hc : stopB c) (h0 : u ≠ []) : dec (u ++ c :: w) = dec u := by
  match u, h0 with
  | [a], _ => rcases hc with rfl | rfl <;> simp [dec, cond_eq_ite, Nat.blt_eq]
  | [a, b], _ => rcases hc with rfl | rfl <;> simp [dec, cond_eq_ite, Nat.blt_eq]
  | [a, b, d], _ => rcases hc with rfl | rfl <;> simp [dec, cond_eq_ite, Nat.blt_eq]
  | a :: b :: d :: e :: l, _ => rcases hc with rfl | rfl <;> simp [dec, cond_eq_ite, Nat.blt_eq]
theorem runF_cut (hc : stopB c) : ∀ (n : Nat) (u : List Nat), u.length = n → runF (u ++ c :: w) = runF u := by
  intro n
  induction n using Nat.strongRecOn with
  | ind n ih =>
    intro u hu
    by_cases h0 : u = []
    · subst h0
      have hd : dec (c :: w) = (c, 1) := by rcases hc with rfl | rfl <;> simp [dec, cond_eq_ite, Nat.blt_eq]
      rw [runF_nil, List.nil_append, runF_stop (by simp) (by unfold badR; rw [hd]; rcases hc with rfl | rfl <;> simp) (by rw [hd]; unfold letterR; rcases hc with rfl | rfl <;> simp) (by rw [hd]; unfold isDigit; rcases hc with rfl | rfl <;> simp)]
    · have hd := dec_cut (w := w) hc h0
      have hp := dec_pos u
      have hw := dec_le u h0
      have hne : u ++ c :: w ≠ [] := by simp
      have hb : badR (u ++ c :: w) ↔ badR u := by unfold badR; rw [hd]
      have hdr : (u ++ c :: w).drop (dec u).2 = u.drop (dec u).2 ++ c :: w := drop_le hw
      have ih1 := ih (u.drop (dec u).2).length (by rw [List.length_drop]; omega) _ rfl
      by_cases h1 : badR u
      · rw [runF_bad h0 h1, runF_bad hne (hb.2 h1)]
      · by_cases h2 : letterR (dec u).1
        · rw [runF_letter h0 h1 h2, runF_letter hne (fun q => h1 (hb.1 q)) (by rw [hd]; exact h2), hd, hdr, ih1]
        · by_cases h3 : isDigit (dec u).1
          · rw [runF_digit h0 h1 h2 h3, runF_digit hne (fun q => h1 (hb.1 q)) (by rw [hd]; exact h2) (by rw [hd]; exact h3), hd, hdr, ih1]
          · rw [runF_stop h0 h1 h2 h3, runF_stop hne (fun q => h1 (hb.1 q)) (by rw [hd]; exact h2) (by rw [hd]; exact h3)]
theorem nameN_cut (hc : stopB c) : nameN (u ++ c :: w) = nameN u := by
  unfold nameN
  rw [runF_cut hc _ u rfl]
theorem nameD_cut (hc : stopB c) : nameD (u ++ c :: w) = nameD u := by
  unfold nameD
  rw [runF_cut hc _ u rfl, take_le (runF_le u)]
theorem numD_cut (hc : stopB c) : numD (u ++ c :: w) = numD u := by
  unfold numD
  rw [numN_cut hc, take_le (numN_le u)]
theorem eitherD_cut (hc : stopB c) : eitherD (u ++ c :: w) = eitherD u := by
  unfold eitherD
  rw [numN_cut hc, nameN_cut hc, nameD_cut hc, numD_cut hc]
theorem sysN_cut (hc : stopB c) : ∀ (f : Nat) (u : List Nat), sysN f (u ++ c :: w) = sysN f u
  | 0, u => rfl
  | f + 1, u => by
    have hle := runF_le u
    unfold sysN
    rw [runF_cut hc _ u rfl]
    by_cases hl : (runF u).1 < u.length
    · rw [getD_lt hl, drop_le (by omega), sysN_cut hc f]
      have h' : (runF u).1 < u.length + w.length + 1 := by omega
      simp only [hl, h', len_app, true_and]
    · have e : (runF u).1 = u.length := by omega
      rw [if_neg, if_neg]
      · exact fun q => hl q.1
      · rw [e, getD_at]
        rintro ⟨_, q⟩
        rcases hc with h | h <;> omega
theorem sysN_any : ∀ (f g : Nat) (s : List Nat), s.length < f → s.length < g → sysN f s = sysN g s
  | 0, g, s, h, _ => by omega
  | f + 1, 0, s, _, h => by omega
  | f + 1, g + 1, s, hf, hg => by
    unfold sysN
    split
    · rename_i h
      rw [sysN_any f g _ (by rw [List.length_drop]; omega) (by rw [List.length_drop]; omega)]
    · rfl
theorem sysD_cut (hc : stopB c) : sysD (u ++ c :: w) = sysD u := by
  unfold sysD
  have e1 : hasP (u ++ c :: w) [64, 64] ↔ hasP u [64, 64] := hasP_stop (by simp; rcases hc with h | h <;> omega)
  by_cases hp : hasP u [64, 64]
  · have hl : 2 ≤ u.length := hp.1
    have es : sysE (u ++ c :: w) = sysE u := by
      unfold sysE
      rw [drop_le hl, sysN_cut hc]
      exact sysN_any _ _ _ (by rw [List.length_drop, len_app]; omega) (by rw [List.length_drop]; omega)
    have hle := sysN_le (u.length + 1) (u.drop 2)
    rw [List.length_drop] at hle
    have hle : 2 + sysE u ≤ u.length := by unfold sysE; omega
    rw [if_pos (e1.2 hp), if_pos hp, es, take_le hle]
  · rw [if_neg (fun q => hp (e1.1 q)), if_neg hp]

/-! ### Quotes -/

theorem qF_pos : ∀ (n : Nat) {s : List Nat} {r}, s.length = n → qF s = some r → 1 ≤ r.2 := by
  intro n s r hn h
  cases s with
  | nil => cases h
  | cons x l =>
    rw [qF.eq_def] at h
    simp only at h
    split at h
    · split at h
      · cases h; simp
      · split at h
        · rename_i l' _; cases hq : qF l' <;> rw [hq] at h <;> cases h; simp
        · cases h; simp
    · cases hq : qF l <;> rw [hq] at h <;> cases h; simp
theorem qF_fwd (hc : c ≠ 96) : ∀ (n : Nat) (u : List Nat), u.length = n → ∀ {r}, qF u = some r → qF (u ++ c :: w) = some r := by
  intro n
  induction n using Nat.strongRecOn with
  | ind n ih =>
    intro u hu r h
    match u, hu, h with
    | x :: l, hu, h =>
      rw [qF.eq_def] at h
      rw [List.cons_append, qF.eq_def]
      simp only at h ⊢
      by_cases hx : x = 96
      · rw [if_pos hx] at h ⊢
        match l, hu, h with
        | [], hu, h =>
          simp only [List.nil_append]
          rw [if_neg hc]; exact h
        | y :: l', hu, h =>
          simp only [List.cons_append] at h ⊢
          by_cases hy : y = 96
          · rw [if_pos hy] at h ⊢
            cases hq : qF l' with
            | none => rw [hq] at h; cases h
            | some r' =>
              rw [hq] at h
              rw [ih l'.length (by simp at hu; omega) l' rfl hq]; exact h
          · rw [if_neg hy] at h ⊢; exact h
      · rw [if_neg hx] at h ⊢
        cases hq : qF l with
        | none => rw [hq] at h; cases h
        | some r' =>
          rw [hq] at h
          rw [ih l.length (by simp at hu; omega) l rfl hq]; exact h
theorem qF_bwd (hc : c ≠ 96) : ∀ (n : Nat) (u : List Nat), u.length = n → ∀ {r}, qF (u ++ c :: w) = some r → r.2 ≤ u.length → qF u = some r := by
  intro n
  induction n using Nat.strongRecOn with
  | ind n ih =>
    intro u hu r h hr
    match u, hu, h, hr with
    | [], hu, h, hr => have := qF_pos _ rfl h; simp at hr; omega
    | x :: l, hu, h, hr =>
      rw [List.cons_append, qF.eq_def] at h
      rw [qF.eq_def]
      simp only at h ⊢
      by_cases hx : x = 96
      · rw [if_pos hx] at h ⊢
        match l, hu, h, hr with
        | [], hu, h, hr =>
          simp only [List.nil_append] at h
          rw [if_neg hc] at h; exact h
        | y :: l', hu, h, hr =>
          simp only [List.cons_append] at h ⊢
          by_cases hy : y = 96
          · rw [if_pos hy] at h ⊢
            cases hq : qF (l' ++ c :: w) with
            | none => rw [hq] at h; cases h
            | some r' =>
              rw [hq] at h
              have e : (96 :: r'.1, r'.2 + 2) = r := by simpa using h
              rw [ih l'.length (by simp at hu; omega) l' rfl hq (by subst e; simp at hr; omega)]; exact h
          · rw [if_neg hy] at h ⊢; exact h
      · rw [if_neg hx] at h ⊢
        cases hq : qF (l ++ c :: w) with
        | none => rw [hq] at h; cases h
        | some r' =>
          rw [hq] at h
          have e : (x :: r'.1, r'.2 + 1) = r := by simpa using h
          rw [ih l.length (by simp at hu; omega) l rfl hq (by subst e; simp at hr; omega)]; exact h
theorem tF_pos {q : Nat} : ∀ {s : List Nat} {r}, tF q s = some r → 1 ≤ r.2 := by
  intro s r h
  cases s with
  | nil => cases h
  | cons x l =>
    rw [tF.eq_def] at h
    simp only at h
    split at h
    · split at h
      · cases h
      · rename_i l'; cases hq : tF q l' <;> rw [hq] at h <;> cases h; simp
    · split at h
      · split at h
        · cases h; simp
        · split at h
          · rename_i l' _; cases hq : tF q l' <;> rw [hq] at h <;> cases h; simp
          · cases h; simp
      · cases hq : tF q l <;> rw [hq] at h <;> cases h; simp
theorem tF_fwd {q : Nat} (hc : c ≠ q) : ∀ (n : Nat) (u : List Nat), u.length = n → ∀ {r}, tF q u = some r → tF q (u ++ c :: w) = some r := by
  intro n
  induction n using Nat.strongRecOn with
  | ind n ih =>
    intro u hu r h
    match u, hu, h with
    | x :: l, hu, h =>
      rw [tF.eq_def] at h
      rw [List.cons_append, tF.eq_def]
      simp only at h ⊢
      by_cases hx0 : x = 92
      · rw [if_pos hx0] at h ⊢
        match l, hu, h with
        | [], hu, h => cases h
        | y :: l', hu, h =>
          simp only [List.cons_append] at h ⊢
          cases hq : tF q l' with
          | none => rw [hq] at h; cases h
          | some r' =>
            rw [hq] at h
            rw [ih l'.length (by simp at hu; omega) l' rfl hq]; exact h
      · rw [if_neg hx0] at h ⊢
        by_cases hx : x = q
        · rw [if_pos hx] at h ⊢
          match l, hu, h with
          | [], hu, h =>
            simp only [List.nil_append]
            rw [if_neg hc]; exact h
          | y :: l', hu, h =>
            simp only [List.cons_append] at h ⊢
            by_cases hy : y = q
            · rw [if_pos hy] at h ⊢
              cases hq : tF q l' with
              | none => rw [hq] at h; cases h
              | some r' =>
                rw [hq] at h
                rw [ih l'.length (by simp at hu; omega) l' rfl hq]; exact h
            · rw [if_neg hy] at h ⊢; exact h
        · rw [if_neg hx] at h ⊢
          cases hq : tF q l with
          | none => rw [hq] at h; cases h
          | some r' =>
            rw [hq] at h
            rw [ih l.length (by simp at hu; omega) l rfl hq]; exact h
theorem tF_bwd {q : Nat} (hc : c ≠ q) : ∀ (n : Nat) (u : List Nat), u.length = n → ∀ {r}, tF q (u ++ c :: w) = some r → r.2 ≤ u.length → tF q u = some r := by
  intro n
  induction n using Nat.strongRecOn with
  | ind n ih =>
    intro u hu r h hr
    match u, hu, h, hr with
    | [], hu, h, hr => have := tF_pos h; simp at hr; omega
    | x :: l, hu, h, hr =>
      rw [List.cons_append, tF.eq_def] at h
      rw [tF.eq_def]
      simp only at h ⊢
      by_cases hx0 : x = 92
      · rw [if_pos hx0] at h ⊢
        match l, hu, h, hr with
        | [], hu, h, hr =>
          simp only [List.nil_append] at h
          cases hq : tF q w with
          | none => rw [hq] at h; cases h
          | some r' =>
            rw [hq] at h
            have e : (escB c ++ r'.1, r'.2 + 2) = r := by simpa using h
            subst e
            simp at hr
        | y :: l', hu, h, hr =>
          simp only [List.cons_append] at h ⊢
          cases hq : tF q (l' ++ c :: w) with
          | none => rw [hq] at h; cases h
          | some r' =>
            rw [hq] at h
            have e : (escB y ++ r'.1, r'.2 + 2) = r := by simpa using h
            rw [ih l'.length (by simp at hu; omega) l' rfl hq (by subst e; simp at hr; omega)]; exact h
      · rw [if_neg hx0] at h ⊢
        by_cases hx : x = q
        · rw [if_pos hx] at h ⊢
          match l, hu, h, hr with
          | [], hu, h, hr =>
            simp only [List.nil_append] at h
            rw [if_neg hc] at h; exact h
          | y :: l', hu, h, hr =>
            simp only [List.cons_append] at h ⊢
            by_cases hy : y = q
            · rw [if_pos hy] at h ⊢
              cases hq : tF q (l' ++ c :: w) with
              | none => rw [hq] at h; cases h
              | some r' =>
                rw [hq] at h
                have e : (q :: r'.1, r'.2 + 2) = r := by simpa using h
                rw [ih l'.length (by simp at hu; omega) l' rfl hq (by subst e; simp at hr; omega)]; exact h
            · rw [if_neg hy] at h ⊢; exact h
        · rw [if_neg hx] at h ⊢
          cases hq : tF q (l ++ c :: w) with
          | none => rw [hq] at h; cases h
          | some r' =>
            rw [hq] at h
            have e : (x :: r'.1, r'.2 + 1) = r := by simpa using h
            rw [ih l.length (by simp at hu; omega) l rfl hq (by subst e; simp at hr; omega)]; exact h

theorem getD_head (h0 : u ≠ []) (x : List Nat) : (u ++ x).getD 0 0 = u.getD 0 0 := getD_lt (List.length_pos_iff.2 h0)
theorem drop_one (h0 : u ≠ []) (x : List Nat) : (u ++ x).drop 1 = u.drop 1 ++ x := drop_le (List.length_pos_iff.2 h0)
theorem quotD_fwd (hc : stopB c) (h0 : u ≠ []) (he : (quotD u).e = 0) : quotD (u ++ c :: w) = quotD u := by
  have h96 : c ≠ 96 := by rcases hc with h | h <;> omega
  unfold quotD at he ⊢
  rw [getD_head h0, drop_one h0]
  split
  · rename_i hq
    rw [if_pos hq] at he
    cases hqf : qF (u.drop 1) with
    | none => rw [hqf] at he; cases he
    | some r => rw [qF_fwd h96 _ _ rfl hqf]
  · rfl
theorem quotD_bwd (hc : stopB c) (h0 : u ≠ []) (he : (quotD (u ++ c :: w)).e = 0) (hn : (quotD (u ++ c :: w)).n ≤ u.length) : quotD u = quotD (u ++ c :: w) := by
  have h96 : c ≠ 96 := by rcases hc with h | h <;> omega
  unfold quotD at he hn ⊢
  rw [getD_head h0, drop_one h0] at he hn ⊢
  split
  · rename_i hq
    rw [if_pos hq] at he hn
    cases hqf : qF (u.drop 1 ++ c :: w) with
    | none => rw [hqf] at he; cases he
    | some r =>
      rw [hqf] at hn
      have hn : r.2 + 1 ≤ u.length := hn
      rw [qF_bwd h96 _ _ rfl hqf (by rw [List.length_drop]; omega)]
  · rfl
theorem textD_fwd (hc : stopB c) (h0 : u ≠ []) (he : (textD u).e = 0) : textD (u ++ c :: w) = textD u := by
  unfold textD at he ⊢
  rw [getD_head h0, drop_one h0]
  split
  · rename_i hq
    rw [if_pos hq] at he
    have h96 : c ≠ u.getD 0 0 := by unfold isQ at hq; rcases hc with h | h <;> omega
    cases hqf : tF (u.getD 0 0) (u.drop 1) with
    | none => rw [hqf] at he; cases he
    | some r => rw [tF_fwd h96 _ _ rfl hqf]
  · rfl
theorem textD_bwd (hc : stopB c) (h0 : u ≠ []) (he : (textD (u ++ c :: w)).e = 0) (hn : (textD (u ++ c :: w)).n ≤ u.length) : textD u = textD (u ++ c :: w) := by
  unfold textD at he hn ⊢
  rw [getD_head h0, drop_one h0] at he hn ⊢
  split
  · rename_i hq
    rw [if_pos hq] at he hn
    have h96 : c ≠ u.getD 0 0 := by unfold isQ at hq; rcases hc with h | h <;> omega
    cases hqf : tF (u.getD 0 0) (u.drop 1 ++ c :: w) with
    | none => rw [hqf] at he; cases he
    | some r =>
      rw [hqf] at hn
      have hn : r.2 + 1 ≤ u.length := hn
      rw [tF_bwd h96 _ _ rfl hqf (by rw [List.length_drop]; omega)]
  · rfl
theorem isPre_app {p : List Nat} (x : List Nat) : ∀ {s : List Nat}, isPre p s = true → isPre p (s ++ x) = true := by
  intro s
  induction p generalizing s with
  | nil => intro _; cases s <;> cases x <;> rfl
  | cons a p ih =>
    intro h
    cases s with
    | nil => cases h
    | cons b s =>
      simp only [isPre, List.cons_append, Bool.and_eq_true] at h ⊢
      exact ⟨h.1, ih h.2⟩
theorem isPre_of_app {p : List Nat} (x : List Nat) : ∀ {s : List Nat}, p.length ≤ s.length → isPre p (s ++ x) = true → isPre p s = true := by
  intro s
  induction p generalizing s with
  | nil => intro _ _; cases s <;> rfl
  | cons a p ih =>
    intro hl h
    cases s with
    | nil => simp at hl
    | cons b s =>
      simp only [isPre, List.cons_append, Bool.and_eq_true] at h ⊢
      exact ⟨h.1, ih (by simpa using hl) h.2⟩
theorem findS_fwd (x : List Nat) {a b : Nat} : ∀ {u : List Nat} {i : Nat}, findS [a, b] u = some i → findS [a, b] (u ++ x) = some i
  | [], i, h => by simp [findS] at h
  | y :: u, i, h => by
    unfold findS at h
    rw [List.cons_append]
    unfold findS
    by_cases hp : isPre [a, b] (y :: u) = true
    · rw [if_pos hp] at h
      have := isPre_app x hp
      rw [List.cons_append] at this
      rw [if_pos this]; exact h
    · rw [if_neg hp] at h
      cases hf : findS [a, b] u with
      | none => rw [hf] at h; cases h
      | some j =>
        rw [hf] at h
        have hle := findS_le hf
        simp only [List.length_cons, List.length_nil] at hle
        rw [if_neg, findS_fwd x hf]
        · exact h
        · intro q
          refine hp (isPre_of_app x (s := y :: u) (by simp; omega) (by rw [List.cons_append]; exact q))
theorem findS_bwd (x : List Nat) {a b : Nat} : ∀ {u : List Nat} {i : Nat}, findS [a, b] (u ++ x) = some i → i + 2 ≤ u.length → findS [a, b] u = some i
  | [], i, h, hl => by simp at hl
  | y :: u, i, h, hl => by
    rw [List.cons_append] at h
    unfold findS at h ⊢
    by_cases hp : isPre [a, b] (y :: (u ++ x)) = true
    · rw [if_pos hp] at h
      cases h
      rw [if_pos (isPre_of_app x (s := y :: u) (by simpa using hl) (by rw [List.cons_append]; exact hp))]
    · rw [if_neg hp] at h
      cases hf : findS [a, b] (u ++ x) with
      | none => rw [hf] at h; cases h
      | some j =>
        rw [hf] at h
        cases h
        rw [if_neg, findS_bwd x hf (by simp at hl; omega)]
        · rfl
        · intro q
          have := isPre_app x q
          rw [List.cons_append] at this
          exact hp this
theorem oddD_fwd (hc : stopB c) (he : (oddD u).e = 0) : oddD (u ++ c :: w) = oddD u := by
  have e1 : hasP (u ++ c :: w) [47, 42, 33] ↔ hasP u [47, 42, 33] := hasP_stop (by simp; rcases hc with h | h <;> omega)
  have e2 : hasP (u ++ c :: w) [47, 42, 43] ↔ hasP u [47, 42, 43] := hasP_stop (by simp; rcases hc with h | h <;> omega)
  unfold oddD at he ⊢
  by_cases hp : hasP u [47, 42, 33] ∨ hasP u [47, 42, 43]
  · have hl : 3 ≤ u.length := by rcases hp with q | q <;> exact q.1
    rw [if_pos hp] at he
    rw [if_pos hp, if_pos (hp.imp e1.2 e2.2), drop_le (by omega)]
    cases hf : findS [42, 47] (u.drop 2) with
    | none => rw [hf] at he; cases he
    | some i =>
      have hle := findS_le hf
      rw [List.length_drop] at hle
      simp only [List.length_cons, List.length_nil] at hle
      rw [findS_fwd _ hf]
      simp only
      rw [take_le (by omega)]
  · rw [if_neg hp, if_neg (fun q => hp (q.imp e1.1 e2.1))]
theorem oddD_bwd (hc : stopB c) (he : (oddD (u ++ c :: w)).e = 0) (hn : (oddD (u ++ c :: w)).n ≤ u.length) : oddD u = oddD (u ++ c :: w) := by
  have e1 : hasP (u ++ c :: w) [47, 42, 33] ↔ hasP u [47, 42, 33] := hasP_stop (by simp; rcases hc with h | h <;> omega)
  have e2 : hasP (u ++ c :: w) [47, 42, 43] ↔ hasP u [47, 42, 43] := hasP_stop (by simp; rcases hc with h | h <;> omega)
  unfold oddD at he hn ⊢
  by_cases hp : hasP u [47, 42, 33] ∨ hasP u [47, 42, 43]
  · have hl : 3 ≤ u.length := by rcases hp with q | q <;> exact q.1
    rw [if_pos (hp.imp e1.2 e2.2), drop_le (by omega)] at he hn
    rw [if_pos hp, if_pos (hp.imp e1.2 e2.2), drop_le (by omega)]
    cases hf : findS [42, 47] (u.drop 2 ++ c :: w) with
    | none => rw [hf] at he; cases he
    | some i =>
      rw [hf] at hn
      have hn : i + 4 ≤ u.length := hn
      rw [findS_bwd _ hf (by rw [List.length_drop]; omega)]
      simp only
      rw [take_le hn]
  · rw [if_neg hp, if_neg (fun q => hp (q.imp e1.1 e2.1))]
theorem trySign_cut (hc : stopB c) (h0 : u ≠ []) : ∀ (l : List (List Nat)), (∀ x ∈ l, x.length ≤ 1 ∨ (59 ∉ x ∧ 10 ∉ x)) → trySign (u ++ c :: w) l = trySign u l
  | [], _ => rfl
  | x :: l, hl => by
    have hx : hasP (u ++ c :: w) x ↔ hasP u x := by
      rcases hl x (by simp) with h | h
      · exact hasP_le (by have := List.length_pos_iff.2 h0; omega)
      · exact hasP_stop (by rcases hc with rfl | rfl; exact h.1; exact h.2)
    unfold hasP at hx
    unfold trySign
    rw [trySign_cut hc h0 l fun y hy => hl y (by simp [hy])]
    by_cases hp : x.length ≤ u.length ∧ u.take x.length = x
    · rw [if_pos hp, if_pos (hx.2 hp)]
    · rw [if_neg hp, if_neg (fun q => hp (hx.1 q))]
theorem signD_cut (hc : stopB c) (h0 : u ≠ []) : signD (u ++ c :: w) = signD u := by
  unfold signD
  rw [getD_head h0, trySign_cut hc h0 _ (by decide)]
theorem none_head (hc : stopB c) : quotD (c :: w) = FD.none ∧ textD (c :: w) = FD.none ∧ nameD (c :: w) = FD.none := by
  refine ⟨?_, ?_, ?_⟩
  · unfold quotD; rcases hc with rfl | rfl <;> simp
  · unfold textD isQ; rcases hc with rfl | rfl <;> simp
  · have := nameD_cut (u := []) (w := w) hc
    rw [List.nil_append] at this
    rw [this]
    unfold nameD
    rw [runF_nil]
    rfl
theorem tryU_same {m : Nat} : ∀ {l l' : List FD}, l.length = l'.length → (∀ (i : Nat) (d d' : FD), l[i]? = some d → l'[i]? = some d' → d.e = 0 → d.n ≤ m → d' = d) → (tryU l).e = 0 → (tryU l).n ≤ m + 1 → tryU l' = tryU l
  | [], [], _, _, _, _ => rfl
  | [], _ :: _, hl, _, _, _ => by simp at hl
  | _ :: _, [], hl, _, _, _ => by simp at hl
  | d :: l, d' :: l', hl, h, he, hn => by
    unfold tryU at he hn ⊢
    by_cases h1 : d.e ≠ 0
    · rw [if_pos h1] at he; exact absurd he h1
    · rw [if_neg h1] at he hn
      have h1' : d.e = 0 := by omega
      by_cases h2 : 0 < d.n
      · rw [if_pos h2] at he hn
        have hn : 1 + d.n ≤ m + 1 := hn
        have := h 0 d d' rfl rfl h1' (by omega)
        subst this
        rw [if_neg h1, if_pos h2, if_neg h1, if_pos h2]
      · rw [if_neg h2] at he hn
        have := h 0 d d' rfl rfl h1' (by omega)
        subst this
        rw [if_neg h1, if_neg h2, if_neg h1, if_neg h2]
        exact tryU_same (by simpa using hl) (fun i => h (i + 1)) he hn
theorem tryW_same {m : Nat} : ∀ {l l' : List FD}, l.length = l'.length → (∀ (i : Nat) (d d' : FD), l[i]? = some d → l'[i]? = some d' → d.e = 0 → d.n ≤ m → d' = d) → (tryW l).e = 0 → (tryW l).n ≤ m → tryW l' = tryW l
  | [], [], _, _, _, _ => rfl
  | [], _ :: _, hl, _, _, _ => by simp at hl
  | _ :: _, [], hl, _, _, _ => by simp at hl
  | d :: l, d' :: l', hl, h, he, hn => by
    unfold tryW at he hn ⊢
    by_cases h1 : d.e ≠ 0
    · rw [if_pos h1] at he; exact absurd he h1
    · rw [if_neg h1] at he hn
      have h1' : d.e = 0 := by omega
      by_cases h2 : 0 < d.n
      · rw [if_pos h2] at he hn
        have := h 0 d d' rfl rfl h1' (by omega)
        subst this
        rw [if_neg h1, if_pos h2, if_neg h1, if_pos h2]
      · rw [if_neg h2] at he hn
        have := h 0 d d' rfl rfl h1' (by omega)
        subst this
        rw [if_neg h1, if_neg h2, if_neg h1, if_neg h2]
        exact tryW_same (by simpa using hl) (fun i => h (i + 1)) he hn
theorem three {α : Type} {a b d a' b' d' x x' : α} {i : Nat} (h1 : [a, b, d][i]? = some x) (h2 : [a', b', d'][i]? = some x') : (x = a ∧ x' = a') ∨ (x = b ∧ x' = b') ∨ (x = d ∧ x' = d') := by
  match i with
  | 0 => simp at h1 h2; exact .inl ⟨h1.symm, h2.symm⟩
  | 1 => simp at h1 h2; exact .inr (.inl ⟨h1.symm, h2.symm⟩)
  | 2 => simp at h1 h2; exact .inr (.inr ⟨h1.symm, h2.symm⟩)
  | n + 3 => simp at h1
theorem userD_bwd (hc : stopB c) (h0 : u ≠ []) (he : (userD (u ++ c :: w)).e = 0) (hn : (userD (u ++ c :: w)).n ≤ u.length) : userD u = userD (u ++ c :: w) := by
  have hl := List.length_pos_iff.2 h0
  unfold userD at he hn ⊢
  rw [getD_head h0, drop_one h0] at he hn ⊢
  rw [if_neg (show ¬ (u ++ c :: w).length = 1 by rw [len_app]; omega)] at he hn ⊢
  split
  · rename_i hq
    rw [if_pos hq] at he hn
    by_cases h1 : u.length = 1
    · have hd : u.drop 1 = [] := List.drop_eq_nil_of_le (by omega)
      rw [hd, List.nil_append] at he
      obtain ⟨a1, a2, a3⟩ := none_head (w := w) hc
      rw [a1, a2, a3] at he
      cases he
    · rw [if_neg h1]
      have ht0 : u.drop 1 ≠ [] := fun q => by have := congrArg List.length q; simp at this; omega
      refine tryU_same (m := u.length - 1) (by simp) (fun i d d' h1 h2 he hn => ?_) he (by omega)
      have hdl : (u.drop 1).length = u.length - 1 := List.length_drop
      rcases three h1 h2 with ⟨rfl, rfl⟩ | ⟨rfl, rfl⟩ | ⟨rfl, rfl⟩
      · exact quotD_bwd hc ht0 he (by rw [hdl]; exact hn)
      · exact textD_bwd hc ht0 he (by rw [hdl]; exact hn)
      · exact (nameD_cut hc).symm
  · rfl
theorem userD_fwd (hc : stopB c) (h0 : u ≠ []) (he : (userD u).e = 0) : userD (u ++ c :: w) = userD u := by
  have hl := List.length_pos_iff.2 h0
  unfold userD at he ⊢
  rw [getD_head h0, drop_one h0]
  rw [if_neg (show ¬ (u ++ c :: w).length = 1 by rw [len_app]; omega)]
  split
  · rename_i hq
    rw [if_pos hq] at he
    by_cases h1 : u.length = 1
    · rw [if_pos h1] at he; cases he
    · rw [if_neg h1] at he ⊢
      have ht0 : u.drop 1 ≠ [] := fun q => by have := congrArg List.length q; simp at this; omega
      refine tryU_same (m := (tryU [quotD (u.drop 1), textD (u.drop 1), nameD (u.drop 1)]).n) (by simp) (fun i d d' h1 h2 he hn => ?_) he (by omega)
      rcases three h1 h2 with ⟨rfl, rfl⟩ | ⟨rfl, rfl⟩ | ⟨rfl, rfl⟩
      · exact quotD_fwd hc ht0 he
      · exact textD_fwd hc ht0 he
      · exact nameD_cut hc
  · rfl
theorem seven {α : Type} {a b d e f g k a' b' d' e' f' g' k' x x' : α} {i : Nat} (h1 : [a, b, d, e, f, g, k][i]? = some x) (h2 : [a', b', d', e', f', g', k'][i]? = some x') : (x = a ∧ x' = a') ∨ (x = b ∧ x' = b') ∨ (x = d ∧ x' = d') ∨ (x = e ∧ x' = e') ∨ (x = f ∧ x' = f') ∨ (x = g ∧ x' = g') ∨ (x = k ∧ x' = k') := by
  match i with
  | 0 => simp at h1 h2; exact .inl ⟨h1.symm, h2.symm⟩
  | 1 => simp at h1 h2; exact .inr (.inl ⟨h1.symm, h2.symm⟩)
  | 2 => simp at h1 h2; exact .inr (.inr (.inl ⟨h1.symm, h2.symm⟩))
  | 3 => simp at h1 h2; exact .inr (.inr (.inr (.inl ⟨h1.symm, h2.symm⟩)))
  | 4 => simp at h1 h2; exact .inr (.inr (.inr (.inr (.inl ⟨h1.symm, h2.symm⟩))))
  | 5 => simp at h1 h2; exact .inr (.inr (.inr (.inr (.inr (.inl ⟨h1.symm, h2.symm⟩)))))
  | 6 => simp at h1 h2; exact .inr (.inr (.inr (.inr (.inr (.inr ⟨h1.symm, h2.symm⟩)))))
  | n + 7 => simp at h1
/-- the word at the beginning of what is cut off behind it -/
theorem wordD_bwd (hc : stopB c) (h0 : u ≠ []) (he : (wordD (u ++ c :: w)).e = 0) (hn : (wordD (u ++ c :: w)).n ≤ u.length) : wordD u = wordD (u ++ c :: w) := by
  refine tryW_same (m := u.length) (by simp [finds]) (fun i d d' h1 h2 he hn => ?_) he hn
  rcases seven h1 h2 with ⟨rfl, rfl⟩ | ⟨rfl, rfl⟩ | ⟨rfl, rfl⟩ | ⟨rfl, rfl⟩ | ⟨rfl, rfl⟩ | ⟨rfl, rfl⟩ | ⟨rfl, rfl⟩
  · exact oddD_bwd hc he hn
  · exact (eitherD_cut hc).symm
  · exact quotD_bwd hc h0 he hn
  · exact textD_bwd hc h0 he hn
  · exact (sysD_cut hc).symm
  · exact userD_bwd hc h0 he hn
  · exact (signD_cut hc h0).symm
/-- the word at the beginning, more behind it -/
theorem wordD_fwd (hc : stopB c) (h0 : u ≠ []) (he : (wordD u).e = 0) : wordD (u ++ c :: w) = wordD u := by
  refine tryW_same (m := (wordD u).n) (by simp [finds]) (fun i d d' h1 h2 he hn => ?_) he (Nat.le_refl _)
  rcases seven h1 h2 with ⟨rfl, rfl⟩ | ⟨rfl, rfl⟩ | ⟨rfl, rfl⟩ | ⟨rfl, rfl⟩ | ⟨rfl, rfl⟩ | ⟨rfl, rfl⟩ | ⟨rfl, rfl⟩
  · exact oddD_fwd hc he
  · exact eitherD_cut hc
  · exact quotD_fwd hc h0 he
  · exact textD_fwd hc h0 he
  · exact sysD_cut hc
  · exact userD_fwd hc h0 he
  · exact signD_cut hc h0
theorem findB_fwd (x : List Nat) {b : Nat} : ∀ {u : List Nat} {i : Nat}, findB b u = some i → findB b (u ++ x) = some i
  | [], i, h => by cases h
  | y :: u, i, h => by
    rw [List.cons_append]
    unfold findB at h ⊢
    by_cases hy : y = b
    · rw [if_pos hy] at h ⊢; exact h
    · rw [if_neg hy] at h ⊢
      cases hf : findB b u with
      | none => rw [hf] at h; cases h
      | some j => rw [hf] at h; rw [findB_fwd x hf]; exact h
theorem findB_bwd (x : List Nat) {b : Nat} : ∀ {u : List Nat} {i : Nat}, findB b (u ++ x) = some i → i < u.length → findB b u = some i
  | [], i, h, hl => by simp at hl
  | y :: u, i, h, hl => by
    rw [List.cons_append] at h
    unfold findB at h ⊢
    by_cases hy : y = b
    · rw [if_pos hy] at h ⊢; exact h
    · rw [if_neg hy] at h ⊢
      cases hf : findB b (u ++ x) with
      | none => rw [hf] at h; cases h
      | some j =>
        rw [hf] at h
        cases h
        rw [findB_bwd x hf (by simpa using hl)]
        rfl
theorem line_cut (h0 : u ≠ []) : lineP (u ++ 59 :: w) ↔ lineP u := by
  have hl := List.length_pos_iff.2 h0
  unfold lineP
  rw [getD_head h0, hasP_stop (by simp)]
  by_cases h2 : 2 < u.length
  · rw [getD_lt h2, len_app]
    have h' : 2 < u.length + w.length + 1 := by omega
    simp only [h2, h', true_and]
  · constructor
    · rintro (q | ⟨q1, q2, q3⟩)
      · exact .inl q
      · have := q1.1
        simp only [List.length_cons, List.length_nil] at this
        have e : 2 = u.length := by omega
        rw [e, getD_at] at q3
        simp [isBlank] at q3
    · rintro (q | ⟨q1, q2, q3⟩)
      · exact .inl q
      · exact (h2 q2).elim
theorem odd_cut (hp : hasP u [47, 42]) : oddP (u ++ 59 :: w) ↔ oddP u := by
  have hl : 2 ≤ u.length := hp.1
  unfold oddP
  by_cases h2 : 2 < u.length
  · rw [getD_lt h2, len_app]
    have h' : 2 < u.length + w.length + 1 := by omega
    simp only [h2, h', true_and]
  · have e : 2 = u.length := by omega
    rw [e, getD_at]
    simp
/-- what is passed at the beginning of what is cut off behind it -/
theorem passF_bwd (h0 : u ≠ []) (he : (passF (u ++ 59 :: w)).2 = 0) (hn : (passF (u ++ 59 :: w)).1 ≤ u.length) : passF u = passF (u ++ 59 :: w) := by
  have hl := List.length_pos_iff.2 h0
  unfold passF at he hn ⊢
  rw [getD_head h0] at he hn ⊢
  by_cases hb : isBlank (u.getD 0 0)
  · rw [if_pos hb, if_pos hb]
  · rw [if_neg hb] at he hn
    rw [if_neg hb, if_neg hb]
    by_cases hli : lineP u
    · rw [if_pos ((line_cut h0).2 hli)] at he hn
      rw [if_pos ((line_cut h0).2 hli), if_pos hli]
      cases hf : findB 10 (u ++ 59 :: w) with
      | none =>
        rw [hf] at hn
        have hn : (u ++ 59 :: w).length ≤ u.length := hn
        rw [len_app] at hn
        omega
      | some i =>
        rw [hf] at hn
        have hn : i + 1 ≤ u.length := hn
        rw [findB_bwd _ hf (by omega)]
    · rw [if_neg (fun q => hli ((line_cut h0).1 q))] at he hn
      rw [if_neg (fun q => hli ((line_cut h0).1 q)), if_neg hli]
      by_cases hp : hasP u [47, 42]
      · have hp' : hasP (u ++ 59 :: w) [47, 42] := (hasP_stop (by simp)).2 hp
        have hl2 : 2 ≤ u.length := hp.1
        by_cases ho : oddP u
        · rw [if_pos (.inr ho), if_pos (.inr ((odd_cut hp).2 ho))]
        · have n1 : ¬ (¬ hasP u [47, 42] ∨ oddP u) := fun q => by rcases q with q | q; exact q hp; exact ho q
          have n2 : ¬ (¬ hasP (u ++ 59 :: w) [47, 42] ∨ oddP (u ++ 59 :: w)) := fun q => by rcases q with q | q; exact q hp'; exact ho ((odd_cut hp).1 q)
          rw [if_neg n2, drop_le hl2] at he hn
          rw [if_neg n1, if_neg n2, drop_le hl2]
          cases hf : findS [42, 47] (u.drop 2 ++ 59 :: w) with
          | none => rw [hf] at he; cases he
          | some i =>
            rw [hf] at hn
            have hn : i + 4 ≤ u.length := hn
            rw [findS_bwd _ hf (by rw [List.length_drop]; omega)]
      · rw [if_pos (.inl hp), if_pos (.inl (fun q => hp ((hasP_stop (by simp)).1 q)))]
end

/-! ### Words from a place on -/

inductive Lex (s : List Nat) : Nat → List WD → Prop
  | done {p : Nat} (h : s.length ≤ p) : Lex s p []
  | skip {p : Nat} {l : List WD} (h : p < s.length) (h1 : (passF (s.drop p)).2 = 0) (h2 : 0 < (passF (s.drop p)).1) (hl : Lex s (p + (passF (s.drop p)).1) l) : Lex s p l
  | word {p : Nat} {l : List WD} (h : p < s.length) (h1 : (passF (s.drop p)).2 = 0) (h2 : (passF (s.drop p)).1 = 0) (h3 : (wordD (s.drop p)).e = 0) (hl : Lex s (p + (wordD (s.drop p)).n) l) : Lex s p (⟨(wordD (s.drop p)).kind, (wordD (s.drop p)).text, p⟩ :: l)

theorem lex_of {s : List Nat} : ∀ (f p : Nat) (acc ws : List WD), s.length < p + f → allR s f p acc = .inl ws → ∃ l, ws = acc ++ l ∧ Lex s p l
  | 0, p, acc, ws, hf, h => by
    rw [allR] at h
    injection h with h
    exact ⟨[], by simp [h], .done (by omega)⟩
  | f + 1, p, acc, ws, hf, h => by
    rw [allR] at h
    split at h
    · rename_i hp
      split at h
      · cases h
      · rename_i h1
        split at h
        · rename_i h2
          obtain ⟨l, e, hl⟩ := lex_of f _ _ _ (by omega) h
          exact ⟨l, e, .skip hp (by omega) h2 hl⟩
        · rename_i h2
          split at h
          · cases h
          · rename_i h3
            have := wordD_pos (s := s.drop p) (by omega)
            obtain ⟨l, e, hl⟩ := lex_of f _ _ _ (by omega) h
            exact ⟨_, by rw [e]; simp, .word hp (by omega) (by omega) (by omega) hl⟩
    · injection h with h
      exact ⟨[], by simp [h], .done (by omega)⟩
theorem lex_all {s : List Nat} {ws : List WD} (h : allF s = .inl ws) : Lex s 0 ws := by
  obtain ⟨l, e, hl⟩ := lex_of _ _ _ _ (by omega) h
  rw [List.nil_append] at e
  rw [e]
  exact hl
theorem of_lex {s : List Nat} {p : Nat} {l : List WD} (h : Lex s p l) : ∀ acc, AR s p acc = .inl (acc ++ l) := by
  induction h with
  | done h => intro acc; rw [AR_end h]; simp
  | skip h h1 h2 hl ih => intro acc; rw [AR_step h, if_neg (by omega), if_pos h2, ih]
  | word h h1 h2 h3 hl ih => intro acc; rw [AR_step h, if_neg (by omega), if_neg (by omega), if_neg (by omega), ih]; simp
theorem all_lex {s : List Nat} {l : List WD} (h : Lex s 0 l) : allF s = .inl l := by rw [AR_all, of_lex h]; rfl

theorem trySign_form {s : List Nat} : ∀ (l : List (List Nat)), (trySign s l).kind = 5 → (trySign s l).n = (trySign s l).text.length ∧ hasP s (trySign s l).text
  | [], h => by cases h
  | x :: l, h => by
    unfold trySign at h ⊢
    split
    · rename_i hx
      exact ⟨rfl, hx⟩
    · rename_i hx
      rw [if_neg hx] at h
      exact trySign_form l h
theorem signD_form {s : List Nat} (h : (signD s).kind = 5) : (signD s).n = (signD s).text.length ∧ hasP s (signD s).text := by
  unfold signD at h ⊢
  split
  · rename_i hx; rw [if_pos hx] at h; cases h
  · rename_i hx; rw [if_neg hx] at h; exact trySign_form _ h
theorem tryU_kind : ∀ (l : List FD), (∀ d ∈ l, d.kind ≠ 5) → (tryU l).kind ≠ 5
  | [], _ => by simp [tryU, FD.bad]
  | d :: l, h => by
    unfold tryU
    split
    · exact h d (by simp)
    · split
      · simp
      · exact tryU_kind l fun x hx => h x (by simp [hx])
theorem quotD_kind (s : List Nat) : (quotD s).kind ≠ 5 := by
  unfold quotD
  split
  · cases qF (s.drop 1) <;> simp [FD.bad]
  · simp [FD.none]
theorem textD_kind (s : List Nat) : (textD s).kind ≠ 5 := by
  unfold textD
  split
  · cases tF (s.getD 0 0) (s.drop 1) <;> simp [FD.bad]
  · simp [FD.none]
theorem nameD_kind (s : List Nat) : (nameD s).kind ≠ 5 := by
  unfold nameD
  split <;> simp [FD.none]
theorem finds_kind (s : List Nat) : ∀ d ∈ [oddD s, eitherD s, quotD s, textD s, sysD s, userD s], d.kind ≠ 5 := by
  intro d hd
  simp only [List.mem_cons, List.not_mem_nil, or_false] at hd
  rcases hd with rfl | rfl | rfl | rfl | rfl | rfl
  · unfold oddD
    split
    · cases findS [42, 47] (s.drop 2) <;> simp [FD.bad]
    · simp [FD.none]
  · unfold eitherD numD
    split
    · exact nameD_kind s
    · split <;> simp [FD.none]
  · exact quotD_kind s
  · exact textD_kind s
  · unfold sysD
    split
    · split <;> simp [FD.bad]
    · simp [FD.none]
  · unfold userD
    split
    · split
      · simp [FD.bad]
      · refine tryU_kind _ fun d hd => ?_
        simp only [List.mem_cons, List.not_mem_nil, or_false] at hd
        rcases hd with rfl | rfl | rfl
        · exact quotD_kind _
        · exact textD_kind _
        · exact nameD_kind _
    · simp [FD.none]
theorem tryW_last {d : FD} : ∀ (l : List FD), (∀ x ∈ l, x.kind ≠ 5) → (tryW (l ++ [d])).kind = 5 → tryW (l ++ [d]) = d
  | [], _, h => by
    rw [List.nil_append] at h ⊢
    unfold tryW at h ⊢
    split
    · rfl
    · rename_i h1
      rw [if_neg h1] at h
      split
      · rfl
      · rename_i h2
        rw [if_neg h2] at h
        cases h
  | x :: l, hx, h => by
    rw [List.cons_append] at h ⊢
    unfold tryW at h ⊢
    split
    · rename_i h1
      rw [if_pos h1] at h
      exact absurd h (hx x (by simp))
    · rename_i h1
      rw [if_neg h1] at h
      split
      · rename_i h2
        rw [if_pos h2] at h
        exact absurd h (hx x (by simp))
      · rename_i h2
        rw [if_neg h2] at h
        exact tryW_last l (fun y hy => hx y (by simp [hy])) h
theorem wordD_sign {s : List Nat} (h : (wordD s).kind = 5) : wordD s = signD s := tryW_last [oddD s, eitherD s, quotD s, textD s, sysD s, userD s] (finds_kind s) h
theorem cut_word {s : List Nat} (hk : (wordD s).kind = 5) (ht : (wordD s).text = [59]) : (wordD s).n = 1 ∧ s.getD 0 0 = 59 := by
  have e := wordD_sign hk
  rw [e] at hk ht ⊢
  obtain ⟨h1, h2⟩ := signD_form hk
  rw [ht] at h1 h2
  exact ⟨h1, hasP_head h2 (by simp)⟩

/-- up to a sign ; the words are those of what is ahead of it; behind it they go on -/
theorem lex_cut {s : List Nat} {p : Nat} {l : List WD} (h : Lex s p l) : ∀ {l1 l2 : List WD} {w : WD}, l = l1 ++ w :: l2 → isCut w → p ≤ w.at_ ∧ w.at_ < s.length ∧ s.getD w.at_ 0 = 59 ∧ Lex (s.take w.at_) p l1 ∧ Lex s (w.at_ + 1) l2 := by
  induction h with
  | done h => intro l1 l2 w e; simp at e
  | @skip p l h h1 h2 hl ih =>
    intro l1 l2 w e hw
    obtain ⟨i1, i2, i3, i4, i5⟩ := ih e hw
    refine ⟨by omega, i2, i3, ?_, i5⟩
    have hsp : s.drop p = (s.take w.at_).drop p ++ 59 :: s.drop (w.at_ + 1) := by
      have e0 : s = s.take w.at_ ++ 59 :: s.drop (w.at_ + 1) := by
        have := drop_cons i2
        rw [i3] at this
        rw [← this, List.take_append_drop]
      conv => lhs; rw [e0]
      exact drop_le (by rw [List.length_take]; omega)
    have hlen : ((s.take w.at_).drop p).length = w.at_ - p := by rw [List.length_drop, List.length_take]; omega
    have h0 : (s.take w.at_).drop p ≠ [] := fun q => by rw [q] at hlen; simp at hlen; omega
    have hb := passF_bwd (w := s.drop (w.at_ + 1)) h0 (by rw [← hsp]; exact h1) (by rw [← hsp, hlen]; omega)
    rw [← hsp] at hb
    refine .skip (by rw [List.length_take]; omega) (by rw [hb]; exact h1) (by rw [hb]; exact h2) ?_
    rw [hb]; exact i4
  | @word p l h h1 h2 h3 hl ih =>
    intro l1 l2 w e hw
    cases l1 with
    | nil =>
      rw [List.nil_append] at e
      injection e with e1 e2
      subst e1
      subst e2
      obtain ⟨c1, c2⟩ := cut_word hw.1 hw.2
      rw [drop_getD, Nat.add_zero] at c2
      rw [c1] at hl
      exact ⟨Nat.le_refl _, h, c2, .done (by rw [List.length_take]; exact Nat.min_le_left _ _), hl⟩
    | cons x l1 =>
      rw [List.cons_append] at e
      injection e with e1 e2
      subst e1
      obtain ⟨i1, i2, i3, i4, i5⟩ := ih e2 hw
      have hpos := wordD_pos h3
      refine ⟨by omega, i2, i3, ?_, i5⟩
      have hsp : s.drop p = (s.take w.at_).drop p ++ 59 :: s.drop (w.at_ + 1) := by
        have e0 : s = s.take w.at_ ++ 59 :: s.drop (w.at_ + 1) := by
          have := drop_cons i2
          rw [i3] at this
          rw [← this, List.take_append_drop]
        conv => lhs; rw [e0]
        exact drop_le (by rw [List.length_take]; omega)
      have hlen : ((s.take w.at_).drop p).length = w.at_ - p := by rw [List.length_drop, List.length_take]; omega
      have h0 : (s.take w.at_).drop p ≠ [] := fun q => by rw [q] at hlen; simp at hlen; omega
      have hb := passF_bwd (w := s.drop (w.at_ + 1)) h0 (by rw [← hsp]; exact h1) (by rw [← hsp, h2]; omega)
      have hw' := wordD_bwd (c := 59) (w := s.drop (w.at_ + 1)) (.inl rfl) h0 (by rw [← hsp]; exact h3) (by rw [← hsp, hlen]; omega)
      rw [← hsp] at hb hw'
      have hp : p < (s.take w.at_).length := by rw [List.length_take]; omega
      have := Lex.word hp (by rw [hb]; exact h1) (by rw [hb]; exact h2) (by rw [hw']; exact h3) (by rw [hw']; exact i4)
      rw [hw'] at this
      exact this

/-- a word but for its place -/
def WD.er (w : WD) : Nat × List Nat := (w.kind, w.text)
theorem lex_shift {s : List Nat} (a : Nat) {q : Nat} {l : List WD} (h : Lex s q l) : ∀ p, q = a + p → ∃ l', Lex (s.drop a) p l' ∧ l'.map WD.er = l.map WD.er := by
  induction h with
  | done h => intro p e; exact ⟨[], .done (by rw [List.length_drop]; omega), rfl⟩
  | @skip q l h h1 h2 hl ih =>
    intro p e
    have hd : (s.drop a).drop p = s.drop q := by rw [List.drop_drop, e]
    obtain ⟨l', hl', hm⟩ := ih (p + (passF (s.drop q)).1) (by omega)
    refine ⟨l', .skip (by rw [List.length_drop]; omega) (by rw [hd]; exact h1) (by rw [hd]; exact h2) (by rw [hd]; exact hl'), hm⟩
  | @word q l h h1 h2 h3 hl ih =>
    intro p e
    have hd : (s.drop a).drop p = s.drop q := by rw [List.drop_drop, e]
    obtain ⟨l', hl', hm⟩ := ih (p + (wordD (s.drop q)).n) (by omega)
    have := Lex.word (s := s.drop a) (p := p) (l := l') (by rw [List.length_drop]; omega) (by rw [hd]; exact h1) (by rw [hd]; exact h2) (by rw [hd]; exact h3) (by rw [hd]; exact hl')
    refine ⟨_, this, ?_⟩
    rw [hd, List.map_cons, List.map_cons, hm]
    rfl

/-- the pieces' words, together, are the text's, but the signs that part them -/
theorem split_words (s : List Nat) : ∀ (ws : List WD) (a : Nat) (l1 : List WD) (out : List (List Nat)), Lex s a (l1 ++ ws) → (∀ w ∈ l1, ¬ isCut w) →
    ∃ ps : List (List Nat × List WD), splitS s ws a l1.length out = out ++ ps.map (·.1) ∧ (∀ q ∈ ps, allF q.1 = .inl q.2 ∧ q.2 ≠ [] ∧ (Bytes s → Bytes q.1) ∧ q.1.length ≤ s.length) ∧ (ps.flatMap (·.2)).map WD.er = ((l1 ++ ws).filter (fun w => decide (¬ isCut w))).map WD.er
  | [], a, l1, out, h, hc => by
    rw [List.append_nil] at h
    rw [splitS, List.append_nil]
    have hf : l1.filter (fun w => decide (¬ isCut w)) = l1 := List.filter_eq_self.2 fun w hw => by simpa using hc w hw
    rw [hf]
    split
    · rename_i hn
      obtain ⟨l', hl', hm⟩ := lex_shift a h 0 rfl
      refine ⟨[(s.drop a, l')], by simp, fun q hq => ?_, by simpa using hm⟩
      obtain rfl : q = (s.drop a, l') := by simpa using hq
      refine ⟨all_lex hl', fun e => ?_, fun hb => hb.drop _, by show (s.drop a).length ≤ _; rw [List.length_drop]; omega⟩
      have e : l' = [] := e
      have := congrArg List.length hm
      rw [e] at this
      simp at this
      rw [this] at hn
      simp at hn
    · rename_i hn
      have : l1 = [] := List.eq_nil_of_length_eq_zero (by omega)
      subst this
      exact ⟨[], by simp, fun q hq => by simp at hq, rfl⟩
  | w :: l, a, l1, out, h, hc => by
    rw [splitS]
    split
    · rename_i hw
      obtain ⟨i1, i2, i3, i4, i5⟩ := lex_cut h rfl hw
      have hf : l1.filter (fun w => decide (¬ isCut w)) = l1 := List.filter_eq_self.2 fun w hw => by simpa using hc w hw
      obtain ⟨ps, e1, e2, e3⟩ := split_words s l (w.at_ + 1) [] (if 0 < l1.length then out ++ [(s.take w.at_).drop a] else out) i5 (fun w hw => by simp at hw)
      rw [List.nil_append] at e3
      rw [show ([] : List WD).length = 0 from rfl] at e1
      have hfc : (w :: l).filter (fun w => decide (¬ isCut w)) = l.filter (fun w => decide (¬ isCut w)) := by
        rw [List.filter_cons]
        simp [hw]
      rw [e1, List.filter_append, hf, hfc, List.map_append, ← e3]
      split
      · rename_i hn
        obtain ⟨l', hl', hm⟩ := lex_shift a i4 0 rfl
        refine ⟨((s.take w.at_).drop a, l') :: ps, by simp, fun q hq => ?_, by simp [hm]⟩
        rcases List.mem_cons.1 hq with rfl | hq
        · refine ⟨all_lex hl', fun e => ?_, fun hb => (hb.take _).drop _, by show ((s.take w.at_).drop a).length ≤ _; rw [List.length_drop, List.length_take]; omega⟩
          have e : l' = [] := e
          have := congrArg List.length hm
          rw [e] at this
          simp at this
          rw [this] at hn
          simp at hn
        · exact e2 q hq
      · rename_i hn
        have : l1 = [] := List.eq_nil_of_length_eq_zero (by omega)
        subst this
        exact ⟨ps, rfl, e2, by simp⟩
    · rename_i hw
      obtain ⟨ps, e1, e2, e3⟩ := split_words s l a (l1 ++ [w]) out (by rw [List.append_assoc]; exact h) (fun x hx => by
        rcases List.mem_append.1 hx with hx | hx
        · exact hc x hx
        · obtain rfl : x = w := by simpa using hx
          exact hw)
      rw [List.length_append] at e1
      exact ⟨ps, e1, e2, by rw [e3, List.append_assoc]; rfl⟩
theorem split_all {s : List Nat} {ws : List WD} (h : allF s = .inl ws) : ∃ ps : List (List Nat × List WD), splitS s ws 0 0 [] = ps.map (·.1) ∧ (∀ q ∈ ps, allF q.1 = .inl q.2 ∧ q.2 ≠ [] ∧ (Bytes s → Bytes q.1) ∧ q.1.length ≤ s.length) ∧ (ps.flatMap (·.2)).map WD.er = (ws.filter (fun w => decide (¬ isCut w))).map WD.er := by
  have := split_words s ws 0 [] [] (lex_all h) (fun w hw => by simp at hw)
  simpa using this
end
end Go.Proofs.YtkibhdbmamfjcaaDoor

/-
  ScanSplit, walked: the law.
-/
set_option linter.unusedSimpArgs false
set_option linter.unusedVariables false
set_option maxRecDepth 10000
namespace Go.Proofs.YtkibhdbmamfjcaaDoor
open Go.Proofs Go.Lx Go.Wx Go.IntWalk
noncomputable section

/-- words that are the same but for their places -/
theorem sameWordsE_spec {S : Set0} (hS : Std S) (h : H) (n0 n1 : Nat) (l m : V) (ws ws' : List WD) (he : ws.map WD.er = ws'.map WD.er) (hl : Acc n0 h l (wcells ws) 36 3) (hm : Acc n1 h m (wcells ws') 36 3) (hw : ws.length < 2 ^ 40) : Exact S.cfg 18 [l, m, .bool false] h (.bool true) := by
  have hlen : ws'.length = ws.length := by have := congrArg List.length he; simpa using this.symm
  refine into Tryd.f18 _ Tryd.func18 (hS.own _ (by decide)) rfl rfl (by kernel_rfl) (by kernel_rfl) ?_
  have a1 := accW hl
  have a2 := accW hm
  rw [hlen] at a2
  have c1 := hl.cell.1
  have c2 := hl.cell.2
  have c3 := hm.cell.1
  have c4 := hm.cell.2
  simp +contextual (disch := first | (simp only [facts, clsL, clsS, clsC, isPtrD]; done) | omega) only [wps, facts, wpb, cst, wpk, wpl, forall_const, implies_true, false_implies, Int.reduceLE, Int.reduceLT, Nat.reduceLeDiff, UInt8.reduceToNat, ↓reduceIte, Nat.reduceEqDiff, Nat.reduceAdd, reduceCtorEq, Int.reduceToNat, clsL, clsS, clsC, Tryd.f18, a1, a2, c1, c2, c3, c4]
  refine run_loop (fun k env h' => ∃ i : Nat, k = ws.length - i ∧ env 0 = l ∧ env 1 = m ∧ env 2 = .bool false ∧ env 7 = .int .i64 i ∧ i ≤ ws.length ∧ h' = h) ws.length ⟨0, by simp +contextual (disch := first | (simp only [facts, clsL, clsS, clsC, isPtrD]; done) | omega) only [wps, facts, wpb, cst, wpk, wpl, forall_const, implies_true, false_implies, Int.reduceLE, Int.reduceLT, Nat.reduceLeDiff, UInt8.reduceToNat, ↓reduceIte, Nat.reduceEqDiff, Nat.reduceAdd, reduceCtorEq, Int.reduceToNat, clsL, clsS, clsC]; exact (Nat.sub_zero _).symm⟩ ?_
  rintro k env h' ⟨i, rfl, e0, e1, e2, e7, hi, rfl⟩
  by_cases hi2 : i < ws.length
  · have hi3 : i < ws'.length := by omega
    obtain ⟨b, rfl, hgb, _⟩ := accW_blk hl (by omega)
    obtain ⟨b', rfl, hgb', _⟩ := accW_blk hm (by omega)
    obtain ⟨w0, w1, w2⟩ := wcells_at hi2
    obtain ⟨w3, w4, w5⟩ := wcells_at hi3
    have hq : (ws[i]).er = (ws'[i]).er := by
      have h1 : (ws.map WD.er)[i]? = (ws'.map WD.er)[i]? := by rw [he]
      rw [List.getElem?_map, List.getElem?_map, List.getElem?_eq_getElem hi2, List.getElem?_eq_getElem hi3] at h1
      simpa using h1
    have hk : ws[i].kind = ws'[i].kind := congrArg Prod.fst hq
    have ht : ws[i].text = ws'[i].text := congrArg Prod.snd hq
    simp +contextual (disch := first | (simp only [facts, clsL, clsS, clsC, isPtrD]; done) | omega | exact dok (by kernel_rfl)) only [draw_calm, draw_calmA, wps, facts, wpb, cst, wpk, wpl, forall_const, implies_true, false_implies, Int.reduceLE, Int.reduceLT, Nat.reduceLeDiff, UInt8.reduceToNat, ↓reduceIte, Nat.reduceEqDiff, Nat.reduceAdd, reduceCtorEq, Int.reduceToNat, clsL, clsS, clsC, Tryd.f18, e0, e1, e2, e7, hi2, hgb, hgb', w0, w1, w2, w3, w4, w5, hk, ht, hlen, hi3]
    exact ⟨_, by omega, i + 1, rfl, rfl, by omega⟩
  · simp +contextual (disch := first | (simp only [facts, clsL, clsS, clsC, isPtrD]; done) | omega) only [wps, facts, wpb, cst, wpk, wpl, forall_const, implies_true, false_implies, Int.reduceLE, Int.reduceLT, Nat.reduceLeDiff, UInt8.reduceToNat, ↓reduceIte, Nat.reduceEqDiff, Nat.reduceAdd, reduceCtorEq, Int.reduceToNat, clsL, clsS, clsC, Tryd.f18, e0, e1, e2, e7, hi2, a1, a2]

/-- a text's pieces with their words -/
theorem texts_words {s : List Nat} (hs : s.length ≤ 1048576) : ∃ ps : List (List Nat × List WD), textsOf s = ps.map (·.1) ∧ (∀ q ∈ ps, allF q.1 = .inl q.2 ∧ q.2 ≠ [] ∧ (Bytes s → Bytes q.1) ∧ q.1.length ≤ s.length) ∧ (ps.flatMap (·.2)).map WD.er = ((wordsOf s).filter (fun w => decide (¬ isCut w))).map WD.er := by
  unfold textsOf wordsOf
  rw [if_neg (by omega), if_neg (by omega)]
  cases ha : allF s with
  | inr r => exact ⟨[], rfl, fun q hq => by simp at hq, rfl⟩
  | inl ws => exact split_all ha

/-- words but the signs that part statements -/
def uncut (l : List WD) : List WD := l.filter fun w => decide (¬ isCut w)
theorem uncut_take {l : List WD} {i : Nat} (hi : i < l.length) : uncut (l.take (i + 1)) = if isCut l[i] then uncut (l.take i) else uncut (l.take i) ++ [l[i]] := by
  unfold uncut
  rw [List.take_succ_eq_append_getElem hi, List.filter_append]
  split
  · rename_i hc
    simp [List.filter_cons, hc]
  · rename_i hc
    simp [List.filter_cons, hc]
theorem uncut_len (l : List WD) : (uncut l).length ≤ l.length := List.length_filter_le _ _

theorem wcells_append' (a b : List WD) : wcells (a ++ b) = wcells a ++ wcells b := by simp [wcells]
theorem wcells_cell (l : List WD) : (wcells l).all V.isCell = true := by
  induction l with
  | nil => rfl
  | cons w l ih => show (w.cells ++ wcells l).all V.isCell = true; rw [List.all_append, ih]; rfl
theorem wcells_seg {ws : List WD} {i : Nat} (hi : i < ws.length) : i * 3 + 3 ≤ (wcells ws).length ∧ ((wcells ws).drop (i * 3)).take 3 = [.int .i64 (ws[i].kind : Nat), .str ws[i].text, .int .i64 (ws[i].at_ : Nat)] := by
  refine ⟨by rw [wcells_len]; omega, ?_⟩
  rw [wcells_drop, List.drop_eq_getElem_cons hi]
  rfl
theorem lens3 {s : List Nat} (hb : Bytes s) : (wordsOf s).length ≤ s.length := by
  unfold wordsOf
  split
  · exact Nat.zero_le _
  · cases ha : allF s with
    | inr r => exact Nat.zero_le _
    | inl ws => 
      have h1 := (allF_sorted hb ha).len
      show ws.length ≤ _
      omega
theorem split_law {S : Set0} (hS : StdL S) (s : List Nat) (h : H) (hb : Bytes s) (hs : s.length < 2 ^ 63) : Pure S.cfg 4 [.str s] h fun v _ => v = .bool true := by
  refine into Tryd.f4 _ Tryd.func4 (hS.own _ (by decide)) rfl rfl (by kernel_rfl) (by kernel_rfl) ?_
  have b1 := fun q a b c d => agg_neq 26 q a b c d rfl
  simp +contextual (disch := first | (simp only [facts, clsL, clsS, clsC, isPtrD]; done) | omega | (simp only [push_nx, put_nx, del_nx]; omega) | (refine Nat.le_antisymm ?_ ?_ <;> simp only [push_nx, put_nx, del_nx] <;> omega) | fail) only [wpy, facts, wpb, cst, wpk, wpl, forall_const, implies_true, false_implies, Int.reduceLE, Int.reduceLT, Nat.reduceLeDiff, UInt8.reduceToNat, ↓reduceIte, Nat.reduceEqDiff, Nat.reduceAdd, reduceCtorEq, Int.reduceToNat, clsL, clsS, clsC, Tryd.f4]
  refine callF_exact (hS.lives _) ?_
  by_cases hm : 2000 < s.length
  · simp +contextual (disch := first | (simp only [facts, clsL, clsS, clsC, isPtrD]; done) | omega | (simp only [push_nx, put_nx, del_nx]; omega) | (refine Nat.le_antisymm ?_ ?_ <;> simp only [push_nx, put_nx, del_nx] <;> omega) | fail) only [wpy, facts, wpb, cst, wpk, wpl, forall_const, implies_true, false_implies, Int.reduceLE, Int.reduceLT, Nat.reduceLeDiff, UInt8.reduceToNat, ↓reduceIte, Nat.reduceEqDiff, Nat.reduceAdd, reduceCtorEq, Int.reduceToNat, clsL, clsS, clsC, Tryd.f4, hm]
    exact Ext.refl h
  simp +contextual (disch := first | (simp only [facts, clsL, clsS, clsC, isPtrD]; done) | omega | (simp only [push_nx, put_nx, del_nx]; omega) | (refine Nat.le_antisymm ?_ ?_ <;> simp only [push_nx, put_nx, del_nx] <;> omega) | fail) only [wpy, facts, wpb, cst, wpk, wpl, forall_const, implies_true, false_implies, Int.reduceLE, Int.reduceLT, Nat.reduceLeDiff, UInt8.reduceToNat, ↓reduceIte, Nat.reduceEqDiff, Nat.reduceAdd, reduceCtorEq, Int.reduceToNat, clsL, clsS, clsC, Tryd.f4, hm]
  refine callF_pure (all_spec hS.toStdF s _ hb hs) ?_
  intro v1 h1 hx1 hv1
  obtain ⟨l, rfl, hl⟩ := allV_form hv1
  have hlc := hl.cell
  obtain ⟨hl1, hl2⟩ := hlc
  simp +contextual (disch := first | (simp only [facts, clsL, clsS, clsC, isPtrD]; done) | omega | (simp only [push_nx, put_nx, del_nx]; omega) | (refine Nat.le_antisymm ?_ ?_ <;> simp only [push_nx, put_nx, del_nx] <;> omega) | fail) only [wpy, facts, wpb, cst, wpk, wpl, forall_const, implies_true, false_implies, Int.reduceLE, Int.reduceLT, Nat.reduceLeDiff, UInt8.reduceToNat, ↓reduceIte, Nat.reduceEqDiff, Nat.reduceAdd, reduceCtorEq, Int.reduceToNat, clsL, clsS, clsC, Tryd.f4, hm, hl1, hl2]
  refine ⟨.inr hx1.1, ?_⟩
  refine callF_pure (split_spec hS.toStd hS.toStdF s _ hb hs) ?_
  intro v3 h3 hx3 hv3
  obtain ⟨p, rfl, hp⟩ := splitV_form hv3
  obtain ⟨hp1, hp2⟩ := hp.cell
  have q1 := hx1.1
  have q3 : h1.nx + 1 ≤ h3.nx := hx3.1
  simp +contextual (disch := first | (simp only [facts, clsL, clsS, clsC, isPtrD]; done) | omega | (simp only [push_nx, put_nx, del_nx]; omega) | (refine Nat.le_antisymm ?_ ?_ <;> simp only [push_nx, put_nx, del_nx] <;> omega) | fail) only [wpy, facts, wpb, cst, wpk, wpl, forall_const, implies_true, false_implies, Int.reduceLE, Int.reduceLT, Nat.reduceLeDiff, UInt8.reduceToNat, ↓reduceIte, Nat.reduceEqDiff, Nat.reduceAdd, reduceCtorEq, Int.reduceToNat, clsL, clsS, clsC, Tryd.f4, hm, hl1, hl2, hp1, hp2, hx3.2, b1]
  refine ⟨.inr (by omega), ?_⟩
  obtain ⟨w1, w2⟩ := lens hb
  have w3 := lens3 hb
  refine run_any (fun h' => Ext h h' ∧ Wx.Acc h.nx h' l (wcells (wordsOf s)) 36 3 ∧ Wx.Acc h.nx h' p (textsV (textsOf s)) 9 1) ⟨?_, ?_, ?_⟩ ?_
  · exact ((hx1.trans (Ext.new _ _ _)).trans hx3).trans (Ext.new _ _ _)
  · exact ((hl.ext (Ext.new _ _ _)).ext hx3).ext (Ext.new _ _ _)
  · exact (hp.mono (by show h.nx ≤ h1.nx + 1; omega)).ext (Ext.new _ _ _)
  clear hl hp hv1 hv3 hx1 hx3 q1 q3
  rintro h5 ⟨hx5, hl5, hp5⟩
  have hq5 := hx5.1
  refine run_loop (fun m env h' => ∃ (i : Nat) (wv : V), m = (wordsOf s).length - i ∧ env 3 = l ∧ env 5 = p ∧ env 7 = .nilslice ∧ env 8 = wv ∧ env 9 = .int .i64 i ∧ i ≤ (wordsOf s).length ∧ Ext h5 h' ∧ Wx.Acc h5.nx h' wv (wcells (uncut ((wordsOf s).take i))) 36 3) (wordsOf s).length ⟨0, .nilslice, by simp +contextual (disch := first | (simp only [facts, clsL, clsS, clsC, isPtrD]; done) | omega | (simp only [push_nx, put_nx, del_nx]; omega) | (refine Nat.le_antisymm ?_ ?_ <;> simp only [push_nx, put_nx, del_nx] <;> omega) | fail) only [wpy, facts, wpb, cst, wpk, wpl, forall_const, implies_true, false_implies, Int.reduceLE, Int.reduceLT, Nat.reduceLeDiff, UInt8.reduceToNat, ↓reduceIte, Nat.reduceEqDiff, Nat.reduceAdd, reduceCtorEq, Int.reduceToNat, clsL, clsS, clsC]; exact ⟨by simp, Ext.refl _, .inl ⟨rfl, rfl⟩⟩⟩ ?_
  rintro m env h' ⟨i, wv, rfl, e3, e5, e7, e8, e9, hi, hx, ha⟩
  have hc1 := ha.cell.1
  have hc2 := ha.cell.2
  have hla := accW (hl5.ext hx)
  by_cases hi2 : i < (wordsOf s).length
  · obtain ⟨b, rfl, hgb, hbn⟩ := accW_blk (hl5.ext hx) (by omega)
    obtain ⟨g0, g1, g2⟩ := wcells_at hi2
    obtain ⟨g3, g4⟩ := wcells_seg hi2
    have hut := uncut_take hi2
    by_cases hcut : isCut (wordsOf s)[i]
    · rw [if_pos hcut] at hut
      simp +contextual (disch := first | (simp only [facts, clsL, clsS, clsC, isPtrD]; done) | omega | (simp only [push_nx, put_nx, del_nx]; omega) | (refine Nat.le_antisymm ?_ ?_ <;> simp only [push_nx, put_nx, del_nx] <;> omega) | exact dok (by kernel_rfl)) only [draw_calm, draw_calmA, wpy, facts, wpb, cst, wpk, wpl, forall_const, implies_true, false_implies, Int.reduceLE, Int.reduceLT, Nat.reduceLeDiff, UInt8.reduceToNat, ↓reduceIte, Nat.reduceEqDiff, Nat.reduceAdd, reduceCtorEq, Int.reduceToNat, clsL, clsS, clsC, Tryd.f4, e3, e5, e7, e8, e9, hla, hi2, hgb, g0, g1, g2, g3, g4, hl1, hl2, hcut.1, hcut.2]
      refine ⟨_, ?_, i + 1, wv, rfl, ?_⟩
      · omega
      · simp +contextual (disch := first | (simp only [facts, clsL, clsS, clsC, isPtrD]; done) | omega | (simp only [push_nx, put_nx, del_nx]; omega) | (refine Nat.le_antisymm ?_ ?_ <;> simp only [push_nx, put_nx, del_nx] <;> omega) | fail) only [wpy, facts, wpb, cst, wpk, wpl, forall_const, implies_true, false_implies, Int.reduceLE, Int.reduceLT, Nat.reduceLeDiff, UInt8.reduceToNat, ↓reduceIte, Nat.reduceEqDiff, Nat.reduceAdd, reduceCtorEq, Int.reduceToNat, clsL, clsS, clsC, e3, e5, e7, e8]
        exact ⟨by omega, hx, by rw [hut]; exact ha⟩
    · rw [if_neg hcut] at hut
      have hcut' : ¬(wordsOf s)[i].kind = 5 ∨ ¬(wordsOf s)[i].text = [59] := by
        by_cases q : (wordsOf s)[i].kind = 5
        · exact .inr fun q2 => hcut ⟨q, q2⟩
        · exact .inl q
      simp +contextual (disch := first | (simp only [facts, clsL, clsS, clsC, isPtrD]; done) | omega | (simp only [push_nx, put_nx, del_nx]; omega) | (refine Nat.le_antisymm ?_ ?_ <;> simp only [push_nx, put_nx, del_nx] <;> omega) | exact dok (by kernel_rfl)) only [draw_calm, draw_calmA, wpy, facts, wpb, cst, wpk, wpl, forall_const, implies_true, false_implies, Int.reduceLE, Int.reduceLT, Nat.reduceLeDiff, UInt8.reduceToNat, ↓reduceIte, Nat.reduceEqDiff, Nat.reduceAdd, reduceCtorEq, Int.reduceToNat, clsL, clsS, clsC, Tryd.f4, e3, e5, e7, e8, e9, hla, hi2, hgb, g0, g1, g2, g3, g4, hl1, hl2, hcut']
      refine append_new (sv := wv) (n0 := h5.nx) ?_ ap23 ⟨.slice 36, by kernel_rfl, rfl⟩ ha ?_ (n := 1) (by decide) rfl rfl ?_ (by decide) ?_ hx.1 ?_
      · simp +contextual (disch := first | (simp only [facts, clsL, clsS, clsC, isPtrD]; done) | omega | (simp only [push_nx, put_nx, del_nx]; omega) | (refine Nat.le_antisymm ?_ ?_ <;> simp only [push_nx, put_nx, del_nx] <;> omega) | fail) only [wpy, facts, wpb, cst, wpk, wpl, forall_const, implies_true, false_implies, Int.reduceLE, Int.reduceLT, Nat.reduceLeDiff, UInt8.reduceToNat, ↓reduceIte, Nat.reduceEqDiff, Nat.reduceAdd, reduceCtorEq, Int.reduceToNat, clsL, clsS, clsC, e8]
      · simp +contextual (disch := first | (simp only [facts, clsL, clsS, clsC, isPtrD]; done) | omega | (simp only [push_nx, put_nx, del_nx]; omega) | (refine Nat.le_antisymm ?_ ?_ <;> simp only [push_nx, put_nx, del_nx] <;> omega) | fail) only [wpy, facts, wpb, cst, wpk, wpl, forall_const, implies_true, false_implies, Int.reduceLE, Int.reduceLT, Nat.reduceLeDiff, UInt8.reduceToNat, ↓reduceIte, Nat.reduceEqDiff, Nat.reduceAdd, reduceCtorEq, Int.reduceToNat, clsL, clsS, clsC]
      · have := uncut_len ((wordsOf s).take i)
        rw [wcells_len]
        rw [List.length_take] at this
        show _ + 3 ≤ _
        omega
      · exact fun k hk => by rw [fresh_def]; exact .inl (by omega)
      · intro v h6 L ha6 hn6 hk6 hf6 hL
        have hv1 := ha6.cell.1
        have hv2 := ha6.cell.2
        have hx6 : Ext h5 h6 := ⟨by have := hx.1; omega, fun k hk => by rw [hf6 k hk, hx.2 k hk]⟩
        simp +contextual (disch := first | (simp only [facts, clsL, clsS, clsC, isPtrD]; done) | omega | (simp only [push_nx, put_nx, del_nx]; omega) | (refine Nat.le_antisymm ?_ ?_ <;> simp only [push_nx, put_nx, del_nx] <;> omega) | fail) only [wpy, facts, wpb, cst, wpk, wpl, forall_const, implies_true, false_implies, Int.reduceLE, Int.reduceLT, Nat.reduceLeDiff, UInt8.reduceToNat, ↓reduceIte, Nat.reduceEqDiff, Nat.reduceAdd, reduceCtorEq, Int.reduceToNat, clsL, clsS, clsC, e3, e5, e7, e8, e9, hv1, hv2, Tryd.f4]
        refine ⟨_, ?_, i + 1, v, rfl, ?_⟩
        · omega
        · simp +contextual (disch := first | (simp only [facts, clsL, clsS, clsC, isPtrD]; done) | omega | (simp only [push_nx, put_nx, del_nx]; omega) | (refine Nat.le_antisymm ?_ ?_ <;> simp only [push_nx, put_nx, del_nx] <;> omega) | fail) only [wpy, facts, wpb, cst, wpk, wpl, forall_const, implies_true, false_implies, Int.reduceLE, Int.reduceLT, Nat.reduceLeDiff, UInt8.reduceToNat, ↓reduceIte, Nat.reduceEqDiff, Nat.reduceAdd, reduceCtorEq, Int.reduceToNat, clsL, clsS, clsC, e3, e5, e7]
          exact ⟨by omega, hx6, by rw [hut, wcells_append]; exact ha6⟩
  · have hle : i = (wordsOf s).length := by omega
    subst hle
    rw [List.take_length] at ha
    simp +contextual (disch := first | (simp only [facts, clsL, clsS, clsC, isPtrD]; done) | omega | (simp only [push_nx, put_nx, del_nx]; omega) | (refine Nat.le_antisymm ?_ ?_ <;> simp only [push_nx, put_nx, del_nx] <;> omega) | fail) only [wpy, facts, wpb, cst, wpk, wpl, forall_const, implies_true, false_implies, Int.reduceLE, Int.reduceLT, Nat.reduceLeDiff, UInt8.reduceToNat, ↓reduceIte, Nat.reduceEqDiff, Nat.reduceAdd, reduceCtorEq, Int.reduceToNat, clsL, clsS, clsC, Tryd.f4, e3, e5, e7, e8, e9, hla, hi2, hl1, hl2, hc1, hc2]
    obtain ⟨ps, et, hps, hm3⟩ := texts_words (s := s) (by omega)
    have hpl : (textsOf s).length = ps.length := by rw [et, List.length_map]
    refine run_loop (fun m env h2 => ∃ (j : Nat) (av : V), m = ps.length - j ∧ env 5 = p ∧ env 8 = wv ∧ env 7 = av ∧ env 10 = .int .i64 j ∧ j ≤ ps.length ∧ Ext h' h2 ∧ Wx.Acc h'.nx h2 av (wcells ((ps.take j).flatMap (·.2))) 36 3) ps.length ⟨0, .nilslice, by simp +contextual (disch := first | (simp only [facts, clsL, clsS, clsC, isPtrD]; done) | omega | (simp only [push_nx, put_nx, del_nx]; omega) | (refine Nat.le_antisymm ?_ ?_ <;> simp only [push_nx, put_nx, del_nx] <;> omega) | fail) only [wpy, facts, wpb, cst, wpk, wpl, forall_const, implies_true, false_implies, Int.reduceLE, Int.reduceLT, Nat.reduceLeDiff, UInt8.reduceToNat, ↓reduceIte, Nat.reduceEqDiff, Nat.reduceAdd, reduceCtorEq, Int.reduceToNat, clsL, clsS, clsC, e5, e7, e8]; exact ⟨by simp, Ext.refl _, .inl ⟨rfl, rfl⟩⟩⟩ ?_
    rintro m env2 h2 ⟨j, av, rfl, f5, f8, f7, f10, hj, hy, hav⟩
    have hd1 := hav.cell.1
    have hd2 := hav.cell.2
    have hpa := accT ((hp5.ext hx).ext hy)
    by_cases hj2 : j < ps.length
    · obtain ⟨b, rfl, hgb, hbn⟩ := accT_blk ((hp5.ext hx).ext hy) (by omega)
      have ht0 : (textsV (textsOf s))[j]? = some (.str (ps[j]).1) := by rw [textsV, et, List.map_map, List.getElem?_map, List.getElem?_eq_getElem hj2]; rfl
      obtain ⟨k1, k2, k3, k4⟩ := hps ps[j] (List.getElem_mem hj2)
      simp +contextual (disch := first | (simp only [facts, clsL, clsS, clsC, isPtrD]; done) | omega | (simp only [push_nx, put_nx, del_nx]; omega) | (refine Nat.le_antisymm ?_ ?_ <;> simp only [push_nx, put_nx, del_nx] <;> omega) | exact dok (by kernel_rfl)) only [draw_calm, draw_calmA, wpy, facts, wpb, cst, wpk, wpl, forall_const, implies_true, false_implies, Int.reduceLE, Int.reduceLT, Nat.reduceLeDiff, UInt8.reduceToNat, ↓reduceIte, Nat.reduceEqDiff, Nat.reduceAdd, reduceCtorEq, Int.reduceToNat, clsL, clsS, clsC, Tryd.f4, f5, f8, f7, f10, hpa, hpl, hj2, hgb, ht0]
      refine callF_pure (all_spec hS.toStdF (ps[j]).1 _ (k3 hb) (by omega)) ?_
      intro v3 h3 hx3 hv3
      rw [allV, if_neg (by omega), k1] at hv3
      obtain ⟨m, rfl, hm4⟩ := hv3
      obtain ⟨hm1, hm2⟩ := hm4.cell
      have hml := accW hm4
      have hk2 : ¬ (ps[j]).2.length = 0 := fun q => k2 (List.eq_nil_of_length_eq_zero q)
      simp +contextual (disch := first | (simp only [facts, clsL, clsS, clsC, isPtrD]; done) | omega | (simp only [push_nx, put_nx, del_nx]; omega) | (refine Nat.le_antisymm ?_ ?_ <;> simp only [push_nx, put_nx, del_nx] <;> omega) | exact dok (by kernel_rfl)) only [draw_calm, draw_calmA, wpy, facts, wpb, cst, wpk, wpl, forall_const, implies_true, false_implies, Int.reduceLE, Int.reduceLT, Nat.reduceLeDiff, UInt8.reduceToNat, ↓reduceIte, Nat.reduceEqDiff, Nat.reduceAdd, reduceCtorEq, Int.reduceToNat, clsL, clsS, clsC, Tryd.f4, f5, f8, f7, f10, hpa, hpl, hm1, hm2, hml, b1, hk2]
      have hyn := hy.1
      have hx3n := hx3.1
      have hxn := hx.1
      refine ⟨.inr (by omega), ?_⟩
      have hks : (ps.take (j + 1)).flatMap (·.2) = (ps.take j).flatMap (·.2) ++ (ps[j]).2 := by
        rw [List.take_succ_eq_append_getElem hj2, List.flatMap_append]
        simp
      refine append_list (sv := av) (xv := m) (n0 := h'.nx) (n1 := h2.nx) ?_ ?_ ap23 ⟨.slice 36, by kernel_rfl, rfl⟩ ((hav.ext hx3).ext (Ext.new _ _ _)) (hm4.ext (Ext.new _ _ _)) ?_ ?_ ?_ (by decide) ?_ ?_ ?_
      · simp +contextual (disch := first | (simp only [facts, clsL, clsS, clsC, isPtrD]; done) | omega | (simp only [push_nx, put_nx, del_nx]; omega) | (refine Nat.le_antisymm ?_ ?_ <;> simp only [push_nx, put_nx, del_nx] <;> omega) | fail) only [wpy, facts, wpb, cst, wpk, wpl, forall_const, implies_true, false_implies, Int.reduceLE, Int.reduceLT, Nat.reduceLeDiff, UInt8.reduceToNat, ↓reduceIte, Nat.reduceEqDiff, Nat.reduceAdd, reduceCtorEq, Int.reduceToNat, clsL, clsS, clsC]
      · simp +contextual (disch := first | (simp only [facts, clsL, clsS, clsC, isPtrD]; done) | omega | (simp only [push_nx, put_nx, del_nx]; omega) | (refine Nat.le_antisymm ?_ ?_ <;> simp only [push_nx, put_nx, del_nx] <;> omega) | fail) only [wpy, facts, wpb, cst, wpk, wpl, forall_const, implies_true, false_implies, Int.reduceLE, Int.reduceLT, Nat.reduceLeDiff, UInt8.reduceToNat, ↓reduceIte, Nat.reduceEqDiff, Nat.reduceAdd, reduceCtorEq, Int.reduceToNat, clsL, clsS, clsC]
      · intro q
        have := congrArg List.length q
        rw [wcells_len] at this
        simp at this
        omega
      · exact wcells_cell _
      · have q1 := congrArg List.length hm3
        rw [List.length_map, List.length_map] at q1
        have q2 := uncut_len (wordsOf s)
        unfold uncut at q2
        have q3 : ((ps.take (j + 1)).flatMap (·.2)).length ≤ (ps.flatMap (·.2)).length := by
          conv => rhs; rw [← List.take_append_drop (j + 1) ps]
          rw [List.flatMap_append, List.length_append]
          omega
        rw [hks, List.length_append] at q3
        rw [wcells_len, wcells_len]
        omega
      · exact fun k hk => by rw [fresh_def]; exact .inl (by omega)
      · show h'.nx ≤ h3.nx + 1
        omega
      · intro v h6 L ha6 hn6 hk6 hf6
        have hv1 := ha6.cell.1
        have hv2 := ha6.cell.2
        have hn6 : h3.nx + 1 ≤ h6.nx := hn6
        have hx6 : Ext h' h6 := ⟨by omega, fun k hk => by
          rw [hf6 k hk]
          simp +contextual (disch := first | (simp only [facts, clsL, clsS, clsC, isPtrD]; done) | omega | (simp only [push_nx, put_nx, del_nx]; omega) | (refine Nat.le_antisymm ?_ ?_ <;> simp only [push_nx, put_nx, del_nx] <;> omega) | fail) only [wpy, facts, wpb, cst, wpk, wpl, forall_const, implies_true, false_implies, Int.reduceLE, Int.reduceLT, Nat.reduceLeDiff, UInt8.reduceToNat, ↓reduceIte, Nat.reduceEqDiff, Nat.reduceAdd, reduceCtorEq, Int.reduceToNat, clsL, clsS, clsC, hx3.2, hy.2]⟩
        simp +contextual (disch := first | (simp only [facts, clsL, clsS, clsC, isPtrD]; done) | omega | (simp only [push_nx, put_nx, del_nx]; omega) | (refine Nat.le_antisymm ?_ ?_ <;> simp only [push_nx, put_nx, del_nx] <;> omega) | fail) only [wpy, facts, wpb, cst, wpk, wpl, forall_const, implies_true, false_implies, Int.reduceLE, Int.reduceLT, Nat.reduceLeDiff, UInt8.reduceToNat, ↓reduceIte, Nat.reduceEqDiff, Nat.reduceAdd, reduceCtorEq, Int.reduceToNat, clsL, clsS, clsC, f5, f7, f8, f10, hv1, hv2, Tryd.f4]
        refine ⟨_, ?_, j + 1, v, rfl, ?_⟩
        · omega
        · simp +contextual (disch := first | (simp only [facts, clsL, clsS, clsC, isPtrD]; done) | omega | (simp only [push_nx, put_nx, del_nx]; omega) | (refine Nat.le_antisymm ?_ ?_ <;> simp only [push_nx, put_nx, del_nx] <;> omega) | fail) only [wpy, facts, wpb, cst, wpk, wpl, forall_const, implies_true, false_implies, Int.reduceLE, Int.reduceLT, Nat.reduceLeDiff, UInt8.reduceToNat, ↓reduceIte, Nat.reduceEqDiff, Nat.reduceAdd, reduceCtorEq, Int.reduceToNat, clsL, clsS, clsC, f5, f7, f8, hpl]
          exact ⟨by omega, hx6, by rw [hks, wcells_append']; exact ha6⟩
    · simp +contextual (disch := first | (simp only [facts, clsL, clsS, clsC, isPtrD]; done) | omega | (simp only [push_nx, put_nx, del_nx]; omega) | (refine Nat.le_antisymm ?_ ?_ <;> simp only [push_nx, put_nx, del_nx] <;> omega) | fail) only [wpy, facts, wpb, cst, wpk, wpl, forall_const, implies_true, false_implies, Int.reduceLE, Int.reduceLT, Nat.reduceLeDiff, UInt8.reduceToNat, ↓reduceIte, Nat.reduceEqDiff, Nat.reduceAdd, reduceCtorEq, Int.reduceToNat, clsL, clsS, clsC, Tryd.f4, f5, f8, f7, f10, hpa, hpl, hj2]
      have hle : j = ps.length := by omega
      subst hle
      rw [List.take_length] at hav
      have hsw := fun q => sameWordsE_spec hS.toStd _ _ _ _ _ _ _ hm3 hav (ha.ext hy) q
      rw [boolF, boolT] at hsw
      refine callF_exact (hsw ?_) ?_
      · have q1 := congrArg List.length hm3
        rw [List.length_map, List.length_map] at q1
        have q2 := uncut_len (wordsOf s)
        unfold uncut at q2
        omega
      simp +contextual (disch := first | (simp only [facts, clsL, clsS, clsC, isPtrD]; done) | omega | (simp only [push_nx, put_nx, del_nx]; omega) | (refine Nat.le_antisymm ?_ ?_ <;> simp only [push_nx, put_nx, del_nx] <;> omega) | fail) only [wpy, facts, wpb, cst, wpk, wpl, forall_const, implies_true, false_implies, Int.reduceLE, Int.reduceLT, Nat.reduceLeDiff, UInt8.reduceToNat, ↓reduceIte, Nat.reduceEqDiff, Nat.reduceAdd, reduceCtorEq, Int.reduceToNat, clsL, clsS, clsC, f5, f7, f8, f10, hd1, hd2, Tryd.f4]
      exact (hx5.trans hx).trans hy
end
end Go.Proofs.YtkibhdbmamfjcaaDoor
