/-
  Several texts of one walk, joined.
-/
import Derived.Test.YtkibhdbmamfjcaaDoorClE
set_option linter.unusedSimpArgs false
set_option linter.unusedVariables false
set_option linter.unusedSectionVars false
set_option linter.defProp false
set_option maxRecDepth 10000
namespace Go.Proofs.YtkibhdbmamfjcaaDoor
open Go.Proofs Go.Lx Go.Wx Go.IntWalk
noncomputable section
abbrev KT := Nat × List Nat
def WD.kt (w : WD) : KT := (w.kind, w.text)
def lexR : Nat → List Nat → Option (List KT)
  | 0, _ => some []
  | f + 1, s => if s = [] then some [] else if (passF s).2 ≠ 0 then none else if 0 < (passF s).1 then lexR f (s.drop (passF s).1) else if (wordD s).e ≠ 0 then none else (lexR f (s.drop (wordD s).n)).map (((wordD s).kind, (wordD s).text) :: ·)
def lex (s : List Nat) : Option (List KT) := lexR (s.length + 1) s
theorem lexR_fuel : ∀ (f g : Nat) (s : List Nat), s.length < f → s.length < g → lexR f s = lexR g s
  | 0, g, s, h, _ => by omega
  | f + 1, 0, s, _, h => by omega
  | f + 1, g + 1, s, hf, hg => by
    rw [lexR, lexR]
    by_cases h0 : s = []
    · rw [if_pos h0, if_pos h0]
    rw [if_neg h0, if_neg h0]
    have hl : 0 < s.length := List.length_pos_iff.2 h0
    by_cases h1 : (passF s).2 ≠ 0
    · rw [if_pos h1, if_pos h1]
    rw [if_neg h1, if_neg h1]
    by_cases h2 : 0 < (passF s).1
    · rw [if_pos h2, if_pos h2]
      exact lexR_fuel f g _ (by rw [List.length_drop]; omega) (by rw [List.length_drop]; omega)
    rw [if_neg h2, if_neg h2]
    by_cases h3 : (wordD s).e ≠ 0
    · rw [if_pos h3, if_pos h3]
    rw [if_neg h3, if_neg h3]
    have hp := wordD_pos (by omega : (wordD s).e = 0)
    rw [lexR_fuel f g _ (by rw [List.length_drop]; omega) (by rw [List.length_drop]; omega)]
theorem lex_nil : lex [] = some [] := rfl
theorem lex_bad {s : List Nat} (h0 : s ≠ []) (h : (passF s).2 ≠ 0) : lex s = none := by
  rw [lex, lexR, if_neg h0, if_pos h]
theorem lex_pass {s : List Nat} (h0 : s ≠ []) (h : (passF s).2 = 0) (h1 : 0 < (passF s).1) : lex s = lex (s.drop (passF s).1) := by
  have hl : 0 < s.length := List.length_pos_iff.2 h0
  rw [lex, lexR, if_neg h0, if_neg (by omega), if_pos h1]
  exact lexR_fuel _ _ _ (by rw [List.length_drop]; omega) (by omega)
theorem lex_fault {s : List Nat} (h0 : s ≠ []) (h : (passF s).2 = 0) (h1 : ¬ 0 < (passF s).1) (h2 : (wordD s).e ≠ 0) : lex s = none := by
  rw [lex, lexR, if_neg h0, if_neg (by omega), if_neg h1, if_pos h2]
theorem lex_word {s : List Nat} (h0 : s ≠ []) (h : (passF s).2 = 0) (h1 : ¬ 0 < (passF s).1) (h2 : (wordD s).e = 0) : lex s = (lex (s.drop (wordD s).n)).map (((wordD s).kind, (wordD s).text) :: ·) := by
  have hl : 0 < s.length := List.length_pos_iff.2 h0
  have hp := wordD_pos h2
  rw [lex, lexR, if_neg h0, if_neg (by omega), if_neg h1, if_neg (by omega)]
  rw [lexR_fuel _ ((s.drop (wordD s).n).length + 1) _ (by rw [List.length_drop]; omega) (by omega)]
  rfl
theorem allR_lex {s : List Nat} (hb : Bytes s) : ∀ (f p : Nat) (acc : List WD), p ≤ s.length → s.length < p + f → (∀ l, lexR f (s.drop p) = some l → ∃ ws, allR s f p acc = .inl (acc ++ ws) ∧ ws.map WD.kt = l) ∧ (lexR f (s.drop p) = none → ∃ e q, allR s f p acc = .inr (e, q) ∧ e ≠ 0)
  | 0, p, acc, hp, h => by omega
  | f + 1, p, acc, hp, h => by
    rw [lexR, allR]
    by_cases hl : p < s.length
    · have h0 : s.drop p ≠ [] := drop_ne hl
      have hdl : (s.drop p).length = s.length - p := List.length_drop
      rw [if_neg h0, if_pos hl]
      by_cases h1 : (passF (s.drop p)).2 ≠ 0
      · rw [if_pos h1, if_pos h1]
        exact ⟨fun l q => (by cases q), fun _ => ⟨_, _, rfl, h1⟩⟩
      rw [if_neg h1, if_neg h1]
      have hpl := passF_le h0
      by_cases h2 : 0 < (passF (s.drop p)).1
      · rw [if_pos h2, if_pos h2, List.drop_drop]
        exact allR_lex hb f _ acc (by omega) (by omega)
      rw [if_neg h2, if_neg h2]
      by_cases h3 : (wordD (s.drop p)).e ≠ 0
      · rw [if_pos h3, if_pos h3]
        exact ⟨fun l q => (by cases q), fun _ => ⟨_, _, rfl, h3⟩⟩
      rw [if_neg h3, if_neg h3, List.drop_drop]
      have hp1 := wordD_pos (by omega : (wordD (s.drop p)).e = 0)
      have hwn : p + (wordD (s.drop p)).n ≤ s.length := by
        have := (wordD_ok h0 (hb.drop p)).2.2
        omega
      have ih := allR_lex hb f (p + (wordD (s.drop p)).n) (acc ++ [⟨(wordD (s.drop p)).kind, (wordD (s.drop p)).text, p⟩]) hwn (by omega)
      refine ⟨fun l q => ?_, fun q => ?_⟩
      · cases hx : lexR f (s.drop (p + (wordD (s.drop p)).n)) with
        | none => rw [hx] at q; cases q
        | some l' =>
          rw [hx] at q
          obtain ⟨ws, e1, e2⟩ := ih.1 l' hx
          refine ⟨⟨(wordD (s.drop p)).kind, (wordD (s.drop p)).text, p⟩ :: ws, by rw [e1]; simp, ?_⟩
          rw [List.map_cons, e2]
          exact Option.some.inj q
      · cases hx : lexR f (s.drop (p + (wordD (s.drop p)).n)) with
        | none => exact ih.2 hx
        | some l' => rw [hx] at q; cases q
    · have hd : s.drop p = [] := List.drop_eq_nil_of_le (by omega)
      rw [if_pos hd, if_neg hl]
      exact ⟨fun l q => ⟨[], by simp, by cases q; rfl⟩, fun q => by cases q⟩
theorem words_lex {s : List Nat} (hb : Bytes s) (hs : s.length ≤ 1048576) : (∀ l, lex s = some l → faultE s = 0 ∧ faultP s = 0 ∧ (wordsOf s).map WD.kt = l) ∧ (lex s = none → ¬ faultE s = 0) := by
  have h := allR_lex hb (s.length + 1) 0 [] (Nat.zero_le _) (by omega)
  rw [List.drop_zero] at h
  have hl : ¬ 1048576 < s.length := by omega
  unfold faultE faultP wordsOf
  rw [if_neg hl, if_neg hl, if_neg hl]
  refine ⟨fun l q => ?_, fun q => ?_⟩
  · obtain ⟨ws, e1, e2⟩ := h.1 l q
    have e : allF s = .inl ws := by unfold allF; rw [e1]; rfl
    rw [e]
    exact ⟨rfl, rfl, e2⟩
  · obtain ⟨e, p, e1, e2⟩ := h.2 q
    have e' : allF s = .inr (e, p) := e1
    rw [e']
    show ¬ (e : Int) = 0
    omega
end
end Go.Proofs.YtkibhdbmamfjcaaDoor
set_option linter.unusedSimpArgs false
set_option linter.unusedVariables false
set_option linter.defProp false
set_option maxRecDepth 10000
namespace Go.Proofs.YtkibhdbmamfjcaaDoor
open Go.Proofs Go.Lx Go.Wx Go.IntWalk
noncomputable section
def Same (a b : List WD) : Prop := a.map WD.kt = b.map WD.kt
theorem Same.len {a b : List WD} (h : Same a b) : a.length = b.length := by
  have := congrArg List.length h
  simpa using this
theorem Same.at {a b : List WD} (h : Same a b) (i : Nat) : knd a i = knd b i ∧ txt a i = txt b i := by
  have hl := h.len
  unfold knd txt
  by_cases hi : i < a.length
  · rw [wordAt_lt hi, wordAt_lt (by omega)]
    have h1 : (a.map WD.kt)[i]? = (b.map WD.kt)[i]? := by rw [show a.map WD.kt = b.map WD.kt from h]
    rw [List.getElem?_map, List.getElem?_map, List.getElem?_eq_getElem hi, List.getElem?_eq_getElem (by omega)] at h1
    have h2 := Option.some.inj h1
    exact ⟨congrArg Prod.fst h2, congrArg Prod.snd h2⟩
  · rw [wordAt_ge hi, wordAt_ge (by omega)]
    exact ⟨rfl, rfl⟩
theorem Same.drop {a b : List WD} (h : Same a b) (n : Nat) : Same (a.drop n) (b.drop n) := by
  unfold Same
  rw [List.map_drop, List.map_drop, show a.map WD.kt = b.map WD.kt from h]
theorem Same.take {a b : List WD} (h : Same a b) (n : Nat) : Same (a.take n) (b.take n) := by
  unfold Same
  rw [List.map_take, List.map_take, show a.map WD.kt = b.map WD.kt from h]
section
variable {a b : List WD} (h : Same a b)
include h
theorem s_isC (i : Nat) (s : List Nat) : isC a i s ↔ isC b i s := by
  have := h.at i
  unfold knd txt at this
  unfold isC
  rw [this.1, this.2]
theorem s_all (i : Nat) (l : List (List Nat)) : allC a i l ↔ allC b i l := ⟨fun q j hj => (s_isC h _ _).1 (q j hj), fun q j hj => (s_isC h _ _).2 (q j hj)⟩
theorem s_any (i : Nat) (l : List (List Nat)) : anyC a i l ↔ anyC b i l := ⟨fun ⟨s, hs, q⟩ => ⟨s, hs, (s_isC h _ _).1 q⟩, fun ⟨s, hs, q⟩ => ⟨s, hs, (s_isC h _ _).2 q⟩⟩
theorem s_name (i : Nat) : nameP a i ↔ nameP b i := by
  have := (h.at i).1
  unfold knd at this
  unfold nameP
  rw [this]
theorem s_sign (i : Nat) : signP a i ↔ signP b i := by
  unfold signP
  rw [(h.at i).1, (h.at i).2]
theorem s_table (i : Nat) : tableF a i = tableF b i := by
  unfold tableF
  simp only [s_name h, s_isC h, (h.at _).2]
theorem s_lit (i : Nat) : litF a i = litF b i := by
  unfold litF
  simp only [s_name h, s_sign h, (h.at _).1, (h.at _).2]
theorem s_ass (i : Nat) : assF a i = assF b i := by
  unfold assF
  rw [s_lit h, h.len]
  simp only [s_isC h]
theorem s_locked : lockedP a ↔ lockedP b := by
  unfold lockedP
  simp only [h.len, (h.at _).1, (h.at _).2]
theorem s_odd : oddsP a ↔ oddsP b := by
  have hk : ∀ i, (wordAt a i).kind = (wordAt b i).kind := fun i => (h.at i).1
  have ht : ∀ i, (wordAt a i).text = (wordAt b i).text := fun i => (h.at i).2
  unfold oddsP oddW
  simp only [h.len, hk, ht, s_any h, s_all h]
theorem s_semi : semiP a ↔ semiP b := by
  unfold semiP
  simp only [h.len, (h.at _).1, (h.at _).2]
theorem s_ends (l : List (List Nat)) : endsP a l ↔ endsP b l := by
  unfold endsP
  rw [h.len]
  exact and_congr Iff.rfl (s_all ((h.drop _).take _) _ _)
theorem s_tr1 : tr1 a ↔ tr1 b := by
  unfold tr1
  simp only [s_isC h, h.len]
theorem s_tr3 : tr3 a ↔ tr3 b := by
  unfold tr3
  simp only [s_isC h, s_any h, h.len]
theorem s_trans : transF a = transF b := by
  unfold transF
  simp only [s_tr1 h, s_tr3 h, s_all h]
theorem s_tmA : tmA a = tmA b := by
  unfold tmA
  simp only [s_all h]
theorem s_tmB : tmB a = tmB b := by
  unfold tmB
  simp only [s_all h]
theorem s_tm1 : tm1 a ↔ tm1 b := by
  unfold tm1
  simp only [s_all h, s_table h, s_tmA h]
theorem s_tm2 : tm2 a ↔ tm2 b := by
  unfold tm2
  simp only [s_all h, s_table h, s_tmB h, h.len]
theorem s_temps : tempsF a = tempsF b := by
  unfold tempsF
  simp only [s_tm1 h, s_tm2 h, s_table h, s_tmA h, s_tmB h]
theorem s_lk1 : lk1 a ↔ lk1 b := by
  unfold lk1
  simp only [s_all h, s_isC h, h.len, (h.at _).1]
theorem s_lk2 : lk2 a ↔ lk2 b := by
  unfold lk2
  simp only [s_all h, h.len]
theorem s_lk4 : lk4 a ↔ lk4 b := by
  unfold lk4
  simp only [s_isC h, s_any h, s_table h]
theorem s_lk5 : lk5 a ↔ lk5 b := by
  unfold lk5
  simp only [s_isC h, s_any h, h.len]
theorem s_locks : locksF a = locksF b := by
  unfold locksF
  simp only [s_lk1 h, s_lk2 h, s_lk4 h, s_lk5 h, s_table h, s_locked h, (h.at _).2]
theorem s_nm : nmP a ↔ nmP b := by
  unfold nmP
  simp only [s_isC h, s_lit h, h.len]
theorem s_vp : vp a = vp b := by
  unfold vp
  simp only [s_any h]
theorem s_sys : sysT a = sysT b := by
  unfold sysT
  simp only [(h.at _).2]
theorem s_var : varF a = varF b := by
  unfold varF
  simp only [s_isC h, s_name h, s_lit h, s_ass h, s_nm h, s_vp h, s_sys h, (h.at _).1, (h.at _).2]
theorem s_sel : selP a ↔ selP b := by
  unfold selP
  simp only [s_isC h, s_ends h]
theorem s_rest : restF a = restF b := by
  unfold restF
  simp only [s_all h, s_any h, s_sel h]
theorem s_oddA : oddA a ↔ oddA b := by
  unfold oddA
  simp only [s_semi h, s_odd h, h.len]
theorem s_use : useP a ↔ useP b := by
  unfold useP
  simp only [s_isC h, s_name h, h.len]
theorem s_one : oneF a = oneF b := by
  unfold oneF
  simp only [s_oddA h, s_use h, s_locks h, s_trans h, s_var h, s_temps h, s_rest h, (h.at _).2]
end
theorem s_cls : ∀ {l m c d : List WD}, Same l m → Same c d → clsR l c = clsR m d
  | [], [], c, d, _, hc => by
    rw [clsR, clsR, s_one hc]
    have : (c = []) = (d = []) := by
      have := hc.len
      rw [← List.length_eq_zero_iff, ← List.length_eq_zero_iff, this]
    simp only [this]
  | [], w :: m, c, d, h, _ => by cases h
  | w :: l, [], c, d, h, _ => by cases h
  | w :: l, x :: m, c, d, h, hc => by
    unfold Same at h
    rw [List.map_cons, List.map_cons] at h
    injection h with h1 h2
    have hcut : isCut w ↔ isCut x := by
      unfold isCut
      rw [show w.kind = x.kind from congrArg Prod.fst h1, show w.text = x.text from congrArg Prod.snd h1]
    have : (c = []) = (d = []) := by
      have := hc.len
      rw [← List.length_eq_zero_iff, ← List.length_eq_zero_iff, this]
    rw [clsR, clsR, s_one hc, s_cls h2 (rfl : Same [] []), s_cls h2 (show Same (c ++ [w]) (d ++ [x]) by unfold Same; rw [List.map_append, List.map_append, show c.map WD.kt = d.map WD.kt from hc]; simp [h1])]
    simp only [this, hcut]
theorem cls_app : ∀ (l m : List WD) (c : List WD) (w : WD), isCut w → clsR (l ++ w :: m) c = clsR l c ++ clsR m []
  | [], m, c, w, hw => by
    have e : clsR (w :: m) c = (if c = [] then [] else [oneF c]) ++ clsR m [] := by rw [clsR, if_pos hw]
    rw [List.nil_append, e, clsR]
  | x :: l, m, c, w, hw => by
    rw [List.cons_append, clsR, clsR, cls_app l m [] w hw, cls_app l m (c ++ [x]) w hw]
    split
    · rw [List.append_assoc]
    · rfl
end
end Go.Proofs.YtkibhdbmamfjcaaDoor
set_option linter.unusedSimpArgs false
set_option linter.unusedVariables false
set_option linter.defProp false
set_option maxRecDepth 10000
namespace Go.Proofs.YtkibhdbmamfjcaaDoor
open Go.Proofs Go.Lx Go.Wx Go.IntWalk
noncomputable section

theorem getD_ext {t r : List Nat} {c i : Nat} (hi : i < t.length) : (t ++ c :: r).getD i 0 = t.getD i 0 := by
  rw [List.getD_eq_getElem?_getD, List.getD_eq_getElem?_getD, List.getElem?_append_left hi]
theorem getD_at (t r : List Nat) (c : Nat) : (t ++ c :: r).getD t.length 0 = c := by
  rw [List.getD_eq_getElem?_getD, List.getElem?_append_right (Nat.le_refl _), Nat.sub_self]
  rfl
theorem hasP_ext {t r p : List Nat} {c : Nat} (hp : c ∉ p) : hasP (t ++ c :: r) p ↔ hasP t p := by
  unfold hasP
  by_cases hl : p.length ≤ t.length
  · rw [List.take_append_of_le_length hl, List.length_append]
    exact ⟨fun q => ⟨hl, q.2⟩, fun q => ⟨by omega, q.2⟩⟩
  · refine ⟨fun q => ?_, fun q => absurd q.1 hl⟩
    exfalso
    apply hp
    rw [← q.2, List.take_append]
    refine List.mem_append_right _ ?_
    obtain ⟨k, hk⟩ : ∃ k, p.length - t.length = k + 1 := ⟨p.length - t.length - 1, by omega⟩
    rw [hk, List.take_succ_cons]
    exact List.mem_cons_self
theorem countW_ext (P : Nat → Prop) [DecidablePred P] {c : Nat} (hc : ¬ P c) (r : List Nat) : ∀ t : List Nat, countW P (t ++ c :: r) = countW P t
  | [] => by simp [countW, List.takeWhile_cons, hc]
  | x :: t => by
    have ih := countW_ext P hc r t
    unfold countW at ih ⊢
    rw [List.cons_append, List.takeWhile_cons, List.takeWhile_cons]
    split
    · rw [List.length_cons, List.length_cons, ih]
    · rfl
theorem findB_ext {b : Nat} {u : List Nat} : ∀ {t : List Nat} {i : Nat}, findB b t = some i → findB b (t ++ u) = some i
  | [], i, h => by cases h
  | x :: t, i, h => by
    rw [List.cons_append]
    rw [findB] at h ⊢
    by_cases hx : x = b
    · rw [if_pos hx] at h ⊢; exact h
    · rw [if_neg hx] at h ⊢
      cases hf : findB b t with
      | none => rw [hf] at h; cases h
      | some j => rw [hf] at h; rw [findB_ext hf]; exact h
theorem qF_ext {c : Nat} (hc : c ≠ 96) {r : List Nat} : ∀ (t : List Nat) {o : List Nat × Nat}, qF t = some o → qF (t ++ c :: r) = some o
  | [], o, h => by cases h
  | [x], o, h => by
    rw [qF] at h
    by_cases hx : x = 96
    · rw [if_pos hx] at h
      show qF (x :: c :: r) = some o
      rw [qF, if_pos hx, if_neg hc]
      exact h
    · rw [if_neg hx] at h; cases h
  | x :: y :: t, o, h => by
    show qF (x :: y :: (t ++ c :: r)) = some o
    rw [qF] at h ⊢
    by_cases hx : x = 96
    · rw [if_pos hx] at h ⊢
      by_cases hy : y = 96
      · rw [if_pos hy] at h ⊢
        cases hf : qF t with
        | none => rw [hf] at h; cases h
        | some j => rw [hf] at h; rw [qF_ext hc t hf]; exact h
      · rw [if_neg hy] at h ⊢; exact h
    · rw [if_neg hx] at h ⊢
      cases hf : qF (y :: t) with
      | none => rw [hf] at h; cases h
      | some j =>
        rw [hf] at h
        have := qF_ext (r := r) hc (y :: t) hf
        rw [List.cons_append] at this
        rw [this]; exact h
theorem tF_ext {q c : Nat} (hc : c ≠ q) {r : List Nat} : ∀ (t : List Nat) {o : List Nat × Nat}, tF q t = some o → tF q (t ++ c :: r) = some o
  | [], o, h => by cases h
  | [x], o, h => by
    rw [tF] at h
    by_cases h9 : x = 92
    · rw [if_pos h9] at h; cases h
    rw [if_neg h9] at h
    by_cases hx : x = q
    · rw [if_pos hx] at h
      show tF q (x :: c :: r) = some o
      rw [tF, if_neg h9, if_pos hx, if_neg hc]
      exact h
    · rw [if_neg hx] at h; cases h
  | x :: y :: t, o, h => by
    show tF q (x :: y :: (t ++ c :: r)) = some o
    rw [tF] at h ⊢
    by_cases h9 : x = 92
    · rw [if_pos h9] at h ⊢
      cases hf : tF q t with
      | none => rw [hf] at h; cases h
      | some j => rw [hf] at h; rw [tF_ext hc t hf]; exact h
    rw [if_neg h9] at h ⊢
    by_cases hx : x = q
    · rw [if_pos hx] at h ⊢
      by_cases hy : y = q
      · rw [if_pos hy] at h ⊢
        cases hf : tF q t with
        | none => rw [hf] at h; cases h
        | some j => rw [hf] at h; rw [tF_ext hc t hf]; exact h
      · rw [if_neg hy] at h ⊢; exact h
    · rw [if_neg hx] at h ⊢
      cases hf : tF q (y :: t) with
      | none => rw [hf] at h; cases h
      | some j =>
        rw [hf] at h
        have := tF_ext (r := r) hc (y :: t) hf
        rw [List.cons_append] at this
        rw [this]; exact h
end
end Go.Proofs.YtkibhdbmamfjcaaDoor
set_option linter.unusedSimpArgs false
set_option linter.unusedVariables false
set_option linter.defProp false
set_option maxRecDepth 10000
namespace Go.Proofs.YtkibhdbmamfjcaaDoor
open Go.Proofs Go.Lx Go.Wx Go.IntWalk
noncomputable section

theorem dec_ext {c : Nat} (hc : c < 128) (r : List Nat) : ∀ t : List Nat, t ≠ [] → dec (t ++ c :: r) = dec t
  | [], h => absurd rfl h
  | [x], _ => by
    have h2 : ¬ c / 64 = 2 := by omega
    unfold dec
    simp [cond_eq_ite, Nat.blt_eq, Nat.beq_eq, h2]
  | [x, y], _ => by
    have h2 : ¬ c / 64 = 2 := by omega
    unfold dec
    simp [cond_eq_ite, Nat.blt_eq, Nat.beq_eq, h2]
  | [x, y, z], _ => by
    have h2 : ¬ c / 64 = 2 := by omega
    have h3 : 2 < r.length + 1 + 1 + 1 + 1 := by omega
    unfold dec
    simp [cond_eq_ite, Nat.blt_eq, Nat.beq_eq, h2, h3]
  | x :: y :: z :: w :: l, _ => by
    have h3 : ∀ m : Nat, 2 < m + 1 + 1 + 1 + 1 := fun m => by omega
    have h4 : ∀ m : Nat, 3 < m + 1 + 1 + 1 + 1 := fun m => by omega
    unfold dec
    simp [cond_eq_ite, Nat.blt_eq, Nat.beq_eq, h3, h4]
end
end Go.Proofs.YtkibhdbmamfjcaaDoor
set_option linter.unusedSimpArgs false
set_option linter.unusedVariables false
set_option linter.defProp false
set_option maxRecDepth 10000
namespace Go.Proofs.YtkibhdbmamfjcaaDoor
open Go.Proofs Go.Lx Go.Wx Go.IntWalk
noncomputable section

theorem blank_lt {c : Nat} (hc : isBlank c) : c < 128 ∧ ¬ letterR c ∧ ¬ isDigit c ∧ ¬ isHex c ∧ c ≠ 46 ∧ c ≠ 101 ∧ c ≠ 69 ∧ c ≠ 43 ∧ c ≠ 45 ∧ c ≠ 96 ∧ c ≠ 39 ∧ c ≠ 34 ∧ c ≠ 42 ∧ c ≠ 47 ∧ c ≠ 64 := by
  unfold isBlank at hc
  unfold letterR isHex isDigit
  omega
theorem runF_ext {c : Nat} (hc : isBlank c) (r : List Nat) : ∀ (n : Nat) (t : List Nat), t.length ≤ n → runF (t ++ c :: r) = runF t
  | n, [], _ => by
    obtain ⟨h1, h2, h3, _⟩ := blank_lt hc
    have hd : dec ([] ++ c :: r) = (c, 1) := by
      unfold dec
      simp [cond_eq_ite, Nat.blt_eq, h1]
    rw [runF_nil, runF_stop (by simp) (by unfold badR; rw [hd]; simp; omega) (by rw [hd]; exact h2) (by rw [hd]; exact h3)]
  | 0, x :: t, h => by simp at h
  | n + 1, x :: t, h => by
    obtain ⟨h1, h2, h3, _⟩ := blank_lt hc
    have h0 : x :: t ≠ [] := List.cons_ne_nil _ _
    have h0' : (x :: t) ++ c :: r ≠ [] := by simp
    have hd := dec_ext h1 r (x :: t) h0
    have hp := dec_pos (x :: t)
    have hle := dec_le (x :: t) h0
    have hdr : ((x :: t) ++ c :: r).drop (dec (x :: t)).2 = (x :: t).drop (dec (x :: t)).2 ++ c :: r := List.drop_append_of_le_length hle
    have ih := runF_ext hc r n ((x :: t).drop (dec (x :: t)).2) (by rw [List.length_drop]; omega)
    by_cases hb : badR (x :: t)
    · rw [runF_bad h0 hb, runF_bad h0' (by unfold badR; rw [hd]; exact hb)]
    have hb' : ¬ badR ((x :: t) ++ c :: r) := by unfold badR; rw [hd]; exact hb
    by_cases hl : letterR (dec (x :: t)).1
    · rw [runF_letter h0 hb hl, runF_letter h0' hb' (by rw [hd]; exact hl), hd, hdr, ih]
    by_cases hg : isDigit (dec (x :: t)).1
    · rw [runF_digit h0 hb hl hg, runF_digit h0' hb' (by rw [hd]; exact hl) (by rw [hd]; exact hg), hd, hdr, ih]
    · rw [runF_stop h0 hb hl hg, runF_stop h0' hb' (by rw [hd]; exact hl) (by rw [hd]; exact hg)]
theorem drop_ext {t : List Nat} {n : Nat} (h : n ≤ t.length) (u : List Nat) : (t ++ u).drop n = t.drop n ++ u := List.drop_append_of_le_length h
theorem countW_all {P : Nat → Prop} [DecidablePred P] {c : Nat} (hc : ¬ P c) {t r : List Nat} {n : Nat} (h : n ≤ t.length) : countW P ((t ++ c :: r).drop n) = countW P (t.drop n) := by
  rw [drop_ext h, countW_ext P hc]
theorem deci_ext {c : Nat} (hc : isBlank c) (r t : List Nat) : deci (t ++ c :: r) = deci t := by
  obtain ⟨h1, h2, h3, h4, h5, _⟩ := blank_lt hc
  have hw := countW_le isDigit t
  have e1 : countW isDigit (t ++ c :: r) = countW isDigit t := countW_ext isDigit h3 r t
  unfold deci
  rw [e1]
  by_cases hl : countW isDigit t < t.length
  · rw [getD_ext hl, countW_all h3 (by omega : countW isDigit t + 1 ≤ t.length)]
    have : countW isDigit t < (t ++ c :: r).length := by simp; omega
    simp only [hl, this]
  · have e2 : countW isDigit t = t.length := by omega
    have hn : ¬ (countW isDigit t < (t ++ c :: r).length ∧ (t ++ c :: r).getD (countW isDigit t) 0 = 46 ∧ 0 < countW isDigit t + countW isDigit ((t ++ c :: r).drop (countW isDigit t + 1))) := by
      rintro ⟨_, q, _⟩
      rw [e2, getD_at] at q
      exact h5 q
    rw [if_neg hn, if_neg fun q => hl q.1]
theorem deci_le (t : List Nat) : deci t ≤ t.length := by
  have hc2 := countW_le isDigit t
  have hc3 := countW_le isDigit (t.drop (countW isDigit t + 1))
  rw [List.length_drop] at hc3
  unfold deci
  split <;> omega
theorem expK_ext {c : Nat} (hc : isBlank c) (r t : List Nat) (n : Nat) (hn : n < t.length) : expK (t ++ c :: r) n = expK t n := by
  obtain ⟨h1, h2, h3, h4, h5, h6, h7, h8, h9, _⟩ := blank_lt hc
  unfold expK
  by_cases hl : n + 1 < t.length
  · rw [getD_ext hl]
    have : n + 1 < (t ++ c :: r).length := by simp; omega
    simp only [hl, this]
  · have e2 : n + 1 = t.length := by omega
    have hg : (t ++ c :: r).getD (n + 1) 0 = c := by rw [e2, getD_at]
    rw [if_neg (fun q => hl q.1 : ¬ (n + 1 < t.length ∧ _)), if_neg]
    rintro ⟨_, q⟩
    rw [hg] at q
    exact q.elim h8 h9
theorem expo_ext {c : Nat} (hc : isBlank c) (r t : List Nat) (n : Nat) (hn : n ≤ t.length) : expo (t ++ c :: r) n = expo t n := by
  obtain ⟨h1, h2, h3, h4, h5, h6, h7, h8, h9, _⟩ := blank_lt hc
  unfold expo
  by_cases hl : n < t.length
  · have hk : expK t n ≤ t.length := by unfold expK; split <;> omega
    rw [getD_ext hl, expK_ext hc r t n hl, countW_all h3 hk]
    have : n < (t ++ c :: r).length := by simp; omega
    simp only [hl, this]
  · have e2 : n = t.length := by omega
    have hn' : ¬ (n < (t ++ c :: r).length ∧ ((t ++ c :: r).getD n 0 = 101 ∨ (t ++ c :: r).getD n 0 = 69) ∧ 0 < countW isDigit ((t ++ c :: r).drop (expK (t ++ c :: r) n))) := by
      rintro ⟨_, q, _⟩
      rw [e2, getD_at] at q
      exact q.elim h6 h7
    rw [if_neg hn', if_neg fun q => hl q.1]
theorem hexPre_ext {c : Nat} (hc : isBlank c) (r t : List Nat) : hexPre (t ++ c :: r) ↔ hexPre t := by
  have h1 : c ∉ [48, 120] := by unfold isBlank at hc; simp; omega
  have h2 : c ∉ [48, 88] := by unfold isBlank at hc; simp; omega
  exact or_congr (hasP_ext (p := [48, 120]) h1) (hasP_ext (p := [48, 88]) h2)
theorem numN_ext {c : Nat} (hc : isBlank c) (r t : List Nat) : numN (t ++ c :: r) = numN t := by
  obtain ⟨h1, h2, h3, h4, _⟩ := blank_lt hc
  unfold numN
  rw [deci_ext hc, expo_ext hc r t _ (deci_le t)]
  by_cases hp : hexPre t
  · have hl : 2 ≤ t.length := by
      rcases hp with q | q
      · exact q.1
      · exact q.1
    rw [countW_all h4 hl]
    simp only [hexPre_ext hc r t]
  · have hp' : ¬ hexPre (t ++ c :: r) := fun q => hp ((hexPre_ext hc r t).1 q)
    rw [if_neg (fun q => hp' q.1 : ¬ (hexPre (t ++ c :: r) ∧ _)), if_neg (fun q => hp q.1 : ¬ (hexPre t ∧ 0 < countW isHex (t.drop 2)))]
theorem take_ext {t : List Nat} {n : Nat} (h : n ≤ t.length) (u : List Nat) : (t ++ u).take n = t.take n := List.take_append_of_le_length h
theorem numD_ext {c : Nat} (hc : isBlank c) (r t : List Nat) : numD (t ++ c :: r) = numD t := by
  unfold numD
  rw [numN_ext hc, take_ext (numN_le t)]
theorem nameD_ext {c : Nat} (hc : isBlank c) (r t : List Nat) : nameD (t ++ c :: r) = nameD t := by
  unfold nameD
  rw [runF_ext hc r t.length t (Nat.le_refl _), take_ext (runF_le t)]
theorem nameN_ext {c : Nat} (hc : isBlank c) (r t : List Nat) : nameN (t ++ c :: r) = nameN t := by
  unfold nameN
  rw [runF_ext hc r t.length t (Nat.le_refl _)]
theorem eitherD_ext {c : Nat} (hc : isBlank c) (r t : List Nat) : eitherD (t ++ c :: r) = eitherD t := by
  unfold eitherD
  rw [numN_ext hc, nameN_ext hc, numD_ext hc, nameD_ext hc]
theorem sysN_ext {c : Nat} (hc : isBlank c) (r : List Nat) : ∀ (f g : Nat) (t : List Nat), t.length < f → t.length < g → sysN f (t ++ c :: r) = sysN g t
  | 0, g, t, h, _ => by omega
  | f + 1, 0, t, _, h => by omega
  | f + 1, g + 1, t, hf, hg => by
    obtain ⟨h1, h2, h3, h4, h5, _⟩ := blank_lt hc
    have hle := runF_le t
    rw [sysN, sysN, runF_ext hc r t.length t (Nat.le_refl _)]
    by_cases hl : (runF t).1 < t.length
    · rw [getD_ext hl, drop_ext (by omega : (runF t).1 + 1 ≤ t.length)]
      have : (runF t).1 < (t ++ c :: r).length := by simp; omega
      rw [sysN_ext hc r f g (t.drop ((runF t).1 + 1)) (by rw [List.length_drop]; omega) (by rw [List.length_drop]; omega)]
      simp only [hl, this]
    · have e2 : (runF t).1 = t.length := by omega
      have hn : ¬ ((runF t).1 < (t ++ c :: r).length ∧ (t ++ c :: r).getD (runF t).1 0 = 46) := by
        rintro ⟨_, q⟩
        rw [e2, getD_at] at q
        exact h5 q
      rw [if_neg hn, if_neg fun q => hl q.1]
end
end Go.Proofs.YtkibhdbmamfjcaaDoor
set_option linter.unusedSimpArgs false
set_option linter.unusedVariables false
set_option linter.unusedSectionVars false
set_option linter.defProp false
set_option maxRecDepth 10000
namespace Go.Proofs.YtkibhdbmamfjcaaDoor
open Go.Proofs Go.Lx Go.Wx Go.IntWalk
noncomputable section

theorem isPre_ext {c : Nat} (u : List Nat) : ∀ (p t : List Nat), c ∉ p → isPre p (t ++ c :: u) = isPre p t
  | [], t, _ => by simp [isPre]
  | a :: p, [], h => by
    have : ¬ a = c := fun q => h (by rw [q]; exact List.mem_cons_self)
    have h2 : Nat.beq a c = false := by
      cases hb : Nat.beq a c with
      | false => rfl
      | true => exact absurd (Nat.eq_of_beq_eq_true hb) this
    simp [isPre, h2]
  | a :: p, x :: t, h => by
    rw [List.cons_append, isPre, isPre, isPre_ext u p t fun q => h (List.mem_cons_of_mem _ q)]
theorem findS_ext {c : Nat} {u p : List Nat} (hc : c ∉ p) (hp : p ≠ []) : ∀ {t : List Nat} {i : Nat}, findS p t = some i → findS p (t ++ c :: u) = some i
  | [], i, h => by rw [findS, if_neg hp] at h; cases h
  | x :: t, i, h => by
    have e := isPre_ext u p (x :: t) hc
    rw [List.cons_append] at e ⊢
    rw [findS] at h ⊢
    rw [e]
    by_cases hx : isPre p (x :: t) = true
    · rw [if_pos hx] at h ⊢; exact h
    · rw [if_neg hx] at h ⊢
      cases hf : findS p t with
      | none => rw [hf] at h; cases h
      | some j => rw [hf] at h; rw [findS_ext hc hp hf]; exact h
def Stays (d d' : FD) : Prop := d.e = 0 → d' = d
def StaysL : List FD → List FD → Prop
  | [], [] => True
  | d :: l, d' :: l' => Stays d d' ∧ StaysL l l'
  | _, _ => False
theorem tryW_stays : ∀ {l l' : List FD}, StaysL l l' → (tryW l).e = 0 → tryW l' = tryW l
  | [], [], _, _ => rfl
  | d :: l, d' :: l', ⟨h1, h2⟩, he => by
    rw [tryW] at he ⊢
    rw [tryW]
    by_cases hd : d.e ≠ 0
    · rw [if_pos hd] at he; exact absurd he hd
    · rw [if_neg hd] at he
      rw [h1 (by omega), if_neg hd, if_neg hd]
      by_cases hn : 0 < d.n
      · rw [if_pos hn, if_pos hn]
      · rw [if_neg hn] at he
        rw [if_neg hn, if_neg hn]
        exact tryW_stays h2 he
theorem tryU_stays : ∀ {l l' : List FD}, StaysL l l' → (tryU l).e = 0 → tryU l' = tryU l
  | [], [], _, _ => rfl
  | d :: l, d' :: l', ⟨h1, h2⟩, he => by
    rw [tryU] at he ⊢
    rw [tryU]
    by_cases hd : d.e ≠ 0
    · rw [if_pos hd] at he; exact absurd he hd
    · rw [if_neg hd] at he
      rw [h1 (by omega), if_neg hd, if_neg hd]
      by_cases hn : 0 < d.n
      · rw [if_pos hn, if_pos hn]
      · rw [if_neg hn] at he
        rw [if_neg hn, if_neg hn]
        exact tryU_stays h2 he
section
variable {c : Nat} (hc : isBlank c) (r : List Nat) {t : List Nat} (h0 : t ≠ [])
include hc h0
theorem quotD_ext : Stays (quotD t) (quotD (t ++ c :: r)) := by
  intro he
  have hl : 0 < t.length := List.length_pos_iff.2 h0
  have h96 := (blank_lt hc).2.2.2.2.2.2.2.2.2.1
  unfold quotD at he ⊢
  rw [getD_ext hl, drop_ext (by omega : 1 ≤ t.length)]
  by_cases h : t.getD 0 0 = 96
  · rw [if_pos h] at he ⊢
    rw [if_pos h]
    cases hf : qF (t.drop 1) with
    | none => rw [hf] at he; exact absurd he (by decide)
    | some o => rw [qF_ext h96 _ hf]
  · rw [if_neg h, if_neg h]
theorem textD_ext : Stays (textD t) (textD (t ++ c :: r)) := by
  intro he
  have hl : 0 < t.length := List.length_pos_iff.2 h0
  have hb := blank_lt hc
  unfold textD at he ⊢
  rw [getD_ext hl, drop_ext (by omega : 1 ≤ t.length)]
  by_cases h : isQ (t.getD 0 0)
  · rw [if_pos h] at he ⊢
    rw [if_pos h]
    have hq : c ≠ t.getD 0 0 := by
      unfold isQ at h
      obtain ⟨_, _, _, _, _, _, _, _, _, _, q1, q2, _⟩ := hb
      rcases h with h | h <;> rw [h]
      · exact q1
      · exact q2
    cases hf : tF (t.getD 0 0) (t.drop 1) with
    | none => rw [hf] at he; exact absurd he (by decide)
    | some o => rw [tF_ext hq _ hf]
  · rw [if_neg h, if_neg h]
theorem sysD_ext : Stays (sysD t) (sysD (t ++ c :: r)) := by
  intro he
  have h64 : c ∉ [64, 64] := by have := blank_lt hc; simp; omega
  have hi : hasP (t ++ c :: r) [64, 64] ↔ hasP t [64, 64] := hasP_ext h64
  unfold sysD at he ⊢
  by_cases h : hasP t [64, 64]
  · have hl : 2 ≤ t.length := h.1
    have hE : sysE (t ++ c :: r) = sysE t := by
      unfold sysE
      rw [drop_ext hl]
      exact sysN_ext hc r _ _ _ (by rw [List.length_append, List.length_drop, List.length_cons]; omega) (by rw [List.length_drop]; omega)
    have hle := sysN_le (t.length + 1) (t.drop 2)
    rw [List.length_drop] at hle
    have hE2 : 2 + sysE t ≤ t.length := by unfold sysE; omega
    rw [if_pos h] at he ⊢
    rw [if_pos (hi.2 h), hE, take_ext hE2]
  · rw [if_neg h, if_neg fun q => h (hi.1 q)]
theorem oddD_ext : Stays (oddD t) (oddD (t ++ c :: r)) := by
  intro he
  have hb := blank_lt hc
  have h1 : c ∉ [47, 42, 33] := by unfold isBlank at hc; simp; omega
  have h2 : c ∉ [47, 42, 43] := by unfold isBlank at hc; simp; omega
  have h3 : c ∉ [42, 47] := by unfold isBlank at hc; simp; omega
  have hi : (hasP (t ++ c :: r) [47, 42, 33] ∨ hasP (t ++ c :: r) [47, 42, 43]) ↔ (hasP t [47, 42, 33] ∨ hasP t [47, 42, 43]) := or_congr (hasP_ext h1) (hasP_ext h2)
  unfold oddD at he ⊢
  by_cases h : hasP t [47, 42, 33] ∨ hasP t [47, 42, 43]
  · have hl : 3 ≤ t.length := by
      rcases h with h | h
      · exact h.1
      · exact h.1
    rw [if_pos h] at he ⊢
    rw [if_pos (hi.2 h), drop_ext (by omega : 2 ≤ t.length)]
    cases hf : findS [42, 47] (t.drop 2) with
    | none => rw [hf] at he; exact absurd (show (190 : Nat) = 0 from he) (by decide)
    | some i =>
      have hle := findS_le hf
      rw [List.length_drop] at hle
      simp only [List.length_cons, List.length_nil] at hle
      rw [findS_ext h3 (by simp) hf]
      show (⟨9, (t ++ c :: r).take (i + 4), i + 4, 0⟩ : FD) = ⟨9, t.take (i + 4), i + 4, 0⟩
      rw [take_ext (by omega : i + 4 ≤ t.length)]
  · rw [if_neg h, if_neg fun q => h (hi.1 q)]
theorem signD_ext : signD (t ++ c :: r) = signD t := by
  have hl : 0 < t.length := List.length_pos_iff.2 h0
  have hs : ∀ l : List (List Nat), (∀ x ∈ l, c ∉ x) → trySign (t ++ c :: r) l = trySign t l := by
    intro l
    induction l with
    | nil => intro _; rfl
    | cons x l ih =>
      intro hx
      have e : (x.length ≤ (t ++ c :: r).length ∧ (t ++ c :: r).take x.length = x) ↔ (x.length ≤ t.length ∧ t.take x.length = x) := hasP_ext (hx x List.mem_cons_self)
      rw [trySign, trySign, ih fun y hy => hx y (List.mem_cons_of_mem _ hy)]
      simp only [e]
  unfold signD
  rw [getD_ext hl]
  have hall : ∀ x ∈ signsL, c ∉ x := by
    intro x hx hm
    have h1 : ∀ x ∈ signsL, ∀ y ∈ x, 33 ≤ y := by decide
    have := h1 x hx c hm
    unfold isBlank at hc
    omega
  rw [hs signsL hall]
theorem userD_ext : Stays (userD t) (userD (t ++ c :: r)) := by
  intro he
  have hl : 0 < t.length := List.length_pos_iff.2 h0
  unfold userD at he ⊢
  rw [getD_ext hl]
  by_cases h : t.getD 0 0 = 64
  · rw [if_pos h] at he ⊢
    rw [if_pos h]
    by_cases h1 : t.length = 1
    · rw [if_pos h1] at he; exact absurd (show (191 : Nat) = 0 from he) (by decide)
    · have h1' : ¬ (t ++ c :: r).length = 1 := by simp; omega
      have hd0 : t.drop 1 ≠ [] := fun q => by have := congrArg List.length q; simp at this; omega
      rw [if_neg h1] at he ⊢
      rw [if_neg h1', drop_ext (by omega : 1 ≤ t.length)]
      exact tryU_stays ⟨quotD_ext hc r hd0, textD_ext hc r hd0, fun _ => nameD_ext hc r _, trivial⟩ he
  · rw [if_neg h, if_neg h]
theorem wordD_ext (he : (wordD t).e = 0) : wordD (t ++ c :: r) = wordD t :=
  tryW_stays ⟨oddD_ext hc r h0, fun _ => eitherD_ext hc r t, quotD_ext hc r h0, textD_ext hc r h0, sysD_ext hc r h0, userD_ext hc r h0, fun _ => signD_ext hc r h0, trivial⟩ he
end
end
end Go.Proofs.YtkibhdbmamfjcaaDoor
set_option linter.unusedSimpArgs false
set_option linter.unusedVariables false
set_option linter.defProp false
set_option linter.unusedSectionVars false
set_option maxRecDepth 10000
namespace Go.Proofs.YtkibhdbmamfjcaaDoor
open Go.Proofs Go.Lx Go.Wx Go.IntWalk
noncomputable section

theorem blank10 : isBlank 10 := by unfold isBlank; omega
def dashE (s : List Nat) : Prop := 2 ≤ s.length ∧ s.drop (s.length - 2) = [45, 45]
theorem dashE_drop {s : List Nat} {n : Nat} (h : ¬ dashE s) : ¬ dashE (s.drop n) := by
  rintro ⟨h1, h2⟩
  rw [List.length_drop] at h1 h2
  apply h
  refine ⟨by omega, ?_⟩
  rw [List.drop_drop] at h2
  rw [← h2]
  congr 1
  omega
theorem lineP_ext {t r : List Nat} (h0 : t ≠ []) (hd : ¬ dashE t) : lineP (t ++ 10 :: r) ↔ lineP t := by
  have hl : 0 < t.length := List.length_pos_iff.2 h0
  unfold lineP
  rw [getD_ext hl]
  have hp : hasP (t ++ 10 :: r) [45, 45] ↔ hasP t [45, 45] := hasP_ext (by decide)
  refine or_congr Iff.rfl ?_
  constructor
  · rintro ⟨h1, h2, h3⟩
    have h1 := hp.1 h1
    have h4 : 2 ≤ t.length := h1.1
    by_cases h5 : 2 < t.length
    · rw [getD_ext h5] at h3
      exact ⟨h1, h5, h3⟩
    · exact absurd ⟨h4, by rw [show t.length - 2 = 0 by omega, List.drop_zero]; have := h1.2; rw [show [45, 45].length = 2 from rfl, List.take_of_length_le (by omega)] at this; exact this⟩ hd
  · rintro ⟨h1, h2, h3⟩
    exact ⟨hp.2 h1, by simp; omega, by rw [getD_ext h2]; exact h3⟩
theorem findB_at {b : Nat} (u : List Nat) : ∀ {t : List Nat}, findB b t = none → findB b (t ++ b :: u) = some t.length
  | [], _ => by rw [List.nil_append, findB, if_pos rfl]; rfl
  | x :: t, h => by
    rw [findB] at h
    by_cases hx : x = b
    · rw [if_pos hx] at h; cases h
    · rw [if_neg hx] at h
      cases hf : findB b t with
      | some j => rw [hf] at h; cases h
      | none => rw [List.cons_append, findB, if_neg hx, findB_at u hf]; rfl
theorem passF_ext {t r : List Nat} (h0 : t ≠ []) (hd : ¬ dashE t) (he : (passF t).2 = 0) : passF (t ++ 10 :: r) = passF t ∨ (passF t = (t.length, 0) ∧ passF (t ++ 10 :: r) = (t.length + 1, 0)) := by
  have hl : 0 < t.length := List.length_pos_iff.2 h0
  unfold passF at he ⊢
  rw [getD_ext hl]
  by_cases hb : isBlank (t.getD 0 0)
  · rw [if_pos hb, if_pos hb]; exact .inl rfl
  rw [if_neg hb] at he ⊢
  rw [if_neg hb]
  by_cases hL : lineP t
  · rw [if_pos hL, if_pos ((lineP_ext h0 hd).2 hL)]
    cases hf : findB 10 t with
    | some i => rw [findB_ext hf]; exact .inl rfl
    | none => rw [findB_at r hf]; exact .inr ⟨rfl, rfl⟩
  rw [if_neg hL] at he ⊢
  rw [if_neg fun q => hL ((lineP_ext h0 hd).1 q)]
  have hp : hasP (t ++ 10 :: r) [47, 42] ↔ hasP t [47, 42] := hasP_ext (by decide)
  by_cases hP : ¬ hasP t [47, 42] ∨ oddP t
  · rw [if_pos hP, if_pos]
    · exact .inl rfl
    rcases hP with q | q
    · exact .inl fun w => q (hp.1 w)
    · exact .inr ⟨by have := q.1; simp; omega, by rw [getD_ext q.1]; exact q.2⟩
  · rw [if_neg hP] at he ⊢
    have h1 : hasP t [47, 42] := Classical.not_not.1 fun q => hP (.inl q)
    have h2 : ¬ oddP t := fun q => hP (.inr q)
    have hl2 : 2 ≤ t.length := h1.1
    have h2' : ¬ oddP (t ++ 10 :: r) := by
      rintro ⟨q1, q2⟩
      by_cases h5 : 2 < t.length
      · rw [getD_ext h5] at q2
        exact h2 ⟨h5, q2⟩
      · have e : t.length = 2 := by omega
        have := getD_at t r 10
        rw [e] at this
        rw [this] at q2
        omega
    rw [if_neg fun q => q.elim (fun w => w (hp.2 h1)) h2', drop_ext hl2]
    cases hf : findS [42, 47] (t.drop 2) with
    | none => rw [hf] at he; exact absurd (show (190 : Nat) = 0 from he) (by decide)
    | some i => rw [findS_ext (by decide) (by simp) hf]; exact .inl rfl
theorem lex_app (r : List Nat) : ∀ (n : Nat) (t : List Nat) (l : List KT), t.length ≤ n → Bytes t → ¬ dashE t → lex t = some l → lex (t ++ 10 :: r) = (lex r).map (l ++ ·)
  | n, [], l, _, _, _, h => by
    have hl : l = [] := by rw [lex_nil] at h; cases h; rfl
    have hp : passF (10 :: r) = (1, 0) := by unfold passF; rw [if_pos (show isBlank ((10 :: r).getD 0 0) from blank10)]
    rw [List.nil_append, lex_pass (List.cons_ne_nil _ _) (by rw [hp]) (by rw [hp]; decide), hp, hl]
    show lex r = (lex r).map ([] ++ ·)
    cases lex r <;> rfl
  | 0, x :: t, l, h, _, _, _ => by simp at h
  | n + 1, x :: t, l, hn, hb, hd, h => by
    have h0 : x :: t ≠ [] := List.cons_ne_nil _ _
    generalize x :: t = s at *
    have h0' : s ++ 10 :: r ≠ [] := by simp
    have hl : 0 < s.length := List.length_pos_iff.2 h0
    by_cases he : (passF s).2 ≠ 0
    · rw [lex_bad h0 he] at h; cases h
    have he : (passF s).2 = 0 := by omega
    have hpl := passF_le h0
    by_cases h2 : 0 < (passF s).1
    · rw [lex_pass h0 he h2] at h
      rcases passF_ext (r := r) h0 hd he with q | ⟨q1, q2⟩
      · rw [lex_pass h0' (by rw [q]; exact he) (by rw [q]; exact h2), q, drop_ext hpl]
        exact lex_app r n _ l (by rw [List.length_drop]; omega) (hb.drop _) (dashE_drop hd) h
      · rw [q1] at h
        rw [List.drop_length, lex_nil] at h
        cases h
        rw [lex_pass h0' (by rw [q2]) (by rw [q2]; exact Nat.succ_pos _), q2]
        have : (s ++ 10 :: r).drop (s.length + 1) = r := by
          rw [List.drop_append]
          simp
        show lex ((s ++ 10 :: r).drop (s.length + 1)) = _
        rw [this]
        cases lex r <;> rfl
    · have hq : passF (s ++ 10 :: r) = passF s := by
        rcases passF_ext (r := r) h0 hd he with q | ⟨q1, q2⟩
        · exact q
        · rw [q1] at h2; exact absurd hl h2
      by_cases h3 : (wordD s).e ≠ 0
      · rw [lex_fault h0 he h2 h3] at h; cases h
      have h3 : (wordD s).e = 0 := by omega
      have hw := wordD_ext blank10 r h0 h3
      have hwn := (wordD_ok h0 hb).2.2
      have hpos := wordD_pos h3
      rw [lex_word h0 he h2 h3] at h
      rw [lex_word h0' (by rw [hq]; exact he) (by rw [hq]; exact h2) (by rw [hw]; exact h3), hw, drop_ext hwn]
      cases hx : lex (s.drop (wordD s).n) with
      | none => rw [hx] at h; cases h
      | some l' =>
        rw [hx] at h
        cases h
        rw [lex_app r n _ l' (by rw [List.length_drop]; omega) (hb.drop _) (dashE_drop hd) hx]
        cases lex r <;> rfl
end
end Go.Proofs.YtkibhdbmamfjcaaDoor
set_option linter.unusedSimpArgs false
set_option linter.unusedVariables false
set_option linter.defProp false
set_option linter.unusedSectionVars false
set_option maxRecDepth 10000
namespace Go.Proofs.YtkibhdbmamfjcaaDoor
open Go.Proofs Go.Lx Go.Wx Go.IntWalk
noncomputable section

theorem semi_pass (b : List Nat) : passF (59 :: b) = (0, 0) := by
  have h1 : ¬ isBlank ((59 :: b).getD 0 0) := by show ¬ isBlank 59; unfold isBlank; omega
  have h3 : ¬ hasP (59 :: b) [47, 42] := fun q => by have := q.2; simp at this
  have h2 : ¬ lineP (59 :: b) := by
    rintro (q | q)
    · exact absurd (show (59 : Nat) = 35 from q) (by decide)
    · have := q.1.2; simp at this
  unfold passF
  rw [if_neg h1, if_neg h2, if_pos (.inl h3)]
theorem semi_word (b : List Nat) : wordD (59 :: b) = ⟨5, [59], 1, 0⟩ := by
  have hd : dec (59 :: b) = (59, 1) := by unfold dec; simp [cond_eq_ite, Nat.blt_eq]
  have hr : runF (59 :: b) = (0, false) := runF_stop (by simp) (by unfold badR; rw [hd]; simp) (by rw [hd]; unfold letterR; omega) (by rw [hd]; unfold isDigit; omega)
  have hc : countW isDigit (59 :: b) = 0 := by unfold countW; rw [List.takeWhile_cons, if_neg (by simp [isDigit])]; rfl
  have hde : deci (59 :: b) = 0 := by
    unfold deci
    rw [hc, if_neg]
    rintro ⟨_, q, _⟩
    exact absurd (show (59 : Nat) = 46 from q) (by decide)
  have hn : numN (59 :: b) = 0 := by
    unfold numN
    rw [if_neg, if_pos hde]
    rintro ⟨q | q, _⟩ <;> (have := q.2; simp at this)
  have e1 : oddD (59 :: b) = FD.none := by
    unfold oddD
    rw [if_neg]
    rintro (q | q) <;> (have := q.2; simp at this)
  have e2 : eitherD (59 :: b) = FD.none := by
    have : nameN (59 :: b) = 0 := by unfold nameN; rw [hr]; rfl
    unfold eitherD numD
    rw [hn, this]
    rfl
  have e3 : quotD (59 :: b) = FD.none := if_neg (show ¬ (59 : Nat) = 96 by decide)
  have e4 : textD (59 :: b) = FD.none := if_neg (show ¬ isQ 59 by unfold isQ; omega)
  have e5 : sysD (59 :: b) = FD.none := by
    unfold sysD
    rw [if_neg]
    intro q; have := q.2; simp at this
  have e6 : userD (59 :: b) = FD.none := if_neg (show ¬ (59 : Nat) = 64 by decide)
  have e7 : signD (59 :: b) = ⟨5, [59], 1, 0⟩ := by
    unfold signD
    rw [if_neg (show ¬ (59 :: b).getD 0 0 = 63 from (show ¬ (59 : Nat) = 63 by decide))]
    simp [signsL, trySign]
  unfold wordD finds
  rw [e1, e2, e3, e4, e5, e6, e7]
  rfl
theorem lex_semi (b : List Nat) : lex (59 :: b) = (lex b).map ((5, [59]) :: ·) := by
  rw [lex_word (List.cons_ne_nil _ _) (by rw [semi_pass]) (by rw [semi_pass]; decide) (by rw [semi_word]), semi_word]
  rfl
end
end Go.Proofs.YtkibhdbmamfjcaaDoor
set_option linter.unusedSimpArgs false
set_option linter.unusedVariables false
set_option linter.defProp false
set_option maxRecDepth 10000
namespace Go.Proofs.YtkibhdbmamfjcaaDoor
open Go.Proofs Go.Lx Go.Wx Go.IntWalk
noncomputable section

theorem each_plain : EachP := by
  intro a b hba hbb la lb fa fb hd
  cases hxa : lex a with
  | none => exact absurd fa.1 ((words_lex hba (by omega)).2 hxa)
  | some A =>
    cases hxb : lex b with
    | none => exact absurd fb.1 ((words_lex hbb (by omega)).2 hxb)
    | some B =>
      obtain ⟨_, _, wa⟩ := (words_lex hba (by omega)).1 A hxa
      obtain ⟨_, _, wb⟩ := (words_lex hbb (by omega)).1 B hxb
      have hlex : lex (a ++ [10, 59] ++ b) = some (A ++ (5, [59]) :: B) := by
        rw [List.append_assoc]
        show lex (a ++ 10 :: (59 :: b)) = _
        rw [lex_app _ a.length a A (Nat.le_refl _) hba hd hxa, lex_semi, hxb]
        rfl
      have hbab : Bytes (a ++ [10, 59] ++ b) := fun x hx => by
        simp only [List.mem_append, List.mem_cons, List.not_mem_nil, or_false] at hx
        rcases hx with (hx | rfl | rfl) | hx
        · exact hba x hx
        · decide
        · decide
        · exact hbb x hx
      obtain ⟨f1, f2, w⟩ := (words_lex hbab (by simp; omega)).1 _ hlex
      refine ⟨⟨f1, f2⟩, ?_⟩
      have hS : Same (wordsOf (a ++ [10, 59] ++ b)) (wordsOf a ++ ⟨5, [59], 0⟩ :: wordsOf b) := by
        unfold Same
        rw [w, List.map_append, List.map_cons, wa, wb]
        rfl
      unfold clsOf
      rw [s_cls hS (rfl : Same [] []), cls_app _ _ _ _ ⟨rfl, rfl⟩]
end
end Go.Proofs.YtkibhdbmamfjcaaDoor
