/-
  Several texts of one walk, joined.
-/
import Derived.Test.YtkibhdbmamfjcaaDoorScanA
import Derived.Test.YtkibhdbmamfjcaaDoorWxZ
/-
  scan: a parameter or a sign, whatever the text.
-/
set_option linter.unusedSimpArgs false
set_option linter.unusedVariables false
set_option maxRecDepth 10000
namespace Go.Proofs.YtkibhdbmamfjcaaDoor
open Go.Proofs Go.Lx Go.Wx Go.IntWalk
noncomputable section

/-- the signs, longest first, as the program names them -/
def signsT : List Nat := [60, 61, 62, 32, 45, 62, 62, 32, 60, 62, 32, 33, 61, 32, 60, 61, 32, 62, 61, 32, 58, 61, 32, 60, 60, 32, 62, 62, 32, 38, 38, 32, 124, 124, 32, 45, 62, 32, 40, 32, 41, 32, 44, 32, 59, 32, 46, 32, 43, 32, 45, 32, 42, 32, 47, 32, 37, 32, 61, 32, 60, 32, 62, 32, 38, 32, 124, 32, 94, 32, 126, 32, 33, 32, 123, 32, 125, 32, 91, 32, 93, 32, 58]
def signsL : List (List Nat) := [[60,61,62], [45,62,62], [60,62], [33,61], [60,61], [62,61], [58,61], [60,60], [62,62], [38,38], [124,124], [45,62], [40], [41], [44], [59], [46], [43], [45], [42], [47], [37], [61], [60], [62], [38], [124], [94], [126], [33], [123], [125], [91], [93], [58]]

/-- the setting, where strings.Fields of the signs stands in -/
structure StdF (S : Set0) : Prop extends Std S where
  fields : ∀ h : H, callW S.cfg nil1 62 [.str signsT] h fun v h' => v = .slice h.nx 0 35 35 ∧ h' = h.push (.cells (signsL.map V.str) 9 false)

/-- the first sign that a text begins with -/
def trySign (s : List Nat) : List (List Nat) → FD
  | [] => FD.bad 191
  | x :: l => if x.length ≤ s.length ∧ s.take x.length = x then ⟨5, x, x.length, 0⟩ else trySign s l
def signD (s : List Nat) : FD := if s.getD 0 0 = 63 then ⟨8, [], 1, 0⟩ else trySign s signsL

variable {S : Set0} (hS : StdF S)
include hS
theorem sign_spec (s : List Nat) (h : H) (h0 : s ≠ []) (hb : Bytes s) : Pure S.cfg 44 [.str s] h fun v _ => v = (signD s).v := by
  have hl : 0 < s.length := List.length_pos_iff.2 h0
  refine into Tryd.f44 _ Tryd.func44 (hS.own _ (by decide)) rfl rfl (by kernel_rfl) (by kernel_rfl) ?_
  by_cases hn : s.getD 0 0 = 63
  · simp +contextual (disch := first | (simp only [facts, clsL, clsS, clsC, isPtrD]; done) | omega) only [wps, facts, wpb, cst, wpk, wpl, forall_const, implies_true, false_implies, Int.reduceLE, Int.reduceLT, Nat.reduceLeDiff, UInt8.reduceToNat, ↓reduceIte, Nat.reduceEqDiff, Nat.reduceAdd, reduceCtorEq, Int.reduceToNat, clsL, clsS, clsC, Tryd.f44, hn, hl]
    exact ⟨((Ext.refl h).push _).put (Nat.le_refl _) _, by rw [signD, if_pos hn]; rfl⟩
  · simp +contextual (disch := first | (simp only [facts, clsL, clsS, clsC, isPtrD]; done) | omega) only [wps, facts, wpb, cst, wpk, wpl, forall_const, implies_true, false_implies, Int.reduceLE, Int.reduceLT, Nat.reduceLeDiff, UInt8.reduceToNat, ↓reduceIte, Nat.reduceEqDiff, Nat.reduceAdd, reduceCtorEq, Int.reduceToNat, clsL, clsS, clsC, Tryd.f44, hn, hl]
    have hfa : ∀ h : H, callW S.cfg nil1 62 [.str signsT] h fun v h' => v = .slice h.nx 0 35 35 ∧ h' = h.push (.cells (signsL.map V.str) 9 false) := hS.fields
    refine ⟨nil1, fun _ q => q.elim, callW_mono (hfa _) (fun _ q => q) ?_⟩
    rintro v h' ⟨rfl, rfl⟩
    have hx1 : ¬ h.nx = h.nx + 1 := by omega
    simp +contextual (disch := first | (simp only [facts, clsL, clsS, clsC, isPtrD]; done) | omega) only [wps, facts, wpb, cst, wpk, wpl, forall_const, implies_true, false_implies, Int.reduceLE, Int.reduceLT, Nat.reduceLeDiff, UInt8.reduceToNat, ↓reduceIte, Nat.reduceEqDiff, Nat.reduceAdd, reduceCtorEq, Int.reduceToNat, clsL, clsS, clsC, Tryd.f44, hx1]
    refine run_loop (fun m env h' => ∃ (j : Nat), m = 35 - j ∧ env 0 = .str s ∧ env 2 = .ptr h.nx 0 ∧ env 10 = .slice (h.nx + 1) 0 35 35 ∧ env 11 = .int .i64 35 ∧ env 12 = .int .i64 j ∧ j ≤ 35 ∧ Ext h h' ∧ h.nx + 1 < h'.nx ∧ h'.get h.nx = some (.cells [.int .i64 0, .str [], .int .i64 0, .int .i64 0, .int .i64 0] 64 false) ∧ h'.get (h.nx + 1) = some (.cells (signsL.map V.str) 9 false) ∧ signD s = trySign s (signsL.drop j)) 35 ⟨0, by simp +contextual (disch := first | (simp only [facts, clsL, clsS, clsC, isPtrD]; done) | omega) only [wps, facts, wpb, cst, wpk, wpl, forall_const, implies_true, false_implies, Int.reduceLE, Int.reduceLT, Nat.reduceLeDiff, UInt8.reduceToNat, ↓reduceIte, Nat.reduceEqDiff, Nat.reduceAdd, reduceCtorEq, Int.reduceToNat, clsL, clsS, clsC, hx1]; exact ⟨((Ext.refl h).push _).push _, by omega, by rw [signD, if_neg hn]⟩⟩ ?_
    rintro m env h' ⟨j, rfl, e0, e2, e14, e15, e16, hj, hx, hn1, hg, hgf, hr⟩
    by_cases hj3 : j < 35
    · obtain ⟨x, hcf, hdr⟩ : ∃ (x : List Nat), (signsL.map V.str)[j]? = some (.str x) ∧ signsL.drop j = x :: signsL.drop (j + 1) := by
        have hjl : j < signsL.length := hj3
        exact ⟨signsL[j], by rw [List.getElem?_map, List.getElem?_eq_getElem hjl]; rfl, List.drop_eq_getElem_cons hjl⟩
      rw [hdr, trySign] at hr
      simp +contextual (disch := first | (simp only [facts, clsL, clsS, clsC, isPtrD]; done) | omega) only [wps, facts, wpb, cst, wpk, wpl, forall_const, implies_true, false_implies, Int.reduceLE, Int.reduceLT, Nat.reduceLeDiff, UInt8.reduceToNat, ↓reduceIte, Nat.reduceEqDiff, Nat.reduceAdd, reduceCtorEq, Int.reduceToNat, clsL, clsS, clsC, e0, e2, e14, e15, e16, hgf, hcf, hj3, Tryd.f44]
      refine callF_exact (hasPrefix_spec hS.toStd s x h') ?_
      by_cases hp : x.length ≤ s.length ∧ s.take x.length = x
      · rw [if_pos hp] at hr
        simp +contextual (disch := first | (simp only [facts, clsL, clsS, clsC, isPtrD]; done) | omega) only [wps, facts, wpb, cst, wpk, wpl, forall_const, implies_true, false_implies, Int.reduceLE, Int.reduceLT, Nat.reduceLeDiff, UInt8.reduceToNat, ↓reduceIte, Nat.reduceEqDiff, Nat.reduceAdd, reduceCtorEq, Int.reduceToNat, clsL, clsS, clsC, e0, e2, e14, e15, e16, hgf, hg, hcf, hj3, hp, Tryd.f44]
        exact ⟨hx.put (Nat.le_refl _) _, by rw [hr]; rfl⟩
      · rw [if_neg hp] at hr
        simp +contextual (disch := first | (simp only [facts, clsL, clsS, clsC, isPtrD]; done) | omega) only [wps, facts, wpb, cst, wpk, wpl, forall_const, implies_true, false_implies, Int.reduceLE, Int.reduceLT, Nat.reduceLeDiff, UInt8.reduceToNat, ↓reduceIte, Nat.reduceEqDiff, Nat.reduceAdd, reduceCtorEq, Int.reduceToNat, clsL, clsS, clsC, e0, e2, e14, e15, e16, hgf, hg, hcf, hj3, hp, Tryd.f44]
        exact ⟨_, by omega, j + 1, rfl, rfl, by omega, hx, hn1, hr⟩
    · simp +contextual (disch := first | (simp only [facts, clsL, clsS, clsC, isPtrD]; done) | omega) only [wps, facts, wpb, cst, wpk, wpl, forall_const, implies_true, false_implies, Int.reduceLE, Int.reduceLT, Nat.reduceLeDiff, UInt8.reduceToNat, ↓reduceIte, Nat.reduceEqDiff, Nat.reduceAdd, reduceCtorEq, Int.reduceToNat, clsL, clsS, clsC, e0, e2, e14, e15, e16, hg, hj3, Tryd.f44]
      refine ⟨hx.put (Nat.le_refl _) _, ?_⟩
      have : j = 35 := by omega
      subst this
      rw [hr]
      rfl
end
end Go.Proofs.YtkibhdbmamfjcaaDoor

/-
  scan: what one word is, whatever the text: the seven findings, the first that says something.
-/
set_option linter.unusedSimpArgs false
set_option linter.unusedVariables false
set_option maxRecDepth 10000
namespace Go.Proofs.YtkibhdbmamfjcaaDoor
open Go.Proofs Go.Lx Go.Wx Go.IntWalk
noncomputable section

def oddD (s : List Nat) : FD := if hasP s [47, 42, 33] ∨ hasP s [47, 42, 43] then (match findS [42, 47] (s.drop 2) with
    | some i => ⟨9, s.take (i + 4), i + 4, 0⟩
    | none => FD.bad 190) else FD.none
theorem oddD_v (s : List Nat) : oddF s = (oddD s).v := by
  unfold oddF oddD
  split
  · cases findS [42, 47] (s.drop 2) <;> rfl
  · rfl
theorem hasP_len {s p : List Nat} (h : hasP s p) : p.length ≤ s.length := h.1
theorem oddD_ok {s : List Nat} (hb : Bytes s) : (oddD s).ok s := by
  unfold oddD
  split
  · rename_i hp
    have hl : 3 ≤ s.length := by
      rcases hp with h | h
      · exact hasP_len h
      · exact hasP_len h
    cases hf : findS [42, 47] (s.drop 2) with
    | none => exact FD.ok_bad _ _
    | some i =>
      have := findS_le hf
      rw [List.length_drop] at this
      simp only [List.length_cons, List.length_nil] at this
      exact ⟨hb.take _, by show (s.take (i + 4)).length ≤ _; rw [List.length_take]; omega, by show i + 4 ≤ _; omega⟩
  · exact FD.ok_none _
theorem numN_le (s : List Nat) : numN s ≤ s.length := by
  have hc1 := countW_le isHex (s.drop 2)
  have hc2 := countW_le isDigit s
  rw [List.length_drop] at hc1
  have hd : deci s ≤ s.length := by
    have hc3 := countW_le isDigit (s.drop (countW isDigit s + 1))
    rw [List.length_drop] at hc3
    unfold deci
    split <;> omega
  have he : expo s (deci s) ≤ s.length := by
    have hc3 := countW_le isDigit (s.drop (expK s (deci s)))
    rw [List.length_drop] at hc3
    unfold expo
    split <;> omega
  unfold numN
  split
  · rename_i hp
    have hl : 2 ≤ s.length := by
      rcases hp.1 with h | h
      · exact h.1
      · exact h.1
    omega
  · split
    · omega
    · exact he
def numD (s : List Nat) : FD := if numN s = 0 then FD.none else ⟨4, s.take (numN s), numN s, 0⟩
theorem numD_v (s : List Nat) : numF s = (numD s).v := by
  unfold numF numD
  split <;> rfl
theorem numD_ok {s : List Nat} (hb : Bytes s) : (numD s).ok s := by
  unfold numD
  split
  · exact FD.ok_none _
  · exact ⟨hb.take _, by show (s.take _).length ≤ _; rw [List.length_take]; omega, numN_le s⟩
def eitherD (s : List Nat) : FD := if numN s < nameN s then nameD s else numD s
theorem eitherD_v (s : List Nat) : eitherF s = (eitherD s).v := by
  unfold eitherF eitherD
  split
  · exact nameD_v s
  · exact numD_v s
theorem eitherD_ok {s : List Nat} (hb : Bytes s) : (eitherD s).ok s := by
  unfold eitherD
  split
  · exact nameD_ok hb
  · exact numD_ok hb
theorem sysN_le : ∀ (f : Nat) (s : List Nat), sysN f s ≤ s.length
  | 0, s => Nat.zero_le _
  | f + 1, s => by
    have h1 := runF_le s
    unfold sysN
    split
    · have h2 := sysN_le f (s.drop ((runF s).1 + 1))
      rw [List.length_drop] at h2
      omega
    · exact h1
def sysE (s : List Nat) : Nat := sysN (s.length + 1) (s.drop 2)
def sysD (s : List Nat) : FD := if hasP s [64, 64] then (if sysE s = 0 then FD.bad 191 else ⟨7, lowS ((s.take (2 + sysE s)).drop 2), 2 + sysE s, 0⟩) else FD.none
theorem sysD_v (s : List Nat) : sysF s = (sysD s).v := by
  unfold sysF sysD sysE
  split
  · split <;> rfl
  · rfl
theorem sysD_ok {s : List Nat} (hb : Bytes s) : (sysD s).ok s := by
  unfold sysD
  split
  · rename_i hp
    have hl : 2 ≤ s.length := hasP_len hp
    have h2 := sysN_le (s.length + 1) (s.drop 2)
    rw [List.length_drop] at h2
    split
    · exact FD.ok_bad _ _
    · refine ⟨lowS_bytes ((hb.take _).drop 2), ?_, ?_⟩
      · show (lowS ((s.take (2 + sysE s)).drop 2)).length ≤ _
        simp [lowS]; omega
      · show 2 + sysE s ≤ _
        unfold sysE; omega
  · exact FD.ok_none _
theorem tryU_ok {s : List Nat} (h0 : s ≠ []) : ∀ {l : List FD}, (∀ d ∈ l, d.ok (s.drop 1)) → (tryU l).ok s
  | [], _ => FD.ok_bad _ _
  | d :: l, h => by
    have hl : 0 < s.length := List.length_pos_iff.2 h0
    have hd := h d (by simp)
    have h1 := hd.2.1
    have h2 := hd.2.2
    rw [List.length_drop] at h1 h2
    unfold tryU
    split
    · exact ⟨hd.1, by omega, by omega⟩
    · split
      · exact ⟨lowS_bytes hd.1, by show (lowS d.text).length ≤ _; simp [lowS]; omega, by show 1 + d.n ≤ _; omega⟩
      · exact tryU_ok h0 fun d' hd' => h d' (by simp [hd'])
theorem userD_ok {s : List Nat} (h0 : s ≠ []) (hb : Bytes s) : (userD s).ok s := by
  have hl : 0 < s.length := List.length_pos_iff.2 h0
  unfold userD
  split
  · split
    · exact FD.ok_bad _ _
    · have ht0 : s.drop 1 ≠ [] := fun q => by have := congrArg List.length q; simp at this; omega
      refine tryU_ok h0 fun d hd => ?_
      simp only [List.mem_cons, List.not_mem_nil, or_false] at hd
      rcases hd with rfl | rfl | rfl
      · exact quotD_ok ht0 (hb.drop 1)
      · exact textD_ok ht0 (hb.drop 1)
      · exact nameD_ok (hb.drop 1)
  · exact FD.ok_none _
theorem trySign_ok {s : List Nat} (hb : Bytes s) : ∀ (l : List (List Nat)), (trySign s l).ok s
  | [] => FD.ok_bad _ _
  | x :: l => by
    unfold trySign
    split
    · rename_i h
      exact ⟨by show Bytes x; rw [← h.2]; exact hb.take _, h.1, h.1⟩
    · exact trySign_ok hb l
theorem signD_ok {s : List Nat} (h0 : s ≠ []) (hb : Bytes s) : (signD s).ok s := by
  have hl : 0 < s.length := List.length_pos_iff.2 h0
  unfold signD
  split
  · exact ⟨fun b hb => by simp at hb, by simp, hl⟩
  · exact trySign_ok hb _
theorem trySign_pos {s : List Nat} : ∀ {l : List (List Nat)}, (∀ x ∈ l, 0 < x.length) → (trySign s l).e = 0 → 0 < (trySign s l).n
  | [], _, h => by cases h
  | x :: l, hl, h => by
    unfold trySign at h ⊢
    split
    · exact hl x (by simp)
    · rename_i hn
      rw [if_neg hn] at h
      exact trySign_pos (fun y hy => hl y (by simp [hy])) h
theorem signD_pos {s : List Nat} (h : (signD s).e = 0) : 0 < (signD s).n := by
  unfold signD at h ⊢
  split
  · exact Nat.one_pos
  · rename_i hn
    rw [if_neg hn] at h
    exact trySign_pos (by decide) h

/-- the first of some findings that says something -/
def tryW : List FD → FD
  | [] => FD.none
  | d :: l => if d.e ≠ 0 then d else if 0 < d.n then d else tryW l
def finds (s : List Nat) : List FD := [oddD s, eitherD s, quotD s, textD s, sysD s, userD s, signD s]
def wordD (s : List Nat) : FD := tryW (finds s)
theorem tryW_pos {d : FD} (hd : d.e = 0 → 0 < d.n) : ∀ {l : List FD}, d ∈ l → (tryW l).e = 0 → 0 < (tryW l).n
  | [], h, _ => by cases h
  | d' :: l, h, he => by
    unfold tryW at he ⊢
    split
    · rename_i h1; rw [if_pos h1] at he; exact absurd he h1
    · rename_i h1
      rw [if_neg h1] at he
      split
      · rename_i h2; exact h2
      · rename_i h2
        rw [if_neg h2] at he
        rcases List.mem_cons.1 h with rfl | hm
        · exact absurd (hd (by omega)) h2
        · exact tryW_pos hd hm he
theorem wordD_pos {s : List Nat} (h : (wordD s).e = 0) : 0 < (wordD s).n := tryW_pos (d := signD s) signD_pos (by simp [finds]) h
theorem tryW_ok {s : List Nat} : ∀ {l : List FD}, (∀ d ∈ l, d.ok s) → (tryW l).ok s
  | [], _ => FD.ok_none _
  | d :: l, h => by
    unfold tryW
    split
    · exact h d (by simp)
    · split
      · exact h d (by simp)
      · exact tryW_ok fun d' hd' => h d' (by simp [hd'])
theorem finds_ok {s : List Nat} (h0 : s ≠ []) (hb : Bytes s) : ∀ d ∈ finds s, d.ok s := by
  intro d hd
  simp only [finds, List.mem_cons, List.not_mem_nil, or_false] at hd
  rcases hd with rfl | rfl | rfl | rfl | rfl | rfl | rfl
  · exact oddD_ok hb
  · exact eitherD_ok hb
  · exact quotD_ok h0 hb
  · exact textD_ok h0 hb
  · exact sysD_ok hb
  · exact userD_ok h0 hb
  · exact signD_ok h0 hb
theorem wordD_ok {s : List Nat} (h0 : s ≠ []) (hb : Bytes s) : (wordD s).ok s := tryW_ok (finds_ok h0 hb)
theorem passF_le {s : List Nat} (h0 : s ≠ []) : (passF s).1 ≤ s.length := by
  have hl : 0 < s.length := List.length_pos_iff.2 h0
  unfold passF
  split
  · exact hl
  · split
    · cases hf : findB 10 s with
      | none => exact Nat.le_refl _
      | some i => exact (findB_lt hf).1
    · split
      · exact Nat.zero_le _
      · rename_i hp
        have hl : 2 ≤ s.length := hasP_len (p := [47, 42]) (Decidable.byContradiction fun q => hp (.inl q))
        cases hf : findS [42, 47] (s.drop 2) with
        | none => exact Nat.zero_le _
        | some i =>
          have := findS_le hf
          rw [List.length_drop] at this
          simp only [List.length_cons, List.length_nil] at this
          show i + 4 ≤ _
          omega

/-- a word, where it stands -/
structure WD where
  kind : Nat
  text : List Nat
  at_ : Nat
def WD.cells (w : WD) : List V := [.int .i64 w.kind, .str w.text, .int .i64 w.at_]
def wcells (l : List WD) : List V := l.flatMap WD.cells
/-- the words from a place on; or what is wrong, and where -/
def allR (s : List Nat) : Nat → Nat → List WD → List WD ⊕ (Nat × Nat)
  | 0, _, acc => .inl acc
  | f + 1, p, acc => if p < s.length then
      (if (passF (s.drop p)).2 ≠ 0 then .inr ((passF (s.drop p)).2, p)
      else if 0 < (passF (s.drop p)).1 then allR s f (p + (passF (s.drop p)).1) acc
      else if (wordD (s.drop p)).e ≠ 0 then .inr ((wordD (s.drop p)).e, p)
      else allR s f (p + (wordD (s.drop p)).n) (acc ++ [⟨(wordD (s.drop p)).kind, (wordD (s.drop p)).text, p⟩]))
    else .inl acc
def allF (s : List Nat) : List WD ⊕ (Nat × Nat) := allR s (s.length + 1) 0 []

variable {S : Set0} (hS : StdF S)
include hS
/-- the seven functions, by their places -/
def scanFs : List V := [.func 38 [] [], .func 39 [] [], .func 40 [] [], .func 41 [] [], .func 42 [] [], .func 43 [] [], .func 44 [] []]
theorem find_spec (s : List Nat) (hs : s.length < 2 ^ 26) (hb : Bytes s) (h0 : s ≠ []) (j : Nat) (hj : j < 7) : ∃ (f : FuncId) (d : FD), scanFs[j]? = some (.func f [] []) ∧ (finds s).drop j = d :: (finds s).drop (j + 1) ∧ (∀ h, Pure S.cfg f [.str s] h fun v _ => v = d.v) ∧ d.ok s := by
  have : j = 0 ∨ j = 1 ∨ j = 2 ∨ j = 3 ∨ j = 4 ∨ j = 5 ∨ j = 6 := by omega
  rcases this with rfl | rfl | rfl | rfl | rfl | rfl | rfl
  · exact ⟨38, oddD s, rfl, rfl, fun h => by rw [← oddD_v]; exact odd_spec hS.toStd _ h hs hb, oddD_ok hb⟩
  · exact ⟨39, eitherD s, rfl, rfl, fun h => by rw [← eitherD_v]; exact either_spec hS.toStd _ h hs hb, eitherD_ok hb⟩
  · exact ⟨40, quotD s, rfl, rfl, fun h => by rw [← quotD_v]; exact quoted_spec hS.toStd _ h hs hb h0, quotD_ok h0 hb⟩
  · exact ⟨41, textD s, rfl, rfl, fun h => by rw [← textD_v]; exact text_spec hS.toStd _ h hs hb h0, textD_ok h0 hb⟩
  · exact ⟨42, sysD s, rfl, rfl, fun h => by rw [← sysD_v]; exact system_spec hS.toStd _ h hs hb, sysD_ok hb⟩
  · exact ⟨43, userD s, rfl, rfl, fun h => user_spec hS.toStd _ h hs hb h0, userD_ok h0 hb⟩
  · exact ⟨44, signD s, rfl, rfl, fun h => sign_spec hS _ h h0 hb, signD_ok h0 hb⟩
end
end Go.Proofs.YtkibhdbmamfjcaaDoor

/-
  scan.All, whatever the text.
-/
set_option linter.unusedSimpArgs false
set_option linter.unusedVariables false
set_option maxRecDepth 10000
namespace Go.Proofs.YtkibhdbmamfjcaaDoor
open Go.Proofs Go.Lx Go.Wx Go.IntWalk
noncomputable section

variable {S : Set0} (hS : StdF S)

/-- what All gives -/
def allV (s : List Nat) (n0 : Nat) (h' : H) (v : V) : Prop :=
  if 1048576 < s.length then v = .tuple [.nilslice, .agg [.int .i64 3, .int .i64 (-1)]]
  else match allF s with
    | .inl ws => ∃ l, v = .tuple [l, .agg [.int .i64 0, .int .i64 0]] ∧ Acc n0 h' l (wcells ws) 36 3
    | .inr (e, p) => v = .tuple [.nilslice, .agg [.int .i64 e, .int .i64 p]]
theorem wcells_len (l : List WD) : (wcells l).length = l.length * 3 := by
  induction l with
  | nil => rfl
  | cons w l ih =>
    show (WD.cells w ++ wcells l).length = _
    rw [List.length_append, ih]
    show 3 + _ = (l.length + 1) * 3
    omega
theorem wcells_append (l : List WD) (w : WD) : wcells (l ++ [w]) = wcells l ++ w.cells := by
  simp [wcells]


/-- what holds at the outer loop's head -/
def AllI (s : List Nat) (h : H) (m : Nat) (env : Env) (h' : H) : Prop :=
  ∃ (p : Nat) (acc : List WD) (l : V) (f : Nat), m = s.length - p ∧ env 0 = .str s ∧ env 3 = .ptr h.nx 0 ∧ env 4 = l ∧ env 5 = .int .i64 p ∧ p ≤ s.length ∧ acc.length ≤ p ∧ Ext h h' ∧ h.nx < h'.nx ∧ h'.get h.nx = some (.cells [.int .i64 0, .int .i64 0] 26 false) ∧ Acc (h.nx + 1) h' l (wcells acc) 36 3 ∧ s.length < p + f ∧ allF s = allR s f p acc
/-- and at the inner one's -/
def WordI (s : List Nat) (h : H) (p : Nat) (acc : List WD) (l : V) (b : Nat) (m : Nat) (env : Env) (h' : H) : Prop :=
  ∃ (j : Nat), m = 7 - j ∧ j ≤ 7 ∧ env 0 = .str s ∧ env 3 = .ptr h.nx 0 ∧ env 4 = l ∧ env 5 = .int .i64 p ∧ env 36 = .slice b 0 7 7 ∧ env 37 = .int .i64 7 ∧ env 38 = .int .i64 j ∧ Ext h h' ∧ h.nx < b ∧ b < h'.nx ∧ h'.get h.nx = some (.cells [.int .i64 0, .int .i64 0] 26 false) ∧ h'.get b = some (.cells scanFs 61 false) ∧ Acc (h.nx + 1) h' l (wcells acc) 36 3 ∧ wordD (s.drop p) = tryW ((finds (s.drop p)).drop j)
include hS
theorem all_spec (s : List Nat) (h : H) (hb : Bytes s) (hs : s.length < 2 ^ 63) : Pure S.cfg 14 [.str s] h fun v h' => allV s h.nx h' v := by
  refine into Tryd.f14 _ Tryd.func14 (hS.own _ (by decide)) rfl rfl (by kernel_rfl) (by kernel_rfl) ?_
  have hx1 : ¬ h.nx = h.nx + 1 := by omega
  by_cases hlen : 1048576 < s.length
  · simp +contextual (disch := first | (simp only [facts, clsL, clsS, clsC, isPtrD]; done) | omega) only [wps, facts, wpb, cst, wpk, wpl, forall_const, implies_true, false_implies, Int.reduceLE, Int.reduceLT, Nat.reduceLeDiff, UInt8.reduceToNat, ↓reduceIte, Nat.reduceEqDiff, Nat.reduceAdd, reduceCtorEq, Int.reduceToNat, clsL, clsS, clsC, Tryd.f14, hlen]
    exact ⟨((Ext.refl h).push _).put (Nat.le_refl _) _, by rw [allV, if_pos hlen]⟩
  simp +contextual (disch := first | (simp only [facts, clsL, clsS, clsC, isPtrD]; done) | omega) only [wps, facts, wpb, cst, wpk, wpl, forall_const, implies_true, false_implies, Int.reduceLE, Int.reduceLT, Nat.reduceLeDiff, UInt8.reduceToNat, ↓reduceIte, Nat.reduceEqDiff, Nat.reduceAdd, reduceCtorEq, Int.reduceToNat, clsL, clsS, clsC, Tryd.f14, hlen]
  refine run_loop (AllI s h) s.length ⟨0, [], .nilslice, s.length + 1, by simp +contextual (disch := first | (simp only [facts, clsL, clsS, clsC, isPtrD]; done) | omega) only [wps, facts, wpb, cst, wpk, wpl, forall_const, implies_true, false_implies, Int.reduceLE, Int.reduceLT, Nat.reduceLeDiff, UInt8.reduceToNat, ↓reduceIte, Nat.reduceEqDiff, Nat.reduceAdd, reduceCtorEq, Int.reduceToNat, clsL, clsS, clsC, hx1]; exact ⟨by simp, (Ext.refl h).push _, by omega, .inl ⟨rfl, rfl⟩, by omega, rfl⟩⟩ ?_
  rintro m env h' ⟨p, acc, l, f, rfl, e0, e3, e4, e5, hp, hacc, hx, hn1, hg, ha, hf, hr⟩
  have hcl := ha.cell.1
  have hic := ha.cell.2
  obtain ⟨f, rfl⟩ : ∃ k, f = k + 1 := ⟨f - 1, by omega⟩
  rw [allR] at hr
  by_cases hpl : p < s.length
  · rw [if_pos hpl] at hr
    have hd0 : s.drop p ≠ [] := fun q => by have := congrArg List.length q; simp at this; omega
    have hdl : (s.drop p).length < 2 ^ 26 := by rw [List.length_drop]; omega
    have hdb : Bytes (s.drop p) := hb.drop p
    have hple := passF_le hd0
    rw [List.length_drop] at hple
    simp +contextual (disch := first | (simp only [facts, clsL, clsS, clsC, isPtrD]; done) | omega) only [wps, facts, wpb, cst, wpk, wpl, forall_const, implies_true, false_implies, Int.reduceLE, Int.reduceLT, Nat.reduceLeDiff, UInt8.reduceToNat, ↓reduceIte, Nat.reduceEqDiff, Nat.reduceAdd, reduceCtorEq, Int.reduceToNat, clsL, clsS, clsC, e0, e3, e4, e5, hpl, hg, hcl, hic, Tryd.f14]
    refine ⟨hp, callF_exact (passed_spec hS.toStd _ _ (by omega) hdb hd0) ?_⟩
    by_cases he : (passF (s.drop p)).2 = 0
    · rw [if_neg (by simpa using he)] at hr
      by_cases hn : 0 < (passF (s.drop p)).1
      · rw [if_pos hn] at hr
        simp +contextual (disch := first | (simp only [facts, clsL, clsS, clsC, isPtrD]; done) | omega) only [wps, facts, wpb, cst, wpk, wpl, forall_const, implies_true, false_implies, Int.reduceLE, Int.reduceLT, Nat.reduceLeDiff, UInt8.reduceToNat, ↓reduceIte, Nat.reduceEqDiff, Nat.reduceAdd, reduceCtorEq, Int.reduceToNat, clsL, clsS, clsC, e0, e3, e4, e5, hpl, hg, hcl, hic, he, hn, Tryd.f14]
        refine ⟨_, ?_, p + (passF (s.drop p)).1, acc, l, f, rfl, ?_⟩
        · omega
        · simp +contextual (disch := first | (simp only [facts, clsL, clsS, clsC, isPtrD]; done) | omega) only [wps, facts, wpb, cst, wpk, wpl, forall_const, implies_true, false_implies, Int.reduceLE, Int.reduceLT, Nat.reduceLeDiff, UInt8.reduceToNat, ↓reduceIte, Nat.reduceEqDiff, Nat.reduceAdd, reduceCtorEq, Int.reduceToNat, clsL, clsS, clsC, e0, e3, e4, e5]
          exact ⟨by omega, by omega, hx, hn1, hg, ha, by omega, hr⟩
      · rw [if_neg hn] at hr
        simp +contextual (disch := first | (simp only [facts, clsL, clsS, clsC, isPtrD]; done) | omega) only [wps, facts, wpb, cst, wpk, wpl, forall_const, implies_true, false_implies, Int.reduceLE, Int.reduceLT, Nat.reduceLeDiff, UInt8.reduceToNat, ↓reduceIte, Nat.reduceEqDiff, Nat.reduceAdd, reduceCtorEq, Int.reduceToNat, clsL, clsS, clsC, e0, e3, e4, e5, hpl, hg, hcl, hic, he, hn, Tryd.f14]
        have hxb : ¬ h'.nx = h.nx := by omega
        refine run_loop (WordI s h p acc l h'.nx) 7 ⟨0, by simp +contextual (disch := first | (simp only [facts, clsL, clsS, clsC, isPtrD]; done) | omega) only [wps, facts, wpb, cst, wpk, wpl, forall_const, implies_true, false_implies, Int.reduceLE, Int.reduceLT, Nat.reduceLeDiff, UInt8.reduceToNat, ↓reduceIte, Nat.reduceEqDiff, Nat.reduceAdd, reduceCtorEq, Int.reduceToNat, clsL, clsS, clsC, hxb, Ne.symm hxb, e0, e3, e4, e5, scanFs, hg]; exact ⟨hx.push _, hn1, by omega, ha.push, rfl⟩⟩ ?_
        rintro m env2 h2 ⟨j, rfl, hj, f0, f3, f4, f5, f36, f37, f38, hx2, hb1, hb2, hg2, hgf, ha2, hw⟩
        by_cases hj7 : j < 7
        · obtain ⟨fn, d, hcf, hdr, hsp, hdo⟩ := find_spec hS (s.drop p) hdl hdb hd0 j hj7
          rw [hdr, tryW] at hw
          simp +contextual (disch := first | (simp only [facts, clsL, clsS, clsC, isPtrD]; done) | omega) only [wps, facts, wpb, cst, wpk, wpl, forall_const, implies_true, false_implies, Int.reduceLE, Int.reduceLT, Nat.reduceLeDiff, UInt8.reduceToNat, ↓reduceIte, Nat.reduceEqDiff, Nat.reduceAdd, reduceCtorEq, Int.reduceToNat, clsL, clsS, clsC, f0, f3, f4, f5, f36, f37, f38, hcl, hic, hgf, hcf, hj7, Tryd.f14]
          refine ⟨hp, callF_pure (hsp h2) ?_⟩
          rintro v h3 hx3 rfl
          have hle := hx3.1
          have hle2 := hx2.1
          have g1 : h3.get h.nx = some (.cells [.int .i64 0, .int .i64 0] 26 false) := by rw [hx3.2 h.nx (by omega)]; exact hg2
          have g2 : h3.get h'.nx = some (.cells scanFs 61 false) := by rw [hx3.2 h'.nx (by omega)]; exact hgf
          have ha3 : Acc (h.nx + 1) h3 l (wcells acc) 36 3 := ha2.stay hle fun k _ hk => hx3.2 k hk
          have n1 : ¬ h.nx = h3.nx := by omega
          have n2 : ¬ h'.nx = h3.nx := by omega
          have hX : Ext h h3 := hx2.trans hx3
          by_cases hde : d.e = 0
          · rw [if_neg (by simpa using hde)] at hw
            by_cases hdn : 0 < d.n
            · rw [if_pos hdn] at hw
              simp +contextual (disch := first | (simp only [facts, clsL, clsS, clsC, isPtrD]; done) | omega) only [wps, facts, wpb, cst, wpk, wpl, forall_const, implies_true, false_implies, Int.reduceLE, Int.reduceLT, Nat.reduceLeDiff, UInt8.reduceToNat, ↓reduceIte, Nat.reduceEqDiff, Nat.reduceAdd, reduceCtorEq, Int.reduceToNat, clsL, clsS, clsC, f0, f3, f4, f5, f36, f37, f38, hcl, hic, hj7, FD.v, foundV, hde, hdn, g1, g2, n1, n2, Tryd.f14]
              refine ⟨.inr (by omega), .inr (by omega), draw_by [(3, 7), (4, 7)] (by kernel_rfl) ?_⟩
              simp +contextual (disch := first | (simp only [facts, clsL, clsS, clsC, isPtrD]; done) | omega) only [wps, facts, wpb, cst, wpk, wpl, forall_const, implies_true, false_implies, Int.reduceLE, Int.reduceLT, Nat.reduceLeDiff, UInt8.reduceToNat, ↓reduceIte, Nat.reduceEqDiff, Nat.reduceAdd, reduceCtorEq, Int.reduceToNat, clsL, clsS, clsC, f0, f3, f4, f5, f36, f37, f38, hcl, hic, hj7, FD.v, foundV, hde, hdn, g1, g2, n1, n2, Tryd.f14]
              have hdn2 := hdo.2.2
              rw [List.length_drop] at hdn2
              have haH := (ha3.stay (Nat.le_succ _) (fun k _ hk => by rw [put_get, if_neg (by omega), put_get, if_neg (by omega), push_get, if_neg (by omega)]) : Acc (h.nx + 1) (((h3.push (.cells [.int .i64 0, .str [], .int .i64 0, .int .i64 0, .int .i64 0] 64 false)).put h3.nx (.cells [.int .i64 d.kind, .str d.text, .int .i64 (0 : Nat), .int .i64 d.n, .int .i64 (0 : Nat)] 64 false)).put h3.nx (.cells [.int .i64 d.kind, .str d.text, .int .i64 p, .int .i64 d.n, .int .i64 (0 : Nat)] 64 false)) l (wcells acc) 36 3).push (ob := .cells [.int .i64 d.kind, .str d.text, .int .i64 p] 36 false)
              refine append_accV (sv := l) (n0 := h.nx + 1) (cells := wcells acc) (new := [.int .i64 d.kind, .str d.text, .int .i64 p]) (b2 := h3.nx + 1) (o2 := 0) (n := 1) (m := 1) ?_ ap23 ⟨.slice 36, by kernel_rfl, rfl⟩ haH ?_ ?_ ?_ rfl rfl ?_ (by decide) ?_ ?_ ?_
              · simp +contextual (disch := first | (simp only [facts, clsL, clsS, clsC, isPtrD]; done) | omega) only [wps, facts, wpb, cst, wpk, wpl, forall_const, implies_true, false_implies, Int.reduceLE, Int.reduceLT, Nat.reduceLeDiff, UInt8.reduceToNat, ↓reduceIte, Nat.reduceEqDiff, Nat.reduceAdd, reduceCtorEq, Int.reduceToNat, clsL, clsS, clsC, n1, n2]
              · simp +contextual (disch := first | (simp only [facts, clsL, clsS, clsC, isPtrD]; done) | omega) only [wps, facts, wpb, cst, wpk, wpl, forall_const, implies_true, false_implies, Int.reduceLE, Int.reduceLT, Nat.reduceLeDiff, UInt8.reduceToNat, ↓reduceIte, Nat.reduceEqDiff, Nat.reduceAdd, reduceCtorEq, Int.reduceToNat, clsL, clsS, clsC, n1, n2]
              · decide
              · simp +contextual (disch := first | (simp only [facts, clsL, clsS, clsC, isPtrD]; done) | omega) only [wps, facts, wpb, cst, wpk, wpl, forall_const, implies_true, false_implies, Int.reduceLE, Int.reduceLT, Nat.reduceLeDiff, UInt8.reduceToNat, ↓reduceIte, Nat.reduceEqDiff, Nat.reduceAdd, reduceCtorEq, Int.reduceToNat, clsL, clsS, clsC, rdC]
                rfl
              · rw [wcells_len]
                show acc.length * 3 + 3 ≤ _
                omega
              · exact fun k hk => by rw [fresh_def]; exact .inl (by omega)
              · intro v h4 L ha4 hst hL
                have hnl : ∀ k o n m, h3.nx ≤ k → l ≠ .slice k o n m := fun k o n m hk q => by have := (ha3.blk q).2; omega
                have g4 : h4.get h3.nx = some (.cells [.int .i64 d.kind, .str d.text, .int .i64 p, .int .i64 d.n, .int .i64 (0 : Nat)] 64 false) := by
                  rw [hst.2 h3.nx (by show h3.nx < h3.nx + 1 + 1; omega) (fun o n m => hnl _ o n m (Nat.le_refl _)), push_get, if_neg (by show ¬ h3.nx = h3.nx + 1; omega), put_get, if_pos rfl]
                simp +contextual (disch := first | (simp only [facts, clsL, clsS, clsC, isPtrD]; done) | omega) only [wps, facts, wpb, cst, wpk, wpl, forall_const, implies_true, false_implies, Int.reduceLE, Int.reduceLT, Nat.reduceLeDiff, UInt8.reduceToNat, ↓reduceIte, Nat.reduceEqDiff, Nat.reduceAdd, reduceCtorEq, Int.reduceToNat, clsL, clsS, clsC, f0, f3, f4, f5, f36, f37, f38, hcl, hic, hj7, FD.v, foundV, hde, hdn, g1, g2, g4, n1, n2, Tryd.f14]
                refine ⟨fun q hq => ?_, _, ?_, p + d.n, acc ++ [⟨d.kind, d.text, p⟩], v, f, rfl, ?_⟩
                · have hq : q = (3, 7) ∨ q = (4, 7) := by simpa using hq
                  rcases hq with rfl | rfl
                  · exact pair_one rfl rfl (apart_blk fun x hx y hy => by
                      have hx := List.mem_singleton.1 hx
                      have hy := List.mem_singleton.1 hy
                      subst hx hy
                      show ¬ h3.nx + 1 = h3.nx
                      omega)
                  · exact pair_one rfl rfl (apart_blk fun x hx y hy => by
                      have hy := List.mem_singleton.1 hy
                      subst hy
                      show ¬ blkOf x = h3.nx
                      rcases hL x hx with e | e | ⟨_, _, e⟩
                      · omega
                      · have e : h3.nx + 1 + 1 ≤ blkOf x := e
                        omega
                      · have := (ha3.blk e).2
                        omega)
                · omega
                · have hXH : Ext h h4 := StaysBut.ext (n0 := 0) ((((hX.push _).put (by omega) _).put (by omega) _).push _) hst (haH.mono (by omega))
                  have hn4 : h3.nx + 1 + 1 ≤ h4.nx := hst.1
                  have gf : h4.get h.nx = some (.cells [.int .i64 0, .int .i64 0] 26 false) := by
                    rw [hst.2 h.nx (by show h.nx < h3.nx + 1 + 1; omega) (fun o n m => haH.ne (by omega)), push_get, if_neg (by show ¬ h.nx = h3.nx + 1; omega), put_get, if_neg n1, put_get, if_neg n1, push_get, if_neg n1]
                    exact g1
                  simp +contextual (disch := first | (simp only [facts, clsL, clsS, clsC, isPtrD]; done) | omega) only [wps, facts, wpb, cst, wpk, wpl, forall_const, implies_true, false_implies, Int.reduceLE, Int.reduceLT, Nat.reduceLeDiff, UInt8.reduceToNat, ↓reduceIte, Nat.reduceEqDiff, Nat.reduceAdd, reduceCtorEq, Int.reduceToNat, clsL, clsS, clsC, f0, f3, f4, f5]
                  refine ⟨by omega, by omega, hXH, by omega, gf, by rw [wcells_append]; exact ha4, by omega, ?_⟩
                  rw [hr, if_neg (by rw [hw]; simpa using hde), hw]
              · show h.nx + 1 ≤ h3.nx + 1 + 1
                omega
            · rw [if_neg hdn] at hw
              simp +contextual (disch := first | (simp only [facts, clsL, clsS, clsC, isPtrD]; done) | omega) only [wps, facts, wpb, cst, wpk, wpl, forall_const, implies_true, false_implies, Int.reduceLE, Int.reduceLT, Nat.reduceLeDiff, UInt8.reduceToNat, ↓reduceIte, Nat.reduceEqDiff, Nat.reduceAdd, reduceCtorEq, Int.reduceToNat, clsL, clsS, clsC, f0, f3, f4, f5, f36, f37, f38, hcl, hic, hj7, FD.v, foundV, hde, hdn, g1, g2, n1, n2, Tryd.f14]
              refine ⟨.inr (by omega), _, ?_, j + 1, rfl, ?_⟩
              · omega
              · simp +contextual (disch := first | (simp only [facts, clsL, clsS, clsC, isPtrD]; done) | omega) only [wps, facts, wpb, cst, wpk, wpl, forall_const, implies_true, false_implies, Int.reduceLE, Int.reduceLT, Nat.reduceLeDiff, UInt8.reduceToNat, ↓reduceIte, Nat.reduceEqDiff, Nat.reduceAdd, reduceCtorEq, Int.reduceToNat, clsL, clsS, clsC, f0, f3, f4, f5, f36, f37, f38, g1, g2, n1, n2, hdn]
                exact ⟨by omega, (hX.push _).put (by omega) _, by omega, by omega, ha3.stay (Nat.le_succ _) (fun k _ hk => by rw [put_get, if_neg (by omega), push_get, if_neg (by omega)]), hw⟩
          · rw [if_pos (by simpa using hde)] at hw
            simp +contextual (disch := first | (simp only [facts, clsL, clsS, clsC, isPtrD]; done) | omega) only [wps, facts, wpb, cst, wpk, wpl, forall_const, implies_true, false_implies, Int.reduceLE, Int.reduceLT, Nat.reduceLeDiff, UInt8.reduceToNat, ↓reduceIte, Nat.reduceEqDiff, Nat.reduceAdd, reduceCtorEq, Int.reduceToNat, clsL, clsS, clsC, f0, f3, f4, f5, f36, f37, f38, hcl, hic, hj7, FD.v, foundV, hde, g1, g2, n1, n2, Tryd.f14]
            refine ⟨.inr (by omega), draw_by [(1, 5)] (by kernel_rfl) ?_⟩
            simp +contextual (disch := first | (simp only [facts, clsL, clsS, clsC, isPtrD]; done) | omega) only [wps, facts, wpb, cst, wpk, wpl, forall_const, implies_true, false_implies, Int.reduceLE, Int.reduceLT, Nat.reduceLeDiff, UInt8.reduceToNat, ↓reduceIte, Nat.reduceEqDiff, Nat.reduceAdd, reduceCtorEq, Int.reduceToNat, clsL, clsS, clsC, f0, f3, f4, f5, f36, f37, f38, hcl, hic, hj7, FD.v, foundV, hde, g1, g2, n1, n2, Tryd.f14]
            exact ⟨fun q hq => by
              obtain rfl : q = (1, 5) := by simpa using hq
              exact pair_one rfl rfl (apart_blk fun x hx y hy => by
                have hx := List.mem_singleton.1 hx
                have hy := List.mem_singleton.1 hy
                subst hx hy
                exact fun q => n1 q.symm), ((hX.push _).put (by omega) _).put (Nat.le_refl _) _, by rw [allV, if_neg hlen, hr, if_pos (by rw [hw]; exact hde), hw]⟩
        · exfalso
          have : j = 7 := by omega
          subst this
          rw [hw] at hr
          have h1 := wordD_pos (s := s.drop p) (by rw [hw]; rfl)
          rw [hw] at h1
          exact absurd h1 (Nat.lt_irrefl 0)
    · rw [if_pos (by simpa using he)] at hr
      simp +contextual (disch := first | (simp only [facts, clsL, clsS, clsC, isPtrD]; done) | omega) only [wps, facts, wpb, cst, wpk, wpl, forall_const, implies_true, false_implies, Int.reduceLE, Int.reduceLT, Nat.reduceLeDiff, UInt8.reduceToNat, ↓reduceIte, Nat.reduceEqDiff, Nat.reduceAdd, reduceCtorEq, Int.reduceToNat, clsL, clsS, clsC, e0, e3, e4, e5, hpl, hg, hcl, hic, he, Tryd.f14]
      exact ⟨hx.put (Nat.le_refl _) _, by rw [allV, if_neg hlen, hr]⟩
  · rw [if_neg hpl] at hr
    simp +contextual (disch := first | (simp only [facts, clsL, clsS, clsC, isPtrD]; done) | omega) only [wps, facts, wpb, cst, wpk, wpl, forall_const, implies_true, false_implies, Int.reduceLE, Int.reduceLT, Nat.reduceLeDiff, UInt8.reduceToNat, ↓reduceIte, Nat.reduceEqDiff, Nat.reduceAdd, reduceCtorEq, Int.reduceToNat, clsL, clsS, clsC, e0, e3, e4, e5, hpl, hg, hcl, hic, Tryd.f14]
    exact ⟨hx.put (Nat.le_refl _) _, by
      rw [allV, if_neg hlen, hr]
      exact ⟨l, rfl, (ha.put (by omega)).mono (by omega)⟩⟩
end
end Go.Proofs.YtkibhdbmamfjcaaDoor
