/-
  Several texts of one walk, joined.
-/
import Derived.Test.YtkibhdbmamfjcaaDoorScanA
import Derived.Test.YtkibhdbmamfjcaaDoorWxZ
/-
  scan: a parameter or a sign, whatever the text.
-/
set_option linter.unusedSimpArgs false
set_option linter.unusedVariables false
set_option maxRecDepth 10000
namespace Go.Proofs.YtkibhdbmamfjcaaDoor
open Go.Proofs Go.Lx Go.Wx Go.IntWalk
noncomputable section

/-- the signs, longest first, as the program names them -/
def signsT : List Nat := [60, 61, 62, 32, 45, 62, 62, 32, 60, 62, 32, 33, 61, 32, 60, 61, 32, 62, 61, 32, 58, 61, 32, 60, 60, 32, 62, 62, 32, 38, 38, 32, 124, 124, 32, 45, 62, 32, 40, 32, 41, 32, 44, 32, 59, 32, 46, 32, 43, 32, 45, 32, 42, 32, 47, 32, 37, 32, 61, 32, 60, 32, 62, 32, 38, 32, 124, 32, 94, 32, 126, 32, 33, 32, 123, 32, 125, 32, 91, 32, 93, 32, 58]
def signsL : List (List Nat) := [[60,61,62], [45,62,62], [60,62], [33,61], [60,61], [62,61], [58,61], [60,60], [62,62], [38,38], [124,124], [45,62], [40], [41], [44], [59], [46], [43], [45], [42], [47], [37], [61], [60], [62], [38], [124], [94], [126], [33], [123], [125], [91], [93], [58]]

/-- the setting, where strings.Fields of the signs stands in -/
structure StdF (S : Set0) : Prop extends Std S where
  fields : ∀ h : H, callW S.cfg nil1 62 [.str signsT] h fun v h' => v = .slice h.nx 0 35 35 ∧ h' = h.push (.cells (signsL.map V.str) 9 false)

/-- the first sign that a text begins with -/
def trySign (s : List Nat) : List (List Nat) → FD
  | [] => FD.bad 191
  | x :: l => if x.length ≤ s.length ∧ s.take x.length = x then ⟨5, x, x.length, 0⟩ else trySign s l
def signD (s : List Nat) : FD := if s.getD 0 0 = 63 then ⟨8, [], 1, 0⟩ else trySign s signsL

variable {S : Set0} (hS : StdF S)
include hS
theorem sign_spec (s : List Nat) (h : H) (h0 : s ≠ []) (hb : Bytes s) : Pure S.cfg 44 [.str s] h fun v _ => v = (signD s).v := by
  have hl : 0 < s.length := List.length_pos_iff.2 h0
  refine into Tryd.f44 _ Tryd.func44 (hS.own _ (by decide)) rfl rfl (by kernel_rfl) (by kernel_rfl) ?_
  by_cases hn : s.getD 0 0 = 63
  · simp +contextual (disch := first | (simp only [facts, clsL, clsS, clsC, isPtrD]; done) | omega) only [wps, facts, wpb, cst, wpk, wpl, forall_const, implies_true, false_implies, Int.reduceLE, Int.reduceLT, Nat.reduceLeDiff, UInt8.reduceToNat, ↓reduceIte, Nat.reduceEqDiff, Nat.reduceAdd, reduceCtorEq, Int.reduceToNat, clsL, clsS, clsC, Tryd.f44, hn, hl]
    exact ⟨((Ext.refl h).push _).put (Nat.le_refl _) _, by rw [signD, if_pos hn]; rfl⟩
  · simp +contextual (disch := first | (simp only [facts, clsL, clsS, clsC, isPtrD]; done) | omega) only [wps, facts, wpb, cst, wpk, wpl, forall_const, implies_true, false_implies, Int.reduceLE, Int.reduceLT, Nat.reduceLeDiff, UInt8.reduceToNat, ↓reduceIte, Nat.reduceEqDiff, Nat.reduceAdd, reduceCtorEq, Int.reduceToNat, clsL, clsS, clsC, Tryd.f44, hn, hl]
    have hfa : ∀ h : H, callW S.cfg nil1 62 [.str signsT] h fun v h' => v = .slice h.nx 0 35 35 ∧ h' = h.push (.cells (signsL.map V.str) 9 false) := hS.fields
    refine ⟨nil1, fun _ q => q.elim, callW_mono (hfa _) (fun _ q => q) ?_⟩
    rintro v h' ⟨rfl, rfl⟩
    have hx1 : ¬ h.nx = h.nx + 1 := by omega
    simp +contextual (disch := first | (simp only [facts, clsL, clsS, clsC, isPtrD]; done) | omega) only [wps, facts, wpb, cst, wpk, wpl, forall_const, implies_true, false_implies, Int.reduceLE, Int.reduceLT, Nat.reduceLeDiff, UInt8.reduceToNat, ↓reduceIte, Nat.reduceEqDiff, Nat.reduceAdd, reduceCtorEq, Int.reduceToNat, clsL, clsS, clsC, Tryd.f44, hx1]
    refine run_loop (fun m env h' => ∃ (j : Nat), m = 35 - j ∧ env 0 = .str s ∧ env 2 = .ptr h.nx 0 ∧ env 10 = .slice (h.nx + 1) 0 35 35 ∧ env 11 = .int .i64 35 ∧ env 12 = .int .i64 j ∧ j ≤ 35 ∧ Ext h h' ∧ h.nx + 1 < h'.nx ∧ h'.get h.nx = some (.cells [.int .i64 0, .str [], .int .i64 0, .int .i64 0, .int .i64 0] 64 false) ∧ h'.get (h.nx + 1) = some (.cells (signsL.map V.str) 9 false) ∧ signD s = trySign s (signsL.drop j)) 35 ⟨0, by simp +contextual (disch := first | (simp only [facts, clsL, clsS, clsC, isPtrD]; done) | omega) only [wps, facts, wpb, cst, wpk, wpl, forall_const, implies_true, false_implies, Int.reduceLE, Int.reduceLT, Nat.reduceLeDiff, UInt8.reduceToNat, ↓reduceIte, Nat.reduceEqDiff, Nat.reduceAdd, reduceCtorEq, Int.reduceToNat, clsL, clsS, clsC, hx1]; exact ⟨((Ext.refl h).push _).push _, by omega, by rw [signD, if_neg hn]⟩⟩ ?_
    rintro m env h' ⟨j, rfl, e0, e2, e14, e15, e16, hj, hx, hn1, hg, hgf, hr⟩
    by_cases hj3 : j < 35
    · obtain ⟨x, hcf, hdr⟩ : ∃ (x : List Nat), (signsL.map V.str)[j]? = some (.str x) ∧ signsL.drop j = x :: signsL.drop (j + 1) := by
        have hjl : j < signsL.length := hj3
        exact ⟨signsL[j], by rw [List.getElem?_map, List.getElem?_eq_getElem hjl]; rfl, List.drop_eq_getElem_cons hjl⟩
      rw [hdr, trySign] at hr
      simp +contextual (disch := first | (simp only [facts, clsL, clsS, clsC, isPtrD]; done) | omega) only [wps, facts, wpb, cst, wpk, wpl, forall_const, implies_true, false_implies, Int.reduceLE, Int.reduceLT, Nat.reduceLeDiff, UInt8.reduceToNat, ↓reduceIte, Nat.reduceEqDiff, Nat.reduceAdd, reduceCtorEq, Int.reduceToNat, clsL, clsS, clsC, e0, e2, e14, e15, e16, hgf, hcf, hj3, Tryd.f44]
      refine callF_exact (hasPrefix_spec hS.toStd s x h') ?_
      by_cases hp : x.length ≤ s.length ∧ s.take x.length = x
      · rw [if_pos hp] at hr
        simp +contextual (disch := first | (simp only [facts, clsL, clsS, clsC, isPtrD]; done) | omega) only [wps, facts, wpb, cst, wpk, wpl, forall_const, implies_true, false_implies, Int.reduceLE, Int.reduceLT, Nat.reduceLeDiff, UInt8.reduceToNat, ↓reduceIte, Nat.reduceEqDiff, Nat.reduceAdd, reduceCtorEq, Int.reduceToNat, clsL, clsS, clsC, e0, e2, e14, e15, e16, hgf, hg, hcf, hj3, hp, Tryd.f44]
        exact ⟨hx.put (Nat.le_refl _) _, by rw [hr]; rfl⟩
      · rw [if_neg hp] at hr
        simp +contextual (disch := first | (simp only [facts, clsL, clsS, clsC, isPtrD]; done) | omega) only [wps, facts, wpb, cst, wpk, wpl, forall_const, implies_true, false_implies, Int.reduceLE, Int.reduceLT, Nat.reduceLeDiff, UInt8.reduceToNat, ↓reduceIte, Nat.reduceEqDiff, Nat.reduceAdd, reduceCtorEq, Int.reduceToNat, clsL, clsS, clsC, e0, e2, e14, e15, e16, hgf, hg, hcf, hj3, hp, Tryd.f44]
        exact ⟨_, by omega, j + 1, rfl, rfl, by omega, hx, hn1, hr⟩
    · simp +contextual (disch := first | (simp only [facts, clsL, clsS, clsC, isPtrD]; done) | omega) only [wps, facts, wpb, cst, wpk, wpl, forall_const, implies_true, false_implies, Int.reduceLE, Int.reduceLT, Nat.reduceLeDiff, UInt8.reduceToNat, ↓reduceIte, Nat.reduceEqDiff, Nat.reduceAdd, reduceCtorEq, Int.reduceToNat, clsL, clsS, clsC, e0, e2, e14, e15, e16, hg, hj3, Tryd.f44]
      refine ⟨hx.put (Nat.le_refl _) _, ?_⟩
      have : j = 35 := by omega
      subst this
      rw [hr]
      rfl
end
end Go.Proofs.YtkibhdbmamfjcaaDoor

/-
  scan: what one word is, whatever the text: the seven findings, the first that says something.
-/
set_option linter.unusedSimpArgs false
set_option linter.unusedVariables false
set_option maxRecDepth 10000
namespace Go.Proofs.YtkibhdbmamfjcaaDoor
open Go.Proofs Go.Lx Go.Wx Go.IntWalk
noncomputable section

def oddD (s : List Nat) : FD := if hasP s [47, 42, 33] ∨ hasP s [47, 42, 43] then (match findS [42, 47] (s.drop 2) with
    | some i => ⟨9, s.take (i + 4), i + 4, 0⟩
    | none => FD.bad 190) else FD.none
theorem oddD_v (s : List Nat) : oddF s = (oddD s).v := by
  unfold oddF oddD
  split
  · cases findS [42, 47] (s.drop 2) <;> rfl
  · rfl
theorem hasP_len {s p : List Nat} (h : hasP s p) : p.length ≤ s.length := h.1
theorem oddD_ok {s : List Nat} (hb : Bytes s) : (oddD s).ok s := by
  unfold oddD
  split
  · rename_i hp
    have hl : 3 ≤ s.length := by
      rcases hp with h | h
      · exact hasP_len h
      · exact hasP_len h
    cases hf : findS [42, 47] (s.drop 2) with
    | none => exact FD.ok_bad _ _
    | some i =>
      have := findS_le hf
      rw [List.length_drop] at this
      simp only [List.length_cons, List.length_nil] at this
      exact ⟨hb.take _, by show (s.take (i + 4)).length ≤ _; rw [List.length_take]; omega, by show i + 4 ≤ _; omega⟩
  · exact FD.ok_none _
theorem numN_le (s : List Nat) : numN s ≤ s.length := by
  have hc1 := countW_le isHex (s.drop 2)
  have hc2 := countW_le isDigit s
  rw [List.length_drop] at hc1
  have hd : deci s ≤ s.length := by
    have hc3 := countW_le isDigit (s.drop (countW isDigit s + 1))
    rw [List.length_drop] at hc3
    unfold deci
    split <;> omega
  have he : expo s (deci s) ≤ s.length := by
    have hc3 := countW_le isDigit (s.drop (expK s (deci s)))
    rw [List.length_drop] at hc3
    unfold expo
    split <;> omega
  unfold numN
  split
  · rename_i hp
    have hl : 2 ≤ s.length := by
      rcases hp.1 with h | h
      · exact h.1
      · exact h.1
    omega
  · split
    · omega
    · exact he
def numD (s : List Nat) : FD := if numN s = 0 then FD.none else ⟨4, s.take (numN s), numN s, 0⟩
theorem numD_v (s : List Nat) : numF s = (numD s).v := by
  unfold numF numD
  split <;> rfl
theorem numD_ok {s : List Nat} (hb : Bytes s) : (numD s).ok s := by
  unfold numD
  split
  · exact FD.ok_none _
  · exact ⟨hb.take _, by show (s.take _).length ≤ _; rw [List.length_take]; omega, numN_le s⟩
def eitherD (s : List Nat) : FD := if numN s < nameN s then nameD s else numD s
theorem eitherD_v (s : List Nat) : eitherF s = (eitherD s).v := by
  unfold eitherF eitherD
  split
  · exact nameD_v s
  · exact numD_v s
theorem eitherD_ok {s : List Nat} (hb : Bytes s) : (eitherD s).ok s := by
  unfold eitherD
  split
  · exact nameD_ok hb
  · exact numD_ok hb
theorem sysN_le : ∀ (f : Nat) (s : List Nat), sysN f s ≤ s.length
  | 0, s => Nat.zero_le _
  | f + 1, s => by
    have h1 := runF_le s
    unfold sysN
    split
    · have h2 := sysN_le f (s.drop ((runF s).1 + 1))
      rw [List.length_drop] at h2
      omega
    · exact h1
def sysE (s : List Nat) : Nat := sysN (s.length + 1) (s.drop 2)
def sysD (s : List Nat) : FD := if hasP s [64, 64] then (if sysE s = 0 then FD.bad 191 else ⟨7, lowS ((s.take (2 + sysE s)).drop 2), 2 + sysE s, 0⟩) else FD.none
theorem sysD_v (s : List Nat) : sysF s = (sysD s).v := by
  unfold sysF sysD sysE
  split
  · split <;> rfl
  · rfl
theorem sysD_ok {s : List Nat} (hb : Bytes s) : (sysD s).ok s := by
  unfold sysD
  split
  · rename_i hp
    have hl : 2 ≤ s.length := hasP_len hp
    have h2 := sysN_le (s.length + 1) (s.drop 2)
    rw [List.length_drop] at h2
    split
    · exact FD.ok_bad _ _
    · refine ⟨lowS_bytes ((hb.take _).drop 2), ?_, ?_⟩
      · show (lowS ((s.take (2 + sysE s)).drop 2)).length ≤ _
        simp [lowS]; omega
      · show 2 + sysE s ≤ _
        unfold sysE; omega
  · exact FD.ok_none _
theorem tryU_ok {s : List Nat} (h0 : s ≠ []) : ∀ {l : List FD}, (∀ d ∈ l, d.ok (s.drop 1)) → (tryU l).ok s
  | [], _ => FD.ok_bad _ _
  | d :: l, h => by
    have hl : 0 < s.length := List.length_pos_iff.2 h0
    have hd := h d (by simp)
    have h1 := hd.2.1
    have h2 := hd.2.2
    rw [List.length_drop] at h1 h2
    unfold tryU
    split
    · exact ⟨hd.1, by omega, by omega⟩
    · split
      · exact ⟨lowS_bytes hd.1, by show (lowS d.text).length ≤ _; simp [lowS]; omega, by show 1 + d.n ≤ _; omega⟩
      · exact tryU_ok h0 fun d' hd' => h d' (by simp [hd'])
theorem userD_ok {s : List Nat} (h0 : s ≠ []) (hb : Bytes s) : (userD s).ok s := by
  have hl : 0 < s.length := List.length_pos_iff.2 h0
  unfold userD
  split
  · split
    · exact FD.ok_bad _ _
    · have ht0 : s.drop 1 ≠ [] := fun q => by have := congrArg List.length q; simp at this; omega
      refine tryU_ok h0 fun d hd => ?_
      simp only [List.mem_cons, List.not_mem_nil, or_false] at hd
      rcases hd with rfl | rfl | rfl
      · exact quotD_ok ht0 (hb.drop 1)
      · exact textD_ok ht0 (hb.drop 1)
      · exact nameD_ok (hb.drop 1)
  · exact FD.ok_none _
theorem trySign_ok {s : List Nat} (hb : Bytes s) : ∀ (l : List (List Nat)), (trySign s l).ok s
  | [] => FD.ok_bad _ _
  | x :: l => by
    unfold trySign
    split
    · rename_i h
      exact ⟨by show Bytes x; rw [← h.2]; exact hb.take _, h.1, h.1⟩
    · exact trySign_ok hb l
theorem signD_ok {s : List Nat} (h0 : s ≠ []) (hb : Bytes s) : (signD s).ok s := by
  have hl : 0 < s.length := List.length_pos_iff.2 h0
  unfold signD
  split
  · exact ⟨fun b hb => by simp at hb, by simp, hl⟩
  · exact trySign_ok hb _
theorem trySign_pos {s : List Nat} : ∀ {l : List (List Nat)}, (∀ x ∈ l, 0 < x.length) → (trySign s l).e = 0 → 0 < (trySign s l).n
  | [], _, h => by cases h
  | x :: l, hl, h => by
    unfold trySign at h ⊢
    split
    · exact hl x (by simp)
    · rename_i hn
      rw [if_neg hn] at h
      exact trySign_pos (fun y hy => hl y (by simp [hy])) h
theorem signD_pos {s : List Nat} (h : (signD s).e = 0) : 0 < (signD s).n := by
  unfold signD at h ⊢
  split
  · exact Nat.one_pos
  · rename_i hn
    rw [if_neg hn] at h
    exact trySign_pos (by decide) h

/-- the first of some findings that says something -/
def tryW : List FD → FD
  | [] => FD.none
  | d :: l => if d.e ≠ 0 then d else if 0 < d.n then d else tryW l
def finds (s : List Nat) : List FD := [oddD s, eitherD s, quotD s, textD s, sysD s, userD s, signD s]
def wordD (s : List Nat) : FD := tryW (finds s)
theorem tryW_pos {d : FD} (hd : d.e = 0 → 0 < d.n) : ∀ {l : List FD}, d ∈ l → (tryW l).e = 0 → 0 < (tryW l).n
  | [], h, _ => by cases h
  | d' :: l, h, he => by
    unfold tryW at he ⊢
    split
    · rename_i h1; rw [if_pos h1] at he; exact absurd he h1
    · rename_i h1
      rw [if_neg h1] at he
      split
      · rename_i h2; exact h2
      · rename_i h2
        rw [if_neg h2] at he
        rcases List.mem_cons.1 h with rfl | hm
        · exact absurd (hd (by omega)) h2
        · exact tryW_pos hd hm he
theorem wordD_pos {s : List Nat} (h : (wordD s).e = 0) : 0 < (wordD s).n := tryW_pos (d := signD s) signD_pos (by simp [finds]) h
theorem tryW_ok {s : List Nat} : ∀ {l : List FD}, (∀ d ∈ l, d.ok s) → (tryW l).ok s
  | [], _ => FD.ok_none _
  | d :: l, h => by
    unfold tryW
    split
    · exact h d (by simp)
    · split
      · exact h d (by simp)
      · exact tryW_ok fun d' hd' => h d' (by simp [hd'])
theorem finds_ok {s : List Nat} (h0 : s ≠ []) (hb : Bytes s) : ∀ d ∈ finds s, d.ok s := by
  intro d hd
  simp only [finds, List.mem_cons, List.not_mem_nil, or_false] at hd
  rcases hd with rfl | rfl | rfl | rfl | rfl | rfl | rfl
  · exact oddD_ok hb
  · exact eitherD_ok hb
  · exact quotD_ok h0 hb
  · exact textD_ok h0 hb
  · exact sysD_ok hb
  · exact userD_ok h0 hb
  · exact signD_ok h0 hb
theorem wordD_ok {s : List Nat} (h0 : s ≠ []) (hb : Bytes s) : (wordD s).ok s := tryW_ok (finds_ok h0 hb)
theorem passF_le {s : List Nat} (h0 : s ≠ []) : (passF s).1 ≤ s.length := by
  have hl : 0 < s.length := List.length_pos_iff.2 h0
  unfold passF
  split
  · exact hl
  · split
    · cases hf : findB 10 s with
      | none => exact Nat.le_refl _
      | some i => exact (findB_lt hf).1
    · split
      · exact Nat.zero_le _
      · rename_i hp
        have hl : 2 ≤ s.length := hasP_len (p := [47, 42]) (Decidable.byContradiction fun q => hp (.inl q))
        cases hf : findS [42, 47] (s.drop 2) with
        | none => exact Nat.zero_le _
        | some i =>
          have := findS_le hf
          rw [List.length_drop] at this
          simp only [List.length_cons, List.length_nil] at this
          show i + 4 ≤ _
          omega

/-- a word, where it stands -/
structure WD where
  kind : Nat
  text : List Nat
  at_ : Nat
def WD.cells (w : WD) : List V := [.int .i64 w.kind, .str w.text, .int .i64 w.at_]
def wcells (l : List WD) : List V := l.flatMap WD.cells
/-- the words from a place on; or what is wrong, and where -/
def allR (s : List Nat) : Nat → Nat → List WD → List WD ⊕ (Nat × Nat)
  | 0, _, acc => .inl acc
  | f + 1, p, acc => if p < s.length then
      (if (passF (s.drop p)).2 ≠ 0 then .inr ((passF (s.drop p)).2, p)
      else if 0 < (passF (s.drop p)).1 then allR s f (p + (passF (s.drop p)).1) acc
      else if (wordD (s.drop p)).e ≠ 0 then .inr ((wordD (s.drop p)).e, p)
      else allR s f (p + (wordD (s.drop p)).n) (acc ++ [⟨(wordD (s.drop p)).kind, (wordD (s.drop p)).text, p⟩]))
    else .inl acc
def allF (s : List Nat) : List WD ⊕ (Nat × Nat) := allR s (s.length + 1) 0 []

variable {S : Set0} (hS : StdF S)
include hS
/-- the seven functions, by their places -/
def scanFs : List V := [.func 38 [] [], .func 39 [] [], .func 40 [] [], .func 41 [] [], .func 42 [] [], .func 43 [] [], .func 44 [] []]
theorem find_spec (s : List Nat) (hs : s.length < 2 ^ 26) (hb : Bytes s) (h0 : s ≠ []) (j : Nat) (hj : j < 7) : ∃ (f : FuncId) (d : FD), scanFs[j]? = some (.func f [] []) ∧ (finds s).drop j = d :: (finds s).drop (j + 1) ∧ (∀ h, Pure S.cfg f [.str s] h fun v _ => v = d.v) ∧ d.ok s := by
  have : j = 0 ∨ j = 1 ∨ j = 2 ∨ j = 3 ∨ j = 4 ∨ j = 5 ∨ j = 6 := by omega
  rcases this with rfl | rfl | rfl | rfl | rfl | rfl | rfl
  · exact ⟨38, oddD s, rfl, rfl, fun h => by rw [← oddD_v]; exact odd_spec hS.toStd _ h hs hb, oddD_ok hb⟩
  · exact ⟨39, eitherD s, rfl, rfl, fun h => by rw [← eitherD_v]; exact either_spec hS.toStd _ h hs hb, eitherD_ok hb⟩
  · exact ⟨40, quotD s, rfl, rfl, fun h => by rw [← quotD_v]; exact quoted_spec hS.toStd _ h hs hb h0, quotD_ok h0 hb⟩
  · exact ⟨41, textD s, rfl, rfl, fun h => by rw [← textD_v]; exact text_spec hS.toStd _ h hs hb h0, textD_ok h0 hb⟩
  · exact ⟨42, sysD s, rfl, rfl, fun h => by rw [← sysD_v]; exact system_spec hS.toStd _ h hs hb, sysD_ok hb⟩
  · exact ⟨43, userD s, rfl, rfl, fun h => user_spec hS.toStd _ h hs hb h0, userD_ok h0 hb⟩
  · exact ⟨44, signD s, rfl, rfl, fun h => sign_spec hS _ h h0 hb, signD_ok h0 hb⟩
end
end Go.Proofs.YtkibhdbmamfjcaaDoor

/-
  scan.All, whatever the text.
-/
set_option linter.unusedSimpArgs false
set_option linter.unusedVariables false
set_option maxRecDepth 10000
namespace Go.Proofs.YtkibhdbmamfjcaaDoor
open Go.Proofs Go.Lx Go.Wx Go.IntWalk
noncomputable section

variable {S : Set0} (hS : StdF S)

/-- what All gives -/
def allV (s : List Nat) (n0 : Nat) (h' : H) (v : V) : Prop :=
  if 1048576 < s.length then v = .tuple [.nilslice, .agg [.int .i64 3, .int .i64 (-1)]]
  else match allF s with
    | .inl ws => ∃ l, v = .tuple [l, .agg [.int .i64 0, .int .i64 0]] ∧ Acc n0 h' l (wcells ws) 36 3
    | .inr (e, p) => v = .tuple [.nilslice, .agg [.int .i64 e, .int .i64 p]]
theorem wcells_len (l : List WD) : (wcells l).length = l.length * 3 := by
  induction l with
  | nil => rfl
  | cons w l ih =>
    show (WD.cells w ++ wcells l).length = _
    rw [List.length_append, ih]
    show 3 + _ = (l.length + 1) * 3
    omega
theorem wcells_append (l : List WD) (w : WD) : wcells (l ++ [w]) = wcells l ++ w.cells := by
  simp [wcells]


/-- what holds at the outer loop's head -/
def AllI (s : List Nat) (h : H) (m : Nat) (env : Env) (h' : H) : Prop :=
  ∃ (p : Nat) (acc : List WD) (l : V) (f : Nat), m = s.length - p ∧ env 0 = .str s ∧ env 3 = .ptr h.nx 0 ∧ env 4 = l ∧ env 5 = .int .i64 p ∧ p ≤ s.length ∧ acc.length ≤ p ∧ Ext h h' ∧ h.nx < h'.nx ∧ h'.get h.nx = some (.cells [.int .i64 0, .int .i64 0] 26 false) ∧ Acc (h.nx + 1) h' l (wcells acc) 36 3 ∧ s.length < p + f ∧ allF s = allR s f p acc
/-- and at the inner one's -/
def WordI (s : List Nat) (h : H) (p : Nat) (acc : List WD) (l : V) (b : Nat) (m : Nat) (env : Env) (h' : H) : Prop :=
  ∃ (j : Nat), m = 7 - j ∧ j ≤ 7 ∧ env 0 = .str s ∧ env 3 = .ptr h.nx 0 ∧ env 4 = l ∧ env 5 = .int .i64 p ∧ env 36 = .slice b 0 7 7 ∧ env 37 = .int .i64 7 ∧ env 38 = .int .i64 j ∧ Ext h h' ∧ h.nx < b ∧ b < h'.nx ∧ h'.get h.nx = some (.cells [.int .i64 0, .int .i64 0] 26 false) ∧ h'.get b = some (.cells scanFs 61 false) ∧ Acc (h.nx + 1) h' l (wcells acc) 36 3 ∧ wordD (s.drop p) = tryW ((finds (s.drop p)).drop j)
include hS
theorem all_spec (s : List Nat) (h : H) (hb : Bytes s) (hs : s.length < 2 ^ 63) : Pure S.cfg 14 [.str s] h fun v h' => allV s h.nx h' v := by
  refine into Tryd.f14 _ Tryd.func14 (hS.own _ (by decide)) rfl rfl (by kernel_rfl) (by kernel_rfl) ?_
  have hx1 : ¬ h.nx = h.nx + 1 := by omega
  by_cases hlen : 1048576 < s.length
  · simp +contextual (disch := first | (simp only [facts, clsL, clsS, clsC, isPtrD]; done) | omega) only [wps, facts, wpb, cst, wpk, wpl, forall_const, implies_true, false_implies, Int.reduceLE, Int.reduceLT, Nat.reduceLeDiff, UInt8.reduceToNat, ↓reduceIte, Nat.reduceEqDiff, Nat.reduceAdd, reduceCtorEq, Int.reduceToNat, clsL, clsS, clsC, Tryd.f14, hlen]
    exact ⟨((Ext.refl h).push _).put (Nat.le_refl _) _, by rw [allV, if_pos hlen]⟩
  simp +contextual (disch := first | (simp only [facts, clsL, clsS, clsC, isPtrD]; done) | omega) only [wps, facts, wpb, cst, wpk, wpl, forall_const, implies_true, false_implies, Int.reduceLE, Int.reduceLT, Nat.reduceLeDiff, UInt8.reduceToNat, ↓reduceIte, Nat.reduceEqDiff, Nat.reduceAdd, reduceCtorEq, Int.reduceToNat, clsL, clsS, clsC, Tryd.f14, hlen]
  refine run_loop (AllI s h) s.length ⟨0, [], .nilslice, s.length + 1, by simp +contextual (disch := first | (simp only [facts, clsL, clsS, clsC, isPtrD]; done) | omega) only [wps, facts, wpb, cst, wpk, wpl, forall_const, implies_true, false_implies, Int.reduceLE, Int.reduceLT, Nat.reduceLeDiff, UInt8.reduceToNat, ↓reduceIte, Nat.reduceEqDiff, Nat.reduceAdd, reduceCtorEq, Int.reduceToNat, clsL, clsS, clsC, hx1]; exact ⟨by simp, (Ext.refl h).push _, by omega, .inl ⟨rfl, rfl⟩, by omega, rfl⟩⟩ ?_
  rintro m env h' ⟨p, acc, l, f, rfl, e0, e3, e4, e5, hp, hacc, hx, hn1, hg, ha, hf, hr⟩
  have hcl := ha.cell.1
  have hic := ha.cell.2
  obtain ⟨f, rfl⟩ : ∃ k, f = k + 1 := ⟨f - 1, by omega⟩
  rw [allR] at hr
  by_cases hpl : p < s.length
  · rw [if_pos hpl] at hr
    have hd0 : s.drop p ≠ [] := fun q => by have := congrArg List.length q; simp at this; omega
    have hdl : (s.drop p).length < 2 ^ 26 := by rw [List.length_drop]; omega
    have hdb : Bytes (s.drop p) := hb.drop p
    have hple := passF_le hd0
    rw [List.length_drop] at hple
    simp +contextual (disch := first | (simp only [facts, clsL, clsS, clsC, isPtrD]; done) | omega) only [wps, facts, wpb, cst, wpk, wpl, forall_const, implies_true, false_implies, Int.reduceLE, Int.reduceLT, Nat.reduceLeDiff, UInt8.reduceToNat, ↓reduceIte, Nat.reduceEqDiff, Nat.reduceAdd, reduceCtorEq, Int.reduceToNat, clsL, clsS, clsC, e0, e3, e4, e5, hpl, hg, hcl, hic, Tryd.f14]
    refine ⟨hp, callF_exact (passed_spec hS.toStd _ _ (by omega) hdb hd0) ?_⟩
    by_cases he : (passF (s.drop p)).2 = 0
    · rw [if_neg (by simpa using he)] at hr
      by_cases hn : 0 < (passF (s.drop p)).1
      · rw [if_pos hn] at hr
        simp +contextual (disch := first | (simp only [facts, clsL, clsS, clsC, isPtrD]; done) | omega) only [wps, facts, wpb, cst, wpk, wpl, forall_const, implies_true, false_implies, Int.reduceLE, Int.reduceLT, Nat.reduceLeDiff, UInt8.reduceToNat, ↓reduceIte, Nat.reduceEqDiff, Nat.reduceAdd, reduceCtorEq, Int.reduceToNat, clsL, clsS, clsC, e0, e3, e4, e5, hpl, hg, hcl, hic, he, hn, Tryd.f14]
        refine ⟨_, ?_, p + (passF (s.drop p)).1, acc, l, f, rfl, ?_⟩
        · omega
        · simp +contextual (disch := first | (simp only [facts, clsL, clsS, clsC, isPtrD]; done) | omega) only [wps, facts, wpb, cst, wpk, wpl, forall_const, implies_true, false_implies, Int.reduceLE, Int.reduceLT, Nat.reduceLeDiff, UInt8.reduceToNat, ↓reduceIte, Nat.reduceEqDiff, Nat.reduceAdd, reduceCtorEq, Int.reduceToNat, clsL, clsS, clsC, e0, e3, e4, e5]
          exact ⟨by omega, by omega, hx, hn1, hg, ha, by omega, hr⟩
      · rw [if_neg hn] at hr
        simp +contextual (disch := first | (simp only [facts, clsL, clsS, clsC, isPtrD]; done) | omega) only [wps, facts, wpb, cst, wpk, wpl, forall_const, implies_true, false_implies, Int.reduceLE, Int.reduceLT, Nat.reduceLeDiff, UInt8.reduceToNat, ↓reduceIte, Nat.reduceEqDiff, Nat.reduceAdd, reduceCtorEq, Int.reduceToNat, clsL, clsS, clsC, e0, e3, e4, e5, hpl, hg, hcl, hic, he, hn, Tryd.f14]
        have hxb : ¬ h'.nx = h.nx := by omega
        refine run_loop (WordI s h p acc l h'.nx) 7 ⟨0, by simp +contextual (disch := first | (simp only [facts, clsL, clsS, clsC, isPtrD]; done) | omega) only [wps, facts, wpb, cst, wpk, wpl, forall_const, implies_true, false_implies, Int.reduceLE, Int.reduceLT, Nat.reduceLeDiff, UInt8.reduceToNat, ↓reduceIte, Nat.reduceEqDiff, Nat.reduceAdd, reduceCtorEq, Int.reduceToNat, clsL, clsS, clsC, hxb, Ne.symm hxb, e0, e3, e4, e5, scanFs, hg]; exact ⟨hx.push _, hn1, by omega, ha.push, rfl⟩⟩ ?_
        rintro m env2 h2 ⟨j, rfl, hj, f0, f3, f4, f5, f36, f37, f38, hx2, hb1, hb2, hg2, hgf, ha2, hw⟩
        by_cases hj7 : j < 7
        · obtain ⟨fn, d, hcf, hdr, hsp, hdo⟩ := find_spec hS (s.drop p) hdl hdb hd0 j hj7
          rw [hdr, tryW] at hw
          simp +contextual (disch := first | (simp only [facts, clsL, clsS, clsC, isPtrD]; done) | omega) only [wps, facts, wpb, cst, wpk, wpl, forall_const, implies_true, false_implies, Int.reduceLE, Int.reduceLT, Nat.reduceLeDiff, UInt8.reduceToNat, ↓reduceIte, Nat.reduceEqDiff, Nat.reduceAdd, reduceCtorEq, Int.reduceToNat, clsL, clsS, clsC, f0, f3, f4, f5, f36, f37, f38, hcl, hic, hgf, hcf, hj7, Tryd.f14]
          refine ⟨hp, callF_pure (hsp h2) ?_⟩
          rintro v h3 hx3 rfl
          have hle := hx3.1
          have hle2 := hx2.1
          have g1 : h3.get h.nx = some (.cells [.int .i64 0, .int .i64 0] 26 false) := by rw [hx3.2 h.nx (by omega)]; exact hg2
          have g2 : h3.get h'.nx = some (.cells scanFs 61 false) := by rw [hx3.2 h'.nx (by omega)]; exact hgf
          have ha3 : Acc (h.nx + 1) h3 l (wcells acc) 36 3 := ha2.stay hle fun k _ hk => hx3.2 k hk
          have n1 : ¬ h.nx = h3.nx := by omega
          have n2 : ¬ h'.nx = h3.nx := by omega
          have hX : Ext h h3 := hx2.trans hx3
          by_cases hde : d.e = 0
          · rw [if_neg (by simpa using hde)] at hw
            by_cases hdn : 0 < d.n
            · rw [if_pos hdn] at hw
              simp +contextual (disch := first | (simp only [facts, clsL, clsS, clsC, isPtrD]; done) | omega) only [wps, facts, wpb, cst, wpk, wpl, forall_const, implies_true, false_implies, Int.reduceLE, Int.reduceLT, Nat.reduceLeDiff, UInt8.reduceToNat, ↓reduceIte, Nat.reduceEqDiff, Nat.reduceAdd, reduceCtorEq, Int.reduceToNat, clsL, clsS, clsC, f0, f3, f4, f5, f36, f37, f38, hcl, hic, hj7, FD.v, foundV, hde, hdn, g1, g2, n1, n2, Tryd.f14]
              refine ⟨.inr (by omega), .inr (by omega), draw_by [(3, 7), (4, 7)] (by kernel_rfl) ?_⟩
              simp +contextual (disch := first | (simp only [facts, clsL, clsS, clsC, isPtrD]; done) | omega) only [wps, facts, wpb, cst, wpk, wpl, forall_const, implies_true, false_implies, Int.reduceLE, Int.reduceLT, Nat.reduceLeDiff, UInt8.reduceToNat, ↓reduceIte, Nat.reduceEqDiff, Nat.reduceAdd, reduceCtorEq, Int.reduceToNat, clsL, clsS, clsC, f0, f3, f4, f5, f36, f37, f38, hcl, hic, hj7, FD.v, foundV, hde, hdn, g1, g2, n1, n2, Tryd.f14]
              have hdn2 := hdo.2.2
              rw [List.length_drop] at hdn2
              have haH := (ha3.stay (Nat.le_succ _) (fun k _ hk => by rw [put_get, if_neg (by omega), put_get, if_neg (by omega), push_get, if_neg (by omega)]) : Acc (h.nx + 1) (((h3.push (.cells [.int .i64 0, .str [], .int .i64 0, .int .i64 0, .int .i64 0] 64 false)).put h3.nx (.cells [.int .i64 d.kind, .str d.text, .int .i64 (0 : Nat), .int .i64 d.n, .int .i64 (0 : Nat)] 64 false)).put h3.nx (.cells [.int .i64 d.kind, .str d.text, .int .i64 p, .int .i64 d.n, .int .i64 (0 : Nat)] 64 false)) l (wcells acc) 36 3).push (ob := .cells [.int .i64 d.kind, .str d.text, .int .i64 p] 36 false)
              refine append_accV (sv := l) (n0 := h.nx + 1) (cells := wcells acc) (new := [.int .i64 d.kind, .str d.text, .int .i64 p]) (b2 := h3.nx + 1) (o2 := 0) (n := 1) (m := 1) ?_ ap23 ⟨.slice 36, by kernel_rfl, rfl⟩ haH ?_ ?_ ?_ rfl rfl ?_ (by decide) ?_ ?_ ?_
              · simp +contextual (disch := first | (simp only [facts, clsL, clsS, clsC, isPtrD]; done) | omega) only [wps, facts, wpb, cst, wpk, wpl, forall_const, implies_true, false_implies, Int.reduceLE, Int.reduceLT, Nat.reduceLeDiff, UInt8.reduceToNat, ↓reduceIte, Nat.reduceEqDiff, Nat.reduceAdd, reduceCtorEq, Int.reduceToNat, clsL, clsS, clsC, n1, n2]
              · simp +contextual (disch := first | (simp only [facts, clsL, clsS, clsC, isPtrD]; done) | omega) only [wps, facts, wpb, cst, wpk, wpl, forall_const, implies_true, false_implies, Int.reduceLE, Int.reduceLT, Nat.reduceLeDiff, UInt8.reduceToNat, ↓reduceIte, Nat.reduceEqDiff, Nat.reduceAdd, reduceCtorEq, Int.reduceToNat, clsL, clsS, clsC, n1, n2]
              · decide
              · simp +contextual (disch := first | (simp only [facts, clsL, clsS, clsC, isPtrD]; done) | omega) only [wps, facts, wpb, cst, wpk, wpl, forall_const, implies_true, false_implies, Int.reduceLE, Int.reduceLT, Nat.reduceLeDiff, UInt8.reduceToNat, ↓reduceIte, Nat.reduceEqDiff, Nat.reduceAdd, reduceCtorEq, Int.reduceToNat, clsL, clsS, clsC, rdC]
                rfl
              · rw [wcells_len]
                show acc.length * 3 + 3 ≤ _
                omega
              · exact fun k hk => by rw [fresh_def]; exact .inl (by omega)
              · intro v h4 L ha4 hst hL
                have hnl : ∀ k o n m, h3.nx ≤ k → l ≠ .slice k o n m := fun k o n m hk q => by have := (ha3.blk q).2; omega
                have g4 : h4.get h3.nx = some (.cells [.int .i64 d.kind, .str d.text, .int .i64 p, .int .i64 d.n, .int .i64 (0 : Nat)] 64 false) := by
                  rw [hst.2 h3.nx (by show h3.nx < h3.nx + 1 + 1; omega) (fun o n m => hnl _ o n m (Nat.le_refl _)), push_get, if_neg (by show ¬ h3.nx = h3.nx + 1; omega), put_get, if_pos rfl]
                simp +contextual (disch := first | (simp only [facts, clsL, clsS, clsC, isPtrD]; done) | omega) only [wps, facts, wpb, cst, wpk, wpl, forall_const, implies_true, false_implies, Int.reduceLE, Int.reduceLT, Nat.reduceLeDiff, UInt8.reduceToNat, ↓reduceIte, Nat.reduceEqDiff, Nat.reduceAdd, reduceCtorEq, Int.reduceToNat, clsL, clsS, clsC, f0, f3, f4, f5, f36, f37, f38, hcl, hic, hj7, FD.v, foundV, hde, hdn, g1, g2, g4, n1, n2, Tryd.f14]
                refine ⟨fun q hq => ?_, _, ?_, p + d.n, acc ++ [⟨d.kind, d.text, p⟩], v, f, rfl, ?_⟩
                · have hq : q = (3, 7) ∨ q = (4, 7) := by simpa using hq
                  rcases hq with rfl | rfl
                  · exact pair_one rfl rfl (apart_blk fun x hx y hy => by
                      have hx := List.mem_singleton.1 hx
                      have hy := List.mem_singleton.1 hy
                      subst hx hy
                      show ¬ h3.nx + 1 = h3.nx
                      omega)
                  · exact pair_one rfl rfl (apart_blk fun x hx y hy => by
                      have hy := List.mem_singleton.1 hy
                      subst hy
                      show ¬ blkOf x = h3.nx
                      rcases hL x hx with e | e | ⟨_, _, e⟩
                      · omega
                      · have e : h3.nx + 1 + 1 ≤ blkOf x := e
                        omega
                      · have := (ha3.blk e).2
                        omega)
                · omega
                · have hXH : Ext h h4 := StaysBut.ext (n0 := 0) ((((hX.push _).put (by omega) _).put (by omega) _).push _) hst (haH.mono (by omega))
                  have hn4 : h3.nx + 1 + 1 ≤ h4.nx := hst.1
                  have gf : h4.get h.nx = some (.cells [.int .i64 0, .int .i64 0] 26 false) := by
                    rw [hst.2 h.nx (by show h.nx < h3.nx + 1 + 1; omega) (fun o n m => haH.ne (by omega)), push_get, if_neg (by show ¬ h.nx = h3.nx + 1; omega), put_get, if_neg n1, put_get, if_neg n1, push_get, if_neg n1]
                    exact g1
                  simp +contextual (disch := first | (simp only [facts, clsL, clsS, clsC, isPtrD]; done) | omega) only [wps, facts, wpb, cst, wpk, wpl, forall_const, implies_true, false_implies, Int.reduceLE, Int.reduceLT, Nat.reduceLeDiff, UInt8.reduceToNat, ↓reduceIte, Nat.reduceEqDiff, Nat.reduceAdd, reduceCtorEq, Int.reduceToNat, clsL, clsS, clsC, f0, f3, f4, f5]
                  refine ⟨by omega, by omega, hXH, by omega, gf, by rw [wcells_append]; exact ha4, by omega, ?_⟩
                  rw [hr, if_neg (by rw [hw]; simpa using hde), hw]
              · show h.nx + 1 ≤ h3.nx + 1 + 1
                omega
            · rw [if_neg hdn] at hw
              simp +contextual (disch := first | (simp only [facts, clsL, clsS, clsC, isPtrD]; done) | omega) only [wps, facts, wpb, cst, wpk, wpl, forall_const, implies_true, false_implies, Int.reduceLE, Int.reduceLT, Nat.reduceLeDiff, UInt8.reduceToNat, ↓reduceIte, Nat.reduceEqDiff, Nat.reduceAdd, reduceCtorEq, Int.reduceToNat, clsL, clsS, clsC, f0, f3, f4, f5, f36, f37, f38, hcl, hic, hj7, FD.v, foundV, hde, hdn, g1, g2, n1, n2, Tryd.f14]
              refine ⟨.inr (by omega), _, ?_, j + 1, rfl, ?_⟩
              · omega
              · simp +contextual (disch := first | (simp only [facts, clsL, clsS, clsC, isPtrD]; done) | omega) only [wps, facts, wpb, cst, wpk, wpl, forall_const, implies_true, false_implies, Int.reduceLE, Int.reduceLT, Nat.reduceLeDiff, UInt8.reduceToNat, ↓reduceIte, Nat.reduceEqDiff, Nat.reduceAdd, reduceCtorEq, Int.reduceToNat, clsL, clsS, clsC, f0, f3, f4, f5, f36, f37, f38, g1, g2, n1, n2, hdn]
                exact ⟨by omega, (hX.push _).put (by omega) _, by omega, by omega, ha3.stay (Nat.le_succ _) (fun k _ hk => by rw [put_get, if_neg (by omega), push_get, if_neg (by omega)]), hw⟩
          · rw [if_pos (by simpa using hde)] at hw
            simp +contextual (disch := first | (simp only [facts, clsL, clsS, clsC, isPtrD]; done) | omega) only [wps, facts, wpb, cst, wpk, wpl, forall_const, implies_true, false_implies, Int.reduceLE, Int.reduceLT, Nat.reduceLeDiff, UInt8.reduceToNat, ↓reduceIte, Nat.reduceEqDiff, Nat.reduceAdd, reduceCtorEq, Int.reduceToNat, clsL, clsS, clsC, f0, f3, f4, f5, f36, f37, f38, hcl, hic, hj7, FD.v, foundV, hde, g1, g2, n1, n2, Tryd.f14]
            refine ⟨.inr (by omega), draw_by [(1, 5)] (by kernel_rfl) ?_⟩
            simp +contextual (disch := first | (simp only [facts, clsL, clsS, clsC, isPtrD]; done) | omega) only [wps, facts, wpb, cst, wpk, wpl, forall_const, implies_true, false_implies, Int.reduceLE, Int.reduceLT, Nat.reduceLeDiff, UInt8.reduceToNat, ↓reduceIte, Nat.reduceEqDiff, Nat.reduceAdd, reduceCtorEq, Int.reduceToNat, clsL, clsS, clsC, f0, f3, f4, f5, f36, f37, f38, hcl, hic, hj7, FD.v, foundV, hde, g1, g2, n1, n2, Tryd.f14]
            exact ⟨fun q hq => by
              obtain rfl : q = (1, 5) := by simpa using hq
              exact pair_one rfl rfl (apart_blk fun x hx y hy => by
                have hx := List.mem_singleton.1 hx
                have hy := List.mem_singleton.1 hy
                subst hx hy
                exact fun q => n1 q.symm), ((hX.push _).put (by omega) _).put (Nat.le_refl _) _, by rw [allV, if_neg hlen, hr, if_pos (by rw [hw]; exact hde), hw]⟩
        · exfalso
          have : j = 7 := by omega
          subst this
          rw [hw] at hr
          have h1 := wordD_pos (s := s.drop p) (by rw [hw]; rfl)
          rw [hw] at h1
          exact absurd h1 (Nat.lt_irrefl 0)
    · rw [if_pos (by simpa using he)] at hr
      simp +contextual (disch := first | (simp only [facts, clsL, clsS, clsC, isPtrD]; done) | omega) only [wps, facts, wpb, cst, wpk, wpl, forall_const, implies_true, false_implies, Int.reduceLE, Int.reduceLT, Nat.reduceLeDiff, UInt8.reduceToNat, ↓reduceIte, Nat.reduceEqDiff, Nat.reduceAdd, reduceCtorEq, Int.reduceToNat, clsL, clsS, clsC, e0, e3, e4, e5, hpl, hg, hcl, hic, he, Tryd.f14]
      exact ⟨hx.put (Nat.le_refl _) _, by rw [allV, if_neg hlen, hr]⟩
  · rw [if_neg hpl] at hr
    simp +contextual (disch := first | (simp only [facts, clsL, clsS, clsC, isPtrD]; done) | omega) only [wps, facts, wpb, cst, wpk, wpl, forall_const, implies_true, false_implies, Int.reduceLE, Int.reduceLT, Nat.reduceLeDiff, UInt8.reduceToNat, ↓reduceIte, Nat.reduceEqDiff, Nat.reduceAdd, reduceCtorEq, Int.reduceToNat, clsL, clsS, clsC, e0, e3, e4, e5, hpl, hg, hcl, hic, Tryd.f14]
    exact ⟨hx.put (Nat.le_refl _) _, by
      rw [allV, if_neg hlen, hr]
      exact ⟨l, rfl, (ha.put (by omega)).mono (by omega)⟩⟩
end
end Go.Proofs.YtkibhdbmamfjcaaDoor

/-
  scan's reference: the small functions, whatever the text.
-/
set_option linter.unusedSimpArgs false
set_option linter.unusedVariables false
set_option maxRecDepth 10000
namespace Go.Proofs.YtkibhdbmamfjcaaDoor
open Go.Proofs Go.Lx Go.Wx Go.IntWalk
noncomputable section

variable {S : Set0} (hS : Std S)
include hS
theorem rdigit_spec (b : Nat) (h : H) : Exact S.cfg 120 [.int .u8 b] h (bo (isDigit b)) := by
  refine into Tryd.f120 _ Tryd.func120 (hS.own _ (by decide)) rfl rfl (by kernel_rfl) (by kernel_rfl) ?_
  simp +contextual (disch := first | (simp only [facts, clsL, clsS, clsC, isPtrD]; done) | omega) only [wps, facts, wpb, cst, wpk, wpl, forall_const, implies_true, false_implies, Int.reduceLE, Int.reduceLT, Nat.reduceLeDiff, UInt8.reduceToNat, ↓reduceIte, Nat.reduceEqDiff, Nat.reduceAdd, reduceCtorEq, Int.reduceToNat, clsL, clsS, clsC, Tryd.f120]
  exact bo_eq (by unfold isDigit; omega)
theorem rblank_spec (b : Nat) (h : H) : Exact S.cfg 45 [.int .u8 b] h (bo (isBlank b)) := by
  refine into Tryd.f45 _ Tryd.func45 (hS.own _ (by decide)) rfl rfl (by kernel_rfl) (by kernel_rfl) ?_
  simp +contextual (disch := first | (simp only [facts, clsL, clsS, clsC, isPtrD]; done) | omega) only [wps, facts, wpb, cst, wpk, wpl, forall_const, implies_true, false_implies, Int.reduceLE, Int.reduceLT, Nat.reduceLeDiff, UInt8.reduceToNat, ↓reduceIte, Nat.reduceEqDiff, Nat.reduceAdd, reduceCtorEq, Int.reduceToNat, clsL, clsS, clsC, Tryd.f45]
  exact bo_eq (by unfold isBlank; omega)
theorem rhex_spec (b : Nat) (h : H) : Exact S.cfg 122 [.int .u8 b] h (bo (isHex b)) := by
  refine into Tryd.f122 _ Tryd.func122 (hS.own _ (by decide)) rfl rfl (by kernel_rfl) (by kernel_rfl) ?_
  simp +contextual (disch := first | (simp only [facts, clsL, clsS, clsC, isPtrD]; done) | omega) only [wps, facts, wpb, cst, wpk, wpl, forall_const, implies_true, false_implies, Int.reduceLE, Int.reduceLT, Nat.reduceLeDiff, UInt8.reduceToNat, ↓reduceIte, Nat.reduceEqDiff, Nat.reduceAdd, reduceCtorEq, Int.reduceToNat, clsL, clsS, clsC, Tryd.f122]
  refine callF_exact (rdigit_spec hS _ _) ?_
  simp +contextual (disch := first | (simp only [facts, clsL, clsS, clsC, isPtrD]; done) | omega) only [wps, facts, wpb, cst, wpk, wpl, forall_const, implies_true, false_implies, Int.reduceLE, Int.reduceLT, Nat.reduceLeDiff, UInt8.reduceToNat, ↓reduceIte, Nat.reduceEqDiff, Nat.reduceAdd, reduceCtorEq, Int.reduceToNat, clsL, clsS, clsC, Tryd.f122]
  exact bo_eq (by unfold isHex; exact or_assoc)
theorem rdigits_spec (s : List Nat) (p : Nat) (h : H) (hs : s.length < 2 ^ 62) (hp : p < 2 ^ 62) : Exact S.cfg 123 [.str s, .int .i64 p] h (.int .i64 ((p + countW isDigit (s.drop p) : Nat))) := by
  refine into Tryd.f123 _ Tryd.func123 (hS.own _ (by decide)) rfl rfl (by kernel_rfl) (by kernel_rfl) ?_
  simp +contextual (disch := first | (simp only [facts, clsL, clsS, clsC, isPtrD]; done) | omega) only [wps, facts, wpb, cst, wpk, wpl, forall_const, implies_true, false_implies, Int.reduceLE, Int.reduceLT, Nat.reduceLeDiff, UInt8.reduceToNat, ↓reduceIte, Nat.reduceEqDiff, Nat.reduceAdd, reduceCtorEq, Int.reduceToNat, clsL, clsS, clsC]
  refine run_loop (fun m env h' => ∃ i : Nat, m = s.length - (p + i) ∧ env 1 = .int .i64 ((p + i : Nat)) ∧ env 0 = .str s ∧ (p + i ≤ s.length ∨ i = 0) ∧ i ≤ countW isDigit (s.drop p) ∧ h' = h) (s.length - p) ⟨0, by simp +contextual (disch := first | (simp only [facts, clsL, clsS, clsC, isPtrD]; done) | omega) only [wps, facts, wpb, cst, wpk, wpl, forall_const, implies_true, false_implies, Int.reduceLE, Int.reduceLT, Nat.reduceLeDiff, UInt8.reduceToNat, ↓reduceIte, Nat.reduceEqDiff, Nat.reduceAdd, reduceCtorEq, Int.reduceToNat, clsL, clsS, clsC]⟩ ?_
  rintro m env h' ⟨i, rfl, h3, h0, hi, hd, rfl⟩
  have e1 : s.getD (p + i) 0 = (s.drop p).getD i 0 := by simp [List.getD_eq_getElem?_getD]
  have e2 : (s.drop p).length = s.length - p := List.length_drop
  simp +contextual (disch := first | (simp only [facts, clsL, clsS, clsC, isPtrD]; done) | omega) only [wps, facts, wpb, cst, wpk, wpl, forall_const, implies_true, false_implies, Int.reduceLE, Int.reduceLT, Nat.reduceLeDiff, UInt8.reduceToNat, ↓reduceIte, Nat.reduceEqDiff, Nat.reduceAdd, reduceCtorEq, Int.reduceToNat, clsL, clsS, clsC, h3, h0, Tryd.f123]
  refine gCall_exact (first := []) (cap := []) (fun hlt => rdigit_spec hS _ _) (fun fp => ?_)
  simp +contextual (disch := first | (simp only [facts, clsL, clsS, clsC, isPtrD]; done) | omega) only [wps, facts, wpb, cst, wpk, wpl, forall_const, implies_true, false_implies, Int.reduceLE, Int.reduceLT, Nat.reduceLeDiff, UInt8.reduceToNat, ↓reduceIte, Nat.reduceEqDiff, Nat.reduceAdd, reduceCtorEq, Int.reduceToNat, clsL, clsS, clsC, h3, h0, Tryd.f123]
  refine ⟨fun hlt => ?_, fun hn => ?_⟩
  · exact ⟨_, by omega, i + 1, rfl, by omega, .inl (by omega), countW_step hd (by omega) (by rw [← e1]; exact hlt.2)⟩
  · rw [countW_stop hd (by
      by_cases hlt : p + i < s.length
      · exact .inr (fun q => hn ⟨hlt, by rw [e1]; exact q⟩)
      · exact .inl (by omega))]
theorem rlower_spec (s : List Nat) (h : H) (hs : s.length < 2 ^ 61) (hb : Bytes s) : Pure S.cfg 83 [.str s] h fun v _ => v = .str (lowS s) := by
  refine into Tryd.f83 _ Tryd.func83 (hS.own _ (by decide)) rfl rfl (by kernel_rfl) (by kernel_rfl) ?_
  simp +contextual (disch := first | (simp only [facts, clsL, clsS, clsC, isPtrD]; done) | omega) only [wps, facts, wpb, cst, wpk, wpl, forall_const, implies_true, false_implies, Int.reduceLE, Int.reduceLT, Nat.reduceLeDiff, UInt8.reduceToNat, ↓reduceIte, Nat.reduceEqDiff, Nat.reduceAdd, reduceCtorEq, Int.reduceToNat, clsL, clsS, clsC, Tryd.f83]
  refine run_loop (fun m env h' => ∃ i : Nat, m = s.length - i ∧ env 3 = .slice h.nx 0 s.length s.length ∧ env 4 = .int .i64 i ∧ i ≤ s.length ∧ Ext h h' ∧ h.nx < h'.nx ∧ h'.get h.nx = some (.cells (bytesV (partS s i)) 5 true)) s.length ⟨0, by simp +contextual (disch := first | (simp only [facts, clsL, clsS, clsC, isPtrD]; done) | omega) only [wps, facts, wpb, cst, wpk, wpl, forall_const, implies_true, false_implies, Int.reduceLE, Int.reduceLT, Nat.reduceLeDiff, UInt8.reduceToNat, ↓reduceIte, Nat.reduceEqDiff, Nat.reduceAdd, reduceCtorEq, Int.reduceToNat, clsL, clsS, clsC]; exact ⟨rfl, (Ext.refl h).push _, by omega, by simp [partS, lowS]⟩⟩ ?_
  rintro m env h' ⟨i, rfl, h3, h4, hi, hx, hn, hg⟩
  by_cases hlt : i < s.length
  · have hel : (partS s i)[i]? = some (s.getD i 0) := by
      unfold partS
      rw [List.getElem?_append_right (by simp [lowS]; omega)]
      simp [lowS, Nat.min_eq_left hi, List.getD_eq_getElem?_getD, List.getElem?_eq_getElem hlt]
    have hbi := hb.getD i
    by_cases hr : 65 ≤ s.getD i 0 ∧ s.getD i 0 ≤ 90
    · simp +contextual (disch := first | (simp only [facts, clsL, clsS, clsC, isPtrD]; done) | omega) only [wps, facts, wpb, cst, wpk, wpl, forall_const, implies_true, false_implies, Int.reduceLE, Int.reduceLT, Nat.reduceLeDiff, UInt8.reduceToNat, ↓reduceIte, Nat.reduceEqDiff, Nat.reduceAdd, reduceCtorEq, Int.reduceToNat, clsL, clsS, clsC, h3, h4, hg, hel, hlt, hr, Tryd.f83]
      refine ⟨by rw [partS_len s i hi]; omega, _, ?_, i + 1, rfl, rfl, by omega, hx.put (Nat.le_refl _) _, hn, ?_⟩
      · omega
      · have hw : IntKind.u8.wrap ((s.getD i 0 : Nat) + 32) = ((lowB (s.getD i 0) : Nat) : Int) := by
          rw [u8_in ((s.getD i 0 : Nat) + 32) (by omega)]
          unfold lowB
          rw [if_pos hr]
          omega
        rw [hw, partS_put s i hlt]
    · simp +contextual (disch := first | (simp only [facts, clsL, clsS, clsC, isPtrD]; done) | omega) only [wps, facts, wpb, cst, wpk, wpl, forall_const, implies_true, false_implies, Int.reduceLE, Int.reduceLT, Nat.reduceLeDiff, UInt8.reduceToNat, ↓reduceIte, Nat.reduceEqDiff, Nat.reduceAdd, reduceCtorEq, Int.reduceToNat, clsL, clsS, clsC, h3, h4, hg, hel, hlt, hr, Tryd.f83]
      exact ⟨_, by omega, i + 1, rfl, rfl, by omega, hx, hn, by rw [partS_same s i hlt hr]⟩
  · have e : i = s.length := by omega
    subst e
    have hp : partS s s.length = lowS s := by simp [partS]
    rw [hp] at hg
    have hr : rdN (some (.cells (bytesV (lowS s)) 5 true)) 0 s.length = some (lowS s) := by
      have := rdN_bytes (e := 5) (p := true) (lowS_bytes hb)
      rwa [show (lowS s).length = s.length by simp [lowS]] at this
    simp +contextual (disch := first | (simp only [facts, clsL, clsS, clsC, isPtrD]; done) | omega) only [wps, facts, wpb, cst, wpk, wpl, forall_const, implies_true, false_implies, Int.reduceLE, Int.reduceLT, Nat.reduceLeDiff, UInt8.reduceToNat, ↓reduceIte, Nat.reduceEqDiff, Nat.reduceAdd, reduceCtorEq, Int.reduceToNat, clsL, clsS, clsC, h3, h4, hg, hlt, hr, Tryd.f83]
    exact hx
end
end Go.Proofs.YtkibhdbmamfjcaaDoor

/-
  scan's reference: letters, names, whatever the text.
-/
set_option linter.unusedSimpArgs false
set_option linter.unusedVariables false
set_option maxRecDepth 10000
namespace Go.Proofs.YtkibhdbmamfjcaaDoor
open Go.Proofs Go.Lx Go.Wx Go.IntWalk
noncomputable section

theorem dec_ascii {s : List Nat} (h : s.getD 0 0 < 128) : dec s = (s.getD 0 0, 1) := by
  unfold dec
  simp only [cond_eq_ite, Nat.blt_eq]
  rw [if_pos h]
theorem dec_big {s : List Nat} (h : ¬ s.getD 0 0 < 128) : 128 ≤ (dec s).1 := by
  unfold dec
  simp only [cond_eq_ite, Nat.blt_eq, Nat.ble_eq, Bool.and_eq_true]
  rw [if_neg h]
  repeat' split
  all_goals simp only [Utf8.runeError]
  all_goals omega
/-- how many bytes the letter at the beginning has -/
def letN (t : List Nat) : Nat := if t = [] then 0 else if badR t then 0 else if letterR (dec t).1 then (dec t).2 else 0

theorem letN_of {t : List Nat} (h0 : t ≠ []) (hb : ¬ badR t) (hl : letterR (dec t).1) : letN t = (dec t).2 := by unfold letN; rw [if_neg h0, if_neg hb, if_pos hl]
theorem letN_no {t : List Nat} (h0 : t ≠ []) (hb : ¬ badR t) (hl : ¬ letterR (dec t).1) : letN t = 0 := by unfold letN; rw [if_neg h0, if_neg hb, if_neg hl]
theorem letN_bad {t : List Nat} (hb : badR t) : letN t = 0 := by unfold letN; simp [hb]
theorem letN_le (t : List Nat) : letN t ≤ t.length := by
  unfold letN
  split
  · exact Nat.zero_le _
  · rename_i h0
    split
    · exact Nat.zero_le _
    · split
      · exact dec_le t h0
      · exact Nat.zero_le _
theorem ascii_good {t : List Nat} {c : Nat} (hc : c < 128) (hd : dec t = (c, 1)) : ¬ badR t := by
  unfold badR; rw [hd]; simp; omega
theorem drop_getD (s : List Nat) (p i : Nat) : (s.drop p).getD i 0 = s.getD (p + i) 0 := by simp [List.getD_eq_getElem?_getD]
theorem drop_ne {s : List Nat} {p : Nat} (h : p < s.length) : s.drop p ≠ [] := fun q => by have := congrArg List.length q; simp at this; omega

variable {S : Set0} (hS : Std S)
include hS
theorem letter_spec (s : List Nat) (p : Nat) (h : H) (hs : s.length < 2 ^ 61) (hp : p < 2 ^ 62) (hb : Bytes s) : Exact S.cfg 119 [.str s, .int .i64 p] h (.int .i64 (letN (s.drop p))) := by
  refine into Tryd.f119 _ Tryd.func119 (hS.own _ (by decide)) rfl rfl (by kernel_rfl) (by kernel_rfl) ?_
  by_cases hpl : p < s.length
  · have h0 := drop_ne hpl
    have hc : (s.drop p).getD 0 0 = s.getD p 0 := drop_getD s p 0
    have hbc := hb.getD p
    have hpl2 : ¬ s.length ≤ p := by omega
    by_cases hl : ((97 ≤ s.getD p 0 ∧ s.getD p 0 ≤ 122 ∨ 65 ≤ s.getD p 0 ∧ s.getD p 0 ≤ 90) ∨ s.getD p 0 = 95) ∨ s.getD p 0 = 36
    · simp +contextual (disch := first | (simp only [facts, clsL, clsS, clsC, isPtrD]; done) | omega) only [wps, facts, wpb, cst, wpk, wpl, forall_const, implies_true, false_implies, Int.reduceLE, Int.reduceLT, Nat.reduceLeDiff, UInt8.reduceToNat, ↓reduceIte, Nat.reduceEqDiff, Nat.reduceAdd, reduceCtorEq, Int.reduceToNat, clsL, clsS, clsC, Tryd.f119, hpl, hpl2, hl]
      have hd := dec_ascii (s := s.drop p) (by rw [hc]; omega)
      rw [hc] at hd
      rw [letN_of h0 (ascii_good (by omega) hd) (by rw [hd]; unfold letterR; simp only; omega), hd]
    · by_cases ha : s.getD p 0 < 128
      · simp +contextual (disch := first | (simp only [facts, clsL, clsS, clsC, isPtrD]; done) | omega) only [wps, facts, wpb, cst, wpk, wpl, forall_const, implies_true, false_implies, Int.reduceLE, Int.reduceLT, Nat.reduceLeDiff, UInt8.reduceToNat, ↓reduceIte, Nat.reduceEqDiff, Nat.reduceAdd, reduceCtorEq, Int.reduceToNat, clsL, clsS, clsC, Tryd.f119, hpl, hpl2, hl, ha]
        have hd := dec_ascii (s := s.drop p) (by rw [hc]; omega)
        rw [hc] at hd
        rw [letN_no h0 (ascii_good (by omega) hd) (by rw [hd]; unfold letterR; simp only; omega)]
      · simp +contextual (disch := first | (simp only [facts, clsL, clsS, clsC, isPtrD]; done) | omega) only [wps, facts, wpb, cst, wpk, wpl, forall_const, implies_true, false_implies, Int.reduceLE, Int.reduceLT, Nat.reduceLeDiff, UInt8.reduceToNat, ↓reduceIte, Nat.reduceEqDiff, Nat.reduceAdd, reduceCtorEq, Int.reduceToNat, clsL, clsS, clsC, Tryd.f119, hpl, hpl2, hl, ha]
        refine ⟨by omega, callF_exact (decode_spec hS _ _) ?_⟩
        have hd : decG (s.drop p) = dec (s.drop p) := by
          unfold decG
          rw [if_neg h0]
        have hdp := dec_pos (s.drop p)
        have hdb := dec_big (s := s.drop p) (by rw [hc]; exact ha)
        rw [hd]
        simp +contextual (disch := first | (simp only [facts, clsL, clsS, clsC, isPtrD]; done) | omega) only [wps, facts, wpb, cst, wpk, wpl, forall_const, implies_true, false_implies, Int.reduceLE, Int.reduceLT, Nat.reduceLeDiff, UInt8.reduceToNat, ↓reduceIte, Nat.reduceEqDiff, Nat.reduceAdd, reduceCtorEq, Int.reduceToNat, clsL, clsS, clsC, Tryd.f119, hpl, hpl2, hl, ha]
        refine ⟨fun q => ?_, fun q => ?_⟩
        · rw [letN_bad ⟨q.1, by omega⟩]
        · rw [letN_of h0 (fun b => q ⟨b.1, by have := b.2; omega⟩) (.inl hdb)]
  · have hpl2 : s.length ≤ p := by omega
    simp +contextual (disch := first | (simp only [facts, clsL, clsS, clsC, isPtrD]; done) | omega) only [wps, facts, wpb, cst, wpk, wpl, forall_const, implies_true, false_implies, Int.reduceLE, Int.reduceLT, Nat.reduceLeDiff, UInt8.reduceToNat, ↓reduceIte, Nat.reduceEqDiff, Nat.reduceAdd, reduceCtorEq, Int.reduceToNat, clsL, clsS, clsC, Tryd.f119, hpl, hpl2]
    rw [letN, if_pos (by apply List.drop_eq_nil_of_le; omega)]
theorem many_spec (s : List Nat) (p : Nat) (h : H) (hs : s.length < 2 ^ 61) (hp : p ≤ s.length) (hb : Bytes s) : Exact S.cfg 81 [.str s, .int .i64 p] h (.tuple [.int .i64 ((p + (runF (s.drop p)).1 : Nat)), bo ((runF (s.drop p)).2 = true)]) := by
  refine into Tryd.f81 _ Tryd.func81 (hS.own _ (by decide)) rfl rfl (by kernel_rfl) (by kernel_rfl) ?_
  simp +contextual (disch := first | (simp only [facts, clsL, clsS, clsC, isPtrD]; done) | omega) only [wps, facts, wpb, cst, wpk, wpl, forall_const, implies_true, false_implies, Int.reduceLE, Int.reduceLT, Nat.reduceLeDiff, UInt8.reduceToNat, ↓reduceIte, Nat.reduceEqDiff, Nat.reduceAdd, reduceCtorEq, Int.reduceToNat, clsL, clsS, clsC]
  refine run_loop (fun m env h' => ∃ (i : Nat) (L : Prop), m = s.length - (p + i) ∧ env 1 = .int .i64 ((p + i : Nat)) ∧ env 0 = .str s ∧ env 6 = bo L ∧ p + i ≤ s.length ∧ h' = h ∧ (runF (s.drop p)).1 = i + (runF (s.drop (p + i))).1 ∧ ((runF (s.drop p)).2 = true ↔ (L ∨ (runF (s.drop (p + i))).2 = true))) (s.length - p) ⟨0, False, by simp +contextual (disch := first | (simp only [facts, clsL, clsS, clsC, isPtrD]; done) | omega) only [wps, facts, wpb, cst, wpk, wpl, forall_const, implies_true, false_implies, Int.reduceLE, Int.reduceLT, Nat.reduceLeDiff, UInt8.reduceToNat, ↓reduceIte, Nat.reduceEqDiff, Nat.reduceAdd, reduceCtorEq, Int.reduceToNat, clsL, clsS, clsC]; exact hp⟩ ?_
  rintro m env h' ⟨i, L, rfl, h1, h0, h6, hi, rfl, r1, r2⟩
  by_cases hpl : p + i < s.length
  · have hne := drop_ne hpl
    have hc : (s.drop (p + i)).getD 0 0 = s.getD (p + i) 0 := drop_getD s (p + i) 0
    simp +contextual (disch := first | (simp only [facts, clsL, clsS, clsC, isPtrD]; done) | omega) only [wps, facts, wpb, cst, wpk, wpl, forall_const, implies_true, false_implies, Int.reduceLE, Int.reduceLT, Nat.reduceLeDiff, UInt8.reduceToNat, ↓reduceIte, Nat.reduceEqDiff, Nat.reduceAdd, reduceCtorEq, Int.reduceToNat, clsL, clsS, clsC, h1, h0, h6, hpl, Tryd.f81]
    refine callF_exact (rdigit_spec hS _ _) ?_
    by_cases hd : isDigit (s.getD (p + i) 0)
    · simp +contextual (disch := first | (simp only [facts, clsL, clsS, clsC, isPtrD]; done) | omega) only [wps, facts, wpb, cst, wpk, wpl, forall_const, implies_true, false_implies, Int.reduceLE, Int.reduceLT, Nat.reduceLeDiff, UInt8.reduceToNat, ↓reduceIte, Nat.reduceEqDiff, Nat.reduceAdd, reduceCtorEq, Int.reduceToNat, clsL, clsS, clsC, h1, h0, h6, hpl, hd, Tryd.f81]
      have hda := dec_ascii (s := s.drop (p + i)) (by rw [hc]; have := hd.2; omega)
      rw [hc] at hda
      have e := runF_digit hne (ascii_good (by have := hd.2; omega) hda) (by rw [hda]; unfold letterR; simp only; have h1 := hd.1; have h2 := hd.2; omega) (by rw [hda]; exact hd)
      rw [hda] at e
      simp only [List.drop_drop] at e
      exact ⟨_, by omega, i + 1, L, rfl, by omega, rfl, by omega, by rw [r1, e]; simp only; rw [show p + (i + 1) = p + i + 1 by omega]; omega, by rw [r2, e]; rw [show p + (i + 1) = p + i + 1 by omega]⟩
    · simp +contextual (disch := first | (simp only [facts, clsL, clsS, clsC, isPtrD]; done) | omega) only [wps, facts, wpb, cst, wpk, wpl, forall_const, implies_true, false_implies, Int.reduceLE, Int.reduceLT, Nat.reduceLeDiff, UInt8.reduceToNat, ↓reduceIte, Nat.reduceEqDiff, Nat.reduceAdd, reduceCtorEq, Int.reduceToNat, clsL, clsS, clsC, h1, h0, h6, hpl, hd, Tryd.f81]
      refine callF_exact (letter_spec hS s _ _ hs (by omega) hb) ?_
      by_cases hl : letN (s.drop (p + i)) = 0
      · simp +contextual (disch := first | (simp only [facts, clsL, clsS, clsC, isPtrD]; done) | omega) only [wps, facts, wpb, cst, wpk, wpl, forall_const, implies_true, false_implies, Int.reduceLE, Int.reduceLT, Nat.reduceLeDiff, UInt8.reduceToNat, ↓reduceIte, Nat.reduceEqDiff, Nat.reduceAdd, reduceCtorEq, Int.reduceToNat, clsL, clsS, clsC, h1, h0, h6, hpl, hd, hl, Tryd.f81]
        have e : runF (s.drop (p + i)) = (0, false) := by
          by_cases hbd : badR (s.drop (p + i))
          · exact runF_bad hne hbd
          · by_cases hle : letterR (dec (s.drop (p + i))).1
            · have h1 := letN_of hne hbd hle
              have h2 := dec_pos (s.drop (p + i))
              omega
            · refine runF_stop hne hbd hle fun hdd => ?_
              by_cases ha : (s.drop (p + i)).getD 0 0 < 128
              · rw [dec_ascii ha, hc] at hdd
                exact hd hdd
              · exact hle (.inl (dec_big ha))
        rw [e] at r1 r2
        rw [r1]
        simp only [Nat.add_zero]
        exact congrArg (fun x => V.tuple [V.int .i64 ((p + i : Nat)), x]) (bo_eq (by rw [r2]; simp))
      · have hln := letN_le (s.drop (p + i))
        rw [List.length_drop] at hln
        simp +contextual (disch := first | (simp only [facts, clsL, clsS, clsC, isPtrD]; done) | omega) only [wps, facts, wpb, cst, wpk, wpl, forall_const, implies_true, false_implies, Int.reduceLE, Int.reduceLT, Nat.reduceLeDiff, UInt8.reduceToNat, ↓reduceIte, Nat.reduceEqDiff, Nat.reduceAdd, reduceCtorEq, Int.reduceToNat, clsL, clsS, clsC, h1, h0, h6, hpl, hd, hl, Tryd.f81]
        have hbd : ¬ badR (s.drop (p + i)) := fun q => hl (letN_bad q)
        have hle : letterR (dec (s.drop (p + i))).1 := Decidable.byContradiction fun q => hl (letN_no hne hbd q)
        have e := runF_letter hne hbd hle
        rw [← letN_of hne hbd hle] at e
        simp only [List.drop_drop] at e
        exact ⟨_, by omega, i + letN (s.drop (p + i)), True, rfl, by omega, rfl, by omega, by rw [r1, e]; simp only; rw [show p + (i + letN (s.drop (p + i))) = p + i + letN (s.drop (p + i)) by omega]; omega, by rw [r2, e]; simp⟩
  · simp +contextual (disch := first | (simp only [facts, clsL, clsS, clsC, isPtrD]; done) | omega) only [wps, facts, wpb, cst, wpk, wpl, forall_const, implies_true, false_implies, Int.reduceLE, Int.reduceLT, Nat.reduceLeDiff, UInt8.reduceToNat, ↓reduceIte, Nat.reduceEqDiff, Nat.reduceAdd, reduceCtorEq, Int.reduceToNat, clsL, clsS, clsC, h1, h0, h6, hpl, Tryd.f81]
    have e : runF (s.drop (p + i)) = (0, false) := by
      rw [List.drop_eq_nil_of_le (by omega), runF_nil]
    rw [e] at r1 r2
    rw [r1]
    simp only [Nat.add_zero]
    exact congrArg (fun x => V.tuple [V.int .i64 ((p + i : Nat)), x]) (bo_eq (by rw [r2]; simp))
end
end Go.Proofs.YtkibhdbmamfjcaaDoor

/-
  scan's reference: numbers, whatever the text.
-/
set_option linter.unusedSimpArgs false
set_option linter.unusedVariables false
set_option maxRecDepth 10000
namespace Go.Proofs.YtkibhdbmamfjcaaDoor
open Go.Proofs Go.Lx Go.Wx Go.IntWalk
noncomputable section

/-- does a hexadecimal number begin here? -/
def hexAt (t : List Nat) : Prop := 2 < t.length ∧ t.getD 0 0 = 48 ∧ (t.getD 1 0 = 120 ∨ t.getD 1 0 = 88) ∧ isHex (t.getD 2 0)
theorem hexAt_iff (t : List Nat) : (hexPre t ∧ 0 < countW isHex (t.drop 2)) ↔ hexAt t := by
  unfold hexPre hexAt countW
  match t with
  | [] => simp
  | [a] => simp
  | [a, b] => simp
  | a :: b :: c :: l =>
    by_cases hc : isHex c
    · simp [List.takeWhile_cons, hc]
      omega
    · simp [List.takeWhile_cons, hc]

variable {S : Set0} (hS : Std S)
include hS
theorem rnumber_spec (s : List Nat) (p : Nat) (h : H) (hs : s.length < 2 ^ 61) (hp : p ≤ s.length) (hb : Bytes s) : Exact S.cfg 82 [.str s, .int .i64 p] h (.int .i64 ((p + numN (s.drop p) : Nat))) := by
  have hg0 := drop_getD s p 0
  have hg1 := drop_getD s p 1
  have hg2 := drop_getD s p 2
  have hlen : (s.drop p).length = s.length - p := List.length_drop
  simp only [Nat.add_zero] at hg0
  have hA : hexAt (s.drop p) ↔ (p + 2 < s.length ∧ s.getD p 0 = 48 ∧ (s.getD (p + 1) 0 = 120 ∨ s.getD (p + 1) 0 = 88) ∧ isHex (s.getD (p + 2) 0)) := by
    unfold hexAt
    rw [hg0, hg1, hg2, hlen]
    constructor
    · exact fun ⟨a, b⟩ => ⟨by omega, b⟩
    · exact fun ⟨a, b⟩ => ⟨by omega, b⟩
  refine into Tryd.f82 _ Tryd.func82 (hS.own _ (by decide)) rfl rfl (by kernel_rfl) (by kernel_rfl) ?_
  simp +contextual (disch := first | (simp only [facts, clsL, clsS, clsC, isPtrD]; done) | omega) only [wps, facts, wpb, cst, wpk, wpl, forall_const, implies_true, false_implies, Int.reduceLE, Int.reduceLT, Nat.reduceLeDiff, UInt8.reduceToNat, ↓reduceIte, Nat.reduceEqDiff, Nat.reduceAdd, reduceCtorEq, Int.reduceToNat, clsL, clsS, clsC, Tryd.f82]
  refine ⟨fun q => by omega, fun q => by have := q.1; omega, fun q => by have := q.1.1; omega, gCall_exact (first := []) (cap := []) (fun _ => rhex_spec hS _ _) (fun fp => ?_)⟩
  by_cases hx : hexAt (s.drop p)
  · have hx' := hA.1 hx
    have hc2 := countW_le isHex ((s.drop p).drop 2)
    rw [List.length_drop, hlen] at hc2
    have hN : numN (s.drop p) = 2 + countW isHex ((s.drop p).drop 2) := by rw [numN, if_pos ((hexAt_iff _).2 hx)]
    simp +contextual (disch := first | (simp only [facts, clsL, clsS, clsC, isPtrD]; done) | omega) only [wps, facts, wpb, cst, wpk, wpl, forall_const, implies_true, false_implies, Int.reduceLE, Int.reduceLT, Nat.reduceLeDiff, UInt8.reduceToNat, ↓reduceIte, Nat.reduceEqDiff, Nat.reduceAdd, reduceCtorEq, Int.reduceToNat, clsL, clsS, clsC, hx', Tryd.f82]
    refine run_loop (fun m env h' => ∃ i : Nat, m = s.length - (p + 2 + i) ∧ env 5 = .int .i64 ((p + 2 + i : Nat)) ∧ env 0 = .str s ∧ p + 2 + i ≤ s.length ∧ i ≤ countW isHex ((s.drop p).drop 2) ∧ h' = h) (s.length - (p + 2)) ⟨0, by simp +contextual (disch := first | (simp only [facts, clsL, clsS, clsC, isPtrD]; done) | omega) only [wps, facts, wpb, cst, wpk, wpl, forall_const, implies_true, false_implies, Int.reduceLE, Int.reduceLT, Nat.reduceLeDiff, UInt8.reduceToNat, ↓reduceIte, Nat.reduceEqDiff, Nat.reduceAdd, reduceCtorEq, Int.reduceToNat, clsL, clsS, clsC]; have := hx'.1; omega⟩ ?_
    rintro m env h' ⟨i, rfl, h3, h0, hi, hd, rfl⟩
    have e1 : s.getD (p + 2 + i) 0 = ((s.drop p).drop 2).getD i 0 := by simp [List.getD_eq_getElem?_getD]
    have e2 : ((s.drop p).drop 2).length = s.length - (p + 2) := by rw [List.length_drop, hlen]; omega
    simp +contextual (disch := first | (simp only [facts, clsL, clsS, clsC, isPtrD]; done) | omega) only [wps, facts, wpb, cst, wpk, wpl, forall_const, implies_true, false_implies, Int.reduceLE, Int.reduceLT, Nat.reduceLeDiff, UInt8.reduceToNat, ↓reduceIte, Nat.reduceEqDiff, Nat.reduceAdd, reduceCtorEq, Int.reduceToNat, clsL, clsS, clsC, h3, h0, Tryd.f82]
    refine gCall_exact (first := []) (cap := []) (fun hlt => rhex_spec hS _ _) (fun fp => ?_)
    simp +contextual (disch := first | (simp only [facts, clsL, clsS, clsC, isPtrD]; done) | omega) only [wps, facts, wpb, cst, wpk, wpl, forall_const, implies_true, false_implies, Int.reduceLE, Int.reduceLT, Nat.reduceLeDiff, UInt8.reduceToNat, ↓reduceIte, Nat.reduceEqDiff, Nat.reduceAdd, reduceCtorEq, Int.reduceToNat, clsL, clsS, clsC, h3, h0, Tryd.f82]
    refine ⟨fun hlt => ?_, fun hn => ?_⟩
    · exact ⟨_, by omega, i + 1, rfl, by omega, by omega, countW_step hd (by omega) (by rw [← e1]; exact hlt.2)⟩
    · rw [hN, ← countW_stop hd (by
        by_cases hlt : p + 2 + i < s.length
        · exact .inr (fun q => hn ⟨hlt, by rw [e1]; exact q⟩)
        · exact .inl (by omega))]
      omega
  · have hx' : ¬ (((p + 2 < s.length ∧ s.getD p 0 = 48) ∧ (s.getD (p + 1) 0 = 120 ∨ s.getD (p + 1) 0 = 88)) ∧ isHex (s.getD (p + 2) 0)) := fun q => hx (hA.2 ⟨q.1.1.1, q.1.1.2, q.1.2, q.2⟩)
    have hN : numN (s.drop p) = if deci (s.drop p) = 0 then 0 else expo (s.drop p) (deci (s.drop p)) := by rw [numN, if_neg (fun q => hx ((hexAt_iff _).1 q))]
    have hc1 := countW_le isDigit (s.drop p)
    rw [hlen] at hc1
    simp +contextual (disch := first | (simp only [facts, clsL, clsS, clsC, isPtrD]; done) | omega) only [wps, facts, wpb, cst, wpk, wpl, forall_const, implies_true, false_implies, Int.reduceLE, Int.reduceLT, Nat.reduceLeDiff, UInt8.reduceToNat, ↓reduceIte, Nat.reduceEqDiff, Nat.reduceAdd, reduceCtorEq, Int.reduceToNat, clsL, clsS, clsC, hx', Tryd.f82]
    have hd1 := fun h' => rdigits_spec hS s p h' (by omega) (by omega)
    obtain ⟨t, ht⟩ : ∃ t, t = s.drop p := ⟨_, rfl⟩
    rw [← ht] at hd1 hN hc1 ⊢
    refine callF_exact (hd1 _) ?_
    simp +contextual (disch := first | (simp only [facts, clsL, clsS, clsC, isPtrD]; done) | omega) only [wpr, facts, wpb, cst, wpk, wpl, forall_const, implies_true, false_implies, Int.reduceLE, Int.reduceLT, Nat.reduceLeDiff, UInt8.reduceToNat, ↓reduceIte, Nat.reduceEqDiff, Nat.reduceAdd, reduceCtorEq, Int.reduceToNat, clsL, clsS, clsC, Tryd.f82]
    refine run_cut (fun env' h' => env' 0 = .str s ∧ env' 1 = .int .i64 p ∧ env' 6 = .int .i64 ((p + deci t : Nat)) ∧ env' 7 = bo (0 < deci t) ∧ h' = h) ?_ ?_
    · simp +contextual (disch := first | (simp only [facts, clsL, clsS, clsC, isPtrD]; done) | omega) only [wps, facts, wpb, cst, wpk, wpl, forall_const, implies_true, false_implies, Int.reduceLE, Int.reduceLT, Nat.reduceLeDiff, UInt8.reduceToNat, ↓reduceIte, Nat.reduceEqDiff, Nat.reduceAdd, reduceCtorEq, Int.reduceToNat, clsL, clsS, clsC, Tryd.f82]
      have tg : ∀ i, t.getD i 0 = s.getD (p + i) 0 := fun i => by rw [ht]; exact drop_getD s p i
      have tlen : t.length = s.length - p := by rw [ht]; exact hlen
      have td : ∀ i, s.drop (p + i) = t.drop i := fun i => by rw [ht, List.drop_drop]
      have tg0 := tg (countW isDigit t)
      refine ⟨fun hd => ?_, fun hd => ?_⟩
      · have hc3 := countW_le isDigit (s.drop (p + countW isDigit t + 1))
        rw [List.length_drop] at hc3
        have hdr : s.drop (p + countW isDigit t + 1) = t.drop (countW isDigit t + 1) := by rw [← td, Nat.add_assoc]
        refine callF_exact (rdigits_spec hS s (p + countW isDigit t + 1) _ (by omega) (by omega)) ?_
        rw [hdr] at hc3 ⊢
        simp +contextual (disch := first | (simp only [facts, clsL, clsS, clsC, isPtrD]; done) | omega) only [wps, facts, wpb, cst, wpk, wpl, forall_const, implies_true, false_implies, Int.reduceLE, Int.reduceLT, Nat.reduceLeDiff, UInt8.reduceToNat, ↓reduceIte, Nat.reduceEqDiff, Nat.reduceAdd, reduceCtorEq, Int.reduceToNat, clsL, clsS, clsC, Tryd.f82]
        refine ⟨fun hz => ?_, fun hz => ?_⟩
        · have hdc : deci t = countW isDigit t := by rw [deci, if_neg (fun q => by omega)]
          rw [hN, if_pos (by omega), Nat.add_zero]
        · have hdc : deci t = countW isDigit t + 1 + countW isDigit (t.drop (countW isDigit t + 1)) := by rw [deci, if_pos ⟨by omega, by rw [tg0]; exact hd.2, by omega⟩]
          rw [hdc]
          exact ⟨by omega, bo_eq (by simp; omega)⟩
      · have hdc : deci t = countW isDigit t := by rw [deci, if_neg (fun q => hd ⟨by omega, by rw [← tg0]; exact q.2.1⟩)]
        rw [hdc]
        exact ⟨rfl, bo_eq (by omega)⟩
    · rintro env' h' ⟨h0, h1, h6, h7, rfl⟩
      simp +contextual (disch := first | (simp only [facts, clsL, clsS, clsC, isPtrD]; done) | omega) only [wps, facts, wpb, cst, wpk, wpl, forall_const, implies_true, false_implies, Int.reduceLE, Int.reduceLT, Nat.reduceLeDiff, UInt8.reduceToNat, ↓reduceIte, Nat.reduceEqDiff, Nat.reduceAdd, reduceCtorEq, Int.reduceToNat, clsL, clsS, clsC, Tryd.f82, h0, h1, h6, h7]
      have tg : ∀ i, t.getD i 0 = s.getD (p + i) 0 := fun i => by rw [ht]; exact drop_getD s p i
      have tlen : t.length = s.length - p := by rw [ht]; exact hlen
      have td : ∀ i, s.drop (p + i) = t.drop i := fun i => by rw [ht, List.drop_drop]
      have tg0 := tg (deci t)
      have tg1 : t.getD (deci t + 1) 0 = s.getD (p + deci t + 1) 0 := by rw [tg, Nat.add_assoc]
      have hd4 : deci t ≤ t.length := by
        have hc3 := countW_le isDigit (t.drop (countW isDigit t + 1))
        rw [List.length_drop] at hc3
        unfold deci
        split <;> omega
      refine ⟨fun hz => by rw [hN, if_pos (by omega), Nat.add_zero], fun hz => ?_⟩
      have hN' : numN t = expo t (deci t) := by rw [hN, if_neg (by omega)]
      rw [hN']
      refine ⟨fun he => ⟨fun hk => ?_, fun hk => ?_⟩, fun he => ?_⟩
      · have hK : expK t (deci t) = deci t + 2 := by rw [expK, if_pos ⟨by omega, by rw [tg1]; exact hk.2⟩]
        have hdr : s.drop (p + deci t + 1 + 1) = t.drop (deci t + 2) := by rw [← td]; exact congrArg (fun k => s.drop k) (by omega)
        refine callF_exact (rdigits_spec hS s (p + deci t + 1 + 1) _ (by omega) (by omega)) ?_
        have hc3 := countW_le isDigit (t.drop (deci t + 2))
        rw [List.length_drop] at hc3
        rw [hdr]
        simp +contextual (disch := first | (simp only [facts, clsL, clsS, clsC, isPtrD]; done) | omega) only [wps, facts, wpb, cst, wpk, wpl, forall_const, implies_true, false_implies, Int.reduceLE, Int.reduceLT, Nat.reduceLeDiff, UInt8.reduceToNat, ↓reduceIte, Nat.reduceEqDiff, Nat.reduceAdd, reduceCtorEq, Int.reduceToNat, clsL, clsS, clsC, Tryd.f82, h6]
        rw [← hK] at hc3 ⊢
        refine ⟨fun hr => ?_, fun hr => ?_⟩
        · rw [expo, if_pos ⟨by omega, by rw [tg0]; exact he.2, by omega⟩]
          omega
        · rw [expo, if_neg (fun q => by omega)]
      · have hK : expK t (deci t) = deci t + 1 := by rw [expK, if_neg (fun q => hk ⟨by omega, by rw [← tg1]; exact q.2⟩)]
        have hdr : s.drop (p + deci t + 1) = t.drop (deci t + 1) := by rw [← td]; exact congrArg (fun k => s.drop k) (by omega)
        refine callF_exact (rdigits_spec hS s (p + deci t + 1) _ (by omega) (by omega)) ?_
        have hc3 := countW_le isDigit (t.drop (deci t + 1))
        rw [List.length_drop] at hc3
        rw [hdr]
        simp +contextual (disch := first | (simp only [facts, clsL, clsS, clsC, isPtrD]; done) | omega) only [wps, facts, wpb, cst, wpk, wpl, forall_const, implies_true, false_implies, Int.reduceLE, Int.reduceLT, Nat.reduceLeDiff, UInt8.reduceToNat, ↓reduceIte, Nat.reduceEqDiff, Nat.reduceAdd, reduceCtorEq, Int.reduceToNat, clsL, clsS, clsC, Tryd.f82, h6]
        rw [← hK] at hc3 ⊢
        refine ⟨fun hr => ?_, fun hr => ?_⟩
        · rw [expo, if_pos ⟨by omega, by rw [tg0]; exact he.2, by omega⟩]
          omega
        · rw [expo, if_neg (fun q => by omega)]
      · rw [expo, if_neg (fun q => he ⟨by omega, by rw [← tg0]; exact q.2.1⟩)]
end
end Go.Proofs.YtkibhdbmamfjcaaDoor

/-
  scan's reference: quoted texts, places of texts, whatever the text.
-/
set_option linter.unusedSimpArgs false
set_option linter.unusedVariables false
set_option maxRecDepth 10000
namespace Go.Proofs.YtkibhdbmamfjcaaDoor
open Go.Proofs Go.Lx Go.Wx Go.IntWalk
noncomputable section

/-- what stands between quotes of a kind behind the first one -/
def qtF (q : Nat) (t : List Nat) : Option (List Nat × Nat) := if q = 96 then qF t else tF q t
def qtV (p : Nat) (r : Option (List Nat × Nat)) : V := match r with
  | some r => .tuple [.str r.1, .int .i64 ((p + 1 + r.2 : Nat))]
  | none => .tuple [.str [], .int .i64 (-1)]
theorem qt_nil (q : Nat) {s : List Nat} {i : Nat} (hi : s.length ≤ i) : qtF q (s.drop i) = none := by
  rw [List.drop_eq_nil_of_le hi, qtF]
  split <;> rfl
theorem qt_esc {q : Nat} {s : List Nat} {i : Nat} (hi : i + 1 < s.length) (h1 : s.getD i 0 = 92) (h2 : q ≠ 96) : qtF q (s.drop i) = (qtF q (s.drop (i + 2))).map fun r => (escB (s.getD (i + 1) 0) ++ r.1, r.2 + 2) := by
  rw [qtF, if_neg h2, tF_esc hi h1, qtF, if_neg h2]
theorem qt_esc_end {q : Nat} {s : List Nat} {i : Nat} (hi : i + 1 = s.length) (h1 : s.getD i 0 = 92) (h2 : q ≠ 96) : qtF q (s.drop i) = none := by
  rw [qtF, if_neg h2, tF_esc_end hi h1]
theorem qt_end {q : Nat} {s : List Nat} {i : Nat} (hi : i < s.length) (h0 : ¬ (s.getD i 0 = 92 ∧ q ≠ 96)) (h1 : s.getD i 0 = q) (h2 : i + 1 = s.length ∨ s.getD (i + 1) 0 ≠ q) : qtF q (s.drop i) = some ([], 1) := by
  unfold qtF
  by_cases hq : q = 96
  · subst hq
    rw [if_pos rfl, qF_end hi h1 h2]
  · rw [if_neg hq, tF_end hi (fun e => h0 ⟨e, hq⟩) h1 h2]
theorem qt_two {q : Nat} {s : List Nat} {i : Nat} (hi : i + 1 < s.length) (h0 : ¬ (s.getD i 0 = 92 ∧ q ≠ 96)) (h1 : s.getD i 0 = q) (h2 : s.getD (i + 1) 0 = q) : qtF q (s.drop i) = (qtF q (s.drop (i + 2))).map fun r => (q :: r.1, r.2 + 2) := by
  unfold qtF
  by_cases hq : q = 96
  · subst hq
    rw [if_pos rfl, qF_two hi h1 h2, if_pos rfl]
  · rw [if_neg hq, tF_two hi (fun e => h0 ⟨e, hq⟩) h1 h2, if_neg hq]
theorem qt_one {q : Nat} {s : List Nat} {i : Nat} (hi : i < s.length) (h0 : ¬ (s.getD i 0 = 92 ∧ q ≠ 96)) (h1 : s.getD i 0 ≠ q) : qtF q (s.drop i) = (qtF q (s.drop (i + 1))).map fun r => (s.getD i 0 :: r.1, r.2 + 1) := by
  unfold qtF
  by_cases hq : q = 96
  · subst hq
    rw [if_pos rfl, qF_one hi h1, if_pos rfl]
  · rw [if_neg hq, tF_one hi (fun e => h0 ⟨e, hq⟩) h1, if_neg hq]
theorem map_acc {o : Option (List Nat × Nat)} {acc x : List Nat} {k m : Nat} : (o.map fun r => (x ++ r.1, r.2 + m)).map (fun r => (acc ++ r.1, k + r.2)) = o.map fun r => ((acc ++ x) ++ r.1, (k + m) + r.2) := by
  cases o with
  | none => rfl
  | some r => simp only [Option.map_some, List.append_assoc, Option.some.injEq, Prod.mk.injEq, true_and]; omega
theorem escB_ne (b : Nat) : 0 < (escB b).length ∧ (escB b).length ≤ 2 := by
  unfold escB
  repeat' split
  all_goals simp

variable {S : Set0} (hS : Std S)
include hS
theorem rescaped_spec (b : Nat) (h : H) (hb : b < 256) : Pure S.cfg 121 [.int .u8 b] h fun v _ => v = .str (escB b) := by
  refine into Tryd.f121 _ Tryd.func121 (hS.own _ (by decide)) rfl rfl (by kernel_rfl) (by kernel_rfl) ?_
  have hx : Ext h h := Ext.refl h
  have hr : rdN (some (.cells [.int .u8 b] 5 false)) 0 1 = some [b] := rdN_bytes (l := [b]) (e := 5) (p := false) (by simpa using hb)
  have hr2 : rdN (some (.cells [.int .u8 b] 5 true)) 0 1 = some [b] := rdN_bytes (l := [b]) (e := 5) (p := true) (by simpa using hb)
  simp +contextual (disch := first | (simp only [facts, clsL, clsS, clsC, isPtrD]; done) | omega) only [wps, facts, wpb, cst, wpk, wpl, forall_const, implies_true, false_implies, Int.reduceLE, Int.reduceLT, Nat.reduceLeDiff, UInt8.reduceToNat, ↓reduceIte, Nat.reduceEqDiff, Nat.reduceAdd, reduceCtorEq, Int.reduceToNat, clsL, clsS, clsC, Tryd.f121, hr, hr2]
  refine ⟨fun _ => ⟨hx, rfl⟩, fun h1 => ⟨fun _ => ⟨hx, rfl⟩, fun h2 => ⟨fun _ => ⟨hx, rfl⟩, fun h3 => ⟨fun _ => ⟨hx, rfl⟩, fun h4 => ⟨fun _ => ⟨hx, rfl⟩, fun h5 => ⟨fun _ => ⟨hx, rfl⟩, fun h6 => ⟨fun _ => ⟨hx.push _, rfl⟩, fun h7 => ⟨fun _ => ⟨hx.push _, rfl⟩, fun h8 => ⟨hx.push _, ?_⟩⟩⟩⟩⟩⟩⟩⟩⟩
  simp [escB, h1, h2, h3, h4, h5, h6, h7, h8]
theorem has_spec (s w : List Nat) (p : Nat) (h : H) (hs : s.length < 2 ^ 61) (hw : w.length < 2 ^ 20) (hp : p ≤ s.length) : Exact S.cfg 77 [.str s, .str w, .int .i64 p] h (bo (hasP (s.drop p) w)) := by
  refine into Tryd.f77 _ Tryd.func77 (hS.own _ (by decide)) rfl rfl (by kernel_rfl) (by kernel_rfl) ?_
  simp +contextual (disch := first | (simp only [facts, clsL, clsS, clsC, isPtrD]; done) | omega) only [wps, facts, wpb, cst, wpk, wpl, forall_const, implies_true, false_implies, Int.reduceLE, Int.reduceLT, Nat.reduceLeDiff, UInt8.reduceToNat, ↓reduceIte, Nat.reduceEqDiff, Nat.reduceAdd, reduceCtorEq, Int.reduceToNat, clsL, clsS, clsC, Tryd.f77]
  refine ⟨fun _ => by omega, bo_eq ?_⟩
  unfold hasP
  rw [List.drop_take, List.length_drop, show p + w.length - p = w.length by omega]
  constructor
  · exact fun ⟨a, b⟩ => ⟨by omega, b⟩
  · exact fun ⟨a, b⟩ => ⟨by omega, b⟩
omit hS
theorem isPre_iff : ∀ (w s : List Nat), isPre w s = true ↔ hasP s w
  | [], s => by simp [isPre, hasP]
  | a :: w, [] => by simp [isPre, hasP]
  | a :: w, b :: s => by
    have ih := isPre_iff w s
    unfold hasP at ih ⊢
    simp only [isPre, Bool.and_eq_true, ih, List.length_cons, List.take_succ_cons, List.cons.injEq]
    rw [Nat.beq_eq]
    constructor
    · exact fun ⟨x, y, z⟩ => ⟨by omega, x.symm, z⟩
    · exact fun ⟨x, y, z⟩ => ⟨y.symm, by omega, z⟩
theorem findS_hit {w t : List Nat} (h0 : t ≠ []) (h : hasP t w) : findS w t = some 0 := by
  cases t with
  | nil => exact absurd rfl h0
  | cons x l =>
    unfold findS
    rw [if_pos ((isPre_iff _ _).2 h)]
theorem findS_step {w t : List Nat} (h0 : t ≠ []) (h : ¬ hasP t w) : findS w t = (findS w (t.drop 1)).map (· + 1) := by
  cases t with
  | nil => exact absurd rfl h0
  | cons x l =>
    rw [findS.eq_def]
    simp only
    rw [if_neg (fun q => h ((isPre_iff _ _).1 q))]
    rfl
theorem findS_short {w t : List Nat} (h : t.length < w.length) : findS w t = none := by
  cases hf : findS w t with
  | none => rfl
  | some i => have := findS_le hf; omega
include hS
theorem ends_spec (s w : List Nat) (p : Nat) (h : H) (hs : s.length < 2 ^ 61) (hw : w.length < 2 ^ 20) (hw0 : w ≠ []) (hp : p ≤ s.length) : Exact S.cfg 78 [.str s, .str w, .int .i64 p] h (match findS w (s.drop p) with
    | some i => .int .i64 ((p + i + w.length : Nat))
    | none => .int .i64 (-1)) := by
  refine into Tryd.f78 _ Tryd.func78 (hS.own _ (by decide)) rfl rfl (by kernel_rfl) (by kernel_rfl) ?_
  simp +contextual (disch := first | (simp only [facts, clsL, clsS, clsC, isPtrD]; done) | omega) only [wps, facts, wpb, cst, wpk, wpl, forall_const, implies_true, false_implies, Int.reduceLE, Int.reduceLT, Nat.reduceLeDiff, UInt8.reduceToNat, ↓reduceIte, Nat.reduceEqDiff, Nat.reduceAdd, reduceCtorEq, Int.reduceToNat, clsL, clsS, clsC, Tryd.f78]
  refine run_loop (fun m env h' => ∃ (i : Nat), m = s.length + 1 - (p + i) ∧ env 7 = .int .i64 ((p + i : Nat)) ∧ env 0 = .str s ∧ env 1 = .str w ∧ p + i ≤ s.length + 1 ∧ h' = h ∧ findS w (s.drop p) = (findS w (s.drop (p + i))).map (i + ·)) (s.length + 1 - p) ⟨0, by simp +contextual (disch := first | (simp only [facts, clsL, clsS, clsC, isPtrD]; done) | omega) only [wps, facts, wpb, cst, wpk, wpl, forall_const, implies_true, false_implies, Int.reduceLE, Int.reduceLT, Nat.reduceLeDiff, UInt8.reduceToNat, ↓reduceIte, Nat.reduceEqDiff, Nat.reduceAdd, reduceCtorEq, Int.reduceToNat, clsL, clsS, clsC]; exact ⟨by omega, by cases findS w (s.drop p) <;> rfl⟩⟩ ?_
  rintro m env h' ⟨i, rfl, h7, h0, h1, hi, rfl, hr⟩
  simp +contextual (disch := first | (simp only [facts, clsL, clsS, clsC, isPtrD]; done) | omega) only [wps, facts, wpb, cst, wpk, wpl, forall_const, implies_true, false_implies, Int.reduceLE, Int.reduceLT, Nat.reduceLeDiff, UInt8.reduceToNat, ↓reduceIte, Nat.reduceEqDiff, Nat.reduceAdd, reduceCtorEq, Int.reduceToNat, clsL, clsS, clsC, h7, h0, h1, Tryd.f78]
  have hsub : (s.take (p + i + w.length)).drop (p + i) = (s.drop (p + i)).take w.length := by rw [List.drop_take, show p + i + w.length - (p + i) = w.length by omega]
  have hw1 : 0 < w.length := List.length_pos_iff.2 hw0
  rw [hsub]
  refine ⟨fun hl => ⟨by omega, fun he => ?_, fun he => ?_⟩, fun hl => ?_⟩
  · have hne : s.drop (p + i) ≠ [] := drop_ne (by omega)
    rw [hr, findS_hit hne ⟨by rw [List.length_drop]; omega, he⟩]
    rfl
  · have hne : s.drop (p + i) ≠ [] := drop_ne (by omega)
    refine ⟨_, ?_, i + 1, rfl, by omega, by omega, ?_⟩
    · omega
    · rw [hr, findS_step hne (fun q => he q.2), List.drop_drop, show p + (i + 1) = p + i + 1 by omega]
      cases findS w (s.drop (p + i + 1)) with
      | none => rfl
      | some k => show some (i + (k + 1)) = some (i + 1 + k); congr 1; omega
  · rw [hr, findS_short (by rw [List.length_drop]; omega)]
    rfl
theorem rquoted_spec (s : List Nat) (p : Nat) (h : H) (hs : s.length < 2 ^ 26) (hb : Bytes s) (hp : p < s.length) (hq92 : s.getD p 0 ≠ 92) : Pure S.cfg 80 [.str s, .int .i64 p] h fun v _ => v = qtV p (qtF (s.getD p 0) (s.drop (p + 1))) := by
  refine into Tryd.f80 _ Tryd.func80 (hS.own _ (by decide)) rfl rfl (by kernel_rfl) (by kernel_rfl) ?_
  simp +contextual (disch := first | (simp only [facts, clsL, clsS, clsC, isPtrD]; done) | omega) only [wps, facts, wpb, cst, wpk, wpl, forall_const, implies_true, false_implies, Int.reduceLE, Int.reduceLT, Nat.reduceLeDiff, UInt8.reduceToNat, ↓reduceIte, Nat.reduceEqDiff, Nat.reduceAdd, reduceCtorEq, Int.reduceToNat, clsL, clsS, clsC, Tryd.f80, hp]
  obtain ⟨q, hq⟩ : ∃ q, q = s.getD p 0 := ⟨_, rfl⟩
  have hqb : q < 256 := by rw [hq]; exact hb.getD p
  rw [← hq] at hq92 ⊢
  refine run_loop (fun m env h' => ∃ (i : Nat) (acc : List Nat) (v : V), m = s.length - i ∧ env 8 = .int .i64 i ∧ env 0 = .str s ∧ env 6 = .int .u8 q ∧ env 7 = v ∧ p + 1 ≤ i ∧ i ≤ s.length ∧ Acc h.nx h' v (bytesV acc) 5 1 ∧ Bytes acc ∧ acc.length ≤ 2 * i ∧ Ext h h' ∧ qtF q (s.drop (p + 1)) = (qtF q (s.drop i)).map fun r => (acc ++ r.1, (i - (p + 1)) + r.2)) (s.length - (p + 1)) ⟨p + 1, [], .nilslice, by simp +contextual (disch := first | (simp only [facts, clsL, clsS, clsC, isPtrD]; done) | omega) only [wps, facts, wpb, cst, wpk, wpl, forall_const, implies_true, false_implies, Int.reduceLE, Int.reduceLT, Nat.reduceLeDiff, UInt8.reduceToNat, ↓reduceIte, Nat.reduceEqDiff, Nat.reduceAdd, reduceCtorEq, Int.reduceToNat, clsL, clsS, clsC]; exact ⟨by omega, .inl ⟨rfl, rfl⟩, fun b hb => (by simp at hb), Ext.refl h, by cases qtF q (s.drop (p + 1)) <;> simp⟩⟩ ?_
  rintro m env h' ⟨i, acc, v, rfl, h8, h0, h6, h7, hpi, hi, hA, hba, hla, hx, hr⟩
  by_cases hlt : i < s.length
  · simp +contextual (disch := first | (simp only [facts, clsL, clsS, clsC, isPtrD]; done) | omega) only [wps, facts, wpb, cst, wpk, wpl, forall_const, implies_true, false_implies, Int.reduceLE, Int.reduceLT, Nat.reduceLeDiff, UInt8.reduceToNat, ↓reduceIte, Nat.reduceEqDiff, Nat.reduceAdd, reduceCtorEq, Int.reduceToNat, clsL, clsS, clsC, h8, h0, h6, h7, hlt, Tryd.f80]
    have hcl := hA.cell.1
    have hic := hA.cell.2
    have hbi := hb.getD i
    refine ⟨fun hesc => ⟨fun hl => ⟨hx, ?_⟩, fun hl => ⟨by omega, ?_⟩⟩, fun hesc => ?_⟩
    · rw [hr, qt_esc_end (by omega) hesc.1 hesc.2]
      rfl
    · refine callF_pure (rescaped_spec hS _ _ (hb.getD _)) ?_
      rintro v2 h2 hx2 rfl
      simp +contextual (disch := first | (simp only [facts, clsL, clsS, clsC, isPtrD]; done) | omega) only [wps, facts, wpb, cst, wpk, wpl, forall_const, implies_true, false_implies, Int.reduceLE, Int.reduceLT, Nat.reduceLeDiff, UInt8.reduceToNat, ↓reduceIte, Nat.reduceEqDiff, Nat.reduceAdd, reduceCtorEq, Int.reduceToNat, clsL, clsS, clsC, h8, h0, h6, h7, hlt, hcl, hic, Tryd.f80]
      have he := escB_ne (s.getD (i + 1) 0)
      have heb := (escB_bytes (hb.getD (i + 1))).1
      refine append_strV (sv := v) (n0 := h.nx) (cells := bytesV acc) (bs := escB (s.getD (i + 1) 0)) ?_ ap41 ⟨.string, by kernel_rfl, rfl⟩ (hA.stay hx2.1 fun k _ hk => hx2.2 k hk) ?_ he.1 ?_ ?_ ?_ ?_
      · simp +contextual (disch := first | (simp only [facts, clsL, clsS, clsC, isPtrD]; done) | omega) only [wps, facts, wpb, cst, wpk, wpl, forall_const, implies_true, false_implies, Int.reduceLE, Int.reduceLT, Nat.reduceLeDiff, UInt8.reduceToNat, ↓reduceIte, Nat.reduceEqDiff, Nat.reduceAdd, reduceCtorEq, Int.reduceToNat, clsL, clsS, clsC]
      · simp +contextual (disch := first | (simp only [facts, clsL, clsS, clsC, isPtrD]; done) | omega) only [wps, facts, wpb, cst, wpk, wpl, forall_const, implies_true, false_implies, Int.reduceLE, Int.reduceLT, Nat.reduceLeDiff, UInt8.reduceToNat, ↓reduceIte, Nat.reduceEqDiff, Nat.reduceAdd, reduceCtorEq, Int.reduceToNat, clsL, clsS, clsC]
      · rw [bytesV_length]; omega
      · exact fun k hk => by rw [fresh_def]; exact .inl hk
      · intro v3 h3 L hA3 hst hL
        have hcl3 := hA3.cell.1
        have hic3 := hA3.cell.2
        simp +contextual (disch := first | (simp only [facts, clsL, clsS, clsC, isPtrD]; done) | omega) only [wps, facts, wpb, cst, wpk, wpl, forall_const, implies_true, false_implies, Int.reduceLE, Int.reduceLT, Nat.reduceLeDiff, UInt8.reduceToNat, ↓reduceIte, Nat.reduceEqDiff, Nat.reduceAdd, reduceCtorEq, Int.reduceToNat, clsL, clsS, clsC, h8, h0, h6, h7, hlt, hcl, hic, hcl3, hic3, Tryd.f80]
        refine ⟨_, ?_, i + 2, acc ++ escB (s.getD (i + 1) 0), v3, rfl, ?_⟩
        · omega
        · simp +contextual (disch := first | (simp only [facts, clsL, clsS, clsC, isPtrD]; done) | omega) only [wps, facts, wpb, cst, wpk, wpl, forall_const, implies_true, false_implies, Int.reduceLE, Int.reduceLT, Nat.reduceLeDiff, UInt8.reduceToNat, ↓reduceIte, Nat.reduceEqDiff, Nat.reduceAdd, reduceCtorEq, Int.reduceToNat, clsL, clsS, clsC, h0, h6]
          refine ⟨by omega, by omega, by rw [bytesV_append]; exact hA3, fun b hb' => ?_, by omega, StaysBut.ext (n0 := 0) (hx.trans hx2) hst (hA.stay hx2.1 fun k _ hk => hx2.2 k hk), ?_⟩
          · rcases List.mem_append.1 hb' with hb' | hb'
            · exact hba b hb'
            · exact heb b hb'
          · rw [hr, qt_esc (by omega) hesc.1 hesc.2, map_acc, show i + 2 - (p + 1) = i - (p + 1) + 2 by omega]
      · exact Nat.le_trans hx.1 hx2.1
    · have hbs : rdC (some (.cells [.int .u8 (s.getD i 0)] 5 false)) 0 (1 * 1) = some [.int .u8 (s.getD i 0)] := rfl
      by_cases hsq : s.getD i 0 = q
      · by_cases htwo : i + 1 < s.length ∧ s.getD (i + 1) 0 = q
        · simp +contextual (disch := first | (simp only [facts, clsL, clsS, clsC, isPtrD]; done) | omega) only [wps, facts, wpb, cst, wpk, wpl, forall_const, implies_true, false_implies, Int.reduceLE, Int.reduceLT, Nat.reduceLeDiff, UInt8.reduceToNat, ↓reduceIte, Nat.reduceEqDiff, Nat.reduceAdd, reduceCtorEq, Int.reduceToNat, clsL, clsS, clsC, h8, h0, h6, h7, hlt, hcl, hic, hsq, htwo, Tryd.f80]
          refine append_accV (sv := v) (n0 := h.nx) (cells := bytesV acc) (new := [.int .u8 (q : Nat)]) (b2 := h'.nx) (o2 := 0) (n := 1) (m := 1) ?_ ap41 ⟨.slice 5, by kernel_rfl, rfl⟩ hA.push ?_ ?_ ?_ rfl rfl ?_ (by decide) ?_ ?_ ?_
          · simp +contextual (disch := first | (simp only [facts, clsL, clsS, clsC, isPtrD]; done) | omega) only [wps, facts, wpb, cst, wpk, wpl, forall_const, implies_true, false_implies, Int.reduceLE, Int.reduceLT, Nat.reduceLeDiff, UInt8.reduceToNat, ↓reduceIte, Nat.reduceEqDiff, Nat.reduceAdd, reduceCtorEq, Int.reduceToNat, clsL, clsS, clsC]
          · simp +contextual (disch := first | (simp only [facts, clsL, clsS, clsC, isPtrD]; done) | omega) only [wps, facts, wpb, cst, wpk, wpl, forall_const, implies_true, false_implies, Int.reduceLE, Int.reduceLT, Nat.reduceLeDiff, UInt8.reduceToNat, ↓reduceIte, Nat.reduceEqDiff, Nat.reduceAdd, reduceCtorEq, Int.reduceToNat, clsL, clsS, clsC]
          · decide
          · simp +contextual (disch := first | (simp only [facts, clsL, clsS, clsC, isPtrD]; done) | omega) only [wps, facts, wpb, cst, wpk, wpl, forall_const, implies_true, false_implies, Int.reduceLE, Int.reduceLT, Nat.reduceLeDiff, UInt8.reduceToNat, ↓reduceIte, Nat.reduceEqDiff, Nat.reduceAdd, reduceCtorEq, Int.reduceToNat, clsL, clsS, clsC]
            rfl
          · rw [bytesV_length]
            show acc.length + 1 ≤ _
            omega
          · exact fun k hk => by rw [fresh_def]; exact .inl hk
          · intro v3 h3 L hA3 hst hL
            have hcl3 := hA3.cell.1
            have hic3 := hA3.cell.2
            simp +contextual (disch := first | (simp only [facts, clsL, clsS, clsC, isPtrD]; done) | omega) only [wps, facts, wpb, cst, wpk, wpl, forall_const, implies_true, false_implies, Int.reduceLE, Int.reduceLT, Nat.reduceLeDiff, UInt8.reduceToNat, ↓reduceIte, Nat.reduceEqDiff, Nat.reduceAdd, reduceCtorEq, Int.reduceToNat, clsL, clsS, clsC, h8, h0, h6, h7, hlt, hcl, hic, hcl3, hic3, hsq, htwo, Tryd.f80]
            refine ⟨_, ?_, i + 2, acc ++ [q], v3, rfl, ?_⟩
            · omega
            · simp +contextual (disch := first | (simp only [facts, clsL, clsS, clsC, isPtrD]; done) | omega) only [wps, facts, wpb, cst, wpk, wpl, forall_const, implies_true, false_implies, Int.reduceLE, Int.reduceLT, Nat.reduceLeDiff, UInt8.reduceToNat, ↓reduceIte, Nat.reduceEqDiff, Nat.reduceAdd, reduceCtorEq, Int.reduceToNat, clsL, clsS, clsC, h0, h6]
              refine ⟨by omega, by omega, by rw [bytesV_append]; exact hA3, fun b hb' => ?_, by omega, StaysBut.ext (n0 := 0) (hx.push _) hst hA.push, ?_⟩
              · rcases List.mem_append.1 hb' with hb' | hb'
                · exact hba b hb'
                · rw [List.mem_singleton.1 hb']; omega
              · rw [hr, qt_two htwo.1 hesc hsq htwo.2]
                have := map_acc (o := qtF q (s.drop (i + 2))) (acc := acc) (x := [q]) (k := i - (p + 1)) (m := 2)
                rw [show i + 2 - (p + 1) = i - (p + 1) + 2 by omega]
                exact this
          · show h.nx ≤ h'.nx + 1
            have := hx.1
            omega
        · simp +contextual (disch := first | (simp only [facts, clsL, clsS, clsC, isPtrD]; done) | omega) only [wps, facts, wpb, cst, wpk, wpl, forall_const, implies_true, false_implies, Int.reduceLE, Int.reduceLT, Nat.reduceLeDiff, UInt8.reduceToNat, ↓reduceIte, Nat.reduceEqDiff, Nat.reduceAdd, reduceCtorEq, Int.reduceToNat, clsL, clsS, clsC, h8, h0, h6, h7, hlt, hcl, hic, hsq, htwo, Tryd.f80]
          have hend : qtF q (s.drop (p + 1)) = some (acc ++ [], i - (p + 1) + 1) := by
            rw [hr, qt_end hlt hesc hsq (by
              by_cases hl : i + 1 < s.length
              · exact .inr (fun e => htwo ⟨hl, e⟩)
              · exact .inl (by omega))]
            rfl
          rw [List.append_nil] at hend
          rcases hA with ⟨rfl, hnil⟩ | ⟨b, n, h1, h2, rfl, hn, hg, hl⟩
          · have hacc : acc = [] := by simpa [bytesV] using hnil
            simp +contextual (disch := first | (simp only [facts, clsL, clsS, clsC, isPtrD]; done) | omega) only [wps, facts, wpb, cst, wpk, wpl, forall_const, implies_true, false_implies, Int.reduceLE, Int.reduceLT, Nat.reduceLeDiff, UInt8.reduceToNat, ↓reduceIte, Nat.reduceEqDiff, Nat.reduceAdd, reduceCtorEq, Int.reduceToNat, clsL, clsS, clsC, h8, h0, h6, h7, hlt, hcl, hic, hsq, htwo, Tryd.f80]
            exact ⟨hx, by rw [hend, qtV]; simp only; rw [hacc, show p + 1 + (i - (p + 1) + 1) = i + 1 by omega]⟩
          · have hn2 : n = acc.length := by rw [bytesV_length, Nat.mul_one] at hl; exact hl.symm
            subst hn2
            have hrd : rdN (some (.cells (bytesV acc) 5 true)) 0 acc.length = some acc := rdN_bytes hba
            simp +contextual (disch := first | (simp only [facts, clsL, clsS, clsC, isPtrD]; done) | omega) only [wps, facts, wpb, cst, wpk, wpl, forall_const, implies_true, false_implies, Int.reduceLE, Int.reduceLT, Nat.reduceLeDiff, UInt8.reduceToNat, ↓reduceIte, Nat.reduceEqDiff, Nat.reduceAdd, reduceCtorEq, Int.reduceToNat, clsL, clsS, clsC, h8, h0, h6, h7, hlt, hcl, hic, hsq, htwo, hg, hrd, Tryd.f80]
            exact ⟨hx, by rw [hend, qtV]; simp only; rw [show p + 1 + (i - (p + 1) + 1) = i + 1 by omega]⟩
      · simp +contextual (disch := first | (simp only [facts, clsL, clsS, clsC, isPtrD]; done) | omega) only [wps, facts, wpb, cst, wpk, wpl, forall_const, implies_true, false_implies, Int.reduceLE, Int.reduceLT, Nat.reduceLeDiff, UInt8.reduceToNat, ↓reduceIte, Nat.reduceEqDiff, Nat.reduceAdd, reduceCtorEq, Int.reduceToNat, clsL, clsS, clsC, h8, h0, h6, h7, hlt, hcl, hic, hsq, Tryd.f80]
        refine append_accV (sv := v) (n0 := h.nx) (cells := bytesV acc) (new := [.int .u8 (s.getD i 0 : Nat)]) (b2 := h'.nx) (o2 := 0) (n := 1) (m := 1) ?_ ap41 ⟨.slice 5, by kernel_rfl, rfl⟩ hA.push ?_ ?_ ?_ rfl rfl ?_ (by decide) ?_ ?_ ?_
        · simp +contextual (disch := first | (simp only [facts, clsL, clsS, clsC, isPtrD]; done) | omega) only [wps, facts, wpb, cst, wpk, wpl, forall_const, implies_true, false_implies, Int.reduceLE, Int.reduceLT, Nat.reduceLeDiff, UInt8.reduceToNat, ↓reduceIte, Nat.reduceEqDiff, Nat.reduceAdd, reduceCtorEq, Int.reduceToNat, clsL, clsS, clsC]
        · simp +contextual (disch := first | (simp only [facts, clsL, clsS, clsC, isPtrD]; done) | omega) only [wps, facts, wpb, cst, wpk, wpl, forall_const, implies_true, false_implies, Int.reduceLE, Int.reduceLT, Nat.reduceLeDiff, UInt8.reduceToNat, ↓reduceIte, Nat.reduceEqDiff, Nat.reduceAdd, reduceCtorEq, Int.reduceToNat, clsL, clsS, clsC]
        · decide
        · simp +contextual (disch := first | (simp only [facts, clsL, clsS, clsC, isPtrD]; done) | omega) only [wps, facts, wpb, cst, wpk, wpl, forall_const, implies_true, false_implies, Int.reduceLE, Int.reduceLT, Nat.reduceLeDiff, UInt8.reduceToNat, ↓reduceIte, Nat.reduceEqDiff, Nat.reduceAdd, reduceCtorEq, Int.reduceToNat, clsL, clsS, clsC]
          rfl
        · rw [bytesV_length]
          show acc.length + 1 ≤ _
          omega
        · exact fun k hk => by rw [fresh_def]; exact .inl hk
        · intro v3 h3 L hA3 hst hL
          have hcl3 := hA3.cell.1
          have hic3 := hA3.cell.2
          simp +contextual (disch := first | (simp only [facts, clsL, clsS, clsC, isPtrD]; done) | omega) only [wps, facts, wpb, cst, wpk, wpl, forall_const, implies_true, false_implies, Int.reduceLE, Int.reduceLT, Nat.reduceLeDiff, UInt8.reduceToNat, ↓reduceIte, Nat.reduceEqDiff, Nat.reduceAdd, reduceCtorEq, Int.reduceToNat, clsL, clsS, clsC, h8, h0, h6, h7, hlt, hcl, hic, hcl3, hic3, hsq, Tryd.f80]
          refine ⟨_, ?_, i + 1, acc ++ [s.getD i 0], v3, rfl, ?_⟩
          · omega
          · simp +contextual (disch := first | (simp only [facts, clsL, clsS, clsC, isPtrD]; done) | omega) only [wps, facts, wpb, cst, wpk, wpl, forall_const, implies_true, false_implies, Int.reduceLE, Int.reduceLT, Nat.reduceLeDiff, UInt8.reduceToNat, ↓reduceIte, Nat.reduceEqDiff, Nat.reduceAdd, reduceCtorEq, Int.reduceToNat, clsL, clsS, clsC, h0, h6]
            refine ⟨by omega, by omega, by rw [bytesV_append]; exact hA3, fun b hb' => ?_, by omega, StaysBut.ext (n0 := 0) (hx.push _) hst hA.push, ?_⟩
            · rcases List.mem_append.1 hb' with hb' | hb'
              · exact hba b hb'
              · rw [List.mem_singleton.1 hb']; omega
            · rw [hr, qt_one hlt hesc hsq]
              have := map_acc (o := qtF q (s.drop (i + 1))) (acc := acc) (x := [s.getD i 0]) (k := i - (p + 1)) (m := 1)
              rw [show i + 1 - (p + 1) = i - (p + 1) + 1 by omega]
              exact this
        · show h.nx ≤ h'.nx + 1
          have := hx.1
          omega
  · simp +contextual (disch := first | (simp only [facts, clsL, clsS, clsC, isPtrD]; done) | omega) only [wps, facts, wpb, cst, wpk, wpl, forall_const, implies_true, false_implies, Int.reduceLE, Int.reduceLT, Nat.reduceLeDiff, UInt8.reduceToNat, ↓reduceIte, Nat.reduceEqDiff, Nat.reduceAdd, reduceCtorEq, Int.reduceToNat, clsL, clsS, clsC, h8, h0, h6, h7, hlt, Tryd.f80]
    exact ⟨hx, by rw [hr, qt_nil _ (by omega)]; rfl⟩
end
end Go.Proofs.YtkibhdbmamfjcaaDoor

/-
  scan's reference: remarks, signs, whatever the text.
-/
set_option linter.unusedSimpArgs false
set_option linter.unusedVariables false
set_option maxRecDepth 10000
namespace Go.Proofs.YtkibhdbmamfjcaaDoor
open Go.Proofs Go.Lx Go.Wx Go.IntWalk
noncomputable section

def notNl (b : Nat) : Prop := ¬ b = 10
instance (b : Nat) : Decidable (notNl b) := inferInstanceAs (Decidable (¬ _))
/-- how many bytes a remark has that begins here (0: none does; none: it has no end) -/
def remD (t : List Nat) : Option Nat :=
  if lineP t then some (countW notNl t)
  else if ¬ hasP t [47, 42] ∨ hasP t [47, 42, 33] ∨ hasP t [47, 42, 43] then some 0
  else (findS [42, 47] (t.drop 2)).map (· + 4)
def atV (p : Nat) (r : Option Nat) : V := match r with
  | some k => .int .i64 ((p + k : Nat))
  | none => .int .i64 (-1)

def onesT : List Nat := [40, 41, 44, 59, 46, 43, 45, 42, 47, 37, 61, 60, 62, 38, 124, 94, 126, 33, 123, 125, 91, 93, 58]
theorem take_one {t : List Nat} (h : t ≠ []) : t.take 1 = [t.getD 0 0] := by
  cases t with
  | nil => exact absurd rfl h
  | cons x l => rfl
theorem ones_step {t : List Nat} (h : t ≠ []) {i : Nat} (hi : i < onesT.length) : trySign t ((onesT.drop i).map fun b => [b]) = if t.getD 0 0 = onesT.getD i 0 then ⟨5, [onesT.getD i 0], 1, 0⟩ else trySign t ((onesT.drop (i + 1)).map fun b => [b]) := by
  have hl : 0 < t.length := List.length_pos_iff.2 h
  rw [drop_cons hi, List.map_cons, trySign]
  by_cases he : t.getD 0 0 = onesT.getD i 0
  · rw [if_pos he, if_pos ⟨hl, by rw [← he]; exact take_one h⟩]
    rfl
  · rw [if_neg he, if_neg]
    intro q
    have q2 := q.2
    have : t.take 1 = [onesT.getD i 0] := q2
    rw [take_one h] at this
    exact he (List.cons.inj this).1
theorem ones_sub {i : Nat} (hi : i < onesT.length) : (onesT.take (i + 1)).drop i = [onesT.getD i 0] := by
  rw [List.drop_take, show i + 1 - i = 1 by omega, drop_cons hi]
  rfl
theorem ones_tab : signsL.drop 12 = onesT.map fun b => [b] := rfl

variable {S : Set0} (hS : Std S)
include hS
theorem remark_spec (s : List Nat) (p : Nat) (h : H) (hs : s.length < 2 ^ 26) (hb : Bytes s) (hp : p < s.length) : Exact S.cfg 46 [.str s, .int .i64 p] h (atV p (remD (s.drop p))) := by
  refine into Tryd.f46 _ Tryd.func46 (hS.own _ (by decide)) rfl rfl (by kernel_rfl) (by kernel_rfl) ?_
  simp +contextual (disch := first | (simp only [facts, clsL, clsS, clsC, isPtrD]; done) | omega) only [wps, facts, wpb, cst, wpk, wpl, forall_const, implies_true, false_implies, Int.reduceLE, Int.reduceLT, Nat.reduceLeDiff, UInt8.reduceToNat, ↓reduceIte, Nat.reduceEqDiff, Nat.reduceAdd, reduceCtorEq, Int.reduceToNat, clsL, clsS, clsC, Tryd.f46, hp]
  have e0 := drop_getD s p 0
  have e2 := drop_getD s p 2
  have hlen : (s.drop p).length = s.length - p := List.length_drop
  have hne := drop_ne hp
  simp only [Nat.add_zero] at e0
  refine gCall_exact (first := []) (cap := []) (fun _ => has_spec hS s [45, 45] p _ (by omega) (by decide) (by omega)) (fun fp => ?_)
  simp +contextual (disch := first | (simp only [facts, clsL, clsS, clsC, isPtrD]; done) | omega) only [wps, facts, wpb, cst, wpk, wpl, forall_const, implies_true, false_implies, Int.reduceLE, Int.reduceLT, Nat.reduceLeDiff, UInt8.reduceToNat, ↓reduceIte, Nat.reduceEqDiff, Nat.reduceAdd, reduceCtorEq, Int.reduceToNat, clsL, clsS, clsC, Tryd.f46, hp]
  refine gCall_exact (first := []) (cap := []) (fun _ => rblank_spec hS _ _) (fun fp => ?_)
  by_cases hl : lineP (s.drop p)
  · have hc : s.getD p 0 = 35 ∨ (hasP (s.drop p) [45, 45] ∧ p + 2 < s.length) ∧ isBlank (s.getD (p + 2) 0) := by
      have := hl
      unfold lineP at this
      rw [e0, e2, hlen] at this
      rcases this with a | ⟨a, b, c⟩
      · exact .inl a
      · exact .inr ⟨⟨a, by omega⟩, c⟩
    simp +contextual (disch := first | (simp only [facts, clsL, clsS, clsC, isPtrD]; done) | omega) only [wps, facts, wpb, cst, wpk, wpl, forall_const, implies_true, false_implies, Int.reduceLE, Int.reduceLT, Nat.reduceLeDiff, UInt8.reduceToNat, ↓reduceIte, Nat.reduceEqDiff, Nat.reduceAdd, reduceCtorEq, Int.reduceToNat, clsL, clsS, clsC, Tryd.f46, hp, hc]
    refine run_loop (fun m env h' => ∃ i : Nat, m = s.length - (p + i) ∧ env 1 = .int .i64 ((p + i : Nat)) ∧ env 0 = .str s ∧ p + i ≤ s.length ∧ i ≤ countW notNl (s.drop p) ∧ h' = h) (s.length - p) ⟨0, by simp +contextual (disch := first | (simp only [facts, clsL, clsS, clsC, isPtrD]; done) | omega) only [wps, facts, wpb, cst, wpk, wpl, forall_const, implies_true, false_implies, Int.reduceLE, Int.reduceLT, Nat.reduceLeDiff, UInt8.reduceToNat, ↓reduceIte, Nat.reduceEqDiff, Nat.reduceAdd, reduceCtorEq, Int.reduceToNat, clsL, clsS, clsC]; omega⟩ ?_
    rintro m env h' ⟨i, rfl, h3, h0, hi, hd, rfl⟩
    have e1 : s.getD (p + i) 0 = (s.drop p).getD i 0 := (drop_getD s p i).symm
    simp +contextual (disch := first | (simp only [facts, clsL, clsS, clsC, isPtrD]; done) | omega) only [wps, facts, wpb, cst, wpk, wpl, forall_const, implies_true, false_implies, Int.reduceLE, Int.reduceLT, Nat.reduceLeDiff, UInt8.reduceToNat, ↓reduceIte, Nat.reduceEqDiff, Nat.reduceAdd, reduceCtorEq, Int.reduceToNat, clsL, clsS, clsC, h3, h0, Tryd.f46]
    refine ⟨fun hlt => ?_, fun hn => ?_⟩
    · exact ⟨_, by omega, i + 1, rfl, by omega, by omega, countW_step hd (by omega) (by rw [← e1]; exact hlt.2)⟩
    · have hr : remD (s.drop p) = some (p + i - p) := by
        rw [remD, if_pos hl, ← countW_stop hd (by
          by_cases hlt : p + i < s.length
          · exact .inr (fun q => hn ⟨hlt, by rw [e1]; exact q⟩)
          · exact .inl (by omega))]
        congr 1
        omega
      rw [hr, atV, show p + (p + i - p) = p + i by omega]
  · have hc : ¬ (s.getD p 0 = 35 ∨ (hasP (s.drop p) [45, 45] ∧ p + 2 < s.length) ∧ isBlank (s.getD (p + 2) 0)) := fun q => by
      refine hl ?_
      unfold lineP
      rw [e0, e2, hlen]
      rcases q with a | ⟨⟨a, b⟩, c⟩
      · exact .inl a
      · exact .inr ⟨a, by omega, c⟩
    simp +contextual (disch := first | (simp only [facts, clsL, clsS, clsC, isPtrD]; done) | omega) only [wps, facts, wpb, cst, wpk, wpl, forall_const, implies_true, false_implies, Int.reduceLE, Int.reduceLT, Nat.reduceLeDiff, UInt8.reduceToNat, ↓reduceIte, Nat.reduceEqDiff, Nat.reduceAdd, reduceCtorEq, Int.reduceToNat, clsL, clsS, clsC, Tryd.f46, hp, hc]
    refine callF_exact (has_spec hS s [47, 42] p _ (by omega) (by decide) (by omega)) ?_
    simp +contextual (disch := first | (simp only [facts, clsL, clsS, clsC, isPtrD]; done) | omega) only [wps, facts, wpb, cst, wpk, wpl, forall_const, implies_true, false_implies, Int.reduceLE, Int.reduceLT, Nat.reduceLeDiff, UInt8.reduceToNat, ↓reduceIte, Nat.reduceEqDiff, Nat.reduceAdd, reduceCtorEq, Int.reduceToNat, clsL, clsS, clsC, Tryd.f46, hp, hc]
    refine gCall_exact (first := []) (cap := []) (fun _ => has_spec hS s [47, 42, 33] p _ (by omega) (by decide) (by omega)) (fun fp => ?_)
    simp +contextual (disch := first | (simp only [facts, clsL, clsS, clsC, isPtrD]; done) | omega) only [wps, facts, wpb, cst, wpk, wpl, forall_const, implies_true, false_implies, Int.reduceLE, Int.reduceLT, Nat.reduceLeDiff, UInt8.reduceToNat, ↓reduceIte, Nat.reduceEqDiff, Nat.reduceAdd, reduceCtorEq, Int.reduceToNat, clsL, clsS, clsC, Tryd.f46, hp, hc]
    refine gCall_exact (first := []) (cap := []) (fun _ => has_spec hS s [47, 42, 43] p _ (by omega) (by decide) (by omega)) (fun fp => ?_)
    simp +contextual (disch := first | (simp only [facts, clsL, clsS, clsC, isPtrD]; done) | omega) only [wps, facts, wpb, cst, wpk, wpl, forall_const, implies_true, false_implies, Int.reduceLE, Int.reduceLT, Nat.reduceLeDiff, UInt8.reduceToNat, ↓reduceIte, Nat.reduceEqDiff, Nat.reduceAdd, reduceCtorEq, Int.reduceToNat, clsL, clsS, clsC, Tryd.f46, hp, hc]
    refine ⟨fun ho => ?_, fun ho => ?_⟩
    · rw [remD, if_neg hl, if_pos (by rcases ho with (a | a) | a; exact .inl a; exact .inr (.inl a); exact .inr (.inr a))]
      rfl
    · have hp2 : hasP (s.drop p) [47, 42] := Decidable.byContradiction fun q => ho (.inl (.inl q))
      have hl2 := hasP_len hp2
      rw [hlen] at hl2
      simp only [List.length_cons, List.length_nil] at hl2
      refine callF_exact (ends_spec hS s [42, 47] (p + 2) _ (by omega) (by decide) (by decide) (by omega)) ?_
      simp +contextual (disch := first | (simp only [facts, clsL, clsS, clsC, isPtrD]; done) | omega) only [wps, facts, wpb, cst, wpk, wpl, forall_const, implies_true, false_implies, Int.reduceLE, Int.reduceLT, Nat.reduceLeDiff, UInt8.reduceToNat, ↓reduceIte, Nat.reduceEqDiff, Nat.reduceAdd, reduceCtorEq, Int.reduceToNat, clsL, clsS, clsC, Tryd.f46]
      rw [remD, if_neg hl, if_neg (fun q => ho (by rcases q with a | a | a; exact .inl (.inl a); exact .inl (.inr a); exact .inr a)), List.drop_drop]
      cases hf : findS [42, 47] (s.drop (p + 2)) with
      | none => rfl
      | some k =>
        show V.int .i64 ((p + 2 + k + 2 : Nat)) = V.int .i64 ((p + (k + 4) : Nat))
        rw [show p + 2 + k + 2 = p + (k + 4) by omega]
theorem rsign_spec (s : List Nat) (p : Nat) (h : H) (hs : s.length < 2 ^ 26) (hb : Bytes s) (hp : p < s.length) : Pure S.cfg 84 [.str s, .int .i64 p] h fun v _ => v = .str (trySign (s.drop p) signsL).text := by
  refine into Tryd.f84 _ Tryd.func84 (hS.own _ (by decide)) rfl rfl (by kernel_rfl) (by kernel_rfl) ?_
  have hne := drop_ne hp
  have e0 := drop_getD s p 0
  simp only [Nat.add_zero] at e0
  simp +contextual (disch := first | (simp only [facts, clsL, clsS, clsC, isPtrD]; done) | omega) only [wps, facts, wpb, cst, wpk, wpl, forall_const, implies_true, false_implies, Int.reduceLE, Int.reduceLT, Nat.reduceLeDiff, UInt8.reduceToNat, ↓reduceIte, Nat.reduceEqDiff, Nat.reduceAdd, reduceCtorEq, Int.reduceToNat, clsL, clsS, clsC, Tryd.f84, hp]
  refine run_loop (fun m env h' => ∃ (j : Nat), m = 12 - j ∧ env 0 = .str s ∧ env 1 = .int .i64 p ∧ env 5 = .slice h.nx 0 12 12 ∧ env 6 = .int .i64 j ∧ j ≤ 12 ∧ Ext h h' ∧ h.nx < h'.nx ∧ h'.get h.nx = some (.cells ((signsL.take 12).map V.str) 9 false) ∧ trySign (s.drop p) signsL = trySign (s.drop p) (signsL.drop j)) 12 ⟨0, by simp +contextual (disch := first | (simp only [facts, clsL, clsS, clsC, isPtrD]; done) | omega) only [wps, facts, wpb, cst, wpk, wpl, forall_const, implies_true, false_implies, Int.reduceLE, Int.reduceLT, Nat.reduceLeDiff, UInt8.reduceToNat, ↓reduceIte, Nat.reduceEqDiff, Nat.reduceAdd, reduceCtorEq, Int.reduceToNat, clsL, clsS, clsC]; exact ⟨(Ext.refl h).push _, by omega, rfl⟩⟩ ?_
  rintro m env h' ⟨j, rfl, h0, h1, h5, h6, hj, hx, hn, hg, hr⟩
  by_cases hlt : j < 12
  · simp +contextual (disch := first | (simp only [facts, clsL, clsS, clsC, isPtrD]; done) | omega) only [wps, facts, wpb, cst, wpk, wpl, forall_const, implies_true, false_implies, Int.reduceLE, Int.reduceLT, Nat.reduceLeDiff, UInt8.reduceToNat, ↓reduceIte, Nat.reduceEqDiff, Nat.reduceAdd, reduceCtorEq, Int.reduceToNat, clsL, clsS, clsC, h0, h1, h5, h6, hg, hlt, Tryd.f84]
    obtain ⟨x, hcf, hdr, hxl⟩ : ∃ (x : List Nat), ((signsL.take 12).map V.str)[j]? = some (.str x) ∧ signsL.drop j = x :: signsL.drop (j + 1) ∧ x.length ≤ 3 := by
      have hjl : j < signsL.length := Nat.lt_of_lt_of_le hlt (by decide)
      have hjt : j < (signsL.take 12).length := hlt
      refine ⟨signsL[j], by rw [List.getElem?_map, List.getElem?_eq_getElem hjt, List.getElem_take]; rfl, List.drop_eq_getElem_cons hjl, ?_⟩
      have : ∀ x ∈ signsL, x.length ≤ 3 := by decide
      exact this _ (List.getElem_mem hjl)
    rw [hdr, trySign] at hr
    simp +contextual (disch := first | (simp only [facts, clsL, clsS, clsC, isPtrD]; done) | omega) only [wps, facts, wpb, cst, wpk, wpl, forall_const, implies_true, false_implies, Int.reduceLE, Int.reduceLT, Nat.reduceLeDiff, UInt8.reduceToNat, ↓reduceIte, Nat.reduceEqDiff, Nat.reduceAdd, reduceCtorEq, Int.reduceToNat, clsL, clsS, clsC, hcf]
    refine callF_exact (has_spec hS s x p _ (by omega) (by omega) (by omega)) ?_
    by_cases hh : hasP (s.drop p) x
    · have hh' : x.length ≤ (s.drop p).length ∧ (s.drop p).take x.length = x := hh
      rw [if_pos hh'] at hr
      simp +contextual (disch := first | (simp only [facts, clsL, clsS, clsC, isPtrD]; done) | omega) only [wps, facts, wpb, cst, wpk, wpl, forall_const, implies_true, false_implies, Int.reduceLE, Int.reduceLT, Nat.reduceLeDiff, UInt8.reduceToNat, ↓reduceIte, Nat.reduceEqDiff, Nat.reduceAdd, reduceCtorEq, Int.reduceToNat, clsL, clsS, clsC, h0, h1, h5, h6, hg, hlt, hcf, hh, Tryd.f84]
      exact ⟨hx, by rw [hr]⟩
    · have hh' : ¬ (x.length ≤ (s.drop p).length ∧ (s.drop p).take x.length = x) := hh
      rw [if_neg hh'] at hr
      simp +contextual (disch := first | (simp only [facts, clsL, clsS, clsC, isPtrD]; done) | omega) only [wps, facts, wpb, cst, wpk, wpl, forall_const, implies_true, false_implies, Int.reduceLE, Int.reduceLT, Nat.reduceLeDiff, UInt8.reduceToNat, ↓reduceIte, Nat.reduceEqDiff, Nat.reduceAdd, reduceCtorEq, Int.reduceToNat, clsL, clsS, clsC, h0, h1, h5, h6, hg, hlt, hcf, hh, Tryd.f84]
      exact ⟨_, by omega, j + 1, rfl, rfl, by omega, hx, hn, hr⟩
  · simp +contextual (disch := first | (simp only [facts, clsL, clsS, clsC, isPtrD]; done) | omega) only [wps, facts, wpb, cst, wpk, wpl, forall_const, implies_true, false_implies, Int.reduceLE, Int.reduceLT, Nat.reduceLeDiff, UInt8.reduceToNat, ↓reduceIte, Nat.reduceEqDiff, Nat.reduceAdd, reduceCtorEq, Int.reduceToNat, clsL, clsS, clsC, h0, h1, h5, h6, hg, hlt, Tryd.f84]
    have hj12 : j = 12 := by omega
    subst hj12
    rw [ones_tab] at hr
    refine run_loop (fun m env h' => ∃ (i : Nat), m = 23 - i ∧ env 0 = .str s ∧ env 1 = .int .i64 p ∧ env 7 = .str onesT ∧ env 8 = .int .i64 i ∧ i ≤ 23 ∧ Ext h h' ∧ trySign (s.drop p) signsL = trySign (s.drop p) ((onesT.drop i).map fun b => [b])) 23 ⟨0, by simp +contextual (disch := first | (simp only [facts, clsL, clsS, clsC, isPtrD]; done) | omega) only [wps, facts, wpb, cst, wpk, wpl, forall_const, implies_true, false_implies, Int.reduceLE, Int.reduceLT, Nat.reduceLeDiff, UInt8.reduceToNat, ↓reduceIte, Nat.reduceEqDiff, Nat.reduceAdd, reduceCtorEq, Int.reduceToNat, clsL, clsS, clsC, h0, h1]; exact ⟨rfl, hx, hr⟩⟩ ?_
    rintro m env h' ⟨i, rfl, h0, h1, h7, h8, hi, hx, hr⟩
    have hol : onesT.length = 23 := rfl
    by_cases hlt : i < 23
    · by_cases heq : s.getD p 0 = onesT.getD i 0
      · simp +contextual (disch := first | (simp only [facts, clsL, clsS, clsC, isPtrD]; done) | omega | exact dok (by kernel_rfl)) only [draw_calm, draw_calmA, wps, facts, wpb, cst, wpk, wpl, forall_const, implies_true, false_implies, Int.reduceLE, Int.reduceLT, Nat.reduceLeDiff, UInt8.reduceToNat, ↓reduceIte, Nat.reduceEqDiff, Nat.reduceAdd, reduceCtorEq, Int.reduceToNat, clsL, clsS, clsC, h0, h1, h7, h8, hol, hlt, hp, heq, Tryd.f84]
        rw [ones_step hne (by omega), if_pos (by rw [e0]; exact heq)] at hr
        exact ⟨⟨by omega, by omega⟩, hx, by rw [hr, ones_sub (by omega)]⟩
      · simp +contextual (disch := first | (simp only [facts, clsL, clsS, clsC, isPtrD]; done) | omega | exact dok (by kernel_rfl)) only [draw_calm, draw_calmA, wps, facts, wpb, cst, wpk, wpl, forall_const, implies_true, false_implies, Int.reduceLE, Int.reduceLT, Nat.reduceLeDiff, UInt8.reduceToNat, ↓reduceIte, Nat.reduceEqDiff, Nat.reduceAdd, reduceCtorEq, Int.reduceToNat, clsL, clsS, clsC, h0, h1, h7, h8, hol, hlt, hp, heq, Tryd.f84]
        rw [ones_step hne (by omega), if_neg (by rw [e0]; exact heq)] at hr
        exact ⟨_, by omega, i + 1, rfl, rfl, by omega, hx, hr⟩
    · simp +contextual (disch := first | (simp only [facts, clsL, clsS, clsC, isPtrD]; done) | omega | exact dok (by kernel_rfl)) only [draw_calm, draw_calmA, wps, facts, wpb, cst, wpk, wpl, forall_const, implies_true, false_implies, Int.reduceLE, Int.reduceLT, Nat.reduceLeDiff, UInt8.reduceToNat, ↓reduceIte, Nat.reduceEqDiff, Nat.reduceAdd, reduceCtorEq, Int.reduceToNat, clsL, clsS, clsC, h0, h1, h7, h8, hol, hlt, hp, Tryd.f84]
      refine ⟨hx, ?_⟩
      have hnil : onesT.drop i = [] := List.drop_eq_nil_of_le (by omega)
      rw [hr, hnil]
      rfl
end
end Go.Proofs.YtkibhdbmamfjcaaDoor
