/-
  Several texts of one walk, joined.
-/
import Derived.Test.YtlffhbpkphigdaaGreatDoorBsA
import Derived.Test.YtlffhbpkphigdaaGreatDoorLyP
import Derived.Test.YtlffhbpkphigdaaGreatDoorWxZ
set_option linter.unusedSimpArgs false
set_option linter.unusedVariables false
set_option linter.unusedSectionVars false
set_option linter.defProp false
set_option maxRecDepth 10000
set_option maxHeartbeats 2000000
namespace Go.Proofs.YtlffhbpkphigdaaGreatDoor
open Go.Proofs Go.Lx Go.Wx Go.IntWalk
noncomputable section
abbrev Bytes (s : List Nat) : Prop := ∀ b ∈ s, b < 256
theorem nice_pureM (F : List V → Option V) (vs : List V) : Nice (pureM F vs) := by
  unfold pureM
  cases F vs with
  | none => exact Nice.err _
  | some v => exact Nice.ret _
theorem sum_exact {S : Set0} {f : FuncId} {F : List V → Option V} {args : List V} {h : H} {v : V} (hs : sums S.exts f = some (pureM F)) (hv : F args = some v) : Exact S.cfg f args h v := by
  refine callW_sum (s := h.st) hs (nice_pureM _ _) ?_ LogOk_nil ⟨rfl, rfl⟩
  unfold pureM
  rw [hv]
  rfl
open Go.Lib in
theorem repl_u (x : UInt8) : ∀ s : List UInt8, replaceK [x] [x, x] (count s [x]) s = s.flatMap fun c => if c = x then [x, x] else [c]
  | [] => by
    have h : index [] [x] = -1 := rfl
    rw [count_miss h]
    rfl
  | b :: l => by
    have ih := repl_u x l
    have hx : [x] ≠ [] := by simp
    rw [List.flatMap_cons]
    by_cases hb : b = x
    · have h0 : index (b :: l) [x] = ((0 : Nat) : Int) := by
        rw [index, if_pos (by simp [hb])]
        rfl
      have hc := count_hit hx h0
      rw [show (b :: l).drop (0 + [x].length) = l from rfl] at hc
      rw [hc, Nat.add_comm, replaceK_hit _ _ _ _ 0 h0, show (b :: l).drop (0 + [x].length) = l from rfl, ih, if_pos hb]
      rfl
    · have hp : ¬ ([x].isPrefixOf (b :: l) = true) := by simp; exact fun e => hb e.symm
      rw [if_neg hb]
      by_cases hm : index l [x] = -1
      · have h0 : index (b :: l) [x] = -1 := by rw [index, if_neg hp, if_pos (by simp [hm])]
        rw [count_miss h0]
        rw [count_miss hm] at ih
        rw [← ih]
        rfl
      · obtain ⟨i, hi⟩ : ∃ i : Nat, index l [x] = i := ⟨(index l [x]).toNat, by have := index_ge l [x]; omega⟩
        have h0 : index (b :: l) [x] = ((i + 1 : Nat) : Int) := by
          rw [index, if_neg hp, if_neg (by simpa using hm), hi]
          omega
        have hc := count_hit hx h0
        have hc2 := count_hit hx hi
        have e1 : (b :: l).drop (i + 1 + [x].length) = l.drop (i + [x].length) := by
          rw [Nat.add_right_comm]
          rfl
        rw [e1] at hc
        rw [hc2, Nat.add_comm, replaceK_hit _ _ _ _ i hi] at ih
        rw [hc, Nat.add_comm, replaceK_hit _ _ _ _ (i + 1) h0, e1, ← ih]
        rfl
theorem toN_app (a b : List UInt8) : toN (a ++ b) = toN a ++ toN b := List.map_append
theorem repl_one {s : List Nat} (h : Bytes s) {x : Nat} (hx : x < 256) : replF s [x] [x, x] = s.flatMap fun c => if c = x then [x, x] else [c] := by
  have e1 : Go.Lib.replaceAll (toU s) (toU [x]) (toU [x, x]) = (toU s).flatMap fun c => if c = UInt8.ofNat x then [UInt8.ofNat x, UInt8.ofNat x] else [c] := by
    unfold Go.Lib.replaceAll Go.Lib.replace
    rw [if_neg (by simp [toU]), show Go.Lib.replaceNum (toU s) (toU [x]) (-1) = Go.Lib.count (toU s) (toU [x]) by unfold Go.Lib.replaceNum; rw [if_pos (.inl (by decide))]]
    exact repl_u _ _
  rw [replF, e1]
  clear e1
  induction s with
  | nil => rfl
  | cons c s ih =>
    have hc : c < 256 := h c List.mem_cons_self
    have ih := ih fun y hy => h y (List.mem_cons_of_mem _ hy)
    rw [List.flatMap_cons, ← ih]
    rw [show toU (c :: s) = UInt8.ofNat c :: toU s from rfl, List.flatMap_cons, toN_app]
    have hiff : (UInt8.ofNat c = UInt8.ofNat x) ↔ c = x := by
      constructor
      · intro q
        have := congrArg UInt8.toNat q
        simp [UInt8.toNat_ofNat'] at this
        omega
      · rintro rfl; rfl
    have tx : (UInt8.ofNat x).toNat = x := by simp [UInt8.toNat_ofNat']; omega
    have tc : (UInt8.ofNat c).toNat = c := by simp [UInt8.toNat_ofNat']; omega
    by_cases hcx : c = x
    · rw [if_pos (hiff.2 hcx), if_pos hcx]
      simp only [toN, List.map_cons, List.map_nil, tx]
    · rw [if_neg (fun q => hcx (hiff.1 q)), if_neg hcx]
      simp only [toN, List.map_cons, List.map_nil, tc]
theorem bytes_app {a b : List Nat} (ha : Bytes a) (hb : Bytes b) : Bytes (a ++ b) := by
  intro x hx
  rw [List.mem_append] at hx
  rcases hx with hx | hx
  · exact ha x hx
  · exact hb x hx
theorem bytes_repl (a b c : List Nat) : Bytes (replF a b c) := toN_bytes _
def tickF (s : List Nat) : List Nat := [96] ++ replF s [96] [96, 96] ++ [96]
def quoteF (s : List Nat) : List Nat := [39] ++ replF (replF s [92] [92, 92]) [39] [39, 39] ++ [39]
theorem tickF_len (s : List Nat) : (tickF s).length ≤ 3 * s.length + 4 := by
  have := replF_len s [96] [96, 96]
  simp only [tickF, List.length_append, List.length_cons, List.length_nil] at this ⊢
  omega
theorem quoteF_len (s : List Nat) : (quoteF s).length ≤ 9 * s.length + 16 := by
  have h1 := replF_len s [92] [92, 92]
  have h2 := replF_len (replF s [92] [92, 92]) [39] [39, 39]
  simp only [quoteF, List.length_append, List.length_cons, List.length_nil] at h1 h2 ⊢
  omega
theorem bytes_lit {l : List Nat} (h : (l.all fun b => Nat.blt b 256) = true) : Bytes l := fun b hb => blt_iff.1 (List.all_eq_true.1 h b hb)
theorem bytes_tick (s : List Nat) : Bytes (tickF s) := bytes_app (bytes_app (bytes_lit rfl) (bytes_repl _ _ _)) (bytes_lit rfl)
theorem bytes_quote (s : List Nat) : Bytes (quoteF s) := bytes_app (bytes_app (bytes_lit rfl) (bytes_repl _ _ _)) (bytes_lit rfl)
def inn (c : Nat) (t : List Nat) : List Nat := t.flatMap fun d => if c = d then [c] else []
def dbl (s q t : List Nat) : List Nat := q ++ s.flatMap (fun c => inn c t ++ [c]) ++ q
theorem inn_len (c : Nat) : ∀ t : List Nat, (inn c t).length ≤ t.length
  | [] => Nat.le_refl _
  | d :: t => by
    have := inn_len c t
    rw [inn, List.flatMap_cons, List.length_append, List.length_cons, show (t.flatMap fun d => if c = d then [c] else []) = inn c t from rfl]
    split <;> simp <;> omega
theorem dblm_len (t : List Nat) : ∀ s : List Nat, (s.flatMap (fun c => inn c t ++ [c])).length ≤ s.length * (t.length + 1)
  | [] => Nat.zero_le _
  | c :: s => by
    have h1 := dblm_len t s
    have h2 := inn_len c t
    rw [List.flatMap_cons, List.length_append, List.length_append, List.length_cons, List.length_cons, List.length_nil, Nat.add_mul]
    omega
theorem one_at {s : List Nat} {i : Nat} (hi : i < s.length) : (s.take (i + 1)).drop i = [s.getD i 0] := by
  rw [List.drop_take, Nat.add_sub_cancel_left, List.drop_eq_getElem_cons hi, List.take_succ_cons, List.take_zero, List.getD_eq_getElem?_getD, List.getElem?_eq_getElem hi]
  rfl
def rnameF (s : List Nat) : List Nat := dbl s [96] [96]
def rquotF (s : List Nat) : List Nat := dbl s [39] [39, 92]
theorem tick_same {s : List Nat} (h : Bytes s) : rnameF s = tickF s := by
  rw [rnameF, dbl, tickF, repl_one h (by decide)]
  congr 2
  congr 1
  funext c
  by_cases hc : c = 96
  · subst hc; rfl
  · simp [inn, hc]
theorem quote_same {s : List Nat} (h : Bytes s) : rquotF s = quoteF s := by
  have hb : Bytes (replF s [92] [92, 92]) := bytes_repl _ _ _
  rw [rquotF, dbl, quoteF, repl_one hb (by decide), repl_one h (by decide), List.flatMap_assoc]
  congr 2
  congr 1
  funext c
  by_cases h1 : c = 39
  · subst h1; rfl
  · by_cases h2 : c = 92
    · subst h2; rfl
    · simp [inn, h1, h2]
structure StdT (S : Set0) : Prop extends StdF S where
  ownT : ∀ f, f ∈ [38, 39, 40, 41, 69, 23, 26] → sums S.exts f = none
  repl : sums S.exts 68 = some (pureM replV)
variable {S : Set0} (hS : StdT S)
include hS
theorem repl_exact (a b c : List Nat) (h : H) (ha : a.length < 2 ^ 30) (hb : 0 < b.length) (hc : c.length < 10) : Exact S.cfg 68 [.str a, .str b, .str c] h (.str (replF a b c)) := by
  refine sum_exact hS.repl ?_
  have h1 : Nat.blt a.length 4294967281 = true := blt_iff.2 (by omega)
  have h2 : Nat.blt 0 b.length = true := blt_iff.2 hb
  have h3 : Nat.ble (a.length + (a.length + 1) * c.length) 140737488355328 = true := ble_iff.2 (by
    have := Nat.mul_le_mul_left (a.length + 1) (Nat.le_of_lt hc)
    omega)
  show (bif Nat.blt a.length 4294967281 && (Nat.blt 0 b.length && Nat.ble (a.length + (a.length + 1) * c.length) 140737488355328) then some (V.str (replF a b c)) else none) = _
  rw [h1, h2, h3]
  rfl
theorem tick_spec (s : List Nat) (h : H) (hs : s.length < 2 ^ 20) : Exact S.cfg 39 [.str s] h (.str (tickF s)) := by
  refine into Tryz.f39 _ Tryz.func39 (hS.ownT _ (by decide)) rfl rfl (by kernel_rfl) (by kernel_rfl) ?_
  simp +contextual (disch := first | (simp only [facts, clsL, clsS, clsC, isPtrD]; done) | omega | (simp only [push_nx, put_nx, del_nx]; omega) | (refine Nat.le_antisymm ?_ ?_ <;> simp only [push_nx, put_nx, del_nx] <;> omega) | fail) only [wpy, facts, wpb, cst, wpk, wpl, forall_const, implies_true, false_implies, Int.reduceLE, Int.reduceLT, Nat.reduceLeDiff, UInt8.reduceToNat, ↓reduceIte, Nat.reduceEqDiff, Nat.reduceAdd, reduceCtorEq, Int.reduceToNat, clsL, clsS, clsC, Tryz.f39]
  refine callF_exact (repl_exact hS s [96] [96, 96] _ (by omega) (by decide) (by decide)) ?_
  have h1 := replF_len s [96] [96, 96]
  simp only [List.length_cons, List.length_nil] at h1
  have h2 : (replF s [96] [96, 96]).length < 2 ^ 22 := by omega
  have h3 : 1 + (replF s [96] [96, 96]).length ≤ 9223372036854775807 := by omega
  have h4 : (replF s [96] [96, 96]).length + 1 + 1 ≤ 9223372036854775807 := by omega
  simp +contextual (disch := first | (simp only [facts, clsL, clsS, clsC, isPtrD]; done) | omega | (simp only [push_nx, put_nx, del_nx]; omega) | (refine Nat.le_antisymm ?_ ?_ <;> simp only [push_nx, put_nx, del_nx] <;> omega) | fail) only [wpy, facts, wpb, cst, wpk, wpl, forall_const, implies_true, false_implies, Int.reduceLE, Int.reduceLT, Nat.reduceLeDiff, UInt8.reduceToNat, ↓reduceIte, Nat.reduceEqDiff, Nat.reduceAdd, reduceCtorEq, Int.reduceToNat, clsL, clsS, clsC, Tryz.f39, h3, h4]
  first | done | rfl | exact ⟨rfl, rfl⟩ | trace_state
theorem quote_spec (s : List Nat) (h : H) (hs : s.length < 2 ^ 20) : Exact S.cfg 38 [.str s] h (.str (quoteF s)) := by
  refine into Tryz.f38 _ Tryz.func38 (hS.ownT _ (by decide)) rfl rfl (by kernel_rfl) (by kernel_rfl) ?_
  simp +contextual (disch := first | (simp only [facts, clsL, clsS, clsC, isPtrD]; done) | omega | (simp only [push_nx, put_nx, del_nx]; omega) | (refine Nat.le_antisymm ?_ ?_ <;> simp only [push_nx, put_nx, del_nx] <;> omega) | fail) only [wpy, facts, wpb, cst, wpk, wpl, forall_const, implies_true, false_implies, Int.reduceLE, Int.reduceLT, Nat.reduceLeDiff, UInt8.reduceToNat, ↓reduceIte, Nat.reduceEqDiff, Nat.reduceAdd, reduceCtorEq, Int.reduceToNat, clsL, clsS, clsC, Tryz.f38]
  refine callF_exact (repl_exact hS s [92] [92, 92] _ (by omega) (by decide) (by decide)) ?_
  have h1 := replF_len s [92] [92, 92]
  simp only [List.length_cons, List.length_nil] at h1
  have h2 : (replF s [92] [92, 92]).length < 2 ^ 22 := by omega
  simp +contextual (disch := first | (simp only [facts, clsL, clsS, clsC, isPtrD]; done) | omega | (simp only [push_nx, put_nx, del_nx]; omega) | (refine Nat.le_antisymm ?_ ?_ <;> simp only [push_nx, put_nx, del_nx] <;> omega) | fail) only [wpy, facts, wpb, cst, wpk, wpl, forall_const, implies_true, false_implies, Int.reduceLE, Int.reduceLT, Nat.reduceLeDiff, UInt8.reduceToNat, ↓reduceIte, Nat.reduceEqDiff, Nat.reduceAdd, reduceCtorEq, Int.reduceToNat, clsL, clsS, clsC, Tryz.f38]
  refine callF_exact (repl_exact hS _ [39] [39, 39] _ (by omega) (by decide) (by decide)) ?_
  have h3 := replF_len (replF s [92] [92, 92]) [39] [39, 39]
  simp only [List.length_cons, List.length_nil] at h3
  have h4 : (replF (replF s [92] [92, 92]) [39] [39, 39]).length < 2 ^ 24 := by omega
  have h5 : 1 + (replF (replF s [92] [92, 92]) [39] [39, 39]).length ≤ 9223372036854775807 := by omega
  have h6 : (replF (replF s [92] [92, 92]) [39] [39, 39]).length + 1 + 1 ≤ 9223372036854775807 := by omega
  simp +contextual (disch := first | (simp only [facts, clsL, clsS, clsC, isPtrD]; done) | omega | (simp only [push_nx, put_nx, del_nx]; omega) | (refine Nat.le_antisymm ?_ ?_ <;> simp only [push_nx, put_nx, del_nx] <;> omega) | fail) only [wpy, facts, wpb, cst, wpk, wpl, forall_const, implies_true, false_implies, Int.reduceLE, Int.reduceLT, Nat.reduceLeDiff, UInt8.reduceToNat, ↓reduceIte, Nat.reduceEqDiff, Nat.reduceAdd, reduceCtorEq, Int.reduceToNat, clsL, clsS, clsC, Tryz.f38, h5, h6]
  first | done | rfl | exact ⟨rfl, rfl⟩ | trace_state
set_option maxHeartbeats 2000000 in
theorem dbl_spec (s q t : List Nat) (h : H) (hs : s.length < 2 ^ 20) (hq : q.length < 10) (ht : t.length < 10) : Exact S.cfg 69 [.str s, .str q, .str t] h (.str (dbl s q t)) := by
  refine into Tryz.f69 _ Tryz.func69 (hS.ownT _ (by decide)) rfl rfl (by kernel_rfl) (by kernel_rfl) ?_
  simp +contextual (disch := first | (simp only [facts, clsL, clsS, clsC, isPtrD]; done) | omega | (simp only [push_nx, put_nx, del_nx]; omega) | (refine Nat.le_antisymm ?_ ?_ <;> simp only [push_nx, put_nx, del_nx] <;> omega) | fail) only [wpy, facts, wpb, cst, wpk, wpl, forall_const, implies_true, false_implies, Int.reduceLE, Int.reduceLT, Nat.reduceLeDiff, UInt8.reduceToNat, ↓reduceIte, Nat.reduceEqDiff, Nat.reduceAdd, reduceCtorEq, Int.reduceToNat, clsL, clsS, clsC, Tryz.f69]
  refine run_loop (fun k env h' => ∃ i : Nat, k = s.length - i ∧ i ≤ s.length ∧ env 0 = .str s ∧ env 1 = .str q ∧ env 2 = .str t ∧ env 7 = .str (q ++ (s.take i).flatMap (fun c => inn c t ++ [c])) ∧ env 8 = .int .i64 i ∧ h' = h) s.length ⟨0, ?_⟩ ?_
  · simp +contextual (disch := first | (simp only [facts, clsL, clsS, clsC, isPtrD]; done) | omega | (simp only [push_nx, put_nx, del_nx]; omega) | (refine Nat.le_antisymm ?_ ?_ <;> simp only [push_nx, put_nx, del_nx] <;> omega) | fail) only [wpy, facts, wpb, cst, wpk, wpl, forall_const, implies_true, false_implies, Int.reduceLE, Int.reduceLT, Nat.reduceLeDiff, UInt8.reduceToNat, ↓reduceIte, Nat.reduceEqDiff, Nat.reduceAdd, reduceCtorEq, Int.reduceToNat, clsL, clsS, clsC]
    first | done | simp
  rintro k env h' ⟨i, rfl, hi, e0, e1, e2, e7, e8, rfl⟩
  have hml := dblm_len t (s.take i)
  rw [List.length_take] at hml
  have hml2 : min i s.length * (t.length + 1) ≤ 2 ^ 20 * 11 := Nat.mul_le_mul (by omega) (by omega)
  by_cases hi2 : i < s.length
  · have hst : (s.take (i + 1)).flatMap (fun c => inn c t ++ [c]) = (s.take i).flatMap (fun c => inn c t ++ [c]) ++ (inn (s.getD i 0) t ++ [s.getD i 0]) := by
      rw [List.take_succ_eq_append_getElem hi2, List.flatMap_append, List.getD_eq_getElem?_getD, List.getElem?_eq_getElem hi2]
      simp
    have h1 := one_at hi2
    obtain ⟨c, hgc⟩ : ∃ c, s.getD i 0 = c := ⟨_, rfl⟩
    rw [hgc] at hst h1
    generalize (s.take i).flatMap (fun c => inn c t ++ [c]) = m at *
    simp +contextual (disch := first | (simp only [facts, clsL, clsS, clsC, isPtrD]; done) | omega | (simp only [push_nx, put_nx, del_nx]; omega) | (refine Nat.le_antisymm ?_ ?_ <;> simp only [push_nx, put_nx, del_nx] <;> omega) | fail) only [wpy, facts, wpb, cst, wpk, wpl, forall_const, implies_true, false_implies, Int.reduceLE, Int.reduceLT, Nat.reduceLeDiff, UInt8.reduceToNat, ↓reduceIte, Nat.reduceEqDiff, Nat.reduceAdd, reduceCtorEq, Int.reduceToNat, clsL, clsS, clsC, Tryz.f69, e0, e1, e2, e7, e8, hi2]
    refine run_loop (fun k env2 h2 => ∃ j : Nat, k = t.length - j ∧ j ≤ t.length ∧ env2 0 = .str s ∧ env2 1 = .str q ∧ env2 2 = .str t ∧ env2 7 = .str (q ++ m ++ inn c (t.take j)) ∧ env2 8 = .int .i64 i ∧ env2 9 = .int .i64 j ∧ h2 = h') t.length ⟨0, ?_⟩ ?_
    · simp +contextual (disch := first | (simp only [facts, clsL, clsS, clsC, isPtrD]; done) | omega | (simp only [push_nx, put_nx, del_nx]; omega) | (refine Nat.le_antisymm ?_ ?_ <;> simp only [push_nx, put_nx, del_nx] <;> omega) | fail) only [wpy, facts, wpb, cst, wpk, wpl, forall_const, implies_true, false_implies, Int.reduceLE, Int.reduceLT, Nat.reduceLeDiff, UInt8.reduceToNat, ↓reduceIte, Nat.reduceEqDiff, Nat.reduceAdd, reduceCtorEq, Int.reduceToNat, clsL, clsS, clsC, e0, e1, e2, e7, e8]
      simp [inn]
    rintro k env2 h2 ⟨j, rfl, hj, f0, f1, f2, f7, f8, f9, rfl⟩
    have hil := inn_len c (t.take j)
    rw [List.length_take] at hil
    by_cases hj2 : j < t.length
    · obtain ⟨d, hgd⟩ : ∃ d, t.getD j 0 = d := ⟨_, rfl⟩
      have hst2 : inn c (t.take (j + 1)) = inn c (t.take j) ++ (if c = d then [c] else []) := by
        rw [inn, List.take_succ_eq_append_getElem hj2, List.flatMap_append]
        rw [List.getD_eq_getElem?_getD, List.getElem?_eq_getElem hj2] at hgd
        simp only [List.flatMap_cons, List.flatMap_nil, List.append_nil]
        rw [← hgd]
        rfl
      simp +contextual (disch := first | (simp only [facts, clsL, clsS, clsC, isPtrD]; done) | omega | (simp only [push_nx, put_nx, del_nx]; omega) | (refine Nat.le_antisymm ?_ ?_ <;> simp only [push_nx, put_nx, del_nx] <;> omega) | fail) only [wpy, facts, wpb, cst, wpk, wpl, forall_const, implies_true, false_implies, Int.reduceLE, Int.reduceLT, Nat.reduceLeDiff, UInt8.reduceToNat, ↓reduceIte, Nat.reduceEqDiff, Nat.reduceAdd, reduceCtorEq, Int.reduceToNat, clsL, clsS, clsC, Tryz.f69, f0, f1, f2, f7, f8, f9, hj2]
      refine draw_by [] (by kernel_rfl) ?_
      by_cases hcd : c = d
      · rw [if_pos hcd] at hst2
        have hcd' := eq_true hcd
        have hln : q.length + m.length + (inn c (t.take j)).length + 1 ≤ 9223372036854775807 := by omega
        simp +contextual (disch := first | (simp only [facts, clsL, clsS, clsC, isPtrD]; done) | omega | (simp only [push_nx, put_nx, del_nx]; omega) | (refine Nat.le_antisymm ?_ ?_ <;> simp only [push_nx, put_nx, del_nx] <;> omega) | fail) only [wpy, facts, wpb, cst, wpk, wpl, forall_const, implies_true, false_implies, Int.reduceLE, Int.reduceLT, Nat.reduceLeDiff, UInt8.reduceToNat, ↓reduceIte, Nat.reduceEqDiff, Nat.reduceAdd, reduceCtorEq, Int.reduceToNat, clsL, clsS, clsC, Tryz.f69, f0, f1, f2, f7, f8, f9, hj2, hi2, hgc, hgd, hcd', h1, hln]
        exact ⟨(by intro p hp; cases hp), ⟨by omega, by omega⟩, _, by omega, j + 1, rfl, by omega, by rw [hst2, List.append_assoc (q ++ m)], rfl⟩
      · rw [if_neg hcd, List.append_nil] at hst2
        have hcd' := eq_false hcd
        simp +contextual (disch := first | (simp only [facts, clsL, clsS, clsC, isPtrD]; done) | omega | (simp only [push_nx, put_nx, del_nx]; omega) | (refine Nat.le_antisymm ?_ ?_ <;> simp only [push_nx, put_nx, del_nx] <;> omega) | fail) only [wpy, facts, wpb, cst, wpk, wpl, forall_const, implies_true, false_implies, Int.reduceLE, Int.reduceLT, Nat.reduceLeDiff, UInt8.reduceToNat, ↓reduceIte, Nat.reduceEqDiff, Nat.reduceAdd, reduceCtorEq, Int.reduceToNat, clsL, clsS, clsC, Tryz.f69, f0, f1, f2, f7, f8, f9, hj2, hi2, hgc, hgd, hcd']
        exact ⟨(by intro p hp; cases hp), _, by omega, j + 1, rfl, by omega, by rw [hst2], rfl⟩
    · have hjt : j = t.length := by omega
      subst hjt
      rw [List.take_length] at f7 hil
      have hln : q.length + m.length + (inn c t).length + 1 ≤ 9223372036854775807 := by omega
      simp +contextual (disch := first | (simp only [facts, clsL, clsS, clsC, isPtrD]; done) | omega | (simp only [push_nx, put_nx, del_nx]; omega) | (refine Nat.le_antisymm ?_ ?_ <;> simp only [push_nx, put_nx, del_nx] <;> omega) | fail) only [wpy, facts, wpb, cst, wpk, wpl, forall_const, implies_true, false_implies, Int.reduceLE, Int.reduceLT, Nat.reduceLeDiff, UInt8.reduceToNat, ↓reduceIte, Nat.reduceEqDiff, Nat.reduceAdd, reduceCtorEq, Int.reduceToNat, clsL, clsS, clsC, Tryz.f69, f0, f1, f2, f7, f8, f9, hj2, hi2, h1, hln]
      exact ⟨⟨by omega, by omega⟩, _, by omega, i + 1, rfl, by omega, by rw [hst]; simp [List.append_assoc], rfl⟩
  · have his : i = s.length := by omega
    subst his
    rw [List.take_length] at e7 hml
    have hln : q.length + (s.flatMap (fun c => inn c t ++ [c])).length + q.length ≤ 9223372036854775807 := by omega
    simp +contextual (disch := first | (simp only [facts, clsL, clsS, clsC, isPtrD]; done) | omega | (simp only [push_nx, put_nx, del_nx]; omega) | (refine Nat.le_antisymm ?_ ?_ <;> simp only [push_nx, put_nx, del_nx] <;> omega) | fail) only [wpy, facts, wpb, cst, wpk, wpl, forall_const, implies_true, false_implies, Int.reduceLE, Int.reduceLT, Nat.reduceLeDiff, UInt8.reduceToNat, ↓reduceIte, Nat.reduceEqDiff, Nat.reduceAdd, reduceCtorEq, Int.reduceToNat, clsL, clsS, clsC, Tryz.f69, e0, e1, e2, e7, e8, hi2, hln]
    rfl
theorem rname_spec (s : List Nat) (h : H) (hs : s.length < 2 ^ 20) : Exact S.cfg 41 [.str s] h (.str (rnameF s)) := by
  refine into Tryz.f41 _ Tryz.func41 (hS.ownT _ (by decide)) rfl rfl (by kernel_rfl) (by kernel_rfl) ?_
  simp +contextual (disch := first | (simp only [facts, clsL, clsS, clsC, isPtrD]; done) | omega | (simp only [push_nx, put_nx, del_nx]; omega) | (refine Nat.le_antisymm ?_ ?_ <;> simp only [push_nx, put_nx, del_nx] <;> omega) | fail) only [wpy, facts, wpb, cst, wpk, wpl, forall_const, implies_true, false_implies, Int.reduceLE, Int.reduceLT, Nat.reduceLeDiff, UInt8.reduceToNat, ↓reduceIte, Nat.reduceEqDiff, Nat.reduceAdd, reduceCtorEq, Int.reduceToNat, clsL, clsS, clsC, Tryz.f41]
  refine callF_exact (dbl_spec hS s [96] [96] _ hs (by decide) (by decide)) ?_
  simp +contextual (disch := first | (simp only [facts, clsL, clsS, clsC, isPtrD]; done) | omega | (simp only [push_nx, put_nx, del_nx]; omega) | (refine Nat.le_antisymm ?_ ?_ <;> simp only [push_nx, put_nx, del_nx] <;> omega) | fail) only [wpy, facts, wpb, cst, wpk, wpl, forall_const, implies_true, false_implies, Int.reduceLE, Int.reduceLT, Nat.reduceLeDiff, UInt8.reduceToNat, ↓reduceIte, Nat.reduceEqDiff, Nat.reduceAdd, reduceCtorEq, Int.reduceToNat, clsL, clsS, clsC, Tryz.f41]
  first | done | rfl | exact ⟨rfl, rfl⟩
theorem rquot_spec (s : List Nat) (h : H) (hs : s.length < 2 ^ 20) : Exact S.cfg 40 [.str s] h (.str (rquotF s)) := by
  refine into Tryz.f40 _ Tryz.func40 (hS.ownT _ (by decide)) rfl rfl (by kernel_rfl) (by kernel_rfl) ?_
  simp +contextual (disch := first | (simp only [facts, clsL, clsS, clsC, isPtrD]; done) | omega | (simp only [push_nx, put_nx, del_nx]; omega) | (refine Nat.le_antisymm ?_ ?_ <;> simp only [push_nx, put_nx, del_nx] <;> omega) | fail) only [wpy, facts, wpb, cst, wpk, wpl, forall_const, implies_true, false_implies, Int.reduceLE, Int.reduceLT, Nat.reduceLeDiff, UInt8.reduceToNat, ↓reduceIte, Nat.reduceEqDiff, Nat.reduceAdd, reduceCtorEq, Int.reduceToNat, clsL, clsS, clsC, Tryz.f40]
  refine callF_exact (dbl_spec hS s [39] [39, 92] _ hs (by decide) (by decide)) ?_
  simp +contextual (disch := first | (simp only [facts, clsL, clsS, clsC, isPtrD]; done) | omega | (simp only [push_nx, put_nx, del_nx]; omega) | (refine Nat.le_antisymm ?_ ?_ <;> simp only [push_nx, put_nx, del_nx] <;> omega) | fail) only [wpy, facts, wpb, cst, wpk, wpl, forall_const, implies_true, false_implies, Int.reduceLE, Int.reduceLT, Nat.reduceLeDiff, UInt8.reduceToNat, ↓reduceIte, Nat.reduceEqDiff, Nat.reduceAdd, reduceCtorEq, Int.reduceToNat, clsL, clsS, clsC, Tryz.f40]
  first | done | rfl | exact ⟨rfl, rfl⟩
end
noncomputable section
def Looks (n : Nat) : Fp → Prop
  | .lg l => ∀ e ∈ l, e.isW = false
  | .cl n0 n1 Ok => n0 = n ∧ n1 = n ∧ ∀ k, ¬ Ok k
theorem hits_look : ∀ {a b : List LE}, (∀ e ∈ a, e.isW = false) → (∀ e ∈ b, e.isW = false) → hitsL a b = false ∧ hitsL b a = false := by
  intro a b ha hb
  constructor
  · exact hitsL_reads ha
  · exact hitsL_reads hb
theorem looks_apart {n : Nat} {f g : Fp} (hf : Looks n f) (hg : Looks n g) : fpApart f g := by
  cases f with
  | lg a =>
    cases g with
    | lg b => exact hits_look hf hg
    | cl n0 n1 Ok =>
      obtain ⟨h1, h2, hk⟩ := hg
      exact fun e he => ⟨hf e he, by omega, hk _⟩
  | cl n0 n1 Ok =>
    obtain ⟨h1, h2, hk⟩ := hf
    cases g with
    | lg b => exact fun e he => (Nat.lt_or_ge (blkOf e) n0).elim (fun q => .inr ⟨hg e he, q, hk _⟩) fun q => .inl (by omega)
    | cl m0 m1 Ok' =>
      obtain ⟨h3, h4, hk'⟩ := hg
      exact ⟨by omega, hk, by omega, hk'⟩
theorem look_nil {n : Nat} : Looks n (.lg []) := fun e he => by cases he
theorem look_rd {n k o m : Nat} : Looks n (.lg [.rd k o m]) := fun e he => by rw [List.mem_singleton] at he; subst he; rfl
theorem look_cl {n : Nat} : Looks n (.cl n n nil1) := ⟨rfl, rfl, fun _ h => h⟩
theorem looks_pairs {n : Nat} {l : List Fp} (h : ∀ f ∈ l, Looks n f) (pairs : List (Nat × Nat)) : ∀ p ∈ pairs, ∀ a b, l[p.1]? = some a → l[p.2]? = some b → fpApart a b := fun p _ a b ha hb => looks_apart (h a (List.mem_of_getElem? ha)) (h b (List.mem_of_getElem? hb))
def anewF (n v : List Nat) : List Nat := if n = [110, 97, 109, 101, 115] then [115, 101, 116, 32, 110, 97, 109, 101, 115, 32] ++ quoteF v else [115, 101, 116, 32, 115, 101, 115, 115, 105, 111, 110, 32] ++ tickF n ++ [32, 61, 32] ++ quoteF v
theorem anewF_len (n v : List Nat) : (anewF n v).length ≤ 3 * n.length + 9 * v.length + 60 := by
  have h1 := tickF_len n
  have h2 := quoteF_len v
  unfold anewF
  split
  · simp only [List.length_append, List.length_cons, List.length_nil]; omega
  · simp only [List.length_append, List.length_cons, List.length_nil]; omega
theorem anewF_bytes (n v : List Nat) : Bytes (anewF n v) := by
  unfold anewF
  split
  · exact bytes_app (bytes_lit rfl) (bytes_quote _)
  · exact bytes_app (bytes_app (bytes_app (bytes_lit rfl) (bytes_tick _)) (bytes_lit rfl)) (bytes_quote _)
variable {S : Set0} (hS : StdT S)
include hS
theorem anew_spec (n v : List Nat) (h : H) (hn : n.length ≤ 4000) (hv : v.length ≤ 4000) : Pure S.cfg 23 [.agg [.int .i64 5, .str n, .str v]] h fun w _ => w = .tuple [.str (anewF n v), bo True] := by
  refine into Tryz.f23 _ Tryz.func23 (hS.ownT _ (by decide)) rfl rfl (by kernel_rfl) (by kernel_rfl) ?_
  have l1 := quoteF_len v
  have l2 := tickF_len n
  by_cases hnm : n = [110, 97, 109, 101, 115]
  · unfold anewF
    rw [if_pos hnm]
    simp +contextual (disch := first | (simp only [facts, clsL, clsS, clsC, isPtrD]; done) | omega | (simp only [push_nx, put_nx, del_nx]; omega) | (refine Nat.le_antisymm ?_ ?_ <;> simp only [push_nx, put_nx, del_nx] <;> omega) | fail) only [wpy, facts, wpb, cst, wpk, wpl, forall_const, implies_true, false_implies, Int.reduceLE, Int.reduceLT, Nat.reduceLeDiff, UInt8.reduceToNat, ↓reduceIte, Nat.reduceEqDiff, Nat.reduceAdd, reduceCtorEq, Int.reduceToNat, clsL, clsS, clsC, Tryz.f23, hnm]
    refine callF_exact (quote_spec hS v _ (by omega)) ?_
    have z1 : 10 + (quoteF v).length ≤ 9223372036854775807 := by omega
    simp +contextual (disch := first | (simp only [facts, clsL, clsS, clsC, isPtrD]; done) | omega | (simp only [push_nx, put_nx, del_nx]; omega) | (refine Nat.le_antisymm ?_ ?_ <;> simp only [push_nx, put_nx, del_nx] <;> omega) | fail) only [wpy, facts, wpb, cst, wpk, wpl, forall_const, implies_true, false_implies, Int.reduceLE, Int.reduceLT, Nat.reduceLeDiff, UInt8.reduceToNat, ↓reduceIte, Nat.reduceEqDiff, Nat.reduceAdd, reduceCtorEq, Int.reduceToNat, clsL, clsS, clsC, Tryz.f23, z1]
    exact (Ext.refl h).push _
  · unfold anewF
    rw [if_neg hnm]
    simp +contextual (disch := first | (simp only [facts, clsL, clsS, clsC, isPtrD]; done) | omega | (simp only [push_nx, put_nx, del_nx]; omega) | (refine Nat.le_antisymm ?_ ?_ <;> simp only [push_nx, put_nx, del_nx] <;> omega) | fail) only [wpy, facts, wpb, cst, wpk, wpl, forall_const, implies_true, false_implies, Int.reduceLE, Int.reduceLT, Nat.reduceLeDiff, UInt8.reduceToNat, ↓reduceIte, Nat.reduceEqDiff, Nat.reduceAdd, reduceCtorEq, Int.reduceToNat, clsL, clsS, clsC, Tryz.f23, hnm]
    refine draw_by [(2, 6)] (by kernel_rfl) ?_
    simp +contextual (disch := first | (simp only [facts, clsL, clsS, clsC, isPtrD]; done) | omega | (simp only [push_nx, put_nx, del_nx]; omega) | (refine Nat.le_antisymm ?_ ?_ <;> simp only [push_nx, put_nx, del_nx] <;> omega) | fail) only [wpy, facts, wpb, cst, wpk, wpl, forall_const, implies_true, false_implies, Int.reduceLE, Int.reduceLT, Nat.reduceLeDiff, UInt8.reduceToNat, ↓reduceIte, Nat.reduceEqDiff, Nat.reduceAdd, reduceCtorEq, Int.reduceToNat, clsL, clsS, clsC, Tryz.f23]
    refine callF_exact (tick_spec hS n _ (by omega)) ?_
    have z1 : 12 + (tickF n).length ≤ 9223372036854775807 := by omega
    simp +contextual (disch := first | (simp only [facts, clsL, clsS, clsC, isPtrD]; done) | omega | (simp only [push_nx, put_nx, del_nx]; omega) | (refine Nat.le_antisymm ?_ ?_ <;> simp only [push_nx, put_nx, del_nx] <;> omega) | fail) only [wpy, facts, wpb, cst, wpk, wpl, forall_const, implies_true, false_implies, Int.reduceLE, Int.reduceLT, Nat.reduceLeDiff, UInt8.reduceToNat, ↓reduceIte, Nat.reduceEqDiff, Nat.reduceAdd, reduceCtorEq, Int.reduceToNat, clsL, clsS, clsC, Tryz.f23, z1]
    refine ⟨by omega, callF_exact (quote_spec hS v _ (by omega)) ?_⟩
    have z4 : (tickF n).length + 3 + 1 + 1 + 1 + 1 + 1 + 1 + 1 + 1 + 1 + 1 + 1 + 1 + (quoteF v).length ≤ 9223372036854775807 := by omega
    have z2 : (tickF n).length ≤ 9223372036854775792 := by omega
    simp +contextual (disch := first | (simp only [facts, clsL, clsS, clsC, isPtrD]; done) | omega | (simp only [push_nx, put_nx, del_nx]; omega) | (refine Nat.le_antisymm ?_ ?_ <;> simp only [push_nx, put_nx, del_nx] <;> omega) | fail) only [wpy, facts, wpb, cst, wpk, wpl, forall_const, implies_true, false_implies, Int.reduceLE, Int.reduceLT, Nat.reduceLeDiff, UInt8.reduceToNat, ↓reduceIte, Nat.reduceEqDiff, Nat.reduceAdd, reduceCtorEq, Int.reduceToNat, clsL, clsS, clsC, Tryz.f23, z2, z4]
    exact ⟨looks_pairs (n := h.nx + 1) (by
      repeat (refine List.forall_mem_cons.2 ⟨by first | exact look_nil | exact look_rd | exact look_cl, ?_⟩)
      intro f hf
      cases hf) _, (Ext.refl h).push _⟩
theorem xanew_spec (n v : List Nat) (h : H) (hn : n.length ≤ 4000) (hv : v.length ≤ 4000) (bn : Bytes n) (bv : Bytes v) : Pure S.cfg 26 [.agg [.int .i64 5, .str n, .str v]] h fun w _ => w = .tuple [.str (anewF n v), bo True] := by
  refine into Tryz.f26 _ Tryz.func26 (hS.ownT _ (by decide)) rfl rfl (by kernel_rfl) (by kernel_rfl) ?_
  have l1 := quoteF_len v
  have l2 := tickF_len n
  by_cases hnm : n = [110, 97, 109, 101, 115]
  · unfold anewF
    rw [if_pos hnm]
    simp +contextual (disch := first | (simp only [facts, clsL, clsS, clsC, isPtrD]; done) | omega | (simp only [push_nx, put_nx, del_nx]; omega) | (refine Nat.le_antisymm ?_ ?_ <;> simp only [push_nx, put_nx, del_nx] <;> omega) | fail) only [wpy, facts, wpb, cst, wpk, wpl, forall_const, implies_true, false_implies, Int.reduceLE, Int.reduceLT, Nat.reduceLeDiff, UInt8.reduceToNat, ↓reduceIte, Nat.reduceEqDiff, Nat.reduceAdd, reduceCtorEq, Int.reduceToNat, clsL, clsS, clsC, Tryz.f26, hnm]
    refine callF_exact (rquot_spec hS v _ (by omega)) ?_
    rw [quote_same bv]
    have z1 : 10 + (quoteF v).length ≤ 9223372036854775807 := by omega
    simp +contextual (disch := first | (simp only [facts, clsL, clsS, clsC, isPtrD]; done) | omega | (simp only [push_nx, put_nx, del_nx]; omega) | (refine Nat.le_antisymm ?_ ?_ <;> simp only [push_nx, put_nx, del_nx] <;> omega) | fail) only [wpy, facts, wpb, cst, wpk, wpl, forall_const, implies_true, false_implies, Int.reduceLE, Int.reduceLT, Nat.reduceLeDiff, UInt8.reduceToNat, ↓reduceIte, Nat.reduceEqDiff, Nat.reduceAdd, reduceCtorEq, Int.reduceToNat, clsL, clsS, clsC, Tryz.f26, z1]
    exact (Ext.refl h).push _
  · unfold anewF
    rw [if_neg hnm]
    simp +contextual (disch := first | (simp only [facts, clsL, clsS, clsC, isPtrD]; done) | omega | (simp only [push_nx, put_nx, del_nx]; omega) | (refine Nat.le_antisymm ?_ ?_ <;> simp only [push_nx, put_nx, del_nx] <;> omega) | fail) only [wpy, facts, wpb, cst, wpk, wpl, forall_const, implies_true, false_implies, Int.reduceLE, Int.reduceLT, Nat.reduceLeDiff, UInt8.reduceToNat, ↓reduceIte, Nat.reduceEqDiff, Nat.reduceAdd, reduceCtorEq, Int.reduceToNat, clsL, clsS, clsC, Tryz.f26, hnm]
    refine draw_by [(2, 6)] (by kernel_rfl) ?_
    simp +contextual (disch := first | (simp only [facts, clsL, clsS, clsC, isPtrD]; done) | omega | (simp only [push_nx, put_nx, del_nx]; omega) | (refine Nat.le_antisymm ?_ ?_ <;> simp only [push_nx, put_nx, del_nx] <;> omega) | fail) only [wpy, facts, wpb, cst, wpk, wpl, forall_const, implies_true, false_implies, Int.reduceLE, Int.reduceLT, Nat.reduceLeDiff, UInt8.reduceToNat, ↓reduceIte, Nat.reduceEqDiff, Nat.reduceAdd, reduceCtorEq, Int.reduceToNat, clsL, clsS, clsC, Tryz.f26]
    refine callF_exact (rname_spec hS n _ (by omega)) ?_
    rw [tick_same bn]
    have z1 : 12 + (tickF n).length ≤ 9223372036854775807 := by omega
    simp +contextual (disch := first | (simp only [facts, clsL, clsS, clsC, isPtrD]; done) | omega | (simp only [push_nx, put_nx, del_nx]; omega) | (refine Nat.le_antisymm ?_ ?_ <;> simp only [push_nx, put_nx, del_nx] <;> omega) | fail) only [wpy, facts, wpb, cst, wpk, wpl, forall_const, implies_true, false_implies, Int.reduceLE, Int.reduceLT, Nat.reduceLeDiff, UInt8.reduceToNat, ↓reduceIte, Nat.reduceEqDiff, Nat.reduceAdd, reduceCtorEq, Int.reduceToNat, clsL, clsS, clsC, Tryz.f26, z1]
    refine ⟨by omega, callF_exact (rquot_spec hS v _ (by omega)) ?_⟩
    rw [quote_same bv]
    have z4 : (tickF n).length + 3 + 1 + 1 + 1 + 1 + 1 + 1 + 1 + 1 + 1 + 1 + 1 + 1 + (quoteF v).length ≤ 9223372036854775807 := by omega
    have z2 : (tickF n).length ≤ 9223372036854775792 := by omega
    simp +contextual (disch := first | (simp only [facts, clsL, clsS, clsC, isPtrD]; done) | omega | (simp only [push_nx, put_nx, del_nx]; omega) | (refine Nat.le_antisymm ?_ ?_ <;> simp only [push_nx, put_nx, del_nx] <;> omega) | fail) only [wpy, facts, wpb, cst, wpk, wpl, forall_const, implies_true, false_implies, Int.reduceLE, Int.reduceLT, Nat.reduceLeDiff, UInt8.reduceToNat, ↓reduceIte, Nat.reduceEqDiff, Nat.reduceAdd, reduceCtorEq, Int.reduceToNat, clsL, clsS, clsC, Tryz.f26, z2, z4]
    exact ⟨looks_pairs (n := h.nx + 1) (by
      repeat (refine List.forall_mem_cons.2 ⟨by first | exact look_nil | exact look_rd | exact look_cl, ?_⟩)
      intro f hf
      cases hf) _, (Ext.refl h).push _⟩
end
noncomputable section
theorem lt_tri : ∀ x y : List Nat, (ltNats y x = true) ↔ ¬ (ltNats x y = true ∨ x = y)
  | [], [] => by simp [ltNats]
  | [], b :: y => by simp [ltNats]
  | a :: x, [] => by simp [ltNats]
  | a :: x, b :: y => by
    have ih := lt_tri x y
    have e1 : (ltNats (b :: y) (a :: x) = true) ↔ (b < a ∨ (b = a ∧ ltNats y x = true)) := by
      show ((Nat.blt b a || (Nat.beq b a && ltNats y x)) = true) ↔ _
      simp
    have e2 : (ltNats (a :: x) (b :: y) = true) ↔ (a < b ∨ (a = b ∧ ltNats x y = true)) := by
      show ((Nat.blt a b || (Nat.beq a b && ltNats x y)) = true) ↔ _
      simp
    rw [e1, e2, ih, List.cons.injEq]
    constructor
    · rintro (q | ⟨q, w⟩) (p | ⟨p, p2⟩)
      · rcases p with p | ⟨p, _⟩ <;> omega
      · omega
      · rcases p with p | ⟨p, p2⟩
        · omega
        · exact w (.inl p2)
      · exact w (.inr p2)
    · intro q
      by_cases h1 : b < a
      · exact .inl h1
      · by_cases h2 : a = b
        · subst h2
          exact .inr ⟨rfl, fun w => q (w.elim (fun w => .inl (.inr ⟨rfl, w⟩)) fun w => .inr ⟨rfl, w⟩)⟩
        · exact absurd (.inl (.inl (by omega))) q
theorem str_leq' {P : Program} {t : TypeId} {c : Bool} {x y : List Nat} : binV P .leq t c (.str x) (.str y) = some (bo (¬ ltNats y x = true)) := by
  have e : binV P .leq t c (.str x) (.str y) = some (.bool (ltNats x y || eqNats x y)) := rfl
  rw [e, bo_bool]
  congr 1
  refine bo_eq ?_
  rw [lt_tri x y, Classical.not_not, Bool.or_eq_true, Wx.eqNats_iff]
structure TK where
  schema : List Nat
  vars : List (List Nat × List Nat)
  temps : List (List Nat)
  trans : Prop
  users : Prop
  locked : Prop
  odd : Prop
def vcells (l : List (List Nat × List Nat)) : List V := l.flatMap fun x => [.str x.1, .str x.2]
def TK.cells (T : TK) (vv tv : V) : List V := [.str T.schema, vv, tv, bo T.trans, bo T.users, bo T.locked, bo T.odd]
structure TR (h : H) (T : TK) (vv tv : V) : Prop where
  vars : RW 57 2 T.vars.length h vv (vcells T.vars)
  temps : RW 9 1 T.temps.length h tv (T.temps.map V.str)
theorem TR.ext {h h' : H} {T : TK} {vv tv : V} (a : TR h T vv tv) (hx : Ext h h') : TR h' T vv tv := ⟨a.vars.ext hx, a.temps.ext hx⟩
def okL (l : List (List Nat)) (i : Nat) : Prop := ¬ l.getD i [] = [] ∧ (i = 0 ∨ ltNats (l.getD (i - 1) []) (l.getD i []) = true)
def TK.names (T : TK) : List (List Nat) := T.vars.map Prod.fst
def few (T : TK) : Prop := T.vars.length ≤ 64 ∧ T.temps.length ≤ 64
def rise (l : List (List Nat)) (n : Nat) : Prop := ∀ i, i < n → okL l i
def soundP (T : TK) : Prop := few T ∧ rise T.names T.vars.length ∧ rise T.temps T.temps.length
theorem rise_succ {l : List (List Nat)} {n : Nat} : rise l (n + 1) ↔ (rise l n ∧ okL l n) := by
  constructor
  · exact fun q => ⟨fun i hi => q i (by omega), q n (by omega)⟩
  · rintro ⟨q, w⟩ i hi
    by_cases e : i = n
    · rw [e]; exact w
    · exact q i (by omega)
theorem vcells_len (l : List (List Nat × List Nat)) : (vcells l).length = l.length * 2 := by
  induction l with
  | nil => rfl
  | cons x l ih => show (_ :: _ :: vcells l).length = _; simp [ih]; omega
theorem vcells_at : ∀ {l : List (List Nat × List Nat)} {i : Nat}, i < l.length → (vcells l)[i * 2]? = some (.str (l.getD i ([], [])).1) ∧ (vcells l)[i * 2 + 1]? = some (.str (l.getD i ([], [])).2) ∧ ((vcells l).drop (i * 2)).take 2 = [.str (l.getD i ([], [])).1, .str (l.getD i ([], [])).2]
  | [], i, h => by simp at h
  | x :: l, 0, h => ⟨rfl, rfl, rfl⟩
  | x :: l, i + 1, h => by
    have ih := vcells_at (l := l) (i := i) (by simpa using h)
    have e : (i + 1) * 2 = i * 2 + 2 := by omega
    rw [e]
    exact ih
theorem names_at {T : TK} {i : Nat} (h : i < T.vars.length) : T.names.getD i [] = (T.vars.getD i ([], [])).1 := by
  unfold TK.names
  rw [List.getD_eq_getElem?_getD, List.getD_eq_getElem?_getD, List.getElem?_map, List.getElem?_eq_getElem h]
  rfl
def pinP (T : TK) : Prop := (((T.trans ∨ T.users) ∨ T.locked) ∨ T.odd) ∨ 0 < T.temps.length
structure StdV (S : Set0) : Prop extends StdT S where
  ownV : ∀ f, f ∈ [21, 22, 24, 25] → sums S.exts f = none
variable {S : Set0} (hS : StdV S)
include hS
theorem pinned_spec (T : TK) (vv tv : V) (h : H) (a : TR h T vv tv) : Pure S.cfg 22 [.agg (T.cells vv tv)] h fun w _ => w = bo (pinP T) := by
  refine into Tryz.f22 _ Tryz.func22 (hS.ownV _ (by decide)) rfl rfl (by kernel_rfl) (by kernel_rfl) ?_
  obtain ⟨c1, c2⟩ := a.vars.cell
  obtain ⟨c3, c4⟩ := a.temps.cell
  have hl := a.temps.len 9
  unfold TK.cells
  simp +contextual (disch := first | (simp only [facts, clsL, clsS, clsC, isPtrD]; done) | omega | (simp only [push_nx, put_nx, del_nx]; omega) | (refine Nat.le_antisymm ?_ ?_ <;> simp only [push_nx, put_nx, del_nx] <;> omega) | fail) only [wpy, facts, wpb, cst, wpk, wpl, forall_const, implies_true, false_implies, Int.reduceLE, Int.reduceLT, Nat.reduceLeDiff, UInt8.reduceToNat, ↓reduceIte, Nat.reduceEqDiff, Nat.reduceAdd, reduceCtorEq, Int.reduceToNat, clsL, clsS, clsC, Tryz.f22, c1, c2, c3, c4, hl]
  exact ⟨(Ext.refl h).push _, rfl⟩
theorem xpinned_spec (T : TK) (vv tv : V) (h : H) (a : TR h T vv tv) : Pure S.cfg 25 [.agg (T.cells vv tv)] h fun w _ => w = bo (pinP T) := by
  refine into Tryz.f25 _ Tryz.func25 (hS.ownV _ (by decide)) rfl rfl (by kernel_rfl) (by kernel_rfl) ?_
  obtain ⟨c1, c2⟩ := a.vars.cell
  obtain ⟨c3, c4⟩ := a.temps.cell
  have hl := a.temps.len 9
  unfold TK.cells
  simp +contextual (disch := first | (simp only [facts, clsL, clsS, clsC, isPtrD]; done) | omega | (simp only [push_nx, put_nx, del_nx]; omega) | (refine Nat.le_antisymm ?_ ?_ <;> simp only [push_nx, put_nx, del_nx] <;> omega) | fail) only [wpy, facts, wpb, cst, wpk, wpl, forall_const, implies_true, false_implies, Int.reduceLE, Int.reduceLT, Nat.reduceLeDiff, UInt8.reduceToNat, ↓reduceIte, Nat.reduceEqDiff, Nat.reduceAdd, reduceCtorEq, Int.reduceToNat, clsL, clsS, clsC, Tryz.f25, c1, c2, c3, c4, hl]
  exact ⟨(Ext.refl h).push _, rfl⟩
theorem check_spec (T : TK) (vv tv : V) (h : H) (a : TR h T vv tv) (hv : T.vars.length < 2 ^ 30) (ht : T.temps.length < 2 ^ 30) : Pure S.cfg 21 [.agg (T.cells vv tv)] h fun w _ => w = .int .i64 (@ite _ (soundP T) (Classical.propDecidable _) 0 2) := by
  refine into Tryz.f21 _ Tryz.func21 (hS.ownV _ (by decide)) rfl rfl (by kernel_rfl) (by kernel_rfl) ?_
  obtain ⟨c1, c2⟩ := a.vars.cell
  obtain ⟨c3, c4⟩ := a.temps.cell
  have hl := a.temps.len 9
  have hl2 := a.vars.len 57
  unfold TK.cells
  simp +contextual (disch := first | (simp only [facts, clsL, clsS, clsC, isPtrD]; done) | omega | (simp only [push_nx, put_nx, del_nx]; omega) | (refine Nat.le_antisymm ?_ ?_ <;> simp only [push_nx, put_nx, del_nx] <;> omega) | fail) only [wpy, facts, wpb, cst, wpk, wpl, forall_const, implies_true, false_implies, Int.reduceLE, Int.reduceLT, Nat.reduceLeDiff, UInt8.reduceToNat, ↓reduceIte, Nat.reduceEqDiff, Nat.reduceAdd, reduceCtorEq, Int.reduceToNat, clsL, clsS, clsC, Tryz.f21, c1, c2, c3, c4, hl, hl2]
  generalize hhA : H.push h _ = hA
  have hxA : Ext h hA := by rw [← hhA]; exact (Ext.refl h).push _
  have gA : hA.get h.nx = some (.cells [.str T.schema, vv, tv, bo T.trans, bo T.users, bo T.locked, bo T.odd] 25 false) := by rw [← hhA]; exact push_eq rfl
  have hnA : hA.nx = h.nx + 1 := by rw [← hhA]; rfl
  clear hhA
  have a2 := a.ext hxA
  refine run_loop (fun k env h' => ∃ i : Nat, k = T.vars.length - i ∧ i ≤ T.vars.length ∧ env 1 = .ptr h.nx 0 ∧ env 3 = bo (few T ∧ rise T.names i) ∧ env 19 = vv ∧ env 20 = .int .i64 T.vars.length ∧ env 21 = .int .i64 i ∧ Ext hA h') T.vars.length ⟨0, ?_⟩ ?_
  · simp +contextual (disch := first | (simp only [facts, clsL, clsS, clsC, isPtrD]; done) | omega | (simp only [push_nx, put_nx, del_nx]; omega) | (refine Nat.le_antisymm ?_ ?_ <;> simp only [push_nx, put_nx, del_nx] <;> omega) | fail) only [wpy, facts, wpb, cst, wpk, wpl, forall_const, implies_true, false_implies, Int.reduceLE, Int.reduceLT, Nat.reduceLeDiff, UInt8.reduceToNat, ↓reduceIte, Nat.reduceEqDiff, Nat.reduceAdd, reduceCtorEq, Int.reduceToNat, clsL, clsS, clsC]
    exact ⟨by omega, bo_eq ⟨fun q => ⟨q, fun i hi => by omega⟩, fun q => q.1⟩, Ext.refl _⟩
  rintro k env h' ⟨i, rfl, hi, e1, e3, e19, e20, e21, hx⟩
  by_cases hi2 : i < T.vars.length
  · obtain ⟨b, o, m, rfl⟩ := a2.vars.at (by omega)
    have a3 := (a2.ext hx).vars
    obtain ⟨_, hb, hr1, hr2⟩ := a3.rd
    have hcl := vcells_len T.vars
    obtain ⟨k1, k2, k3⟩ := vcells_at hi2
    have r2 := hr2 (i * 2) 2 (by rw [hcl]; omega)
    rw [k3] at r2
    have hnx := hx.1
    have q1 : ¬ b = h'.nx := by omega
    have q2 : ¬ h.nx = h'.nx := by omega
    have g1 : h'.get h.nx = some (.cells [.str T.schema, .slice b o T.vars.length m, tv, bo T.trans, bo T.users, bo T.locked, bo T.odd] 25 false) := by rw [hx.2 _ (by omega)]; exact gA
    have hnm := names_at hi2
    have hst : (few T ∧ rise T.names (i + 1)) = ((few T ∧ rise T.names i) ∧ okL T.names i) := by rw [rise_succ]; exact propext ⟨fun q => ⟨⟨q.1, q.2.1⟩, q.2.2⟩, fun q => ⟨q.1.1, q.1.2, q.2⟩⟩
    generalize (T.vars.getD i ([], [])).1 = nm at *
    generalize (T.vars.getD i ([], [])).2 = vl at *
    by_cases i0 : i = 0
    · subst i0
      simp +contextual (disch := first | (simp only [facts, clsL, clsS, clsC, isPtrD]; done) | omega | (simp only [push_nx, put_nx, del_nx]; omega) | (refine Nat.le_antisymm ?_ ?_ <;> simp only [push_nx, put_nx, del_nx] <;> omega) | fail) only [wpy, facts, wpb, cst, wpk, wpl, forall_const, implies_true, false_implies, Int.reduceLE, Int.reduceLT, Nat.reduceLeDiff, UInt8.reduceToNat, ↓reduceIte, Nat.reduceEqDiff, Nat.reduceAdd, reduceCtorEq, Int.reduceToNat, clsL, clsS, clsC, Tryz.f21, e1, e3, e19, e20, e21, hi2, r2]
      refine ⟨.inr (by omega), draw_by [] (by kernel_rfl) ?_⟩
      simp +contextual (disch := first | (simp only [facts, clsL, clsS, clsC, isPtrD]; done) | omega | (simp only [push_nx, put_nx, del_nx]; omega) | (refine Nat.le_antisymm ?_ ?_ <;> simp only [push_nx, put_nx, del_nx] <;> omega) | fail) only [wpy, facts, wpb, cst, wpk, wpl, forall_const, implies_true, false_implies, Int.reduceLE, Int.reduceLT, Nat.reduceLeDiff, UInt8.reduceToNat, ↓reduceIte, Nat.reduceEqDiff, Nat.reduceAdd, reduceCtorEq, Int.reduceToNat, clsL, clsS, clsC, Tryz.f21, e1, e3, e19, e20, e21, hi2, r2, q1, q2, g1]
      refine ⟨(fun p hp => by cases hp), _, by omega, 1, rfl, by omega, bo_eq ?_, rfl, hx.trans (Ext.new _ _ _)⟩
      rw [hst]
      unfold okL
      rw [hnm]
      exact ⟨fun q => ⟨q.1, q.2, .inl rfl⟩, fun q => ⟨q.1, q.2.1⟩⟩
    · have i1 : 0 < i := by omega
      have w1 : IntKind.i64.wrap ((i : Int) - 1) = ((i - 1 : Nat) : Int) := by rw [i64_in _ (by omega)]; omega
      have i2 : i - 1 < T.vars.length := by omega
      obtain ⟨k4, k5, k6⟩ := vcells_at i2
      have r4 := hr1 ((i - 1) * 2) 1 (by rw [hcl]; omega)
      have r5 : (vcells T.vars)[(i - 1) * 2]'(by rw [hcl]; omega) = .str (T.vars.getD (i - 1) ([], [])).1 := by
        rw [List.getElem?_eq_getElem (by rw [hcl]; omega)] at k4; injection k4
      rw [r5] at r4
      have hnm2 := names_at i2
      generalize (T.vars.getD (i - 1) ([], [])).1 = nm2 at *
      have i3 := eq_false i0
      simp +contextual (disch := first | (simp only [facts, clsL, clsS, clsC, isPtrD]; done) | omega | (simp only [push_nx, put_nx, del_nx]; omega) | (refine Nat.le_antisymm ?_ ?_ <;> simp only [push_nx, put_nx, del_nx] <;> omega) | fail) only [wpy, facts, wpb, cst, wpk, wpl, forall_const, implies_true, false_implies, Int.reduceLE, Int.reduceLT, Nat.reduceLeDiff, UInt8.reduceToNat, ↓reduceIte, Nat.reduceEqDiff, Nat.reduceAdd, reduceCtorEq, Int.reduceToNat, clsL, clsS, clsC, Tryz.f21, e1, e3, e19, e20, e21, hi2, r2]
      refine ⟨.inr (by omega), draw_by [] (by kernel_rfl) ?_⟩
      simp +contextual (disch := first | (simp only [facts, clsL, clsS, clsC, isPtrD]; done) | omega | (simp only [push_nx, put_nx, del_nx]; omega) | (refine Nat.le_antisymm ?_ ?_ <;> simp only [push_nx, put_nx, del_nx] <;> omega) | fail) only [wpy, facts, wpb, cst, wpk, wpl, forall_const, implies_true, false_implies, Int.reduceLE, Int.reduceLT, Nat.reduceLeDiff, UInt8.reduceToNat, ↓reduceIte, Nat.reduceEqDiff, Nat.reduceAdd, reduceCtorEq, Int.reduceToNat, clsL, clsS, clsC, Tryz.f21, e1, e3, e19, e20, e21, hi2, r2, q1, q2, g1, i3, w1, i2, r4]
      refine ⟨(fun p hp => by cases hp), _, by omega, i + 1, rfl, by omega, bo_eq ?_, rfl, hx.trans (Ext.new _ _ _)⟩
      rw [hst]
      unfold okL
      rw [hnm, hnm2]
      exact ⟨fun q => ⟨q.1.1, q.1.2, .inr q.2⟩, fun q => ⟨⟨q.1, q.2.1⟩, q.2.2.elim (fun w => absurd w i0) id⟩⟩
  have hin : i = T.vars.length := by omega
  subst hin
  have hnx := hx.1
  have g1 : h'.get h.nx = some (.cells [.str T.schema, vv, tv, bo T.trans, bo T.users, bo T.locked, bo T.odd] 25 false) := by rw [hx.2 _ (by omega)]; exact gA
  have a3 := (a2.ext hx).temps
  simp +contextual (disch := first | (simp only [facts, clsL, clsS, clsC, isPtrD]; done) | omega | (simp only [push_nx, put_nx, del_nx]; omega) | (refine Nat.le_antisymm ?_ ?_ <;> simp only [push_nx, put_nx, del_nx] <;> omega) | fail) only [wpy, facts, wpb, cst, wpk, wpl, forall_const, implies_true, false_implies, Int.reduceLE, Int.reduceLT, Nat.reduceLeDiff, UInt8.reduceToNat, ↓reduceIte, Nat.reduceEqDiff, Nat.reduceAdd, reduceCtorEq, Int.reduceToNat, clsL, clsS, clsC, Tryz.f21, e1, e3, e19, e20, e21, hi2, g1, hl]
  refine run_loop (fun k env h2 => ∃ i : Nat, k = T.temps.length - i ∧ i ≤ T.temps.length ∧ env 1 = .ptr h.nx 0 ∧ env 3 = bo ((few T ∧ rise T.names T.vars.length) ∧ rise T.temps i) ∧ env 50 = tv ∧ env 51 = .int .i64 T.temps.length ∧ env 52 = .int .i64 i ∧ h2 = h') T.temps.length ⟨0, ?_⟩ ?_
  · simp +contextual (disch := first | (simp only [facts, clsL, clsS, clsC, isPtrD]; done) | omega | (simp only [push_nx, put_nx, del_nx]; omega) | (refine Nat.le_antisymm ?_ ?_ <;> simp only [push_nx, put_nx, del_nx] <;> omega) | fail) only [wpy, facts, wpb, cst, wpk, wpl, forall_const, implies_true, false_implies, Int.reduceLE, Int.reduceLT, Nat.reduceLeDiff, UInt8.reduceToNat, ↓reduceIte, Nat.reduceEqDiff, Nat.reduceAdd, reduceCtorEq, Int.reduceToNat, clsL, clsS, clsC, e1, e3]
    exact ⟨by omega, bo_eq ⟨fun q => ⟨q, fun i hi => by omega⟩, fun q => q.1⟩⟩
  clear e1 e3 e19 e20 e21
  rintro k env2 h2 ⟨i, rfl, hi, e1, e3, e50, e51, e52, rfl⟩
  by_cases hj : i < T.temps.length
  · obtain ⟨b, o, m, rfl⟩ := a3.at (by omega)
    obtain ⟨_, hb, hr1, hr2⟩ := a3.rd
    have hcl : (T.temps.map V.str).length = T.temps.length := List.length_map ..
    have r2 := hr1 i 1 (by rw [hcl]; exact hj)
    have hat : ∀ {i : Nat} (h : i < T.temps.length), (T.temps.map V.str)[i]'(by rw [hcl]; exact h) = .str (T.temps.getD i []) := fun {i} h => by
      rw [List.getElem_map, List.getD_eq_getElem?_getD, List.getElem?_eq_getElem h]; rfl
    rw [hat hj] at r2
    have hst : ((few T ∧ rise T.names T.vars.length) ∧ rise T.temps (i + 1)) = (((few T ∧ rise T.names T.vars.length) ∧ rise T.temps i) ∧ okL T.temps i) := by rw [rise_succ]; exact propext ⟨fun q => ⟨⟨q.1, q.2.1⟩, q.2.2⟩, fun q => ⟨q.1.1, q.1.2, q.2⟩⟩
    by_cases i0 : i = 0
    · subst i0
      rw [Nat.add_zero] at r2
      simp +contextual (disch := first | (simp only [facts, clsL, clsS, clsC, isPtrD]; done) | omega | (simp only [push_nx, put_nx, del_nx]; omega) | (refine Nat.le_antisymm ?_ ?_ <;> simp only [push_nx, put_nx, del_nx] <;> omega) | fail) only [wpy, facts, wpb, cst, wpk, wpl, forall_const, implies_true, false_implies, Int.reduceLE, Int.reduceLT, Nat.reduceLeDiff, UInt8.reduceToNat, ↓reduceIte, Nat.reduceEqDiff, Nat.reduceAdd, reduceCtorEq, Int.reduceToNat, clsL, clsS, clsC, Tryz.f21, e1, e3, e50, e51, e52, hj, r2]
      refine ⟨_, by omega, 1, rfl, by omega, bo_eq ?_, rfl⟩
      rw [hst]
      unfold okL
      exact ⟨fun q => ⟨q.1, q.2, .inl rfl⟩, fun q => ⟨q.1, q.2.1⟩⟩
    · have w1 : IntKind.i64.wrap ((i : Int) - 1) = ((i - 1 : Nat) : Int) := by rw [i64_in _ (by omega)]; omega
      have i2 : i - 1 < T.temps.length := by omega
      have r4 := hr1 (i - 1) 1 (by rw [hcl]; omega)
      rw [hat i2] at r4
      have i3 := eq_false i0
      simp +contextual (disch := first | (simp only [facts, clsL, clsS, clsC, isPtrD]; done) | omega | (simp only [push_nx, put_nx, del_nx]; omega) | (refine Nat.le_antisymm ?_ ?_ <;> simp only [push_nx, put_nx, del_nx] <;> omega) | fail) only [wpy, facts, wpb, cst, wpk, wpl, forall_const, implies_true, false_implies, Int.reduceLE, Int.reduceLT, Nat.reduceLeDiff, UInt8.reduceToNat, ↓reduceIte, Nat.reduceEqDiff, Nat.reduceAdd, reduceCtorEq, Int.reduceToNat, clsL, clsS, clsC, Tryz.f21, e1, e3, e50, e51, e52, hj, r2, g1, i3, w1, i2, r4]
      refine ⟨_, by omega, i + 1, rfl, by omega, bo_eq ?_, rfl⟩
      rw [hst]
      unfold okL
      exact ⟨fun q => ⟨q.1.1, q.1.2, .inr q.2⟩, fun q => ⟨⟨q.1, q.2.1⟩, q.2.2.elim (fun w => absurd w i0) id⟩⟩
  · have hin2 : i = T.temps.length := by omega
    subst hin2
    by_cases hq : soundP T
    · rw [if_pos hq]
      have hq' : (few T ∧ rise T.names T.vars.length) ∧ rise T.temps T.temps.length := ⟨⟨hq.1, hq.2.1⟩, hq.2.2⟩
      have hq1 := eq_true hq'
      simp +contextual (disch := first | (simp only [facts, clsL, clsS, clsC, isPtrD]; done) | omega | (simp only [push_nx, put_nx, del_nx]; omega) | (refine Nat.le_antisymm ?_ ?_ <;> simp only [push_nx, put_nx, del_nx] <;> omega) | fail) only [wpy, facts, wpb, cst, wpk, wpl, forall_const, implies_true, false_implies, Int.reduceLE, Int.reduceLT, Nat.reduceLeDiff, UInt8.reduceToNat, ↓reduceIte, Nat.reduceEqDiff, Nat.reduceAdd, reduceCtorEq, Int.reduceToNat, clsL, clsS, clsC, Tryz.f21, e1, e3, e50, e51, e52, hj, hq1]
      exact hxA.trans hx
    · rw [if_neg hq]
      have hq1 : ((few T ∧ rise T.names T.vars.length) ∧ rise T.temps T.temps.length) = False := eq_false fun q => hq ⟨q.1.1, q.1.2, q.2⟩
      simp +contextual (disch := first | (simp only [facts, clsL, clsS, clsC, isPtrD]; done) | omega | (simp only [push_nx, put_nx, del_nx]; omega) | (refine Nat.le_antisymm ?_ ?_ <;> simp only [push_nx, put_nx, del_nx] <;> omega) | fail) only [wpy, facts, wpb, cst, wpk, wpl, forall_const, implies_true, false_implies, Int.reduceLE, Int.reduceLT, Nat.reduceLeDiff, UInt8.reduceToNat, ↓reduceIte, Nat.reduceEqDiff, Nat.reduceAdd, reduceCtorEq, Int.reduceToNat, clsL, clsS, clsC, Tryz.f21, e1, e3, e50, e51, e52, hj, hq1]
      exact hxA.trans hx
theorem xcheck_spec (T : TK) (vv tv : V) (h : H) (a : TR h T vv tv) (hv : T.vars.length < 2 ^ 30) (ht : T.temps.length < 2 ^ 30) : Pure S.cfg 24 [.agg (T.cells vv tv)] h fun w _ => w = .int .i64 (@ite _ (soundP T) (Classical.propDecidable _) 0 2) := by
  refine into Tryz.f24 _ Tryz.func24 (hS.ownV _ (by decide)) rfl rfl (by kernel_rfl) (by kernel_rfl) ?_
  obtain ⟨c1, c2⟩ := a.vars.cell
  obtain ⟨c3, c4⟩ := a.temps.cell
  have hl := a.temps.len 9
  have hl2 := a.vars.len 57
  unfold TK.cells
  by_cases f1 : T.vars.length ≤ 64
  case neg =>
    rw [if_neg (fun q => f1 q.1.1)]
    have f1' : 64 < T.vars.length := by omega
    simp +contextual (disch := first | (simp only [facts, clsL, clsS, clsC, isPtrD]; done) | omega | (simp only [push_nx, put_nx, del_nx]; omega) | (refine Nat.le_antisymm ?_ ?_ <;> simp only [push_nx, put_nx, del_nx] <;> omega) | fail) only [wpy, facts, wpb, cst, wpk, wpl, forall_const, implies_true, false_implies, Int.reduceLE, Int.reduceLT, Nat.reduceLeDiff, UInt8.reduceToNat, ↓reduceIte, Nat.reduceEqDiff, Nat.reduceAdd, reduceCtorEq, Int.reduceToNat, clsL, clsS, clsC, Tryz.f24, c1, c2, c3, c4, hl, hl2, f1']
    exact (Ext.refl h).push _
  by_cases f2 : T.temps.length ≤ 64
  case neg =>
    rw [if_neg (fun q => f2 q.1.2)]
    have f1' : ¬ 64 < T.vars.length := by omega
    have f2' : 64 < T.temps.length := by omega
    simp +contextual (disch := first | (simp only [facts, clsL, clsS, clsC, isPtrD]; done) | omega | (simp only [push_nx, put_nx, del_nx]; omega) | (refine Nat.le_antisymm ?_ ?_ <;> simp only [push_nx, put_nx, del_nx] <;> omega) | fail) only [wpy, facts, wpb, cst, wpk, wpl, forall_const, implies_true, false_implies, Int.reduceLE, Int.reduceLT, Nat.reduceLeDiff, UInt8.reduceToNat, ↓reduceIte, Nat.reduceEqDiff, Nat.reduceAdd, reduceCtorEq, Int.reduceToNat, clsL, clsS, clsC, Tryz.f24, c1, c2, c3, c4, hl, hl2, f1', f2']
    exact (Ext.refl h).push _
  have f1' : ¬ 64 < T.vars.length := by omega
  have f2' : ¬ 64 < T.temps.length := by omega
  simp +contextual (disch := first | (simp only [facts, clsL, clsS, clsC, isPtrD]; done) | omega | (simp only [push_nx, put_nx, del_nx]; omega) | (refine Nat.le_antisymm ?_ ?_ <;> simp only [push_nx, put_nx, del_nx] <;> omega) | fail) only [wpy, facts, wpb, cst, wpk, wpl, forall_const, implies_true, false_implies, Int.reduceLE, Int.reduceLT, Nat.reduceLeDiff, UInt8.reduceToNat, ↓reduceIte, Nat.reduceEqDiff, Nat.reduceAdd, reduceCtorEq, Int.reduceToNat, clsL, clsS, clsC, Tryz.f24, c1, c2, c3, c4, hl, hl2, f1', f2']
  generalize hhA : H.push h _ = hA
  have hxA : Ext h hA := by rw [← hhA]; exact (Ext.refl h).push _
  have g1 : hA.get h.nx = some (.cells [.str T.schema, vv, tv, bo T.trans, bo T.users, bo T.locked, bo T.odd] 25 false) := by rw [← hhA]; exact push_eq rfl
  have hnA : hA.nx = h.nx + 1 := by rw [← hhA]; rfl
  clear hhA
  have a2 := a.ext hxA
  refine run_loop (fun k env h' => ∃ i : Nat, k = T.vars.length - i ∧ i ≤ T.vars.length ∧ rise T.names i ∧ env 1 = .ptr h.nx 0 ∧ env 3 = .int .i64 i ∧ h' = hA) T.vars.length ⟨0, ?_⟩ ?_
  · simp +contextual (disch := first | (simp only [facts, clsL, clsS, clsC, isPtrD]; done) | omega | (simp only [push_nx, put_nx, del_nx]; omega) | (refine Nat.le_antisymm ?_ ?_ <;> simp only [push_nx, put_nx, del_nx] <;> omega) | fail) only [wpy, facts, wpb, cst, wpk, wpl, forall_const, implies_true, false_implies, Int.reduceLE, Int.reduceLT, Nat.reduceLeDiff, UInt8.reduceToNat, ↓reduceIte, Nat.reduceEqDiff, Nat.reduceAdd, reduceCtorEq, Int.reduceToNat, clsL, clsS, clsC]
    exact ⟨rfl, fun i hi => by omega⟩
  rintro k env h' ⟨i, rfl, hi, hri, e1, e3, rfl⟩
  by_cases hi2 : i < T.vars.length
  · obtain ⟨b, o, m, rfl⟩ := a2.vars.at (by omega)
    obtain ⟨_, hb, hr1, hr2⟩ := a2.vars.rd
    have hcl := vcells_len T.vars
    have get : ∀ {i : Nat} (hi : i < T.vars.length), rdV (some (1, false)) (h'.get b) (o + i * 2) = some (.str (T.names.getD i [])) := fun {i} hi => by
      obtain ⟨k1, k2, k3⟩ := vcells_at hi
      have r2 := hr1 (i * 2) 1 (by rw [hcl]; omega)
      rw [names_at hi, r2]
      rw [List.getElem?_eq_getElem (by rw [hcl]; omega)] at k1
      exact k1
    have r2 := get hi2
    by_cases hok : okL T.names i
    · have hri2 : rise T.names (i + 1) := rise_succ.2 ⟨hri, hok⟩
      have h0 : ¬ T.names.getD i [] = [] := hok.1
      by_cases i0 : i = 0
      · subst i0
        simp only [Nat.zero_mul, Nat.add_zero] at r2
        simp +contextual (disch := first | (simp only [facts, clsL, clsS, clsC, isPtrD]; done) | omega | (simp only [push_nx, put_nx, del_nx]; omega) | (refine Nat.le_antisymm ?_ ?_ <;> simp only [push_nx, put_nx, del_nx] <;> omega) | fail) only [wpy, facts, wpb, cst, wpk, wpl, forall_const, implies_true, false_implies, Int.reduceLE, Int.reduceLT, Nat.reduceLeDiff, UInt8.reduceToNat, ↓reduceIte, Nat.reduceEqDiff, Nat.reduceAdd, reduceCtorEq, Int.reduceToNat, clsL, clsS, clsC, Tryz.f24, e1, e3, hi2, g1, hl2]
        refine draw_by [] (by kernel_rfl) ?_
        have i1 : ¬ (0 : Nat) < 0 := Nat.lt_irrefl 0
        simp +contextual (disch := first | (simp only [facts, clsL, clsS, clsC, isPtrD]; done) | omega | (simp only [push_nx, put_nx, del_nx]; omega) | (refine Nat.le_antisymm ?_ ?_ <;> simp only [push_nx, put_nx, del_nx] <;> omega) | fail) only [wpy, facts, wpb, cst, wpk, wpl, forall_const, implies_true, false_implies, Int.reduceLE, Int.reduceLT, Nat.reduceLeDiff, UInt8.reduceToNat, ↓reduceIte, Nat.reduceEqDiff, Nat.reduceAdd, reduceCtorEq, Int.reduceToNat, clsL, clsS, clsC, Tryz.f24, e1, e3, hi2, r2, g1, h0, i1]
        exact ⟨(fun p hp => by cases hp), _, by omega, 1, rfl, by omega, hri2, rfl⟩
      · have w1 : IntKind.i64.wrap ((i : Int) - 1) = ((i - 1 : Nat) : Int) := by rw [i64_in _ (by omega)]; omega
        have i2 : i - 1 < T.vars.length := by omega
        have i1 : 0 < i := by omega
        have r4 := get i2
        have hlt : ltNats (T.names.getD (i - 1) []) (T.names.getD i []) = true := hok.2.elim (fun q => absurd q i0) id
        simp +contextual (disch := first | (simp only [facts, clsL, clsS, clsC, isPtrD]; done) | omega | (simp only [push_nx, put_nx, del_nx]; omega) | (refine Nat.le_antisymm ?_ ?_ <;> simp only [push_nx, put_nx, del_nx] <;> omega) | fail) only [wpy, facts, wpb, cst, wpk, wpl, forall_const, implies_true, false_implies, Int.reduceLE, Int.reduceLT, Nat.reduceLeDiff, UInt8.reduceToNat, ↓reduceIte, Nat.reduceEqDiff, Nat.reduceAdd, reduceCtorEq, Int.reduceToNat, clsL, clsS, clsC, Tryz.f24, e1, e3, hi2, g1, hl2]
        refine draw_by [] (by kernel_rfl) ?_
        simp +contextual (disch := first | (simp only [facts, clsL, clsS, clsC, isPtrD]; done) | omega | (simp only [push_nx, put_nx, del_nx]; omega) | (refine Nat.le_antisymm ?_ ?_ <;> simp only [push_nx, put_nx, del_nx] <;> omega) | fail) only [wpy, facts, wpb, cst, wpk, wpl, forall_const, implies_true, false_implies, Int.reduceLE, Int.reduceLT, Nat.reduceLeDiff, UInt8.reduceToNat, ↓reduceIte, Nat.reduceEqDiff, Nat.reduceAdd, reduceCtorEq, Int.reduceToNat, clsL, clsS, clsC, Tryz.f24, e1, e3, hi2, r2, g1, h0, i1, w1, i2, r4, str_leq', hlt]
        exact ⟨(fun p hp => by cases hp), _, by omega, i + 1, rfl, by omega, hri2, rfl⟩
    · have hns : ¬ soundP T := fun q => hok (q.2.1 i hi2)
      rw [if_neg hns]
      by_cases h0 : T.names.getD i [] = []
      · rw [h0] at r2
        simp +contextual (disch := first | (simp only [facts, clsL, clsS, clsC, isPtrD]; done) | omega | (simp only [push_nx, put_nx, del_nx]; omega) | (refine Nat.le_antisymm ?_ ?_ <;> simp only [push_nx, put_nx, del_nx] <;> omega) | fail) only [wpy, facts, wpb, cst, wpk, wpl, forall_const, implies_true, false_implies, Int.reduceLE, Int.reduceLT, Nat.reduceLeDiff, UInt8.reduceToNat, ↓reduceIte, Nat.reduceEqDiff, Nat.reduceAdd, reduceCtorEq, Int.reduceToNat, clsL, clsS, clsC, Tryz.f24, e1, e3, hi2, g1, hl2]
        refine draw_by [] (by kernel_rfl) ?_
        simp +contextual (disch := first | (simp only [facts, clsL, clsS, clsC, isPtrD]; done) | omega | (simp only [push_nx, put_nx, del_nx]; omega) | (refine Nat.le_antisymm ?_ ?_ <;> simp only [push_nx, put_nx, del_nx] <;> omega) | fail) only [wpy, facts, wpb, cst, wpk, wpl, forall_const, implies_true, false_implies, Int.reduceLE, Int.reduceLT, Nat.reduceLeDiff, UInt8.reduceToNat, ↓reduceIte, Nat.reduceEqDiff, Nat.reduceAdd, reduceCtorEq, Int.reduceToNat, clsL, clsS, clsC, Tryz.f24, e1, e3, hi2, r2, g1]
        exact ⟨(fun p hp => by cases hp), hxA⟩
      · have i0 : ¬ i = 0 := fun q => hok ⟨h0, .inl q⟩
        have w1 : IntKind.i64.wrap ((i : Int) - 1) = ((i - 1 : Nat) : Int) := by rw [i64_in _ (by omega)]; omega
        have i2 : i - 1 < T.vars.length := by omega
        have i1 : 0 < i := by omega
        have r4 := get i2
        have hlt : ¬ ltNats (T.names.getD (i - 1) []) (T.names.getD i []) = true := fun q => hok ⟨h0, .inr q⟩
        simp +contextual (disch := first | (simp only [facts, clsL, clsS, clsC, isPtrD]; done) | omega | (simp only [push_nx, put_nx, del_nx]; omega) | (refine Nat.le_antisymm ?_ ?_ <;> simp only [push_nx, put_nx, del_nx] <;> omega) | fail) only [wpy, facts, wpb, cst, wpk, wpl, forall_const, implies_true, false_implies, Int.reduceLE, Int.reduceLT, Nat.reduceLeDiff, UInt8.reduceToNat, ↓reduceIte, Nat.reduceEqDiff, Nat.reduceAdd, reduceCtorEq, Int.reduceToNat, clsL, clsS, clsC, Tryz.f24, e1, e3, hi2, g1, hl2]
        refine draw_by [] (by kernel_rfl) ?_
        simp +contextual (disch := first | (simp only [facts, clsL, clsS, clsC, isPtrD]; done) | omega | (simp only [push_nx, put_nx, del_nx]; omega) | (refine Nat.le_antisymm ?_ ?_ <;> simp only [push_nx, put_nx, del_nx] <;> omega) | fail) only [wpy, facts, wpb, cst, wpk, wpl, forall_const, implies_true, false_implies, Int.reduceLE, Int.reduceLT, Nat.reduceLeDiff, UInt8.reduceToNat, ↓reduceIte, Nat.reduceEqDiff, Nat.reduceAdd, reduceCtorEq, Int.reduceToNat, clsL, clsS, clsC, Tryz.f24, e1, e3, hi2, r2, g1, h0, i1, w1, i2, r4, str_leq', hlt]
        exact ⟨(fun p hp => by cases hp), hxA⟩
  have hin : i = T.vars.length := by omega
  subst hin
  simp +contextual (disch := first | (simp only [facts, clsL, clsS, clsC, isPtrD]; done) | omega | (simp only [push_nx, put_nx, del_nx]; omega) | (refine Nat.le_antisymm ?_ ?_ <;> simp only [push_nx, put_nx, del_nx] <;> omega) | fail) only [wpy, facts, wpb, cst, wpk, wpl, forall_const, implies_true, false_implies, Int.reduceLE, Int.reduceLT, Nat.reduceLeDiff, UInt8.reduceToNat, ↓reduceIte, Nat.reduceEqDiff, Nat.reduceAdd, reduceCtorEq, Int.reduceToNat, clsL, clsS, clsC, Tryz.f24, e1, e3, hi2, g1, hl, hl2]
  have a3 := a2.temps
  refine run_loop (fun k env h2 => ∃ i : Nat, k = T.temps.length - i ∧ i ≤ T.temps.length ∧ rise T.temps i ∧ env 1 = .ptr h.nx 0 ∧ env 4 = .int .i64 i ∧ h2 = h') T.temps.length ⟨0, ?_⟩ ?_
  · simp +contextual (disch := first | (simp only [facts, clsL, clsS, clsC, isPtrD]; done) | omega | (simp only [push_nx, put_nx, del_nx]; omega) | (refine Nat.le_antisymm ?_ ?_ <;> simp only [push_nx, put_nx, del_nx] <;> omega) | fail) only [wpy, facts, wpb, cst, wpk, wpl, forall_const, implies_true, false_implies, Int.reduceLE, Int.reduceLT, Nat.reduceLeDiff, UInt8.reduceToNat, ↓reduceIte, Nat.reduceEqDiff, Nat.reduceAdd, reduceCtorEq, Int.reduceToNat, clsL, clsS, clsC, e1, e3]
    exact ⟨rfl, fun i hi => by omega⟩
  clear e1 e3
  rintro k env2 h2 ⟨i, rfl, hi, hri2, e1, e4, rfl⟩
  by_cases hj : i < T.temps.length
  · obtain ⟨b, o, m, rfl⟩ := a3.at (by omega)
    obtain ⟨_, hb, hr1, hr2⟩ := a3.rd
    have hcl : (T.temps.map V.str).length = T.temps.length := List.length_map ..
    have get : ∀ {i : Nat} (h : i < T.temps.length), rdV (some (1, false)) (h2.get b) (o + i) = some (.str (T.temps.getD i [])) := fun {i} h => by
      rw [hr1 i 1 (by rw [hcl]; exact h), List.getElem_map, List.getD_eq_getElem?_getD, List.getElem?_eq_getElem h]; rfl
    have r2 := get hj
    by_cases hok : okL T.temps i
    · have hri3 : rise T.temps (i + 1) := rise_succ.2 ⟨hri2, hok⟩
      have h0 : ¬ T.temps.getD i [] = [] := hok.1
      by_cases i0 : i = 0
      · subst i0
        rw [Nat.add_zero] at r2
        simp +contextual (disch := first | (simp only [facts, clsL, clsS, clsC, isPtrD]; done) | omega | (simp only [push_nx, put_nx, del_nx]; omega) | (refine Nat.le_antisymm ?_ ?_ <;> simp only [push_nx, put_nx, del_nx] <;> omega) | fail) only [wpy, facts, wpb, cst, wpk, wpl, forall_const, implies_true, false_implies, Int.reduceLE, Int.reduceLT, Nat.reduceLeDiff, UInt8.reduceToNat, ↓reduceIte, Nat.reduceEqDiff, Nat.reduceAdd, reduceCtorEq, Int.reduceToNat, clsL, clsS, clsC, Tryz.f24, e1, e4, hj, g1, hl]
        refine draw_by [] (by kernel_rfl) ?_
        have i1 : ¬ (0 : Nat) < 0 := Nat.lt_irrefl 0
        simp +contextual (disch := first | (simp only [facts, clsL, clsS, clsC, isPtrD]; done) | omega | (simp only [push_nx, put_nx, del_nx]; omega) | (refine Nat.le_antisymm ?_ ?_ <;> simp only [push_nx, put_nx, del_nx] <;> omega) | fail) only [wpy, facts, wpb, cst, wpk, wpl, forall_const, implies_true, false_implies, Int.reduceLE, Int.reduceLT, Nat.reduceLeDiff, UInt8.reduceToNat, ↓reduceIte, Nat.reduceEqDiff, Nat.reduceAdd, reduceCtorEq, Int.reduceToNat, clsL, clsS, clsC, Tryz.f24, e1, e4, hj, r2, g1, h0, i1]
        exact ⟨(fun p hp => by cases hp), _, by omega, 1, rfl, by omega, hri3, rfl⟩
      · have w1 : IntKind.i64.wrap ((i : Int) - 1) = ((i - 1 : Nat) : Int) := by rw [i64_in _ (by omega)]; omega
        have i2 : i - 1 < T.temps.length := by omega
        have i1 : 0 < i := by omega
        have r4 := get i2
        have hlt : ltNats (T.temps.getD (i - 1) []) (T.temps.getD i []) = true := hok.2.elim (fun q => absurd q i0) id
        simp +contextual (disch := first | (simp only [facts, clsL, clsS, clsC, isPtrD]; done) | omega | (simp only [push_nx, put_nx, del_nx]; omega) | (refine Nat.le_antisymm ?_ ?_ <;> simp only [push_nx, put_nx, del_nx] <;> omega) | fail) only [wpy, facts, wpb, cst, wpk, wpl, forall_const, implies_true, false_implies, Int.reduceLE, Int.reduceLT, Nat.reduceLeDiff, UInt8.reduceToNat, ↓reduceIte, Nat.reduceEqDiff, Nat.reduceAdd, reduceCtorEq, Int.reduceToNat, clsL, clsS, clsC, Tryz.f24, e1, e4, hj, g1, hl]
        refine draw_by [] (by kernel_rfl) ?_
        simp +contextual (disch := first | (simp only [facts, clsL, clsS, clsC, isPtrD]; done) | omega | (simp only [push_nx, put_nx, del_nx]; omega) | (refine Nat.le_antisymm ?_ ?_ <;> simp only [push_nx, put_nx, del_nx] <;> omega) | fail) only [wpy, facts, wpb, cst, wpk, wpl, forall_const, implies_true, false_implies, Int.reduceLE, Int.reduceLT, Nat.reduceLeDiff, UInt8.reduceToNat, ↓reduceIte, Nat.reduceEqDiff, Nat.reduceAdd, reduceCtorEq, Int.reduceToNat, clsL, clsS, clsC, Tryz.f24, e1, e4, hj, r2, g1, h0, i1, w1, i2, r4, str_leq', hlt]
        exact ⟨(fun p hp => by cases hp), _, by omega, i + 1, rfl, by omega, hri3, rfl⟩
    · have hns : ¬ soundP T := fun q => hok (q.2.2 i hj)
      rw [if_neg hns]
      by_cases h0 : T.temps.getD i [] = []
      · rw [h0] at r2
        simp +contextual (disch := first | (simp only [facts, clsL, clsS, clsC, isPtrD]; done) | omega | (simp only [push_nx, put_nx, del_nx]; omega) | (refine Nat.le_antisymm ?_ ?_ <;> simp only [push_nx, put_nx, del_nx] <;> omega) | fail) only [wpy, facts, wpb, cst, wpk, wpl, forall_const, implies_true, false_implies, Int.reduceLE, Int.reduceLT, Nat.reduceLeDiff, UInt8.reduceToNat, ↓reduceIte, Nat.reduceEqDiff, Nat.reduceAdd, reduceCtorEq, Int.reduceToNat, clsL, clsS, clsC, Tryz.f24, e1, e4, hj, g1, hl]
        refine draw_by [] (by kernel_rfl) ?_
        simp +contextual (disch := first | (simp only [facts, clsL, clsS, clsC, isPtrD]; done) | omega | (simp only [push_nx, put_nx, del_nx]; omega) | (refine Nat.le_antisymm ?_ ?_ <;> simp only [push_nx, put_nx, del_nx] <;> omega) | fail) only [wpy, facts, wpb, cst, wpk, wpl, forall_const, implies_true, false_implies, Int.reduceLE, Int.reduceLT, Nat.reduceLeDiff, UInt8.reduceToNat, ↓reduceIte, Nat.reduceEqDiff, Nat.reduceAdd, reduceCtorEq, Int.reduceToNat, clsL, clsS, clsC, Tryz.f24, e1, e4, hj, r2, g1]
        exact ⟨(fun p hp => by cases hp), hxA⟩
      · have i0 : ¬ i = 0 := fun q => hok ⟨h0, .inl q⟩
        have w1 : IntKind.i64.wrap ((i : Int) - 1) = ((i - 1 : Nat) : Int) := by rw [i64_in _ (by omega)]; omega
        have i2 : i - 1 < T.temps.length := by omega
        have i1 : 0 < i := by omega
        have r4 := get i2
        have hlt : ¬ ltNats (T.temps.getD (i - 1) []) (T.temps.getD i []) = true := fun q => hok ⟨h0, .inr q⟩
        simp +contextual (disch := first | (simp only [facts, clsL, clsS, clsC, isPtrD]; done) | omega | (simp only [push_nx, put_nx, del_nx]; omega) | (refine Nat.le_antisymm ?_ ?_ <;> simp only [push_nx, put_nx, del_nx] <;> omega) | fail) only [wpy, facts, wpb, cst, wpk, wpl, forall_const, implies_true, false_implies, Int.reduceLE, Int.reduceLT, Nat.reduceLeDiff, UInt8.reduceToNat, ↓reduceIte, Nat.reduceEqDiff, Nat.reduceAdd, reduceCtorEq, Int.reduceToNat, clsL, clsS, clsC, Tryz.f24, e1, e4, hj, g1, hl]
        refine draw_by [] (by kernel_rfl) ?_
        simp +contextual (disch := first | (simp only [facts, clsL, clsS, clsC, isPtrD]; done) | omega | (simp only [push_nx, put_nx, del_nx]; omega) | (refine Nat.le_antisymm ?_ ?_ <;> simp only [push_nx, put_nx, del_nx] <;> omega) | fail) only [wpy, facts, wpb, cst, wpk, wpl, forall_const, implies_true, false_implies, Int.reduceLE, Int.reduceLT, Nat.reduceLeDiff, UInt8.reduceToNat, ↓reduceIte, Nat.reduceEqDiff, Nat.reduceAdd, reduceCtorEq, Int.reduceToNat, clsL, clsS, clsC, Tryz.f24, e1, e4, hj, r2, g1, h0, i1, w1, i2, r4, str_leq', hlt]
        exact ⟨(fun p hp => by cases hp), hxA⟩
  · have hin2 : i = T.temps.length := by omega
    subst hin2
    have hq : soundP T := ⟨⟨f1, f2⟩, hri, hri2⟩
    rw [if_pos hq]
    simp +contextual (disch := first | (simp only [facts, clsL, clsS, clsC, isPtrD]; done) | omega | (simp only [push_nx, put_nx, del_nx]; omega) | (refine Nat.le_antisymm ?_ ?_ <;> simp only [push_nx, put_nx, del_nx] <;> omega) | fail) only [wpy, facts, wpb, cst, wpk, wpl, forall_const, implies_true, false_implies, Int.reduceLE, Int.reduceLT, Nat.reduceLeDiff, UInt8.reduceToNat, ↓reduceIte, Nat.reduceEqDiff, Nat.reduceAdd, reduceCtorEq, Int.reduceToNat, clsL, clsS, clsC, Tryz.f24, e1, e4, hj, g1, hl]
    exact hxA
end
noncomputable section
structure CM where
  kind : Int
  text : List Nat
def CM.cells (c : CM) : List V := [.int .u8 c.kind, .str c.text, .int .u32 0, .int .u16 0, .int .u8 0, .int .u32 0, .int .u16 0, .nilslice]
def ccells (l : List CM) : List V := l.flatMap CM.cells
theorem ccells_len (l : List CM) : (ccells l).length = l.length * 8 := by
  induction l with
  | nil => rfl
  | cons x l ih => show (x.cells ++ ccells l).length = _; rw [List.length_append, ih, List.length_cons]; show 8 + _ = _; omega
theorem ccells_app (l m : List CM) : ccells (l ++ m) = ccells l ++ ccells m := List.flatMap_append
theorem ccells_one (c : CM) : ccells [c] = c.cells := List.append_nil _
def setC (x : List Nat × List Nat) : CM := ⟨3, anewF x.1 x.2⟩
def longV (x : List Nat × List Nat) : Prop := 1000 < x.1.length ∨ 1000 < x.2.length
def noneLong (T : TK) : Prop := ∀ i, i < T.vars.length → ¬ longV (T.vars.getD i ([], []))
def useC (T : TK) (schema : List Nat) : List CM := if T.schema = schema then [] else [⟨2, T.schema⟩]
def planL (T : TK) (schema : List Nat) : List CM := useC T schema ++ T.vars.map setC
def planP (T : TK) : Prop := soundP T ∧ ¬ pinP T ∧ noneLong T
theorem useC_len (T : TK) (schema : List Nat) : (useC T schema).length ≤ 1 := by unfold useC; split <;> simp
theorem ap32' : apI Tryz.prog 32 = some (55, 8, 64) := by kernel_rfl
structure StdW (S : Set0) : Prop extends StdV S where
  ownW : ∀ f, f ∈ [6, 7] → sums S.exts f = none
theorem app_cmd {S : Set0} {env : Env} {s x : Operand} {n0 : Nat} {h : H} {l : V} {cs : List CM} (t : CM) {Ok : Nat → Prop} {K : V → H → Fp → Prop} (hsv : evalE env s = l) (hx : evalE env x = .slice h.nx 0 1 1) (ha : Wx.Acc n0 h l (ccells cs) 55 8) (hroom : cs.length < 2 ^ 20) (hOk : ∀ k, n0 ≤ k → Ok k) (hn0 : n0 ≤ h.nx)
    (hK : ∀ v h' L, Wx.Acc n0 h' v (ccells (cs ++ [t])) 55 8 → h.nx < h'.nx → (∀ k, k < n0 → h'.get k = h.get k) → K v h' (.lg L)) : opW S.cfg Ok (.call ⟨.builtin .append, #[s, x], #[32, 32]⟩) env (h.push (.cells t.cells 55 false)) K := by
  refine append_new (sv := l) (n0 := n0) hsv ap32' ⟨.slice 55, by kernel_rfl, rfl⟩ ha hx (n := 1) (by decide) rfl rfl ?_ (by decide) hOk hn0 ?_
  · rw [ccells_len]
    show _ + 8 ≤ _
    omega
  · intro v h' L ha' hn' _ hf' _
    exact hK v h' L (by rw [ccells_app, ccells_one]; exact ha') hn' hf'
variable {S : Set0} (hS : StdW S)
include hS
theorem plan_spec (T : TK) (vv tv : V) (schema : List Nat) (h : H) (a : TR h T vv tv) (hv : T.vars.length < 2 ^ 16) (ht : T.temps.length < 2 ^ 30) : Pure S.cfg 6 [.agg (T.cells vv tv), .str schema] h fun w h' => (planP T → ∃ lv, w = .tuple [lv, .int .i64 0] ∧ Acc h.nx h' lv (ccells (planL T schema)) 55 8) ∧ (¬ planP T → w = .tuple [.nilslice, .int .i64 2]) := by
  refine into Tryz.f6 _ Tryz.func6 (hS.ownW _ (by decide)) rfl rfl (by kernel_rfl) (by kernel_rfl) ?_
  obtain ⟨c1, c2⟩ := a.vars.cell
  obtain ⟨c3, c4⟩ := a.temps.cell
  have hcs : T.cells vv tv = [.str T.schema, vv, tv, bo T.trans, bo T.users, bo T.locked, bo T.odd] := rfl
  rw [hcs]
  simp +contextual (disch := first | (simp only [facts, clsL, clsS, clsC, isPtrD]; done) | omega | (simp only [push_nx, put_nx, del_nx]; omega) | (refine Nat.le_antisymm ?_ ?_ <;> simp only [push_nx, put_nx, del_nx] <;> omega) | fail) only [wpy, facts, wpb, cst, wpk, wpl, forall_const, implies_true, false_implies, Int.reduceLE, Int.reduceLT, Nat.reduceLeDiff, UInt8.reduceToNat, ↓reduceIte, Nat.reduceEqDiff, Nat.reduceAdd, reduceCtorEq, Int.reduceToNat, clsL, clsS, clsC, Tryz.f6, c1, c2, c3, c4]
  generalize hhA : H.push h _ = hA
  have hxA : Ext h hA := by rw [← hhA]; exact (Ext.refl h).push _
  have gA : hA.get h.nx = some (.cells [.str T.schema, vv, tv, bo T.trans, bo T.users, bo T.locked, bo T.odd] 25 false) := by rw [← hhA]; exact push_eq rfl
  have hnA : hA.nx = h.nx + 1 := by rw [← hhA]; rfl
  clear hhA
  have a2 := a.ext hxA
  have ck := check_spec hS.toStdV T vv tv hA a2 (by omega) ht
  rw [hcs] at ck
  refine callF_pure ck ?_
  rintro _ hB hxB rfl
  have hxhB := hxA.trans hxB
  have hnB := hxB.1
  have gB : hB.get h.nx = some (.cells [.str T.schema, vv, tv, bo T.trans, bo T.users, bo T.locked, bo T.odd] 25 false) := by rw [hxB.2 _ (by omega)]; exact gA
  by_cases hs : soundP T
  case neg =>
    rw [if_neg hs]
    simp +contextual (disch := first | (simp only [facts, clsL, clsS, clsC, isPtrD]; done) | omega | (simp only [push_nx, put_nx, del_nx]; omega) | (refine Nat.le_antisymm ?_ ?_ <;> simp only [push_nx, put_nx, del_nx] <;> omega) | fail) only [wpy, facts, wpb, cst, wpk, wpl, forall_const, implies_true, false_implies, Int.reduceLE, Int.reduceLT, Nat.reduceLeDiff, UInt8.reduceToNat, ↓reduceIte, Nat.reduceEqDiff, Nat.reduceAdd, reduceCtorEq, Int.reduceToNat, clsL, clsS, clsC, Tryz.f6, n20]
    exact ⟨hxhB, fun q => absurd q.1 hs⟩
  rw [if_pos hs]
  simp +contextual (disch := first | (simp only [facts, clsL, clsS, clsC, isPtrD]; done) | omega | (simp only [push_nx, put_nx, del_nx]; omega) | (refine Nat.le_antisymm ?_ ?_ <;> simp only [push_nx, put_nx, del_nx] <;> omega) | fail) only [wpy, facts, wpb, cst, wpk, wpl, forall_const, implies_true, false_implies, Int.reduceLE, Int.reduceLT, Nat.reduceLeDiff, UInt8.reduceToNat, ↓reduceIte, Nat.reduceEqDiff, Nat.reduceAdd, reduceCtorEq, Int.reduceToNat, clsL, clsS, clsC, Tryz.f6, gB]
  have pk := pinned_spec hS.toStdV T vv tv hB (a2.ext hxB)
  rw [hcs] at pk
  refine callF_pure pk ?_
  rintro _ hC hxC rfl
  have hxhC := hxhB.trans hxC
  have hnC := hxC.1
  have gC : hC.get h.nx = some (.cells [.str T.schema, vv, tv, bo T.trans, bo T.users, bo T.locked, bo T.odd] 25 false) := by rw [hxC.2 _ (by omega)]; exact gB
  by_cases hp : pinP T
  · simp +contextual (disch := first | (simp only [facts, clsL, clsS, clsC, isPtrD]; done) | omega | (simp only [push_nx, put_nx, del_nx]; omega) | (refine Nat.le_antisymm ?_ ?_ <;> simp only [push_nx, put_nx, del_nx] <;> omega) | fail) only [wpy, facts, wpb, cst, wpk, wpl, forall_const, implies_true, false_implies, Int.reduceLE, Int.reduceLT, Nat.reduceLeDiff, UInt8.reduceToNat, ↓reduceIte, Nat.reduceEqDiff, Nat.reduceAdd, reduceCtorEq, Int.reduceToNat, clsL, clsS, clsC, Tryz.f6, hp]
    exact ⟨hxhC, fun q => absurd hp q.2.1⟩
  simp +contextual (disch := first | (simp only [facts, clsL, clsS, clsC, isPtrD]; done) | omega | (simp only [push_nx, put_nx, del_nx]; omega) | (refine Nat.le_antisymm ?_ ?_ <;> simp only [push_nx, put_nx, del_nx] <;> omega) | fail) only [wpyr, facts, wpb, cst, wpk, wpl, forall_const, implies_true, false_implies, Int.reduceLE, Int.reduceLT, Nat.reduceLeDiff, UInt8.reduceToNat, ↓reduceIte, Nat.reduceEqDiff, Nat.reduceAdd, reduceCtorEq, Int.reduceToNat, clsL, clsS, clsC, Tryz.f6, hp]
  refine cond_no (p := False) (by simp +contextual (disch := first | (simp only [facts, clsL, clsS, clsC, isPtrD]; done) | omega | (simp only [push_nx, put_nx, del_nx]; omega) | (refine Nat.le_antisymm ?_ ?_ <;> simp only [push_nx, put_nx, del_nx] <;> omega) | fail) only [wpy, facts, wpb, cst, wpk, wpl, forall_const, implies_true, false_implies, Int.reduceLE, Int.reduceLT, Nat.reduceLeDiff, UInt8.reduceToNat, ↓reduceIte, Nat.reduceEqDiff, Nat.reduceAdd, reduceCtorEq, Int.reduceToNat, clsL, clsS, clsC, hp]) (fun q => q) ?_
  rw [run_skip, kont_seq]
  simp +contextual (disch := first | (simp only [facts, clsL, clsS, clsC, isPtrD]; done) | omega | (simp only [push_nx, put_nx, del_nx]; omega) | (refine Nat.le_antisymm ?_ ?_ <;> simp only [push_nx, put_nx, del_nx] <;> omega) | fail) only [wpyr, facts, wpb, cst, wpk, wpl, forall_const, implies_true, false_implies, Int.reduceLE, Int.reduceLT, Nat.reduceLeDiff, UInt8.reduceToNat, ↓reduceIte, Nat.reduceEqDiff, Nat.reduceAdd, reduceCtorEq, Int.reduceToNat, clsL, clsS, clsC, Tryz.f6, gC]
  refine run_cut (fun env' h' => env' 2 = .ptr h.nx 0 ∧ Ext h h' ∧ h.nx < h'.nx ∧ h'.get h.nx = some (.cells [.str T.schema, vv, tv, bo T.trans, bo T.users, bo T.locked, bo T.odd] 25 false) ∧ ∃ lv, env' 6 = lv ∧ Acc (h.nx + 1) h' lv (ccells (useC T schema)) 55 8) ?_ ?_
  · by_cases hsc : T.schema = schema
    · have hsc' := eq_true hsc
      simp +contextual (disch := first | (simp only [facts, clsL, clsS, clsC, isPtrD]; done) | omega | (simp only [push_nx, put_nx, del_nx]; omega) | (refine Nat.le_antisymm ?_ ?_ <;> simp only [push_nx, put_nx, del_nx] <;> omega) | fail) only [wpy, facts, wpb, cst, wpk, wpl, forall_const, implies_true, false_implies, Int.reduceLE, Int.reduceLT, Nat.reduceLeDiff, UInt8.reduceToNat, ↓reduceIte, Nat.reduceEqDiff, Nat.reduceAdd, reduceCtorEq, Int.reduceToNat, clsL, clsS, clsC, Tryz.f6, hsc']
      unfold useC
      rw [if_pos hsc]
      exact ⟨hxhC, by omega, gC, _, rfl, .inl ⟨rfl, rfl⟩⟩
    · simp +contextual (disch := first | (simp only [facts, clsL, clsS, clsC, isPtrD]; done) | omega | (simp only [push_nx, put_nx, del_nx]; omega) | (refine Nat.le_antisymm ?_ ?_ <;> simp only [push_nx, put_nx, del_nx] <;> omega) | fail) only [wpy, facts, wpb, cst, wpk, wpl, forall_const, implies_true, false_implies, Int.reduceLE, Int.reduceLT, Nat.reduceLeDiff, UInt8.reduceToNat, ↓reduceIte, Nat.reduceEqDiff, Nat.reduceAdd, reduceCtorEq, Int.reduceToNat, clsL, clsS, clsC, Tryz.f6, hsc, gC]
      refine app_cmd (n0 := h.nx + 1) (l := .nilslice) (cs := []) ⟨2, T.schema⟩ ?_ ?_ (.inl ⟨rfl, rfl⟩) (by decide) (fun k hk => by rw [fresh_def]; exact .inl (by omega)) (by omega) ?_
      · simp +contextual (disch := first | (simp only [facts, clsL, clsS, clsC, isPtrD]; done) | omega | (simp only [push_nx, put_nx, del_nx]; omega) | (refine Nat.le_antisymm ?_ ?_ <;> simp only [push_nx, put_nx, del_nx] <;> omega) | fail) only [wpy, facts, wpb, cst, wpk, wpl, forall_const, implies_true, false_implies, Int.reduceLE, Int.reduceLT, Nat.reduceLeDiff, UInt8.reduceToNat, ↓reduceIte, Nat.reduceEqDiff, Nat.reduceAdd, reduceCtorEq, Int.reduceToNat, clsL, clsS, clsC]
      · simp +contextual (disch := first | (simp only [facts, clsL, clsS, clsC, isPtrD]; done) | omega | (simp only [push_nx, put_nx, del_nx]; omega) | (refine Nat.le_antisymm ?_ ?_ <;> simp only [push_nx, put_nx, del_nx] <;> omega) | fail) only [wpy, facts, wpb, cst, wpk, wpl, forall_const, implies_true, false_implies, Int.reduceLE, Int.reduceLT, Nat.reduceLeDiff, UInt8.reduceToNat, ↓reduceIte, Nat.reduceEqDiff, Nat.reduceAdd, reduceCtorEq, Int.reduceToNat, clsL, clsS, clsC]
      intro v h1 L ha hn1 hk1
      have g1 : h1.get h.nx = some (.cells [.str T.schema, vv, tv, bo T.trans, bo T.users, bo T.locked, bo T.odd] 25 false) := by rw [hk1 _ (by omega)]; exact gC
      have hx1 : Ext h h1 := ⟨by omega, fun k hk => by rw [hk1 k (by omega), hxhC.2 k hk]⟩
      simp +contextual (disch := first | (simp only [facts, clsL, clsS, clsC, isPtrD]; done) | omega | (simp only [push_nx, put_nx, del_nx]; omega) | (refine Nat.le_antisymm ?_ ?_ <;> simp only [push_nx, put_nx, del_nx] <;> omega) | fail) only [wpy, facts, wpb, cst, wpk, wpl, forall_const, implies_true, false_implies, Int.reduceLE, Int.reduceLT, Nat.reduceLeDiff, UInt8.reduceToNat, ↓reduceIte, Nat.reduceEqDiff, Nat.reduceAdd, reduceCtorEq, Int.reduceToNat, clsL, clsS, clsC, Tryz.f6]
      unfold useC
      rw [if_neg hsc]
      exact ⟨hx1, by omega, g1, _, rfl, ha⟩
  rintro env' hD ⟨e2, hxD, hnD, gD, lv, e6, haD⟩
  have a3 := a.ext hxD
  have hl2 := a.vars.len 57
  have hul := useC_len T schema
  have hup := ccells_len (useC T schema)
  simp +contextual (disch := first | (simp only [facts, clsL, clsS, clsC, isPtrD]; done) | omega | (simp only [push_nx, put_nx, del_nx]; omega) | (refine Nat.le_antisymm ?_ ?_ <;> simp only [push_nx, put_nx, del_nx] <;> omega) | fail) only [wpy, facts, wpb, cst, wpk, wpl, forall_const, implies_true, false_implies, Int.reduceLE, Int.reduceLT, Nat.reduceLeDiff, UInt8.reduceToNat, ↓reduceIte, Nat.reduceEqDiff, Nat.reduceAdd, reduceCtorEq, Int.reduceToNat, clsL, clsS, clsC, Tryz.f6, e2, e6, gD, hl2]
  refine run_loop (fun k env h' => ∃ i : Nat, k = T.vars.length - i ∧ i ≤ T.vars.length ∧ (∀ j, j < i → ¬ longV (T.vars.getD j ([], []))) ∧ env 29 = vv ∧ env 30 = .int .i64 T.vars.length ∧ env 31 = .int .i64 i ∧ Ext h h' ∧ ∃ lv, env 6 = lv ∧ Acc (h.nx + 1) h' lv (ccells (useC T schema ++ (T.vars.take i).map setC)) 55 8 ∧ h.nx < h'.nx) T.vars.length ⟨0, ?_⟩ ?_
  · simp +contextual (disch := first | (simp only [facts, clsL, clsS, clsC, isPtrD]; done) | omega | (simp only [push_nx, put_nx, del_nx]; omega) | (refine Nat.le_antisymm ?_ ?_ <;> simp only [push_nx, put_nx, del_nx] <;> omega) | fail) only [wpy, facts, wpb, cst, wpk, wpl, forall_const, implies_true, false_implies, Int.reduceLE, Int.reduceLT, Nat.reduceLeDiff, UInt8.reduceToNat, ↓reduceIte, Nat.reduceEqDiff, Nat.reduceAdd, reduceCtorEq, Int.reduceToNat, clsL, clsS, clsC, e6]
    exact ⟨by omega, fun j hj => by omega, hxD, _, rfl, by simpa using haD, hnD⟩
  clear e2 e6 gD haD hnD hxD a3
  rintro k env1 h1 ⟨i, rfl, hi, hlg, e29, e30, e31, hx1, lv1, e6, ha1, hn1⟩
  obtain ⟨d1, d2⟩ := ha1.cell
  by_cases hi2 : i < T.vars.length
  · obtain ⟨b, o, m, rfl⟩ := a.vars.at (by omega)
    have a3 := (a.ext hx1).vars
    have hbh := a.vars.blk rfl
    obtain ⟨_, hb, hr1, hr2⟩ := a3.rd
    have hcl := vcells_len T.vars
    obtain ⟨k1, k2, k3⟩ := vcells_at hi2
    have r2 := hr2 (i * 2) 2 (by rw [hcl]; omega)
    rw [k3] at r2
    have q1 : ¬ b = h1.nx := by omega
    have hlv : longV (T.vars.getD i ([], [])) = (1000 < (T.vars.getD i ([], [])).1.length ∨ 1000 < (T.vars.getD i ([], [])).2.length) := rfl
    have hst : (T.vars.take (i + 1)).map setC = (T.vars.take i).map setC ++ [⟨3, anewF (T.vars.getD i ([], [])).1 (T.vars.getD i ([], [])).2⟩] := by
      rw [List.take_succ_eq_append_getElem hi2, List.map_append, List.getD_eq_getElem?_getD, List.getElem?_eq_getElem hi2]
      rfl
    generalize hnm : (T.vars.getD i ([], [])).1 = nm at *
    generalize hvl : (T.vars.getD i ([], [])).2 = vl at *
    by_cases hlong : 1000 < nm.length ∨ 1000 < vl.length
    · have hnp : ¬ planP T := fun q => q.2.2 i hi2 (by rw [hlv]; exact hlong)
      by_cases h5 : 1000 < nm.length
      · simp +contextual (disch := first | (simp only [facts, clsL, clsS, clsC, isPtrD]; done) | omega | (simp only [push_nx, put_nx, del_nx]; omega) | (refine Nat.le_antisymm ?_ ?_ <;> simp only [push_nx, put_nx, del_nx] <;> omega) | fail) only [wpy, facts, wpb, cst, wpk, wpl, forall_const, implies_true, false_implies, Int.reduceLE, Int.reduceLT, Nat.reduceLeDiff, UInt8.reduceToNat, ↓reduceIte, Nat.reduceEqDiff, Nat.reduceAdd, reduceCtorEq, Int.reduceToNat, clsL, clsS, clsC, Tryz.f6, e29, e30, e31, e6, hi2, r2, q1, h5]
        exact ⟨.inr (by omega), hx1.trans (Ext.new _ _ _), fun q => absurd q hnp⟩
      · have h6 : 1000 < vl.length := hlong.elim (fun q => absurd q h5) id
        simp +contextual (disch := first | (simp only [facts, clsL, clsS, clsC, isPtrD]; done) | omega | (simp only [push_nx, put_nx, del_nx]; omega) | (refine Nat.le_antisymm ?_ ?_ <;> simp only [push_nx, put_nx, del_nx] <;> omega) | fail) only [wpy, facts, wpb, cst, wpk, wpl, forall_const, implies_true, false_implies, Int.reduceLE, Int.reduceLT, Nat.reduceLeDiff, UInt8.reduceToNat, ↓reduceIte, Nat.reduceEqDiff, Nat.reduceAdd, reduceCtorEq, Int.reduceToNat, clsL, clsS, clsC, Tryz.f6, e29, e30, e31, e6, hi2, r2, q1, h5, h6]
        exact ⟨.inr (by omega), hx1.trans (Ext.new _ _ _), fun q => absurd q hnp⟩
    · have h5 : ¬ 1000 < nm.length := fun q => hlong (.inl q)
      have h6 : ¬ 1000 < vl.length := fun q => hlong (.inr q)
      simp +contextual (disch := first | (simp only [facts, clsL, clsS, clsC, isPtrD]; done) | omega | (simp only [push_nx, put_nx, del_nx]; omega) | (refine Nat.le_antisymm ?_ ?_ <;> simp only [push_nx, put_nx, del_nx] <;> omega) | fail) only [wpy, facts, wpb, cst, wpk, wpl, forall_const, implies_true, false_implies, Int.reduceLE, Int.reduceLT, Nat.reduceLeDiff, UInt8.reduceToNat, ↓reduceIte, Nat.reduceEqDiff, Nat.reduceAdd, reduceCtorEq, Int.reduceToNat, clsL, clsS, clsC, Tryz.f6, e29, e30, e31, e6, hi2, r2, q1, h5, h6]
      refine ⟨.inr (by omega), callF_pure (anew_spec hS.toStdT nm vl _ (by omega) (by omega)) ?_⟩
      rintro _ h2 hx2 rfl
      have hx12 : Ext h1 h2 := (Ext.new _ _ _).trans hx2
      have hn2 := hx12.1
      simp +contextual (disch := first | (simp only [facts, clsL, clsS, clsC, isPtrD]; done) | omega | (simp only [push_nx, put_nx, del_nx]; omega) | (refine Nat.le_antisymm ?_ ?_ <;> simp only [push_nx, put_nx, del_nx] <;> omega) | fail) only [wpy, facts, wpb, cst, wpk, wpl, forall_const, implies_true, false_implies, Int.reduceLE, Int.reduceLT, Nat.reduceLeDiff, UInt8.reduceToNat, ↓reduceIte, Nat.reduceEqDiff, Nat.reduceAdd, reduceCtorEq, Int.reduceToNat, clsL, clsS, clsC, Tryz.f6, d1, d2]
      refine app_cmd (n0 := h.nx + 1) (l := lv1) (cs := useC T schema ++ (T.vars.take i).map setC) ⟨3, anewF nm vl⟩ ?_ ?_ (ha1.ext hx12) ?_ (fun k hk => by rw [fresh_def]; exact .inl (by omega)) (by omega) ?_
      · simp +contextual (disch := first | (simp only [facts, clsL, clsS, clsC, isPtrD]; done) | omega | (simp only [push_nx, put_nx, del_nx]; omega) | (refine Nat.le_antisymm ?_ ?_ <;> simp only [push_nx, put_nx, del_nx] <;> omega) | fail) only [wpy, facts, wpb, cst, wpk, wpl, forall_const, implies_true, false_implies, Int.reduceLE, Int.reduceLT, Nat.reduceLeDiff, UInt8.reduceToNat, ↓reduceIte, Nat.reduceEqDiff, Nat.reduceAdd, reduceCtorEq, Int.reduceToNat, clsL, clsS, clsC, e6]
      · simp +contextual (disch := first | (simp only [facts, clsL, clsS, clsC, isPtrD]; done) | omega | (simp only [push_nx, put_nx, del_nx]; omega) | (refine Nat.le_antisymm ?_ ?_ <;> simp only [push_nx, put_nx, del_nx] <;> omega) | fail) only [wpy, facts, wpb, cst, wpk, wpl, forall_const, implies_true, false_implies, Int.reduceLE, Int.reduceLT, Nat.reduceLeDiff, UInt8.reduceToNat, ↓reduceIte, Nat.reduceEqDiff, Nat.reduceAdd, reduceCtorEq, Int.reduceToNat, clsL, clsS, clsC]
      · rw [List.length_append, List.length_map, List.length_take]; omega
      intro v h3 L ha hn3 hk3
      simp +contextual (disch := first | (simp only [facts, clsL, clsS, clsC, isPtrD]; done) | omega | (simp only [push_nx, put_nx, del_nx]; omega) | (refine Nat.le_antisymm ?_ ?_ <;> simp only [push_nx, put_nx, del_nx] <;> omega) | fail) only [wpy, facts, wpb, cst, wpk, wpl, forall_const, implies_true, false_implies, Int.reduceLE, Int.reduceLT, Nat.reduceLeDiff, UInt8.reduceToNat, ↓reduceIte, Nat.reduceEqDiff, Nat.reduceAdd, reduceCtorEq, Int.reduceToNat, clsL, clsS, clsC, Tryz.f6, e29, e30, e31, hi2]
      refine ⟨_, by omega, i + 1, rfl, by omega, ?_, rfl, ⟨by omega, fun k hk => by rw [hk3 k (by omega), hx12.2 k (by omega), hx1.2 k hk]⟩, _, rfl, ?_, by omega⟩
      · intro j hj
        by_cases e : j = i
        · rw [e, hlv]; exact hlong
        · exact hlg j (by omega)
      · rw [hst, ← List.append_assoc]; exact ha
  · have hin : i = T.vars.length := by omega
    subst hin
    rw [List.take_length] at ha1
    have hpp : planP T := ⟨hs, hp, hlg⟩
    simp +contextual (disch := first | (simp only [facts, clsL, clsS, clsC, isPtrD]; done) | omega | (simp only [push_nx, put_nx, del_nx]; omega) | (refine Nat.le_antisymm ?_ ?_ <;> simp only [push_nx, put_nx, del_nx] <;> omega) | fail) only [wpy, facts, wpb, cst, wpk, wpl, forall_const, implies_true, false_implies, Int.reduceLE, Int.reduceLT, Nat.reduceLeDiff, UInt8.reduceToNat, ↓reduceIte, Nat.reduceEqDiff, Nat.reduceAdd, reduceCtorEq, Int.reduceToNat, clsL, clsS, clsC, Tryz.f6, e29, e30, e31, e6, hi2]
    exact ⟨hx1, fun _ => ⟨lv1, rfl, ha1.mono (by omega)⟩, fun q => absurd hpp q⟩
theorem xplan_spec (T : TK) (vv tv : V) (schema : List Nat) (h : H) (a : TR h T vv tv) (hv : T.vars.length < 2 ^ 16) (ht : T.temps.length < 2 ^ 30) (hby : ∀ x ∈ T.vars, Bytes x.1 ∧ Bytes x.2) : Pure S.cfg 7 [.agg (T.cells vv tv), .str schema] h fun w h' => (planP T → ∃ lv, w = .tuple [lv, .int .i64 0] ∧ Acc h.nx h' lv (ccells (planL T schema)) 55 8) ∧ (¬ planP T → w = .tuple [.nilslice, .int .i64 2]) := by
  refine into Tryz.f7 _ Tryz.func7 (hS.ownW _ (by decide)) rfl rfl (by kernel_rfl) (by kernel_rfl) ?_
  obtain ⟨c1, c2⟩ := a.vars.cell
  obtain ⟨c3, c4⟩ := a.temps.cell
  have hcs : T.cells vv tv = [.str T.schema, vv, tv, bo T.trans, bo T.users, bo T.locked, bo T.odd] := rfl
  rw [hcs]
  simp +contextual (disch := first | (simp only [facts, clsL, clsS, clsC, isPtrD]; done) | omega | (simp only [push_nx, put_nx, del_nx]; omega) | (refine Nat.le_antisymm ?_ ?_ <;> simp only [push_nx, put_nx, del_nx] <;> omega) | fail) only [wpy, facts, wpb, cst, wpk, wpl, forall_const, implies_true, false_implies, Int.reduceLE, Int.reduceLT, Nat.reduceLeDiff, UInt8.reduceToNat, ↓reduceIte, Nat.reduceEqDiff, Nat.reduceAdd, reduceCtorEq, Int.reduceToNat, clsL, clsS, clsC, Tryz.f7, c1, c2, c3, c4]
  generalize hhA : H.push h _ = hA
  have hxA : Ext h hA := by rw [← hhA]; exact (Ext.refl h).push _
  have gA : hA.get h.nx = some (.cells [.str T.schema, vv, tv, bo T.trans, bo T.users, bo T.locked, bo T.odd] 25 false) := by rw [← hhA]; exact push_eq rfl
  have hnA : hA.nx = h.nx + 1 := by rw [← hhA]; rfl
  clear hhA
  have a2 := a.ext hxA
  have ck := xcheck_spec hS.toStdV T vv tv hA a2 (by omega) ht
  rw [hcs] at ck
  refine callF_pure ck ?_
  rintro _ hB hxB rfl
  have hxhB := hxA.trans hxB
  have hnB := hxB.1
  have gB : hB.get h.nx = some (.cells [.str T.schema, vv, tv, bo T.trans, bo T.users, bo T.locked, bo T.odd] 25 false) := by rw [hxB.2 _ (by omega)]; exact gA
  by_cases hs : soundP T
  case neg =>
    rw [if_neg hs]
    simp +contextual (disch := first | (simp only [facts, clsL, clsS, clsC, isPtrD]; done) | omega | (simp only [push_nx, put_nx, del_nx]; omega) | (refine Nat.le_antisymm ?_ ?_ <;> simp only [push_nx, put_nx, del_nx] <;> omega) | fail) only [wpy, facts, wpb, cst, wpk, wpl, forall_const, implies_true, false_implies, Int.reduceLE, Int.reduceLT, Nat.reduceLeDiff, UInt8.reduceToNat, ↓reduceIte, Nat.reduceEqDiff, Nat.reduceAdd, reduceCtorEq, Int.reduceToNat, clsL, clsS, clsC, Tryz.f7, n20]
    exact ⟨hxhB, fun q => absurd q.1 hs⟩
  rw [if_pos hs]
  simp +contextual (disch := first | (simp only [facts, clsL, clsS, clsC, isPtrD]; done) | omega | (simp only [push_nx, put_nx, del_nx]; omega) | (refine Nat.le_antisymm ?_ ?_ <;> simp only [push_nx, put_nx, del_nx] <;> omega) | fail) only [wpy, facts, wpb, cst, wpk, wpl, forall_const, implies_true, false_implies, Int.reduceLE, Int.reduceLT, Nat.reduceLeDiff, UInt8.reduceToNat, ↓reduceIte, Nat.reduceEqDiff, Nat.reduceAdd, reduceCtorEq, Int.reduceToNat, clsL, clsS, clsC, Tryz.f7, gB]
  have pk := xpinned_spec hS.toStdV T vv tv hB (a2.ext hxB)
  rw [hcs] at pk
  refine callF_pure pk ?_
  rintro _ hC hxC rfl
  have hxhC := hxhB.trans hxC
  have hnC := hxC.1
  have gC : hC.get h.nx = some (.cells [.str T.schema, vv, tv, bo T.trans, bo T.users, bo T.locked, bo T.odd] 25 false) := by rw [hxC.2 _ (by omega)]; exact gB
  by_cases hp : pinP T
  · simp +contextual (disch := first | (simp only [facts, clsL, clsS, clsC, isPtrD]; done) | omega | (simp only [push_nx, put_nx, del_nx]; omega) | (refine Nat.le_antisymm ?_ ?_ <;> simp only [push_nx, put_nx, del_nx] <;> omega) | fail) only [wpy, facts, wpb, cst, wpk, wpl, forall_const, implies_true, false_implies, Int.reduceLE, Int.reduceLT, Nat.reduceLeDiff, UInt8.reduceToNat, ↓reduceIte, Nat.reduceEqDiff, Nat.reduceAdd, reduceCtorEq, Int.reduceToNat, clsL, clsS, clsC, Tryz.f7, hp]
    exact ⟨hxhC, fun q => absurd hp q.2.1⟩
  simp +contextual (disch := first | (simp only [facts, clsL, clsS, clsC, isPtrD]; done) | omega | (simp only [push_nx, put_nx, del_nx]; omega) | (refine Nat.le_antisymm ?_ ?_ <;> simp only [push_nx, put_nx, del_nx] <;> omega) | fail) only [wpyr, facts, wpb, cst, wpk, wpl, forall_const, implies_true, false_implies, Int.reduceLE, Int.reduceLT, Nat.reduceLeDiff, UInt8.reduceToNat, ↓reduceIte, Nat.reduceEqDiff, Nat.reduceAdd, reduceCtorEq, Int.reduceToNat, clsL, clsS, clsC, Tryz.f7, hp]
  refine cond_no (p := False) (by simp +contextual (disch := first | (simp only [facts, clsL, clsS, clsC, isPtrD]; done) | omega | (simp only [push_nx, put_nx, del_nx]; omega) | (refine Nat.le_antisymm ?_ ?_ <;> simp only [push_nx, put_nx, del_nx] <;> omega) | fail) only [wpy, facts, wpb, cst, wpk, wpl, forall_const, implies_true, false_implies, Int.reduceLE, Int.reduceLT, Nat.reduceLeDiff, UInt8.reduceToNat, ↓reduceIte, Nat.reduceEqDiff, Nat.reduceAdd, reduceCtorEq, Int.reduceToNat, clsL, clsS, clsC, hp]) (fun q => q) ?_
  rw [run_skip, kont_seq]
  simp +contextual (disch := first | (simp only [facts, clsL, clsS, clsC, isPtrD]; done) | omega | (simp only [push_nx, put_nx, del_nx]; omega) | (refine Nat.le_antisymm ?_ ?_ <;> simp only [push_nx, put_nx, del_nx] <;> omega) | fail) only [wpyr, facts, wpb, cst, wpk, wpl, forall_const, implies_true, false_implies, Int.reduceLE, Int.reduceLT, Nat.reduceLeDiff, UInt8.reduceToNat, ↓reduceIte, Nat.reduceEqDiff, Nat.reduceAdd, reduceCtorEq, Int.reduceToNat, clsL, clsS, clsC, Tryz.f7, gC]
  refine run_cut (fun env' h' => env' 2 = .ptr h.nx 0 ∧ Ext h h' ∧ h.nx < h'.nx ∧ h'.get h.nx = some (.cells [.str T.schema, vv, tv, bo T.trans, bo T.users, bo T.locked, bo T.odd] 25 false) ∧ ∃ lv, env' 6 = lv ∧ Acc (h.nx + 1) h' lv (ccells (useC T schema)) 55 8) ?_ ?_
  · by_cases hsc : T.schema = schema
    · have hsc' := eq_true hsc
      simp +contextual (disch := first | (simp only [facts, clsL, clsS, clsC, isPtrD]; done) | omega | (simp only [push_nx, put_nx, del_nx]; omega) | (refine Nat.le_antisymm ?_ ?_ <;> simp only [push_nx, put_nx, del_nx] <;> omega) | fail) only [wpy, facts, wpb, cst, wpk, wpl, forall_const, implies_true, false_implies, Int.reduceLE, Int.reduceLT, Nat.reduceLeDiff, UInt8.reduceToNat, ↓reduceIte, Nat.reduceEqDiff, Nat.reduceAdd, reduceCtorEq, Int.reduceToNat, clsL, clsS, clsC, Tryz.f7, hsc']
      unfold useC
      rw [if_pos hsc]
      exact ⟨hxhC, by omega, gC, _, rfl, .inl ⟨rfl, rfl⟩⟩
    · simp +contextual (disch := first | (simp only [facts, clsL, clsS, clsC, isPtrD]; done) | omega | (simp only [push_nx, put_nx, del_nx]; omega) | (refine Nat.le_antisymm ?_ ?_ <;> simp only [push_nx, put_nx, del_nx] <;> omega) | fail) only [wpy, facts, wpb, cst, wpk, wpl, forall_const, implies_true, false_implies, Int.reduceLE, Int.reduceLT, Nat.reduceLeDiff, UInt8.reduceToNat, ↓reduceIte, Nat.reduceEqDiff, Nat.reduceAdd, reduceCtorEq, Int.reduceToNat, clsL, clsS, clsC, Tryz.f7, hsc, gC]
      refine app_cmd (n0 := h.nx + 1) (l := .nilslice) (cs := []) ⟨2, T.schema⟩ ?_ ?_ (.inl ⟨rfl, rfl⟩) (by decide) (fun k hk => by rw [fresh_def]; exact .inl (by omega)) (by omega) ?_
      · simp +contextual (disch := first | (simp only [facts, clsL, clsS, clsC, isPtrD]; done) | omega | (simp only [push_nx, put_nx, del_nx]; omega) | (refine Nat.le_antisymm ?_ ?_ <;> simp only [push_nx, put_nx, del_nx] <;> omega) | fail) only [wpy, facts, wpb, cst, wpk, wpl, forall_const, implies_true, false_implies, Int.reduceLE, Int.reduceLT, Nat.reduceLeDiff, UInt8.reduceToNat, ↓reduceIte, Nat.reduceEqDiff, Nat.reduceAdd, reduceCtorEq, Int.reduceToNat, clsL, clsS, clsC]
      · simp +contextual (disch := first | (simp only [facts, clsL, clsS, clsC, isPtrD]; done) | omega | (simp only [push_nx, put_nx, del_nx]; omega) | (refine Nat.le_antisymm ?_ ?_ <;> simp only [push_nx, put_nx, del_nx] <;> omega) | fail) only [wpy, facts, wpb, cst, wpk, wpl, forall_const, implies_true, false_implies, Int.reduceLE, Int.reduceLT, Nat.reduceLeDiff, UInt8.reduceToNat, ↓reduceIte, Nat.reduceEqDiff, Nat.reduceAdd, reduceCtorEq, Int.reduceToNat, clsL, clsS, clsC]
      intro v h1 L ha hn1 hk1
      have g1 : h1.get h.nx = some (.cells [.str T.schema, vv, tv, bo T.trans, bo T.users, bo T.locked, bo T.odd] 25 false) := by rw [hk1 _ (by omega)]; exact gC
      have hx1 : Ext h h1 := ⟨by omega, fun k hk => by rw [hk1 k (by omega), hxhC.2 k hk]⟩
      simp +contextual (disch := first | (simp only [facts, clsL, clsS, clsC, isPtrD]; done) | omega | (simp only [push_nx, put_nx, del_nx]; omega) | (refine Nat.le_antisymm ?_ ?_ <;> simp only [push_nx, put_nx, del_nx] <;> omega) | fail) only [wpy, facts, wpb, cst, wpk, wpl, forall_const, implies_true, false_implies, Int.reduceLE, Int.reduceLT, Nat.reduceLeDiff, UInt8.reduceToNat, ↓reduceIte, Nat.reduceEqDiff, Nat.reduceAdd, reduceCtorEq, Int.reduceToNat, clsL, clsS, clsC, Tryz.f7]
      unfold useC
      rw [if_neg hsc]
      exact ⟨hx1, by omega, g1, _, rfl, ha⟩
  rintro env' hD ⟨e2, hxD, hnD, gD, lv, e6, haD⟩
  have a3 := a.ext hxD
  have hl2 := a.vars.len 57
  have hul := useC_len T schema
  have hup := ccells_len (useC T schema)
  simp +contextual (disch := first | (simp only [facts, clsL, clsS, clsC, isPtrD]; done) | omega | (simp only [push_nx, put_nx, del_nx]; omega) | (refine Nat.le_antisymm ?_ ?_ <;> simp only [push_nx, put_nx, del_nx] <;> omega) | fail) only [wpy, facts, wpb, cst, wpk, wpl, forall_const, implies_true, false_implies, Int.reduceLE, Int.reduceLT, Nat.reduceLeDiff, UInt8.reduceToNat, ↓reduceIte, Nat.reduceEqDiff, Nat.reduceAdd, reduceCtorEq, Int.reduceToNat, clsL, clsS, clsC, Tryz.f7, e2, e6, gD, hl2]
  refine run_loop (fun k env h' => ∃ i : Nat, k = T.vars.length - i ∧ i ≤ T.vars.length ∧ (∀ j, j < i → ¬ longV (T.vars.getD j ([], []))) ∧ env 2 = .ptr h.nx 0 ∧ env 7 = .int .i64 i ∧ Ext h h' ∧ h'.get h.nx = some (.cells [.str T.schema, vv, tv, bo T.trans, bo T.users, bo T.locked, bo T.odd] 25 false) ∧ ∃ lv, env 6 = lv ∧ Acc (h.nx + 1) h' lv (ccells (useC T schema ++ (T.vars.take i).map setC)) 55 8 ∧ h.nx < h'.nx) T.vars.length ⟨0, ?_⟩ ?_
  · simp +contextual (disch := first | (simp only [facts, clsL, clsS, clsC, isPtrD]; done) | omega | (simp only [push_nx, put_nx, del_nx]; omega) | (refine Nat.le_antisymm ?_ ?_ <;> simp only [push_nx, put_nx, del_nx] <;> omega) | fail) only [wpy, facts, wpb, cst, wpk, wpl, forall_const, implies_true, false_implies, Int.reduceLE, Int.reduceLT, Nat.reduceLeDiff, UInt8.reduceToNat, ↓reduceIte, Nat.reduceEqDiff, Nat.reduceAdd, reduceCtorEq, Int.reduceToNat, clsL, clsS, clsC, e2, e6]
    exact ⟨rfl, fun j hj => by omega, hxD, gD, _, rfl, by simpa using haD, hnD⟩
  clear e2 e6 gD haD hnD hxD a3
  rintro k env1 h1 ⟨i, rfl, hi, hlg, e2, e7, hx1, gD, lv1, e6, ha1, hn1⟩
  obtain ⟨d1, d2⟩ := ha1.cell
  by_cases hi2 : i < T.vars.length
  · obtain ⟨b, o, m, rfl⟩ := a.vars.at (by omega)
    have a3 := (a.ext hx1).vars
    have hbh := a.vars.blk rfl
    obtain ⟨_, hb, hr1, hr2⟩ := a3.rd
    have hcl := vcells_len T.vars
    obtain ⟨k1, k2, k3⟩ := vcells_at hi2
    have r2 := hr2 (i * 2) 2 (by rw [hcl]; omega)
    rw [k3] at r2
    have q1 : ¬ b = h1.nx := by omega
    have q2 : ¬ h.nx = h1.nx := by omega
    have hlv : longV (T.vars.getD i ([], [])) = (1000 < (T.vars.getD i ([], [])).1.length ∨ 1000 < (T.vars.getD i ([], [])).2.length) := rfl
    have hst : (T.vars.take (i + 1)).map setC = (T.vars.take i).map setC ++ [⟨3, anewF (T.vars.getD i ([], [])).1 (T.vars.getD i ([], [])).2⟩] := by
      rw [List.take_succ_eq_append_getElem hi2, List.map_append, List.getD_eq_getElem?_getD, List.getElem?_eq_getElem hi2]
      rfl
    have hb12 : Bytes (T.vars.getD i ([], [])).1 ∧ Bytes (T.vars.getD i ([], [])).2 := by
      rw [List.getD_eq_getElem?_getD, List.getElem?_eq_getElem hi2]
      exact hby _ (List.getElem_mem hi2)
    generalize hnm : (T.vars.getD i ([], [])).1 = nm at *
    generalize hvl : (T.vars.getD i ([], [])).2 = vl at *
    by_cases hlong : 1000 < nm.length ∨ 1000 < vl.length
    · have hnp : ¬ planP T := fun q => q.2.2 i hi2 (by rw [hlv]; exact hlong)
      by_cases h5 : 1000 < nm.length
      · simp +contextual (disch := first | (simp only [facts, clsL, clsS, clsC, isPtrD]; done) | omega | (simp only [push_nx, put_nx, del_nx]; omega) | (refine Nat.le_antisymm ?_ ?_ <;> simp only [push_nx, put_nx, del_nx] <;> omega) | fail) only [wpy, facts, wpb, cst, wpk, wpl, forall_const, implies_true, false_implies, Int.reduceLE, Int.reduceLT, Nat.reduceLeDiff, UInt8.reduceToNat, ↓reduceIte, Nat.reduceEqDiff, Nat.reduceAdd, reduceCtorEq, Int.reduceToNat, clsL, clsS, clsC, Tryz.f7, e2, e7, e6, gD, hl2, hi2, r2, q1, h5]
        exact ⟨.inr (by omega), hx1.trans (Ext.new _ _ _), fun q => absurd q hnp⟩
      · have h6 : 1000 < vl.length := hlong.elim (fun q => absurd q h5) id
        simp +contextual (disch := first | (simp only [facts, clsL, clsS, clsC, isPtrD]; done) | omega | (simp only [push_nx, put_nx, del_nx]; omega) | (refine Nat.le_antisymm ?_ ?_ <;> simp only [push_nx, put_nx, del_nx] <;> omega) | fail) only [wpy, facts, wpb, cst, wpk, wpl, forall_const, implies_true, false_implies, Int.reduceLE, Int.reduceLT, Nat.reduceLeDiff, UInt8.reduceToNat, ↓reduceIte, Nat.reduceEqDiff, Nat.reduceAdd, reduceCtorEq, Int.reduceToNat, clsL, clsS, clsC, Tryz.f7, e2, e7, e6, gD, hl2, hi2, r2, q1, h5, h6]
        exact ⟨.inr (by omega), hx1.trans (Ext.new _ _ _), fun q => absurd q hnp⟩
    · have h5 : ¬ 1000 < nm.length := fun q => hlong (.inl q)
      have h6 : ¬ 1000 < vl.length := fun q => hlong (.inr q)
      simp +contextual (disch := first | (simp only [facts, clsL, clsS, clsC, isPtrD]; done) | omega | (simp only [push_nx, put_nx, del_nx]; omega) | (refine Nat.le_antisymm ?_ ?_ <;> simp only [push_nx, put_nx, del_nx] <;> omega) | fail) only [wpy, facts, wpb, cst, wpk, wpl, forall_const, implies_true, false_implies, Int.reduceLE, Int.reduceLT, Nat.reduceLeDiff, UInt8.reduceToNat, ↓reduceIte, Nat.reduceEqDiff, Nat.reduceAdd, reduceCtorEq, Int.reduceToNat, clsL, clsS, clsC, Tryz.f7, e2, e7, e6, gD, hl2, hi2, r2, q1, h5, h6]
      refine ⟨.inr (by omega), callF_pure (xanew_spec hS.toStdT nm vl _ (by omega) (by omega) hb12.1 hb12.2) ?_⟩
      rintro _ h2 hx2 rfl
      have hx12 : Ext h1 h2 := (Ext.new _ _ _).trans hx2
      have hn2 := hx12.1
      simp +contextual (disch := first | (simp only [facts, clsL, clsS, clsC, isPtrD]; done) | omega | (simp only [push_nx, put_nx, del_nx]; omega) | (refine Nat.le_antisymm ?_ ?_ <;> simp only [push_nx, put_nx, del_nx] <;> omega) | fail) only [wpy, facts, wpb, cst, wpk, wpl, forall_const, implies_true, false_implies, Int.reduceLE, Int.reduceLT, Nat.reduceLeDiff, UInt8.reduceToNat, ↓reduceIte, Nat.reduceEqDiff, Nat.reduceAdd, reduceCtorEq, Int.reduceToNat, clsL, clsS, clsC, Tryz.f7, d1, d2]
      refine app_cmd (n0 := h.nx + 1) (l := lv1) (cs := useC T schema ++ (T.vars.take i).map setC) ⟨3, anewF nm vl⟩ ?_ ?_ (ha1.ext hx12) ?_ (fun k hk => by rw [fresh_def]; exact .inl (by omega)) (by omega) ?_
      · simp +contextual (disch := first | (simp only [facts, clsL, clsS, clsC, isPtrD]; done) | omega | (simp only [push_nx, put_nx, del_nx]; omega) | (refine Nat.le_antisymm ?_ ?_ <;> simp only [push_nx, put_nx, del_nx] <;> omega) | fail) only [wpy, facts, wpb, cst, wpk, wpl, forall_const, implies_true, false_implies, Int.reduceLE, Int.reduceLT, Nat.reduceLeDiff, UInt8.reduceToNat, ↓reduceIte, Nat.reduceEqDiff, Nat.reduceAdd, reduceCtorEq, Int.reduceToNat, clsL, clsS, clsC, e6]
      · simp +contextual (disch := first | (simp only [facts, clsL, clsS, clsC, isPtrD]; done) | omega | (simp only [push_nx, put_nx, del_nx]; omega) | (refine Nat.le_antisymm ?_ ?_ <;> simp only [push_nx, put_nx, del_nx] <;> omega) | fail) only [wpy, facts, wpb, cst, wpk, wpl, forall_const, implies_true, false_implies, Int.reduceLE, Int.reduceLT, Nat.reduceLeDiff, UInt8.reduceToNat, ↓reduceIte, Nat.reduceEqDiff, Nat.reduceAdd, reduceCtorEq, Int.reduceToNat, clsL, clsS, clsC]
      · rw [List.length_append, List.length_map, List.length_take]; omega
      intro v h3 L ha hn3 hk3
      simp +contextual (disch := first | (simp only [facts, clsL, clsS, clsC, isPtrD]; done) | omega | (simp only [push_nx, put_nx, del_nx]; omega) | (refine Nat.le_antisymm ?_ ?_ <;> simp only [push_nx, put_nx, del_nx] <;> omega) | fail) only [wpy, facts, wpb, cst, wpk, wpl, forall_const, implies_true, false_implies, Int.reduceLE, Int.reduceLT, Nat.reduceLeDiff, UInt8.reduceToNat, ↓reduceIte, Nat.reduceEqDiff, Nat.reduceAdd, reduceCtorEq, Int.reduceToNat, clsL, clsS, clsC, Tryz.f7, e2, e7, hi2]
      refine ⟨_, by omega, i + 1, rfl, by omega, ?_, rfl, ⟨by omega, fun k hk => by rw [hk3 k (by omega), hx12.2 k (by omega), hx1.2 k hk]⟩, by rw [hk3 _ (by omega), hx12.2 _ (by omega)]; exact gD, _, rfl, ?_, by omega⟩
      · intro j hj
        by_cases e : j = i
        · rw [e, hlv]; exact hlong
        · exact hlg j (by omega)
      · rw [hst, ← List.append_assoc]; exact ha
  · have hin : i = T.vars.length := by omega
    subst hin
    rw [List.take_length] at ha1
    have hpp : planP T := ⟨hs, hp, hlg⟩
    simp +contextual (disch := first | (simp only [facts, clsL, clsS, clsC, isPtrD]; done) | omega | (simp only [push_nx, put_nx, del_nx]; omega) | (refine Nat.le_antisymm ?_ ?_ <;> simp only [push_nx, put_nx, del_nx] <;> omega) | fail) only [wpy, facts, wpb, cst, wpk, wpl, forall_const, implies_true, false_implies, Int.reduceLE, Int.reduceLT, Nat.reduceLeDiff, UInt8.reduceToNat, ↓reduceIte, Nat.reduceEqDiff, Nat.reduceAdd, reduceCtorEq, Int.reduceToNat, clsL, clsS, clsC, Tryz.f7, e2, e7, e6, gD, hl2, hi2]
    exact ⟨hx1, fun _ => ⟨lv1, rfl, ha1.mono (by omega)⟩, fun q => absurd hpp q⟩
end
noncomputable section
def txtK (c : CM) : Prop := c.kind = 2 ∨ c.kind = 3
structure StdX (S : Set0) : Prop extends StdW S where
  ownX : ∀ f, f ∈ [31, 33, 44, 46, 48, 49, 70, 28, 29, 42, 43] → sums S.exts f = none
def neededP (c : Int) : Prop := iAnd .u32 c 565760 = 565760
variable {S : Set0} (hS : StdX S)
include hS
theorem needed_spec (h : H) : Exact S.cfg 42 [] h (.int .u32 565760) := by
  refine into Tryz.f42 _ Tryz.func42 (hS.ownX _ (by decide)) rfl rfl (by kernel_rfl) (by kernel_rfl) ?_
  simp +contextual (disch := first | (simp only [facts, clsL, clsS, clsC, isPtrD]; done) | omega | (simp only [push_nx, put_nx, del_nx]; omega) | (refine Nat.le_antisymm ?_ ?_ <;> simp only [push_nx, put_nx, del_nx] <;> omega) | fail) only [wpy, facts, wpb, cst, wpk, wpl, forall_const, implies_true, false_implies, Int.reduceLE, Int.reduceLT, Nat.reduceLeDiff, UInt8.reduceToNat, ↓reduceIte, Nat.reduceEqDiff, Nat.reduceAdd, reduceCtorEq, Int.reduceToNat, clsL, clsS, clsC, Tryz.f42]
theorem xneeded_spec (h : H) : Exact S.cfg 43 [] h (.int .u32 565760) := by
  refine into Tryz.f43 _ Tryz.func43 (hS.ownX _ (by decide)) rfl rfl (by kernel_rfl) (by kernel_rfl) ?_
  simp +contextual (disch := first | (simp only [facts, clsL, clsS, clsC, isPtrD]; done) | omega | (simp only [push_nx, put_nx, del_nx]; omega) | (refine Nat.le_antisymm ?_ ?_ <;> simp only [push_nx, put_nx, del_nx] <;> omega) | fail) only [wpy, facts, wpb, cst, wpk, wpl, forall_const, implies_true, false_implies, Int.reduceLE, Int.reduceLT, Nat.reduceLeDiff, UInt8.reduceToNat, ↓reduceIte, Nat.reduceEqDiff, Nat.reduceAdd, reduceCtorEq, Int.reduceToNat, clsL, clsS, clsC, Tryz.f43]
theorem ccheck_spec (c : Int) (h : H) : Exact S.cfg 28 [.int .u32 c] h (.int .i64 (@ite _ (neededP c) (Classical.propDecidable _) 0 5)) := by
  by_cases hq : neededP c
  · rw [if_pos hq]
    refine into Tryz.f28 _ Tryz.func28 (hS.ownX _ (by decide)) rfl rfl (by kernel_rfl) (by kernel_rfl) ?_
    have hq2 := eq_true (show iAnd .u32 c 565760 = 565760 from hq)
    simp +contextual (disch := first | (simp only [facts, clsL, clsS, clsC, isPtrD]; done) | omega | (simp only [push_nx, put_nx, del_nx]; omega) | (refine Nat.le_antisymm ?_ ?_ <;> simp only [push_nx, put_nx, del_nx] <;> omega) | fail) only [wpy, facts, wpb, cst, wpk, wpl, forall_const, implies_true, false_implies, Int.reduceLE, Int.reduceLT, Nat.reduceLeDiff, UInt8.reduceToNat, ↓reduceIte, Nat.reduceEqDiff, Nat.reduceAdd, reduceCtorEq, Int.reduceToNat, clsL, clsS, clsC, Tryz.f28]
    refine callF_exact (needed_spec hS _) ?_
    simp +contextual (disch := first | (simp only [facts, clsL, clsS, clsC, isPtrD]; done) | omega | (simp only [push_nx, put_nx, del_nx]; omega) | (refine Nat.le_antisymm ?_ ?_ <;> simp only [push_nx, put_nx, del_nx] <;> omega) | fail) only [wpy, facts, wpb, cst, wpk, wpl, forall_const, implies_true, false_implies, Int.reduceLE, Int.reduceLT, Nat.reduceLeDiff, UInt8.reduceToNat, ↓reduceIte, Nat.reduceEqDiff, Nat.reduceAdd, reduceCtorEq, Int.reduceToNat, clsL, clsS, clsC, Tryz.f28]
    refine callF_exact (needed_spec hS _) ?_
    simp +contextual (disch := first | (simp only [facts, clsL, clsS, clsC, isPtrD]; done) | omega | (simp only [push_nx, put_nx, del_nx]; omega) | (refine Nat.le_antisymm ?_ ?_ <;> simp only [push_nx, put_nx, del_nx] <;> omega) | fail) only [wpy, facts, wpb, cst, wpk, wpl, forall_const, implies_true, false_implies, Int.reduceLE, Int.reduceLT, Nat.reduceLeDiff, UInt8.reduceToNat, ↓reduceIte, Nat.reduceEqDiff, Nat.reduceAdd, reduceCtorEq, Int.reduceToNat, clsL, clsS, clsC, Tryz.f28, hq2]
  · rw [if_neg hq]
    refine into Tryz.f28 _ Tryz.func28 (hS.ownX _ (by decide)) rfl rfl (by kernel_rfl) (by kernel_rfl) ?_
    have hq2 : ¬ iAnd .u32 c 565760 = 565760 := hq
    simp +contextual (disch := first | (simp only [facts, clsL, clsS, clsC, isPtrD]; done) | omega | (simp only [push_nx, put_nx, del_nx]; omega) | (refine Nat.le_antisymm ?_ ?_ <;> simp only [push_nx, put_nx, del_nx] <;> omega) | fail) only [wpy, facts, wpb, cst, wpk, wpl, forall_const, implies_true, false_implies, Int.reduceLE, Int.reduceLT, Nat.reduceLeDiff, UInt8.reduceToNat, ↓reduceIte, Nat.reduceEqDiff, Nat.reduceAdd, reduceCtorEq, Int.reduceToNat, clsL, clsS, clsC, Tryz.f28]
    refine callF_exact (needed_spec hS _) ?_
    simp +contextual (disch := first | (simp only [facts, clsL, clsS, clsC, isPtrD]; done) | omega | (simp only [push_nx, put_nx, del_nx]; omega) | (refine Nat.le_antisymm ?_ ?_ <;> simp only [push_nx, put_nx, del_nx] <;> omega) | fail) only [wpy, facts, wpb, cst, wpk, wpl, forall_const, implies_true, false_implies, Int.reduceLE, Int.reduceLT, Nat.reduceLeDiff, UInt8.reduceToNat, ↓reduceIte, Nat.reduceEqDiff, Nat.reduceAdd, reduceCtorEq, Int.reduceToNat, clsL, clsS, clsC, Tryz.f28]
    refine callF_exact (needed_spec hS _) ?_
    simp +contextual (disch := first | (simp only [facts, clsL, clsS, clsC, isPtrD]; done) | omega | (simp only [push_nx, put_nx, del_nx]; omega) | (refine Nat.le_antisymm ?_ ?_ <;> simp only [push_nx, put_nx, del_nx] <;> omega) | fail) only [wpy, facts, wpb, cst, wpk, wpl, forall_const, implies_true, false_implies, Int.reduceLE, Int.reduceLT, Nat.reduceLeDiff, UInt8.reduceToNat, ↓reduceIte, Nat.reduceEqDiff, Nat.reduceAdd, reduceCtorEq, Int.reduceToNat, clsL, clsS, clsC, Tryz.f28, hq2]
theorem xccheck_spec (c : Int) (h : H) : Exact S.cfg 29 [.int .u32 c] h (.int .i64 (@ite _ (neededP c) (Classical.propDecidable _) 0 5)) := by
  by_cases hq : neededP c
  · rw [if_pos hq]
    refine into Tryz.f29 _ Tryz.func29 (hS.ownX _ (by decide)) rfl rfl (by kernel_rfl) (by kernel_rfl) ?_
    have hq2 := eq_true (show iAnd .u32 c 565760 = 565760 from hq)
    simp +contextual (disch := first | (simp only [facts, clsL, clsS, clsC, isPtrD]; done) | omega | (simp only [push_nx, put_nx, del_nx]; omega) | (refine Nat.le_antisymm ?_ ?_ <;> simp only [push_nx, put_nx, del_nx] <;> omega) | fail) only [wpy, facts, wpb, cst, wpk, wpl, forall_const, implies_true, false_implies, Int.reduceLE, Int.reduceLT, Nat.reduceLeDiff, UInt8.reduceToNat, ↓reduceIte, Nat.reduceEqDiff, Nat.reduceAdd, reduceCtorEq, Int.reduceToNat, clsL, clsS, clsC, Tryz.f29]
    refine callF_exact (xneeded_spec hS _) ?_
    simp +contextual (disch := first | (simp only [facts, clsL, clsS, clsC, isPtrD]; done) | omega | (simp only [push_nx, put_nx, del_nx]; omega) | (refine Nat.le_antisymm ?_ ?_ <;> simp only [push_nx, put_nx, del_nx] <;> omega) | fail) only [wpy, facts, wpb, cst, wpk, wpl, forall_const, implies_true, false_implies, Int.reduceLE, Int.reduceLT, Nat.reduceLeDiff, UInt8.reduceToNat, ↓reduceIte, Nat.reduceEqDiff, Nat.reduceAdd, reduceCtorEq, Int.reduceToNat, clsL, clsS, clsC, Tryz.f29]
    refine callF_exact (xneeded_spec hS _) ?_
    simp +contextual (disch := first | (simp only [facts, clsL, clsS, clsC, isPtrD]; done) | omega | (simp only [push_nx, put_nx, del_nx]; omega) | (refine Nat.le_antisymm ?_ ?_ <;> simp only [push_nx, put_nx, del_nx] <;> omega) | fail) only [wpy, facts, wpb, cst, wpk, wpl, forall_const, implies_true, false_implies, Int.reduceLE, Int.reduceLT, Nat.reduceLeDiff, UInt8.reduceToNat, ↓reduceIte, Nat.reduceEqDiff, Nat.reduceAdd, reduceCtorEq, Int.reduceToNat, clsL, clsS, clsC, Tryz.f29, hq2]
  · rw [if_neg hq]
    refine into Tryz.f29 _ Tryz.func29 (hS.ownX _ (by decide)) rfl rfl (by kernel_rfl) (by kernel_rfl) ?_
    have hq2 : ¬ iAnd .u32 c 565760 = 565760 := hq
    simp +contextual (disch := first | (simp only [facts, clsL, clsS, clsC, isPtrD]; done) | omega | (simp only [push_nx, put_nx, del_nx]; omega) | (refine Nat.le_antisymm ?_ ?_ <;> simp only [push_nx, put_nx, del_nx] <;> omega) | fail) only [wpy, facts, wpb, cst, wpk, wpl, forall_const, implies_true, false_implies, Int.reduceLE, Int.reduceLT, Nat.reduceLeDiff, UInt8.reduceToNat, ↓reduceIte, Nat.reduceEqDiff, Nat.reduceAdd, reduceCtorEq, Int.reduceToNat, clsL, clsS, clsC, Tryz.f29]
    refine callF_exact (xneeded_spec hS _) ?_
    simp +contextual (disch := first | (simp only [facts, clsL, clsS, clsC, isPtrD]; done) | omega | (simp only [push_nx, put_nx, del_nx]; omega) | (refine Nat.le_antisymm ?_ ?_ <;> simp only [push_nx, put_nx, del_nx] <;> omega) | fail) only [wpy, facts, wpb, cst, wpk, wpl, forall_const, implies_true, false_implies, Int.reduceLE, Int.reduceLT, Nat.reduceLeDiff, UInt8.reduceToNat, ↓reduceIte, Nat.reduceEqDiff, Nat.reduceAdd, reduceCtorEq, Int.reduceToNat, clsL, clsS, clsC, Tryz.f29]
    refine callF_exact (xneeded_spec hS _) ?_
    simp +contextual (disch := first | (simp only [facts, clsL, clsS, clsC, isPtrD]; done) | omega | (simp only [push_nx, put_nx, del_nx]; omega) | (refine Nat.le_antisymm ?_ ?_ <;> simp only [push_nx, put_nx, del_nx] <;> omega) | fail) only [wpy, facts, wpb, cst, wpk, wpl, forall_const, implies_true, false_implies, Int.reduceLE, Int.reduceLT, Nat.reduceLeDiff, UInt8.reduceToNat, ↓reduceIte, Nat.reduceEqDiff, Nat.reduceAdd, reduceCtorEq, Int.reduceToNat, clsL, clsS, clsC, Tryz.f29, hq2]
theorem shape_spec (k : Int) (hk : k = 2 ∨ k = 3) (h : H) : Exact S.cfg 46 [.int .u8 k] h (.int .i64 1) := by
  refine into Tryz.f46 _ Tryz.func46 (hS.ownX _ (by decide)) rfl rfl (by kernel_rfl) (by kernel_rfl) ?_
  have h1 : ¬ k = 1 := by omega
  have h2 : ¬ k = 9 := by omega
  have h3 : ¬ k = 14 := by omega
  have h4 : ¬ k = 31 := by omega
  rcases hk with hk | hk
  · have hk := eq_true hk
    simp +contextual (disch := first | (simp only [facts, clsL, clsS, clsC, isPtrD]; done) | omega | (simp only [push_nx, put_nx, del_nx]; omega) | (refine Nat.le_antisymm ?_ ?_ <;> simp only [push_nx, put_nx, del_nx] <;> omega) | fail) only [wpy, facts, wpb, cst, wpk, wpl, forall_const, implies_true, false_implies, Int.reduceLE, Int.reduceLT, Nat.reduceLeDiff, UInt8.reduceToNat, ↓reduceIte, Nat.reduceEqDiff, Nat.reduceAdd, reduceCtorEq, Int.reduceToNat, clsL, clsS, clsC, Tryz.f46, h1, h2, h3, h4, hk]
  · have h5 : ¬ k = 2 := by omega
    have hk := eq_true hk
    simp +contextual (disch := first | (simp only [facts, clsL, clsS, clsC, isPtrD]; done) | omega | (simp only [push_nx, put_nx, del_nx]; omega) | (refine Nat.le_antisymm ?_ ?_ <;> simp only [push_nx, put_nx, del_nx] <;> omega) | fail) only [wpy, facts, wpb, cst, wpk, wpl, forall_const, implies_true, false_implies, Int.reduceLE, Int.reduceLT, Nat.reduceLeDiff, UInt8.reduceToNat, ↓reduceIte, Nat.reduceEqDiff, Nat.reduceAdd, reduceCtorEq, Int.reduceToNat, clsL, clsS, clsC, Tryz.f46, h1, h2, h3, h4, h5, hk]
theorem xshape_spec (k : Int) (hk : k = 2 ∨ k = 3) (h : H) : Exact S.cfg 49 [.int .u8 k] h (.int .i64 1) := by
  refine into Tryz.f49 _ Tryz.func49 (hS.ownX _ (by decide)) rfl rfl (by kernel_rfl) (by kernel_rfl) ?_
  have h1 : ¬ k = 1 := by omega
  have h2 : ¬ k = 9 := by omega
  have h3 : ¬ k = 14 := by omega
  have h4 : ¬ k = 31 := by omega
  rcases hk with hk | hk
  · have hk := eq_true hk
    simp +contextual (disch := first | (simp only [facts, clsL, clsS, clsC, isPtrD]; done) | omega | (simp only [push_nx, put_nx, del_nx]; omega) | (refine Nat.le_antisymm ?_ ?_ <;> simp only [push_nx, put_nx, del_nx] <;> omega) | fail) only [wpy, facts, wpb, cst, wpk, wpl, forall_const, implies_true, false_implies, Int.reduceLE, Int.reduceLT, Nat.reduceLeDiff, UInt8.reduceToNat, ↓reduceIte, Nat.reduceEqDiff, Nat.reduceAdd, reduceCtorEq, Int.reduceToNat, clsL, clsS, clsC, Tryz.f49, h1, h2, h3, h4, hk]
  · have h5 : ¬ k = 2 := by omega
    have hk := eq_true hk
    simp +contextual (disch := first | (simp only [facts, clsL, clsS, clsC, isPtrD]; done) | omega | (simp only [push_nx, put_nx, del_nx]; omega) | (refine Nat.le_antisymm ?_ ?_ <;> simp only [push_nx, put_nx, del_nx] <;> omega) | fail) only [wpy, facts, wpb, cst, wpk, wpl, forall_const, implies_true, false_implies, Int.reduceLE, Int.reduceLT, Nat.reduceLeDiff, UInt8.reduceToNat, ↓reduceIte, Nat.reduceEqDiff, Nat.reduceAdd, reduceCtorEq, Int.reduceToNat, clsL, clsS, clsC, Tryz.f49, h1, h2, h3, h4, h5, hk]
theorem bare_spec (c : CM) (hk : txtK c) (h : H) : Pure S.cfg 70 [.agg c.cells] h fun w _ => w = .agg c.cells := by
  refine into Tryz.f70 _ Tryz.func70 (hS.ownX _ (by decide)) rfl rfl (by kernel_rfl) (by kernel_rfl) ?_
  unfold CM.cells
  simp +contextual (disch := first | (simp only [facts, clsL, clsS, clsC, isPtrD]; done) | omega | (simp only [push_nx, put_nx, del_nx]; omega) | (refine Nat.le_antisymm ?_ ?_ <;> simp only [push_nx, put_nx, del_nx] <;> omega) | fail) only [wpy, facts, wpb, cst, wpk, wpl, forall_const, implies_true, false_implies, Int.reduceLE, Int.reduceLT, Nat.reduceLeDiff, UInt8.reduceToNat, ↓reduceIte, Nat.reduceEqDiff, Nat.reduceAdd, reduceCtorEq, Int.reduceToNat, clsL, clsS, clsC, Tryz.f70]
  refine ⟨.inr (by omega), callF_exact (shape_spec hS c.kind hk _) ?_⟩
  have q1 : ¬ h.nx = h.nx + 1 + 1 := by omega
  have q2 : ¬ h.nx = h.nx + 1 := by omega
  have q3 : ¬ h.nx + 1 = h.nx + 1 + 1 := by omega
  simp +contextual (disch := first | (simp only [facts, clsL, clsS, clsC, isPtrD]; done) | omega | (simp only [push_nx, put_nx, del_nx]; omega) | (refine Nat.le_antisymm ?_ ?_ <;> simp only [push_nx, put_nx, del_nx] <;> omega) | fail) only [wpy, facts, wpb, cst, wpk, wpl, forall_const, implies_true, false_implies, Int.reduceLE, Int.reduceLT, Nat.reduceLeDiff, UInt8.reduceToNat, ↓reduceIte, Nat.reduceEqDiff, Nat.reduceAdd, reduceCtorEq, Int.reduceToNat, clsL, clsS, clsC, Tryz.f70, q1, q2, q3]
  exact ⟨.inr (by omega), .inr (by omega), ((((((Ext.refl h).push _).push _).push _).put (by omega) _).put (by omega) _).put (by omega) _⟩
theorem kcheck_spec (c : CM) (hk : txtK c) (h : H) : Pure S.cfg 44 [.agg c.cells] h fun w _ => w = .int .i64 0 := by
  refine into Tryz.f44 _ Tryz.func44 (hS.ownX _ (by decide)) rfl rfl (by kernel_rfl) (by kernel_rfl) ?_
  have bk := fun h => bare_spec hS c hk h
  unfold CM.cells at bk ⊢
  simp +contextual (disch := first | (simp only [facts, clsL, clsS, clsC, isPtrD]; done) | omega | (simp only [push_nx, put_nx, del_nx]; omega) | (refine Nat.le_antisymm ?_ ?_ <;> simp only [push_nx, put_nx, del_nx] <;> omega) | fail) only [wpy, facts, wpb, cst, wpk, wpl, forall_const, implies_true, false_implies, Int.reduceLE, Int.reduceLT, Nat.reduceLeDiff, UInt8.reduceToNat, ↓reduceIte, Nat.reduceEqDiff, Nat.reduceAdd, reduceCtorEq, Int.reduceToNat, clsL, clsS, clsC, Tryz.f44]
  refine callF_pure (bk _) ?_
  rintro _ h1 hx1 rfl
  have g1 : h1.get h.nx = some (.cells [.int .u8 c.kind, .str c.text, .int .u32 0, .int .u16 0, .int .u8 0, .int .u32 0, .int .u16 0, .nilslice] 55 false) := by rw [hx1.2 _ (Nat.lt_succ_self _), push_eq rfl]
  have hn1 := hx1.1
  have hn2 : h.nx < h1.nx := hn1
  have q1 : ¬ h.nx = h1.nx := by omega
  simp +contextual (disch := first | (simp only [facts, clsL, clsS, clsC, isPtrD]; done) | omega | (simp only [push_nx, put_nx, del_nx]; omega) | (refine Nat.le_antisymm ?_ ?_ <;> simp only [push_nx, put_nx, del_nx] <;> omega) | fail) only [wpy, facts, wpb, cst, wpk, wpl, forall_const, implies_true, false_implies, Int.reduceLE, Int.reduceLT, Nat.reduceLeDiff, UInt8.reduceToNat, ↓reduceIte, Nat.reduceEqDiff, Nat.reduceAdd, reduceCtorEq, Int.reduceToNat, clsL, clsS, clsC, Tryz.f44, g1, q1]
  exact ⟨.inr (by omega), (((Ext.refl h).push _).trans hx1).trans (Ext.new _ _ _)⟩
theorem xkcheck_spec (c : CM) (hk : txtK c) (h : H) : Pure S.cfg 48 [.agg c.cells] h fun w _ => w = .int .i64 0 := by
  refine into Tryz.f48 _ Tryz.func48 (hS.ownX _ (by decide)) rfl rfl (by kernel_rfl) (by kernel_rfl) ?_
  unfold CM.cells
  simp +contextual (disch := first | (simp only [facts, clsL, clsS, clsC, isPtrD]; done) | omega | (simp only [push_nx, put_nx, del_nx]; omega) | (refine Nat.le_antisymm ?_ ?_ <;> simp only [push_nx, put_nx, del_nx] <;> omega) | fail) only [wpy, facts, wpb, cst, wpk, wpl, forall_const, implies_true, false_implies, Int.reduceLE, Int.reduceLT, Nat.reduceLeDiff, UInt8.reduceToNat, ↓reduceIte, Nat.reduceEqDiff, Nat.reduceAdd, reduceCtorEq, Int.reduceToNat, clsL, clsS, clsC, Tryz.f48]
  refine callF_exact (xshape_spec hS c.kind hk _) ?_
  by_cases h0 : c.text = []
  · have h0 := eq_true h0
    simp +contextual (disch := first | (simp only [facts, clsL, clsS, clsC, isPtrD]; done) | omega | (simp only [push_nx, put_nx, del_nx]; omega) | (refine Nat.le_antisymm ?_ ?_ <;> simp only [push_nx, put_nx, del_nx] <;> omega) | fail) only [wpy, facts, wpb, cst, wpk, wpl, forall_const, implies_true, false_implies, Int.reduceLE, Int.reduceLT, Nat.reduceLeDiff, UInt8.reduceToNat, ↓reduceIte, Nat.reduceEqDiff, Nat.reduceAdd, reduceCtorEq, Int.reduceToNat, clsL, clsS, clsC, Tryz.f48, h0]
    exact ⟨fun q => absurd q.1.1.1 (Nat.lt_irrefl 0), fun _ => (Ext.refl h).push _⟩
  · simp +contextual (disch := first | (simp only [facts, clsL, clsS, clsC, isPtrD]; done) | omega | (simp only [push_nx, put_nx, del_nx]; omega) | (refine Nat.le_antisymm ?_ ?_ <;> simp only [push_nx, put_nx, del_nx] <;> omega) | fail) only [wpy, facts, wpb, cst, wpk, wpl, forall_const, implies_true, false_implies, Int.reduceLE, Int.reduceLT, Nat.reduceLeDiff, UInt8.reduceToNat, ↓reduceIte, Nat.reduceEqDiff, Nat.reduceAdd, reduceCtorEq, Int.reduceToNat, clsL, clsS, clsC, Tryz.f48, h0]
    exact ⟨fun q => absurd q.1.1.1 (Nat.lt_irrefl 0), fun _ => (Ext.refl h).push _⟩
end
noncomputable section
theorem ap43' : apI Tryz.prog 43 = some (5, 1, 1) := by kernel_rfl
def cmdB (c : CM) : List Nat := c.kind.toNat :: c.text
theorem cmdB_bytes {c : CM} (hk : txtK c) : bytesV (cmdB c) = [.int .u8 c.kind] ++ bytesV c.text := by
  unfold cmdB bytesV
  rw [List.map_cons]
  congr 1
  rcases hk with h | h <;> rw [h] <;> rfl
theorem cmdB_ok {c : CM} (hk : txtK c) (hb : Bytes c.text) : Bytes (cmdB c) := by
  intro x hx
  rcases List.mem_cons.1 hx with rfl | hx
  · rcases hk with h | h <;> rw [h] <;> decide
  · exact hb x hx
theorem Acc.form {n0 : Nat} {h : H} {v : V} {cells : List V} {e sz : Nat} (a : Acc n0 h v cells e sz) : v = .nilslice ∨ ∃ b o n m, v = .slice b o n m := by
  rcases a with ⟨q, _⟩ | ⟨b, n, _, _, q, _⟩
  · exact .inl q
  · exact .inr ⟨_, _, _, _, q⟩
variable {S : Set0} (hS : StdX S)
include hS
theorem bclone_nil (h : H) : Exact S.cfg 45 [.nilslice] h .nilslice := by
  refine into Tryz.f45 _ Tryz.func45 (hS.ownB _ (by decide)) rfl rfl (by kernel_rfl) (by kernel_rfl) ?_
  have hn := nil_bs (lv := .nilslice) (.inl rfl)
  simp +contextual (disch := first | (simp only [facts, clsL, clsS, clsC, isPtrD]; done) | omega | (simp only [push_nx, put_nx, del_nx]; omega) | (refine Nat.le_antisymm ?_ ?_ <;> simp only [push_nx, put_nx, del_nx] <;> omega) | fail) only [wpy, facts, wpb, cst, wpk, wpl, forall_const, implies_true, false_implies, Int.reduceLE, Int.reduceLT, Nat.reduceLeDiff, UInt8.reduceToNat, ↓reduceIte, Nat.reduceEqDiff, Nat.reduceAdd, reduceCtorEq, Int.reduceToNat, clsL, clsS, clsC, Tryz.f45, hn]
theorem app_text {env : Env} {s x : Operand} {n0 : Nat} {h : H} {l : V} {bs ts : List Nat} {Ok : Nat → Prop} {K : V → H → Fp → Prop} (hsv : evalE env s = l) (hx : evalE env x = .str ts) (ha : Wx.Acc n0 h l (bytesV bs) 5 1) (hroom : bs.length + ts.length < 2 ^ 28) (hOk : ∀ k, n0 ≤ k → Ok k) (hn0 : n0 ≤ h.nx)
    (hK : ∀ v h' L, Wx.Acc n0 h' v (bytesV (bs ++ ts)) 5 1 → h.nx ≤ h'.nx → (∀ k, k < n0 → h'.get k = h.get k) → K v h' (.lg L)) : opW S.cfg Ok (.call ⟨.builtin .append, #[s, x], #[43, 9]⟩) env h K := by
  by_cases h0 : ts = []
  · subst h0
    refine append_str0 hsv (Acc.form ha) ap43' ⟨.string, by kernel_rfl, rfl⟩ hx (hK _ _ _ (by rw [List.append_nil]; exact ha) (Nat.le_refl _) fun _ _ => rfl)
  · refine append_strV hsv ap43' ⟨.string, by kernel_rfl, rfl⟩ ha hx (List.length_pos_iff.2 h0) (by rw [bytesV_length]; omega) hOk (fun v h' L h1 h2 _ => hK v h' L (by unfold bytesV at h1 ⊢; rw [List.map_append]; exact h1) h2.1 fun k hk => h2.2 k (by omega) fun o n m q => ha.ne hk q) hn0
theorem append_spec (c : CM) (hk : txtK c) (hb : Bytes c.text) (hl : c.text.length < 2 ^ 20) (h : H) : Pure S.cfg 31 [.nilslice, .agg c.cells] h fun w h' => ∃ lv, w = .tuple [lv, .int .i64 0] ∧ BS 5 h' lv (cmdB c) ∧ ∀ k, k < h.nx → Off lv k := by
  refine into Tryz.f31 _ Tryz.func31 (hS.ownX _ (by decide)) rfl rfl (by kernel_rfl) (by kernel_rfl) ?_
  have ck := fun h => kcheck_spec hS c hk h
  unfold CM.cells at ck ⊢
  simp +contextual (disch := first | (simp only [facts, clsL, clsS, clsC, isPtrD]; done) | omega | (simp only [push_nx, put_nx, del_nx]; omega) | (refine Nat.le_antisymm ?_ ?_ <;> simp only [push_nx, put_nx, del_nx] <;> omega) | fail) only [wpy, facts, wpb, cst, wpk, wpl, forall_const, implies_true, false_implies, Int.reduceLE, Int.reduceLT, Nat.reduceLeDiff, UInt8.reduceToNat, ↓reduceIte, Nat.reduceEqDiff, Nat.reduceAdd, reduceCtorEq, Int.reduceToNat, clsL, clsS, clsC, Tryz.f31]
  refine callF_pure (ck _) ?_
  rintro _ h1 hx1 rfl
  have hx : Ext h h1 := ((Ext.refl h).push _).trans hx1
  have g1 : h1.get h.nx = some (.cells [.int .u8 c.kind, .str c.text, .int .u32 0, .int .u16 0, .int .u8 0, .int .u32 0, .int .u16 0, .nilslice] 55 false) := by rw [hx1.2 _ (Nat.lt_succ_self _), push_eq rfl]
  have hn2 : h.nx < h1.nx := hx1.1
  simp +contextual (disch := first | (simp only [facts, clsL, clsS, clsC, isPtrD]; done) | omega | (simp only [push_nx, put_nx, del_nx]; omega) | (refine Nat.le_antisymm ?_ ?_ <;> simp only [push_nx, put_nx, del_nx] <;> omega) | fail) only [wpy, facts, wpb, cst, wpk, wpl, forall_const, implies_true, false_implies, Int.reduceLE, Int.reduceLT, Nat.reduceLeDiff, UInt8.reduceToNat, ↓reduceIte, Nat.reduceEqDiff, Nat.reduceAdd, reduceCtorEq, Int.reduceToNat, clsL, clsS, clsC, Tryz.f31]
  refine draw_by [(1, 3), (1, 4)] (by kernel_rfl) ?_
  simp +contextual (disch := first | (simp only [facts, clsL, clsS, clsC, isPtrD]; done) | omega | (simp only [push_nx, put_nx, del_nx]; omega) | (refine Nat.le_antisymm ?_ ?_ <;> simp only [push_nx, put_nx, del_nx] <;> omega) | fail) only [wpy, facts, wpb, cst, wpk, wpl, forall_const, implies_true, false_implies, Int.reduceLE, Int.reduceLT, Nat.reduceLeDiff, UInt8.reduceToNat, ↓reduceIte, Nat.reduceEqDiff, Nat.reduceAdd, reduceCtorEq, Int.reduceToNat, clsL, clsS, clsC, Tryz.f31]
  refine callF_exact (bclone_nil hS h1) ?_
  simp +contextual (disch := first | (simp only [facts, clsL, clsS, clsC, isPtrD]; done) | omega | (simp only [push_nx, put_nx, del_nx]; omega) | (refine Nat.le_antisymm ?_ ?_ <;> simp only [push_nx, put_nx, del_nx] <;> omega) | fail) only [wpy, facts, wpb, cst, wpk, wpl, forall_const, implies_true, false_implies, Int.reduceLE, Int.reduceLT, Nat.reduceLeDiff, UInt8.reduceToNat, ↓reduceIte, Nat.reduceEqDiff, Nat.reduceAdd, reduceCtorEq, Int.reduceToNat, clsL, clsS, clsC, Tryz.f31, g1]
  refine append_new (sv := .nilslice) (n0 := h.nx + 1) (cells := []) ?_ ap43' ⟨.slice 5, by kernel_rfl, rfl⟩ (.inl ⟨rfl, rfl⟩) ?_ (n := 1) (by decide) rfl rfl (by simp) (by decide) (fun k hk => by rw [fresh_def]; exact .inl (by omega)) (by omega) ?_
  · simp +contextual (disch := first | (simp only [facts, clsL, clsS, clsC, isPtrD]; done) | omega | (simp only [push_nx, put_nx, del_nx]; omega) | (refine Nat.le_antisymm ?_ ?_ <;> simp only [push_nx, put_nx, del_nx] <;> omega) | fail) only [wpy, facts, wpb, cst, wpk, wpl, forall_const, implies_true, false_implies, Int.reduceLE, Int.reduceLT, Nat.reduceLeDiff, UInt8.reduceToNat, ↓reduceIte, Nat.reduceEqDiff, Nat.reduceAdd, reduceCtorEq, Int.reduceToNat, clsL, clsS, clsC]
  · simp +contextual (disch := first | (simp only [facts, clsL, clsS, clsC, isPtrD]; done) | omega | (simp only [push_nx, put_nx, del_nx]; omega) | (refine Nat.le_antisymm ?_ ?_ <;> simp only [push_nx, put_nx, del_nx] <;> omega) | fail) only [wpy, facts, wpb, cst, wpk, wpl, forall_const, implies_true, false_implies, Int.reduceLE, Int.reduceLT, Nat.reduceLeDiff, UInt8.reduceToNat, ↓reduceIte, Nat.reduceEqDiff, Nat.reduceAdd, reduceCtorEq, Int.reduceToNat, clsL, clsS, clsC]
  intro v2 h2 L2 ha2 hn22 _ hk2 hL2
  have hx2 : Ext h h2 := ⟨by omega, fun k hk => by rw [hk2 k (by omega), hx.2 k hk]⟩
  have g2 : h2.get h.nx = some (.cells [.int .u8 c.kind, .str c.text, .int .u32 0, .int .u16 0, .int .u8 0, .int .u32 0, .int .u16 0, .nilslice] 55 false) := by rw [hk2 _ (by omega)]; exact g1
  simp +contextual (disch := first | (simp only [facts, clsL, clsS, clsC, isPtrD]; done) | omega | (simp only [push_nx, put_nx, del_nx]; omega) | (refine Nat.le_antisymm ?_ ?_ <;> simp only [push_nx, put_nx, del_nx] <;> omega) | fail) only [wpy, facts, wpb, cst, wpk, wpl, forall_const, implies_true, false_implies, Int.reduceLE, Int.reduceLT, Nat.reduceLeDiff, UInt8.reduceToNat, ↓reduceIte, Nat.reduceEqDiff, Nat.reduceAdd, reduceCtorEq, Int.reduceToNat, clsL, clsS, clsC, Tryz.f31, g2]
  refine ⟨?_, callF_exact (shape_spec hS c.kind hk _) ?_⟩
  · intro p hp
    rcases List.mem_cons.1 hp with rfl | hp
    · exact pair_one rfl rfl fun e he => by
        rw [List.mem_singleton.1 (show e ∈ [_] from he)]
        exact .inr ⟨rfl, hn2, id⟩
    · rw [List.mem_singleton.1 hp]
      exact pair_one rfl rfl fun e he => by
        rw [List.mem_singleton.1 he]
        exact .inl (Nat.le_refl _)
  have ha2' : Wx.Acc (h.nx + 1) h2 v2 (bytesV [c.kind.toNat]) 5 1 := by
    have := cmdB_bytes (c := ⟨c.kind, []⟩) hk
    have e : bytesV [c.kind.toNat] = [.int .u8 c.kind] := by simpa [cmdB, bytesV] using this
    rw [e]; exact ha2
  obtain ⟨d1, d2⟩ := ha2.cell
  simp +contextual (disch := first | (simp only [facts, clsL, clsS, clsC, isPtrD]; done) | omega | (simp only [push_nx, put_nx, del_nx]; omega) | (refine Nat.le_antisymm ?_ ?_ <;> simp only [push_nx, put_nx, del_nx] <;> omega) | fail) only [wpy, facts, wpb, cst, wpk, wpl, forall_const, implies_true, false_implies, Int.reduceLE, Int.reduceLT, Nat.reduceLeDiff, UInt8.reduceToNat, ↓reduceIte, Nat.reduceEqDiff, Nat.reduceAdd, reduceCtorEq, Int.reduceToNat, clsL, clsS, clsC, Tryz.f31, g2]
  refine app_text hS (n0 := h.nx + 1) (l := v2) (bs := [c.kind.toNat]) (ts := c.text) ?_ ?_ ha2' (by simp; omega) (fun k hk => by rw [fresh_def]; exact .inl (by omega)) (by omega) ?_
  · simp +contextual (disch := first | (simp only [facts, clsL, clsS, clsC, isPtrD]; done) | omega | (simp only [push_nx, put_nx, del_nx]; omega) | (refine Nat.le_antisymm ?_ ?_ <;> simp only [push_nx, put_nx, del_nx] <;> omega) | fail) only [wpy, facts, wpb, cst, wpk, wpl, forall_const, implies_true, false_implies, Int.reduceLE, Int.reduceLT, Nat.reduceLeDiff, UInt8.reduceToNat, ↓reduceIte, Nat.reduceEqDiff, Nat.reduceAdd, reduceCtorEq, Int.reduceToNat, clsL, clsS, clsC]
  · simp +contextual (disch := first | (simp only [facts, clsL, clsS, clsC, isPtrD]; done) | omega | (simp only [push_nx, put_nx, del_nx]; omega) | (refine Nat.le_antisymm ?_ ?_ <;> simp only [push_nx, put_nx, del_nx] <;> omega) | fail) only [wpy, facts, wpb, cst, wpk, wpl, forall_const, implies_true, false_implies, Int.reduceLE, Int.reduceLT, Nat.reduceLeDiff, UInt8.reduceToNat, ↓reduceIte, Nat.reduceEqDiff, Nat.reduceAdd, reduceCtorEq, Int.reduceToNat, clsL, clsS, clsC]
  intro v3 h3 L3 ha3 hn3 hk3
  have g3 : h3.get h.nx = some (.cells [.int .u8 c.kind, .str c.text, .int .u32 0, .int .u16 0, .int .u8 0, .int .u32 0, .int .u16 0, .nilslice] 55 false) := by rw [hk3 _ (by omega)]; exact g2
  simp +contextual (disch := first | (simp only [facts, clsL, clsS, clsC, isPtrD]; done) | omega | (simp only [push_nx, put_nx, del_nx]; omega) | (refine Nat.le_antisymm ?_ ?_ <;> simp only [push_nx, put_nx, del_nx] <;> omega) | fail) only [wpy, facts, wpb, cst, wpk, wpl, forall_const, implies_true, false_implies, Int.reduceLE, Int.reduceLT, Nat.reduceLeDiff, UInt8.reduceToNat, ↓reduceIte, Nat.reduceEqDiff, Nat.reduceAdd, reduceCtorEq, Int.reduceToNat, clsL, clsS, clsC, Tryz.f31, g3]
  refine append_nilsrc (sv := v3) ?_ (Acc.form ha3) ap43' ⟨.slice 5, by kernel_rfl, rfl⟩ ?_ ?_
  · simp +contextual (disch := first | (simp only [facts, clsL, clsS, clsC, isPtrD]; done) | omega | (simp only [push_nx, put_nx, del_nx]; omega) | (refine Nat.le_antisymm ?_ ?_ <;> simp only [push_nx, put_nx, del_nx] <;> omega) | fail) only [wpy, facts, wpb, cst, wpk, wpl, forall_const, implies_true, false_implies, Int.reduceLE, Int.reduceLT, Nat.reduceLeDiff, UInt8.reduceToNat, ↓reduceIte, Nat.reduceEqDiff, Nat.reduceAdd, reduceCtorEq, Int.reduceToNat, clsL, clsS, clsC]
  · simp +contextual (disch := first | (simp only [facts, clsL, clsS, clsC, isPtrD]; done) | omega | (simp only [push_nx, put_nx, del_nx]; omega) | (refine Nat.le_antisymm ?_ ?_ <;> simp only [push_nx, put_nx, del_nx] <;> omega) | fail) only [wpy, facts, wpb, cst, wpk, wpl, forall_const, implies_true, false_implies, Int.reduceLE, Int.reduceLT, Nat.reduceLeDiff, UInt8.reduceToNat, ↓reduceIte, Nat.reduceEqDiff, Nat.reduceAdd, reduceCtorEq, Int.reduceToNat, clsL, clsS, clsC]
  obtain ⟨f1, f2⟩ := ha3.cell
  simp +contextual (disch := first | (simp only [facts, clsL, clsS, clsC, isPtrD]; done) | omega | (simp only [push_nx, put_nx, del_nx]; omega) | (refine Nat.le_antisymm ?_ ?_ <;> simp only [push_nx, put_nx, del_nx] <;> omega) | fail) only [wpy, facts, wpb, cst, wpk, wpl, forall_const, implies_true, false_implies, Int.reduceLE, Int.reduceLT, Nat.reduceLeDiff, UInt8.reduceToNat, ↓reduceIte, Nat.reduceEqDiff, Nat.reduceAdd, reduceCtorEq, Int.reduceToNat, clsL, clsS, clsC, Tryz.f31]
  exact ⟨⟨by omega, fun k hk => by rw [hk3 k (by omega), hx2.2 k hk]⟩, v3, rfl, BS.of_acc (cmdB_ok hk hb) ha3, fun k hk2 o n m q => ha3.ne (by omega) q⟩
theorem xappend_spec (c : CM) (hk : txtK c) (hb : Bytes c.text) (hl : c.text.length < 2 ^ 20) (h : H) : Pure S.cfg 33 [.nilslice, .agg c.cells] h fun w h' => ∃ lv, w = .tuple [lv, .int .i64 0] ∧ BS 5 h' lv (cmdB c) ∧ ∀ k, k < h.nx → Off lv k := by
  refine into Tryz.f33 _ Tryz.func33 (hS.ownX _ (by decide)) rfl rfl (by kernel_rfl) (by kernel_rfl) ?_
  have ck := fun h => xkcheck_spec hS c hk h
  unfold CM.cells at ck ⊢
  simp +contextual (disch := first | (simp only [facts, clsL, clsS, clsC, isPtrD]; done) | omega | (simp only [push_nx, put_nx, del_nx]; omega) | (refine Nat.le_antisymm ?_ ?_ <;> simp only [push_nx, put_nx, del_nx] <;> omega) | fail) only [wpy, facts, wpb, cst, wpk, wpl, forall_const, implies_true, false_implies, Int.reduceLE, Int.reduceLT, Nat.reduceLeDiff, UInt8.reduceToNat, ↓reduceIte, Nat.reduceEqDiff, Nat.reduceAdd, reduceCtorEq, Int.reduceToNat, clsL, clsS, clsC, Tryz.f33]
  refine callF_pure (ck _) ?_
  rintro _ h1 hx1 rfl
  have hx : Ext h h1 := ((Ext.refl h).push _).trans hx1
  have g1 : h1.get h.nx = some (.cells [.int .u8 c.kind, .str c.text, .int .u32 0, .int .u16 0, .int .u8 0, .int .u32 0, .int .u16 0, .nilslice] 55 false) := by rw [hx1.2 _ (Nat.lt_succ_self _), push_eq rfl]
  have hn2 : h.nx < h1.nx := hx1.1
  simp +contextual (disch := first | (simp only [facts, clsL, clsS, clsC, isPtrD]; done) | omega | (simp only [push_nx, put_nx, del_nx]; omega) | (refine Nat.le_antisymm ?_ ?_ <;> simp only [push_nx, put_nx, del_nx] <;> omega) | fail) only [wpy, facts, wpb, cst, wpk, wpl, forall_const, implies_true, false_implies, Int.reduceLE, Int.reduceLT, Nat.reduceLeDiff, UInt8.reduceToNat, ↓reduceIte, Nat.reduceEqDiff, Nat.reduceAdd, reduceCtorEq, Int.reduceToNat, clsL, clsS, clsC, Tryz.f33]
  refine draw_by [(0, 4), (2, 4), (0, 5), (2, 5)] (by kernel_rfl) ?_
  simp +contextual (disch := first | (simp only [facts, clsL, clsS, clsC, isPtrD]; done) | omega | (simp only [push_nx, put_nx, del_nx]; omega) | (refine Nat.le_antisymm ?_ ?_ <;> simp only [push_nx, put_nx, del_nx] <;> omega) | fail) only [wpy, facts, wpb, cst, wpk, wpl, forall_const, implies_true, false_implies, Int.reduceLE, Int.reduceLT, Nat.reduceLeDiff, UInt8.reduceToNat, ↓reduceIte, Nat.reduceEqDiff, Nat.reduceAdd, reduceCtorEq, Int.reduceToNat, clsL, clsS, clsC, Tryz.f33]
  refine append_nilsrc (sv := .slice h1.nx 0 0 0) ?_ (.inr ⟨_, _, _, _, rfl⟩) ap43' ⟨.slice 5, by kernel_rfl, rfl⟩ ?_ ?_
  · simp +contextual (disch := first | (simp only [facts, clsL, clsS, clsC, isPtrD]; done) | omega | (simp only [push_nx, put_nx, del_nx]; omega) | (refine Nat.le_antisymm ?_ ?_ <;> simp only [push_nx, put_nx, del_nx] <;> omega) | fail) only [wpy, facts, wpb, cst, wpk, wpl, forall_const, implies_true, false_implies, Int.reduceLE, Int.reduceLT, Nat.reduceLeDiff, UInt8.reduceToNat, ↓reduceIte, Nat.reduceEqDiff, Nat.reduceAdd, reduceCtorEq, Int.reduceToNat, clsL, clsS, clsC]
  · simp +contextual (disch := first | (simp only [facts, clsL, clsS, clsC, isPtrD]; done) | omega | (simp only [push_nx, put_nx, del_nx]; omega) | (refine Nat.le_antisymm ?_ ?_ <;> simp only [push_nx, put_nx, del_nx] <;> omega) | fail) only [wpy, facts, wpb, cst, wpk, wpl, forall_const, implies_true, false_implies, Int.reduceLE, Int.reduceLT, Nat.reduceLeDiff, UInt8.reduceToNat, ↓reduceIte, Nat.reduceEqDiff, Nat.reduceAdd, reduceCtorEq, Int.reduceToNat, clsL, clsS, clsC]
  have q1 : ¬ h.nx = h1.nx := by omega
  simp +contextual (disch := first | (simp only [facts, clsL, clsS, clsC, isPtrD]; done) | omega | (simp only [push_nx, put_nx, del_nx]; omega) | (refine Nat.le_antisymm ?_ ?_ <;> simp only [push_nx, put_nx, del_nx] <;> omega) | fail) only [wpy, facts, wpb, cst, wpk, wpl, forall_const, implies_true, false_implies, Int.reduceLE, Int.reduceLT, Nat.reduceLeDiff, UInt8.reduceToNat, ↓reduceIte, Nat.reduceEqDiff, Nat.reduceAdd, reduceCtorEq, Int.reduceToNat, clsL, clsS, clsC, Tryz.f33, g1, q1]
  generalize hhB : H.push (H.push h1 _) _ = hB
  have hxB : Ext h1 hB := by rw [← hhB]; exact ((Ext.refl h1).push _).push _
  have hnB : hB.nx = h1.nx + 2 := by rw [← hhB]; rfl
  have gB1 : hB.get h1.nx = some (.cells [] 5 false) := by rw [← hhB, push_ne (by simp only [push_nx]; omega)]; exact push_eq rfl
  have gB2 : hB.get (h1.nx + 1) = some (.cells [.int .u8 c.kind] 5 false) := by rw [← hhB]; exact push_eq rfl
  clear hhB
  refine append_lst (n0 := h.nx + 1) (sv := .slice h1.nx 0 0 0) (xv := .slice (h1.nx + 1) 0 1 1) (cells := []) (new := [.int .u8 c.kind]) ?_ ?_ ap43' ⟨.slice 5, by kernel_rfl, rfl⟩ (.inr ⟨rfl, h1.nx, by omega, by omega, rfl, gB1⟩) (.inr ⟨h1.nx + 1, 0, 1, 1, rfl, by omega, by rw [gB2]; rfl, rfl⟩) rfl (by simp) (by decide) (fun k hk => by rw [fresh_def]; exact .inl (by omega)) (by omega) ?_
  · simp +contextual (disch := first | (simp only [facts, clsL, clsS, clsC, isPtrD]; done) | omega | (simp only [push_nx, put_nx, del_nx]; omega) | (refine Nat.le_antisymm ?_ ?_ <;> simp only [push_nx, put_nx, del_nx] <;> omega) | fail) only [wpy, facts, wpb, cst, wpk, wpl, forall_const, implies_true, false_implies, Int.reduceLE, Int.reduceLT, Nat.reduceLeDiff, UInt8.reduceToNat, ↓reduceIte, Nat.reduceEqDiff, Nat.reduceAdd, reduceCtorEq, Int.reduceToNat, clsL, clsS, clsC]
  · simp +contextual (disch := first | (simp only [facts, clsL, clsS, clsC, isPtrD]; done) | omega | (simp only [push_nx, put_nx, del_nx]; omega) | (refine Nat.le_antisymm ?_ ?_ <;> simp only [push_nx, put_nx, del_nx] <;> omega) | fail) only [wpy, facts, wpb, cst, wpk, wpl, forall_const, implies_true, false_implies, Int.reduceLE, Int.reduceLT, Nat.reduceLeDiff, UInt8.reduceToNat, ↓reduceIte, Nat.reduceEqDiff, Nat.reduceAdd, reduceCtorEq, Int.reduceToNat, clsL, clsS, clsC]
  intro v2 h2 L2 hl2 hn22 _ hk2 hL2
  have ha2 : Wx.Acc (h.nx + 1) h2 v2 [.int .u8 c.kind] 5 1 := by
    rcases hl2 with q | ⟨q, _⟩
    · exact q
    · cases q
  have hx2 : Ext h h2 := ⟨by omega, fun k hk => by rw [hk2 k (by omega), hxB.2 k (by omega), hx.2 k hk]⟩
  have g2 : h2.get h.nx = some (.cells [.int .u8 c.kind, .str c.text, .int .u32 0, .int .u16 0, .int .u8 0, .int .u32 0, .int .u16 0, .nilslice] 55 false) := by rw [hk2 _ (by omega), hxB.2 _ (by omega)]; exact g1
  simp +contextual (disch := first | (simp only [facts, clsL, clsS, clsC, isPtrD]; done) | omega | (simp only [push_nx, put_nx, del_nx]; omega) | (refine Nat.le_antisymm ?_ ?_ <;> simp only [push_nx, put_nx, del_nx] <;> omega) | fail) only [wpy, facts, wpb, cst, wpk, wpl, forall_const, implies_true, false_implies, Int.reduceLE, Int.reduceLT, Nat.reduceLeDiff, UInt8.reduceToNat, ↓reduceIte, Nat.reduceEqDiff, Nat.reduceAdd, reduceCtorEq, Int.reduceToNat, clsL, clsS, clsC, Tryz.f33, g2]
  refine ⟨?_, callF_exact (xshape_spec hS c.kind hk _) ?_⟩
  · have aw : ∀ (k j o n : Nat), k ≠ j → fpApart (.lg [.wrd k]) (.lg [.rd j o n]) := fun k j o n q => apart_blk fun x hx y hy => by
      rw [List.mem_singleton.1 hx, List.mem_singleton.1 hy]; exact q
    have ww : ∀ (k j : Nat), k ≠ j → fpApart (.lg [.wrd k]) (.lg [.wrd j]) := fun k j q => apart_blk fun x hx y hy => by
      rw [List.mem_singleton.1 hx, List.mem_singleton.1 hy]; exact q
    intro p hp
    simp only [List.mem_cons, List.not_mem_nil, or_false] at hp
    rcases hp with rfl | rfl | rfl | rfl
    · exact pair_one rfl rfl (aw _ _ _ _ (by omega))
    · exact pair_one rfl rfl apart_nil_l
    · exact pair_one rfl rfl (ww _ _ (by omega))
    · exact pair_one rfl rfl apart_nil_l
  have ha2' : Wx.Acc (h.nx + 1) h2 v2 (bytesV [c.kind.toNat]) 5 1 := by
    have := cmdB_bytes (c := ⟨c.kind, []⟩) hk
    have e : bytesV [c.kind.toNat] = [.int .u8 c.kind] := by simpa [cmdB, bytesV] using this
    rw [e]; exact ha2
  obtain ⟨d1, d2⟩ := ha2.cell
  simp +contextual (disch := first | (simp only [facts, clsL, clsS, clsC, isPtrD]; done) | omega | (simp only [push_nx, put_nx, del_nx]; omega) | (refine Nat.le_antisymm ?_ ?_ <;> simp only [push_nx, put_nx, del_nx] <;> omega) | fail) only [wpy, facts, wpb, cst, wpk, wpl, forall_const, implies_true, false_implies, Int.reduceLE, Int.reduceLT, Nat.reduceLeDiff, UInt8.reduceToNat, ↓reduceIte, Nat.reduceEqDiff, Nat.reduceAdd, reduceCtorEq, Int.reduceToNat, clsL, clsS, clsC, Tryz.f33, g2]
  refine app_text hS (n0 := h.nx + 1) (l := v2) (bs := [c.kind.toNat]) (ts := c.text) ?_ ?_ ha2' (by simp; omega) (fun k hk => by rw [fresh_def]; exact .inl (by omega)) (by omega) ?_
  · simp +contextual (disch := first | (simp only [facts, clsL, clsS, clsC, isPtrD]; done) | omega | (simp only [push_nx, put_nx, del_nx]; omega) | (refine Nat.le_antisymm ?_ ?_ <;> simp only [push_nx, put_nx, del_nx] <;> omega) | fail) only [wpy, facts, wpb, cst, wpk, wpl, forall_const, implies_true, false_implies, Int.reduceLE, Int.reduceLT, Nat.reduceLeDiff, UInt8.reduceToNat, ↓reduceIte, Nat.reduceEqDiff, Nat.reduceAdd, reduceCtorEq, Int.reduceToNat, clsL, clsS, clsC]
  · simp +contextual (disch := first | (simp only [facts, clsL, clsS, clsC, isPtrD]; done) | omega | (simp only [push_nx, put_nx, del_nx]; omega) | (refine Nat.le_antisymm ?_ ?_ <;> simp only [push_nx, put_nx, del_nx] <;> omega) | fail) only [wpy, facts, wpb, cst, wpk, wpl, forall_const, implies_true, false_implies, Int.reduceLE, Int.reduceLT, Nat.reduceLeDiff, UInt8.reduceToNat, ↓reduceIte, Nat.reduceEqDiff, Nat.reduceAdd, reduceCtorEq, Int.reduceToNat, clsL, clsS, clsC]
  intro v3 h3 L3 ha3 hn3 hk3
  simp +contextual (disch := first | (simp only [facts, clsL, clsS, clsC, isPtrD]; done) | omega | (simp only [push_nx, put_nx, del_nx]; omega) | (refine Nat.le_antisymm ?_ ?_ <;> simp only [push_nx, put_nx, del_nx] <;> omega) | fail) only [wpy, facts, wpb, cst, wpk, wpl, forall_const, implies_true, false_implies, Int.reduceLE, Int.reduceLT, Nat.reduceLeDiff, UInt8.reduceToNat, ↓reduceIte, Nat.reduceEqDiff, Nat.reduceAdd, reduceCtorEq, Int.reduceToNat, clsL, clsS, clsC, Tryz.f33]
  exact ⟨⟨by omega, fun k hk => by rw [hk3 k (by omega), hx2.2 k hk]⟩, v3, rfl, BS.of_acc (cmdB_ok hk hb) ha3, fun k hk2 o n m q => ha3.ne (by omega) q⟩
end
noncomputable section
structure RP where
  c : Int
  l : List CM
  waits : Prop
  fell : Prop
def RP.over (p : RP) : Prop := p.fell ∨ p.l.length = 0
def GC (l : List CM) : Prop := ∀ c ∈ l, txtK c ∧ Bytes c.text ∧ c.text.length < 2 ^ 20
structure PRo (t : TypeId) (b b2 : Nat) (p : RP) (h : H) : Prop where
  obj : ∃ lv, h.get b = some (.cells [bo True, .int .u32 p.c, lv, bo p.waits, bo p.fell] t false) ∧ RW 55 8 p.l.length h lv (ccells p.l) ∧ Off lv b ∧ Off lv b2
  lt : b < h.nx
  good : GC p.l
theorem PRo.keep {t : TypeId} {b b2 : Nat} {p : RP} {h h' : H} (a : PRo t b b2 p h) (hx : But b2 h h') (hne : b ≠ b2) : PRo t b b2 p h' := by
  obtain ⟨⟨lv, g, hr, o1, o2⟩, hl, hg⟩ := a
  exact ⟨⟨lv, by rw [hx.2 _ hl hne]; exact g, hr.keep hx.1 fun k hk ⟨o, n, m, q⟩ => hx.2 k hk fun e => o2 o n m (by rw [← e]; exact q), o1, o2⟩, Nat.lt_of_lt_of_le hl hx.1, hg⟩
theorem PRo.ext {t : TypeId} {b b2 : Nat} {p : RP} {h h' : H} (a : PRo t b b2 p h) (hx : Ext h h') : PRo t b b2 p h' := by
  obtain ⟨⟨lv, g, hr, o1, o2⟩, hl, hg⟩ := a
  exact ⟨⟨lv, by rw [hx.2 _ hl]; exact g, hr.ext hx, o1, o2⟩, Nat.lt_of_lt_of_le hl hx.1, hg⟩
theorem PRo.put {t : TypeId} {b b2 : Nat} {p : RP} {h : H} {lv : V} (hr : RW 55 8 p.l.length h lv (ccells p.l)) (o1 : Off lv b) (o2 : Off lv b2) (hl : b < h.nx) (hg : GC p.l) : PRo t b b2 p (h.put b (.cells [bo True, .int .u32 p.c, lv, bo p.waits, bo p.fell] t false)) :=
  ⟨⟨lv, put_eq rfl, hr.keep (Nat.le_refl _) fun k hk ⟨o, n, m, q⟩ => put_ne fun e => o1 o n m (by rw [← e]; exact q), o1, o2⟩, hl, hg⟩
structure StdY (S : Set0) : Prop extends StdX S where
  ownY : ∀ f, f ∈ [9, 10, 11, 12, 14, 15, 16, 17, 18, 19, 30, 32] → sums S.exts f = none
variable {S : Set0} (hS : StdY S)
include hS
theorem none_spec {b b2 : Nat} {p : RP} {h : H} (a : PRo 68 b b2 p h) : Exact S.cfg 32 [.ptr b 0] h (bo False) := by
  refine into Tryz.f32 _ Tryz.func32 (hS.ownY _ (by decide)) rfl rfl (by kernel_rfl) (by kernel_rfl) ?_
  obtain ⟨⟨lv, g, hr, o1, o2⟩, hl, hg⟩ := a
  simp +contextual (disch := first | (simp only [facts, clsL, clsS, clsC, isPtrD]; done) | omega | (simp only [push_nx, put_nx, del_nx]; omega) | (refine Nat.le_antisymm ?_ ?_ <;> simp only [push_nx, put_nx, del_nx] <;> omega) | fail) only [wpy, facts, wpb, cst, wpk, wpl, forall_const, implies_true, false_implies, Int.reduceLE, Int.reduceLT, Nat.reduceLeDiff, UInt8.reduceToNat, ↓reduceIte, Nat.reduceEqDiff, Nat.reduceAdd, reduceCtorEq, Int.reduceToNat, clsL, clsS, clsC, Tryz.f32, g]
theorem over1_spec {b b2 : Nat} {p : RP} {h : H} (a : PRo 66 b b2 p h) : Exact S.cfg 30 [.ptr b 0] h (bo p.over) := by
  refine into Tryz.f30 _ Tryz.func30 (hS.ownY _ (by decide)) rfl rfl (by kernel_rfl) (by kernel_rfl) ?_
  obtain ⟨⟨lv, g, hr, o1, o2⟩, hl, hg⟩ := a
  have hlen := hr.len 55
  simp +contextual (disch := first | (simp only [facts, clsL, clsS, clsC, isPtrD]; done) | omega | (simp only [push_nx, put_nx, del_nx]; omega) | (refine Nat.le_antisymm ?_ ?_ <;> simp only [push_nx, put_nx, del_nx] <;> omega) | fail) only [wpy, facts, wpb, cst, wpk, wpl, forall_const, implies_true, false_implies, Int.reduceLE, Int.reduceLT, Nat.reduceLeDiff, UInt8.reduceToNat, ↓reduceIte, Nat.reduceEqDiff, Nat.reduceAdd, reduceCtorEq, Int.reduceToNat, clsL, clsS, clsC, Tryz.f30, g, hlen]
  rfl
theorem overs_spec {b b2 : Nat} {p : RP} {h : H} (a : PRo 66 b b2 p h) : Exact S.cfg 16 [.ptr b 0] h (.tuple [bo (¬ p.fell ∧ p.over), bo p.over]) := by
  refine into Tryz.f16 _ Tryz.func16 (hS.ownY _ (by decide)) rfl rfl (by kernel_rfl) (by kernel_rfl) ?_
  have a' := a
  obtain ⟨⟨lv, g, hr, o1, o2⟩, hl, hg⟩ := a
  simp +contextual (disch := first | (simp only [facts, clsL, clsS, clsC, isPtrD]; done) | omega | (simp only [push_nx, put_nx, del_nx]; omega) | (refine Nat.le_antisymm ?_ ?_ <;> simp only [push_nx, put_nx, del_nx] <;> omega) | fail) only [wpy, facts, wpb, cst, wpk, wpl, forall_const, implies_true, false_implies, Int.reduceLE, Int.reduceLT, Nat.reduceLeDiff, UInt8.reduceToNat, ↓reduceIte, Nat.reduceEqDiff, Nat.reduceAdd, reduceCtorEq, Int.reduceToNat, clsL, clsS, clsC, Tryz.f16, g]
  refine gCall_exact (first := []) (cap := []) (fun _ => over1_spec hS a') fun fp => ?_
  simp +contextual (disch := first | (simp only [facts, clsL, clsS, clsC, isPtrD]; done) | omega | (simp only [push_nx, put_nx, del_nx]; omega) | (refine Nat.le_antisymm ?_ ?_ <;> simp only [push_nx, put_nx, del_nx] <;> omega) | fail) only [wpy, facts, wpb, cst, wpk, wpl, forall_const, implies_true, false_implies, Int.reduceLE, Int.reduceLT, Nat.reduceLeDiff, UInt8.reduceToNat, ↓reduceIte, Nat.reduceEqDiff, Nat.reduceAdd, reduceCtorEq, Int.reduceToNat, clsL, clsS, clsC, Tryz.f16, g]
  refine callF_exact (over1_spec hS a') ?_
  simp +contextual (disch := first | (simp only [facts, clsL, clsS, clsC, isPtrD]; done) | omega | (simp only [push_nx, put_nx, del_nx]; omega) | (refine Nat.le_antisymm ?_ ?_ <;> simp only [push_nx, put_nx, del_nx] <;> omega) | fail) only [wpy, facts, wpb, cst, wpk, wpl, forall_const, implies_true, false_implies, Int.reduceLE, Int.reduceLT, Nat.reduceLeDiff, UInt8.reduceToNat, ↓reduceIte, Nat.reduceEqDiff, Nat.reduceAdd, reduceCtorEq, Int.reduceToNat, clsL, clsS, clsC, Tryz.f16, g]
theorem xovers_spec {b b2 : Nat} {p : RP} {h : H} (a : PRo 68 b b2 p h) : Exact S.cfg 17 [.ptr b 0] h (.tuple [bo (¬ p.fell ∧ p.over), bo p.over]) := by
  refine into Tryz.f17 _ Tryz.func17 (hS.ownY _ (by decide)) rfl rfl (by kernel_rfl) (by kernel_rfl) ?_
  have a' := a
  obtain ⟨⟨lv, g, hr, o1, o2⟩, hl, hg⟩ := a
  have hlen := hr.len 55
  simp +contextual (disch := first | (simp only [facts, clsL, clsS, clsC, isPtrD]; done) | omega | (simp only [push_nx, put_nx, del_nx]; omega) | (refine Nat.le_antisymm ?_ ?_ <;> simp only [push_nx, put_nx, del_nx] <;> omega) | fail) only [wpy, facts, wpb, cst, wpk, wpl, forall_const, implies_true, false_implies, Int.reduceLE, Int.reduceLT, Nat.reduceLeDiff, UInt8.reduceToNat, ↓reduceIte, Nat.reduceEqDiff, Nat.reduceAdd, reduceCtorEq, Int.reduceToNat, clsL, clsS, clsC, Tryz.f17, g]
  refine callF_exact (none_spec hS a') ?_
  simp +contextual (disch := first | (simp only [facts, clsL, clsS, clsC, isPtrD]; done) | omega | (simp only [push_nx, put_nx, del_nx]; omega) | (refine Nat.le_antisymm ?_ ?_ <;> simp only [push_nx, put_nx, del_nx] <;> omega) | fail) only [wpy, facts, wpb, cst, wpk, wpl, forall_const, implies_true, false_implies, Int.reduceLE, Int.reduceLT, Nat.reduceLeDiff, UInt8.reduceToNat, ↓reduceIte, Nat.reduceEqDiff, Nat.reduceAdd, reduceCtorEq, Int.reduceToNat, clsL, clsS, clsC, Tryz.f17, g]
  refine draw_by [] (by kernel_rfl) ?_
  simp +contextual (disch := first | (simp only [facts, clsL, clsS, clsC, isPtrD]; done) | omega | (simp only [push_nx, put_nx, del_nx]; omega) | (refine Nat.le_antisymm ?_ ?_ <;> simp only [push_nx, put_nx, del_nx] <;> omega) | fail) only [wpy, facts, wpb, cst, wpk, wpl, forall_const, implies_true, false_implies, Int.reduceLE, Int.reduceLT, Nat.reduceLeDiff, UInt8.reduceToNat, ↓reduceIte, Nat.reduceEqDiff, Nat.reduceAdd, reduceCtorEq, Int.reduceToNat, clsL, clsS, clsC, Tryz.f17, g, hlen]
  have e : bo (¬ p.fell ∧ p.l.length = 0) = bo (¬ p.fell ∧ p.over) := bo_eq ⟨fun q => ⟨q.1, .inr q.2⟩, fun q => ⟨q.1, q.2.elim (fun w => absurd w q.1) id⟩⟩
  rw [e]
  exact ⟨(fun p hp => by cases hp), rfl⟩
theorem left_spec {b b2 : Nat} {p : RP} {h : H} (a : PRo 66 b b2 p h) : Exact S.cfg 18 [.ptr b 0] h (.int .i64 p.l.length) := by
  refine into Tryz.f18 _ Tryz.func18 (hS.ownY _ (by decide)) rfl rfl (by kernel_rfl) (by kernel_rfl) ?_
  obtain ⟨⟨lv, g, hr, o1, o2⟩, hl, hg⟩ := a
  have hlen := hr.len 55
  simp +contextual (disch := first | (simp only [facts, clsL, clsS, clsC, isPtrD]; done) | omega | (simp only [push_nx, put_nx, del_nx]; omega) | (refine Nat.le_antisymm ?_ ?_ <;> simp only [push_nx, put_nx, del_nx] <;> omega) | fail) only [wpy, facts, wpb, cst, wpk, wpl, forall_const, implies_true, false_implies, Int.reduceLE, Int.reduceLT, Nat.reduceLeDiff, UInt8.reduceToNat, ↓reduceIte, Nat.reduceEqDiff, Nat.reduceAdd, reduceCtorEq, Int.reduceToNat, clsL, clsS, clsC, Tryz.f18, g, hlen]
theorem xleft_spec {b b2 : Nat} {p : RP} {h : H} (a : PRo 68 b b2 p h) : Exact S.cfg 19 [.ptr b 0] h (.int .i64 p.l.length) := by
  refine into Tryz.f19 _ Tryz.func19 (hS.ownY _ (by decide)) rfl rfl (by kernel_rfl) (by kernel_rfl) ?_
  have a' := a
  obtain ⟨⟨lv, g, hr, o1, o2⟩, hl, hg⟩ := a
  have hlen := hr.len 55
  simp +contextual (disch := first | (simp only [facts, clsL, clsS, clsC, isPtrD]; done) | omega | (simp only [push_nx, put_nx, del_nx]; omega) | (refine Nat.le_antisymm ?_ ?_ <;> simp only [push_nx, put_nx, del_nx] <;> omega) | fail) only [wpy, facts, wpb, cst, wpk, wpl, forall_const, implies_true, false_implies, Int.reduceLE, Int.reduceLT, Nat.reduceLeDiff, UInt8.reduceToNat, ↓reduceIte, Nat.reduceEqDiff, Nat.reduceAdd, reduceCtorEq, Int.reduceToNat, clsL, clsS, clsC, Tryz.f19, g, hlen]
  refine callF_exact (none_spec hS a') ?_
  simp +contextual (disch := first | (simp only [facts, clsL, clsS, clsC, isPtrD]; done) | omega | (simp only [push_nx, put_nx, del_nx]; omega) | (refine Nat.le_antisymm ?_ ?_ <;> simp only [push_nx, put_nx, del_nx] <;> omega) | fail) only [wpy, facts, wpb, cst, wpk, wpl, forall_const, implies_true, false_implies, Int.reduceLE, Int.reduceLT, Nat.reduceLeDiff, UInt8.reduceToNat, ↓reduceIte, Nat.reduceEqDiff, Nat.reduceAdd, reduceCtorEq, Int.reduceToNat, clsL, clsS, clsC, Tryz.f19, g, hlen]
omit hS in
theorem GC.tail {c : CM} {l : List CM} (h : GC (c :: l)) : GC l := fun x hx => h x (.tail _ hx)
def RP.can (p : RP) : Prop := ¬ p.over ∧ ¬ p.waits
def RP.said (p : RP) : List Nat := @ite _ p.can (Classical.propDecidable _) (cmdB (p.l.headD ⟨2, []⟩)) []
def RP.next (p : RP) : RP := ⟨p.c, p.l, p.waits ∨ p.can, p.fell⟩
omit hS in
theorem next_no {p : RP} (h : ¬ p.can) : p.next = p := by
  unfold RP.next
  have : (p.waits ∨ p.can) = p.waits := propext ⟨fun q => q.elim id fun w => absurd w h, .inl⟩
  rw [this]
theorem next_spec {b b2 : Nat} {p : RP} {h : H} (a : PRo 66 b b2 p h) : callW S.cfg (· = b) 11 [.ptr b 0] h fun v h' => ∃ w, v = .tuple [w, bo p.can] ∧ BS 5 h' w p.said ∧ PRo 66 b b2 p.next h' ∧ But b h h' ∧ ∀ k, k < h.nx → Off w k := by
  refine into Tryz.f11 _ Tryz.func11 (hS.ownY _ (by decide)) rfl rfl (by kernel_rfl) (by kernel_rfl) ?_
  have a' := a
  obtain ⟨⟨lv, g, hr, o1, o2⟩, hl, hg⟩ := a
  have hlen := hr.len 55
  simp +contextual (disch := first | (simp only [facts, clsL, clsS, clsC, isPtrD]; done) | omega | (simp only [push_nx, put_nx, del_nx]; omega) | (refine Nat.le_antisymm ?_ ?_ <;> simp only [push_nx, put_nx, del_nx] <;> omega) | fail) only [wpy, facts, wpb, cst, wpk, wpl, forall_const, implies_true, false_implies, Int.reduceLE, Int.reduceLT, Nat.reduceLeDiff, UInt8.reduceToNat, ↓reduceIte, Nat.reduceEqDiff, Nat.reduceAdd, reduceCtorEq, Int.reduceToNat, clsL, clsS, clsC, Tryz.f11, g]
  refine callF_exact (over1_spec hS a') ?_
  by_cases hc : p.can
  case neg =>
    have hs : p.said = [] := by unfold RP.said; rw [if_neg hc]
    rw [next_no hc, hs, show bo p.can = bo False from bo_eq ⟨fun q => hc q, fun q => q.elim⟩]
    by_cases ho : p.over
    · simp +contextual (disch := first | (simp only [facts, clsL, clsS, clsC, isPtrD]; done) | omega | (simp only [push_nx, put_nx, del_nx]; omega) | (refine Nat.le_antisymm ?_ ?_ <;> simp only [push_nx, put_nx, del_nx] <;> omega) | fail) only [wpy, facts, wpb, cst, wpk, wpl, forall_const, implies_true, false_implies, Int.reduceLE, Int.reduceLT, Nat.reduceLeDiff, UInt8.reduceToNat, ↓reduceIte, Nat.reduceEqDiff, Nat.reduceAdd, reduceCtorEq, Int.reduceToNat, clsL, clsS, clsC, Tryz.f11, g, ho]
      exact ⟨_, rfl, BS.nil _ _, a', But.refl b h, fun _ _ _ _ _ q => by cases q⟩
    · have hw : p.waits := Classical.not_not.1 fun q => hc ⟨ho, q⟩
      simp +contextual (disch := first | (simp only [facts, clsL, clsS, clsC, isPtrD]; done) | omega | (simp only [push_nx, put_nx, del_nx]; omega) | (refine Nat.le_antisymm ?_ ?_ <;> simp only [push_nx, put_nx, del_nx] <;> omega) | fail) only [wpy, facts, wpb, cst, wpk, wpl, forall_const, implies_true, false_implies, Int.reduceLE, Int.reduceLT, Nat.reduceLeDiff, UInt8.reduceToNat, ↓reduceIte, Nat.reduceEqDiff, Nat.reduceAdd, reduceCtorEq, Int.reduceToNat, clsL, clsS, clsC, Tryz.f11, g, ho, hw]
      exact ⟨_, rfl, BS.nil _ _, a', But.refl b h, fun _ _ _ _ _ q => by cases q⟩
  have ho := hc.1
  have hw := hc.2
  have hne : p.l ≠ [] := fun q => ho (.inr (by rw [q]; rfl))
  obtain ⟨cm, l', hpl⟩ : ∃ cm l', p.l = cm :: l' := by
    cases h : p.l with
    | nil => exact absurd h hne
    | cons cm l' => exact ⟨cm, l', rfl⟩
  have hs : p.said = cmdB cm := by unfold RP.said; rw [if_pos hc, hpl]; rfl
  obtain ⟨hk, hb, hlt⟩ := hg cm (by rw [hpl]; exact .head _)
  rw [hs, show bo p.can = bo True from bo_eq ⟨fun _ => trivial, fun _ => hc⟩]
  have hpos : 0 < p.l.length := List.length_pos_iff.2 hne
  obtain ⟨rb, ro, rm, rfl⟩ := hr.at hpos
  obtain ⟨_, hrb, hr1, hr2⟩ := hr.rd
  have hcc : ((ccells p.l).drop 0).take 8 = cm.cells := by rw [hpl]; rfl
  have r2 : rdV (some (8, true)) (h.get rb) (ro + 0 * 8) = some (.agg cm.cells) := by rw [← hcc]; exact hr2 0 8 (by rw [ccells_len]; omega)
  simp +contextual (disch := first | (simp only [facts, clsL, clsS, clsC, isPtrD]; done) | omega | (simp only [push_nx, put_nx, del_nx]; omega) | (refine Nat.le_antisymm ?_ ?_ <;> simp only [push_nx, put_nx, del_nx] <;> omega) | fail) only [wpy, facts, wpb, cst, wpk, wpl, forall_const, implies_true, false_implies, Int.reduceLE, Int.reduceLT, Nat.reduceLeDiff, UInt8.reduceToNat, ↓reduceIte, Nat.reduceEqDiff, Nat.reduceAdd, reduceCtorEq, Int.reduceToNat, clsL, clsS, clsC, Tryz.f11, g, ho, hw, hpos, r2]
  refine callF_pure (append_spec hS.toStdX cm hk hb hlt h) ?_
  rintro _ h1 hx1 ⟨w, rfl, hbw, how⟩
  have hn1 := hx1.1
  have g1 : h1.get b = some (.cells [bo True, .int .u32 p.c, .slice rb ro p.l.length rm, bo p.waits, bo p.fell] 66 false) := by rw [hx1.2 _ hl]; exact g
  simp +contextual (disch := first | (simp only [facts, clsL, clsS, clsC, isPtrD]; done) | omega | (simp only [push_nx, put_nx, del_nx]; omega) | (refine Nat.le_antisymm ?_ ?_ <;> simp only [push_nx, put_nx, del_nx] <;> omega) | fail) only [wpy, facts, wpb, cst, wpk, wpl, forall_const, implies_true, false_implies, Int.reduceLE, Int.reduceLT, Nat.reduceLeDiff, UInt8.reduceToNat, ↓reduceIte, Nat.reduceEqDiff, Nat.reduceAdd, reduceCtorEq, Int.reduceToNat, clsL, clsS, clsC, Tryz.f11, g1]
  have e : (p.waits ∨ p.can) = True := propext ⟨fun _ => trivial, fun _ => .inr hc⟩
  have hP : PRo 66 b b2 p.next (h1.put b (.cells [bo True, .int .u32 p.c, .slice rb ro p.l.length rm, bo (p.waits ∨ p.can), bo p.fell] 66 false)) := PRo.put (p := p.next) (hr.ext hx1) o1 o2 (Nat.lt_of_lt_of_le hl hn1) hg
  rw [e] at hP
  exact ⟨w, rfl, hbw.put (how b hl), hP, (But.of_ext hx1).put _, how⟩
theorem xnext_spec {b b2 : Nat} {p : RP} {h : H} (a : PRo 68 b b2 p h) : callW S.cfg (· = b) 12 [.ptr b 0] h fun v h' => ∃ w, v = .tuple [w, bo p.can] ∧ BS 5 h' w p.said ∧ PRo 68 b b2 p.next h' ∧ But b h h' ∧ ∀ k, k < h.nx → Off w k := by
  refine into Tryz.f12 _ Tryz.func12 (hS.ownY _ (by decide)) rfl rfl (by kernel_rfl) (by kernel_rfl) ?_
  have a' := a
  obtain ⟨⟨lv, g, hr, o1, o2⟩, hl, hg⟩ := a
  have hlen := hr.len 55
  simp +contextual (disch := first | (simp only [facts, clsL, clsS, clsC, isPtrD]; done) | omega | (simp only [push_nx, put_nx, del_nx]; omega) | (refine Nat.le_antisymm ?_ ?_ <;> simp only [push_nx, put_nx, del_nx] <;> omega) | fail) only [wpy, facts, wpb, cst, wpk, wpl, forall_const, implies_true, false_implies, Int.reduceLE, Int.reduceLT, Nat.reduceLeDiff, UInt8.reduceToNat, ↓reduceIte, Nat.reduceEqDiff, Nat.reduceAdd, reduceCtorEq, Int.reduceToNat, clsL, clsS, clsC, Tryz.f12, g]
  refine callF_exact (xovers_spec hS a') ?_
  simp +contextual (disch := first | (simp only [facts, clsL, clsS, clsC, isPtrD]; done) | omega | (simp only [push_nx, put_nx, del_nx]; omega) | (refine Nat.le_antisymm ?_ ?_ <;> simp only [push_nx, put_nx, del_nx] <;> omega) | fail) only [wpy, facts, wpb, cst, wpk, wpl, forall_const, implies_true, false_implies, Int.reduceLE, Int.reduceLT, Nat.reduceLeDiff, UInt8.reduceToNat, ↓reduceIte, Nat.reduceEqDiff, Nat.reduceAdd, reduceCtorEq, Int.reduceToNat, clsL, clsS, clsC, Tryz.f12, g]
  refine callF_exact (none_spec hS a') ?_
  by_cases hc : p.can
  case neg =>
    have hs : p.said = [] := by unfold RP.said; rw [if_neg hc]
    rw [next_no hc, hs, show bo p.can = bo False from bo_eq ⟨fun q => hc q, fun q => q.elim⟩]
    by_cases ho : p.over
    · simp +contextual (disch := first | (simp only [facts, clsL, clsS, clsC, isPtrD]; done) | omega | (simp only [push_nx, put_nx, del_nx]; omega) | (refine Nat.le_antisymm ?_ ?_ <;> simp only [push_nx, put_nx, del_nx] <;> omega) | fail) only [wpy, facts, wpb, cst, wpk, wpl, forall_const, implies_true, false_implies, Int.reduceLE, Int.reduceLT, Nat.reduceLeDiff, UInt8.reduceToNat, ↓reduceIte, Nat.reduceEqDiff, Nat.reduceAdd, reduceCtorEq, Int.reduceToNat, clsL, clsS, clsC, Tryz.f12, g, ho]
      exact ⟨_, rfl, BS.nil _ _, a', But.refl b h, fun _ _ _ _ _ q => by cases q⟩
    · have hw : p.waits := Classical.not_not.1 fun q => hc ⟨ho, q⟩
      simp +contextual (disch := first | (simp only [facts, clsL, clsS, clsC, isPtrD]; done) | omega | (simp only [push_nx, put_nx, del_nx]; omega) | (refine Nat.le_antisymm ?_ ?_ <;> simp only [push_nx, put_nx, del_nx] <;> omega) | fail) only [wpy, facts, wpb, cst, wpk, wpl, forall_const, implies_true, false_implies, Int.reduceLE, Int.reduceLT, Nat.reduceLeDiff, UInt8.reduceToNat, ↓reduceIte, Nat.reduceEqDiff, Nat.reduceAdd, reduceCtorEq, Int.reduceToNat, clsL, clsS, clsC, Tryz.f12, g, ho, hw]
      exact ⟨_, rfl, BS.nil _ _, a', But.refl b h, fun _ _ _ _ _ q => by cases q⟩
  have ho := hc.1
  have hw := hc.2
  have hne : p.l ≠ [] := fun q => ho (.inr (by rw [q]; rfl))
  obtain ⟨cm, l', hpl⟩ : ∃ cm l', p.l = cm :: l' := by
    cases h : p.l with
    | nil => exact absurd h hne
    | cons cm l' => exact ⟨cm, l', rfl⟩
  have hs : p.said = cmdB cm := by unfold RP.said; rw [if_pos hc, hpl]; rfl
  obtain ⟨hk, hb, hlt⟩ := hg cm (by rw [hpl]; exact .head _)
  rw [hs, show bo p.can = bo True from bo_eq ⟨fun _ => trivial, fun _ => hc⟩]
  have hpos : 0 < p.l.length := List.length_pos_iff.2 hne
  obtain ⟨rb, ro, rm, rfl⟩ := hr.at hpos
  obtain ⟨_, hrb, hr1, hr2⟩ := hr.rd
  have hcc : ((ccells p.l).drop 0).take 8 = cm.cells := by rw [hpl]; rfl
  have r2 : rdV (some (8, true)) (h.get rb) (ro + 0 * 8) = some (.agg cm.cells) := by rw [← hcc]; exact hr2 0 8 (by rw [ccells_len]; omega)
  have q1 : ¬ rb = b := fun e => o1 ro p.l.length rm (by rw [e])
  simp +contextual (disch := first | (simp only [facts, clsL, clsS, clsC, isPtrD]; done) | omega | (simp only [push_nx, put_nx, del_nx]; omega) | (refine Nat.le_antisymm ?_ ?_ <;> simp only [push_nx, put_nx, del_nx] <;> omega) | fail) only [wpy, facts, wpb, cst, wpk, wpl, forall_const, implies_true, false_implies, Int.reduceLE, Int.reduceLT, Nat.reduceLeDiff, UInt8.reduceToNat, ↓reduceIte, Nat.reduceEqDiff, Nat.reduceAdd, reduceCtorEq, Int.reduceToNat, clsL, clsS, clsC, Tryz.f12, g, ho, hw, hpos, r2, q1]
  have e : (p.waits ∨ p.can) = True := propext ⟨fun _ => trivial, fun _ => .inr hc⟩
  have hP : PRo 68 b b2 p.next (h.put b (.cells [bo True, .int .u32 p.c, .slice rb ro p.l.length rm, bo (p.waits ∨ p.can), bo p.fell] 68 false)) := PRo.put (p := p.next) hr o1 o2 hl hg
  rw [e] at hP
  refine callF_pure (xappend_spec hS.toStdX cm hk hb hlt _) ?_
  rintro _ h1 hx1 ⟨w, rfl, hbw, how⟩
  simp +contextual (disch := first | (simp only [facts, clsL, clsS, clsC, isPtrD]; done) | omega | (simp only [push_nx, put_nx, del_nx]; omega) | (refine Nat.le_antisymm ?_ ?_ <;> simp only [push_nx, put_nx, del_nx] <;> omega) | fail) only [wpy, facts, wpb, cst, wpk, wpl, forall_const, implies_true, false_implies, Int.reduceLE, Int.reduceLT, Nat.reduceLeDiff, UInt8.reduceToNat, ↓reduceIte, Nat.reduceEqDiff, Nat.reduceAdd, reduceCtorEq, Int.reduceToNat, clsL, clsS, clsC, Tryz.f12]
  exact ⟨w, rfl, hbw, hP.ext hx1, ((But.refl b h).put _).trans (But.of_ext hx1), how⟩
end
noncomputable section
theorem u32' : Tryz.prog.underlying 32 = some (.slice 55) := by kernel_rfl
theorem s55' : szT Tryz.prog 55 = some 8 := by kernel_rfl
variable {S : Set0} (hS : StdY S)
include hS
theorem xfirst_spec {v : V} {l : List Nat} {h : H} (a : BS 5 h v l) (c : Int) : Exact S.cfg 37 [v, .int .u32 c] h (.int .i64 (@ite _ (l.length = 0) (Classical.propDecidable _) 0 (@ite _ (byI l 0 = 0) (Classical.propDecidable _) 1 (@ite _ (byI l 0 = 255) (Classical.propDecidable _) 2 (@ite _ (byI l 0 = 251 ∧ hasP c 128) (Classical.propDecidable _) 4 0))))) := by
  refine into Tryz.f37 _ Tryz.func37 (hS.toStdX.toStdW.toStdV.toStdT.toStdF.ownF _ (by decide)) rfl rfl (by kernel_rfl) (by kernel_rfl) ?_
  have a1 := a.len 5
  by_cases h0 : l.length = 0
  · rw [if_pos h0]
    simp +contextual (disch := first | (simp only [facts, clsL, clsS, clsC, isPtrD]; done) | omega | (simp only [push_nx, put_nx, del_nx]; omega) | (refine Nat.le_antisymm ?_ ?_ <;> simp only [push_nx, put_nx, del_nx] <;> omega) | fail) only [wpy, facts, wpb, cst, wpk, wpl, forall_const, implies_true, false_implies, Int.reduceLE, Int.reduceLT, Nat.reduceLeDiff, UInt8.reduceToNat, ↓reduceIte, Nat.reduceEqDiff, Nat.reduceAdd, reduceCtorEq, Int.reduceToNat, clsL, clsS, clsC, Tryz.f37, a1, h0]
  rw [if_neg h0]
  obtain ⟨b, o, m, rfl, _, _⟩ := a.at (i := 0) (by omega)
  obtain ⟨_, hb, hrd⟩ := a.rd
  have hr := hrd 0 (by omega)
  rw [Nat.add_zero] at hr
  have hl0 : 0 < l.length := by omega
  by_cases h1 : byI l 0 = 0
  · rw [if_pos h1]
    have h1 := eq_true h1
    simp +contextual (disch := first | (simp only [facts, clsL, clsS, clsC, isPtrD]; done) | omega | (simp only [push_nx, put_nx, del_nx]; omega) | (refine Nat.le_antisymm ?_ ?_ <;> simp only [push_nx, put_nx, del_nx] <;> omega) | fail) only [wpy, facts, wpb, cst, wpk, wpl, forall_const, implies_true, false_implies, Int.reduceLE, Int.reduceLT, Nat.reduceLeDiff, UInt8.reduceToNat, ↓reduceIte, Nat.reduceEqDiff, Nat.reduceAdd, reduceCtorEq, Int.reduceToNat, clsL, clsS, clsC, Tryz.f37, a1, h0, hl0, hr, h1]
  rw [if_neg h1]
  by_cases h2 : byI l 0 = 255
  · rw [if_pos h2]
    have h2 := eq_true h2
    simp +contextual (disch := first | (simp only [facts, clsL, clsS, clsC, isPtrD]; done) | omega | (simp only [push_nx, put_nx, del_nx]; omega) | (refine Nat.le_antisymm ?_ ?_ <;> simp only [push_nx, put_nx, del_nx] <;> omega) | fail) only [wpy, facts, wpb, cst, wpk, wpl, forall_const, implies_true, false_implies, Int.reduceLE, Int.reduceLT, Nat.reduceLeDiff, UInt8.reduceToNat, ↓reduceIte, Nat.reduceEqDiff, Nat.reduceAdd, reduceCtorEq, Int.reduceToNat, clsL, clsS, clsC, Tryz.f37, a1, h0, hl0, hr, h1, h2]
  rw [if_neg h2]
  simp +contextual (disch := first | (simp only [facts, clsL, clsS, clsC, isPtrD]; done) | omega | (simp only [push_nx, put_nx, del_nx]; omega) | (refine Nat.le_antisymm ?_ ?_ <;> simp only [push_nx, put_nx, del_nx] <;> omega) | fail) only [wpy, facts, wpb, cst, wpk, wpl, forall_const, implies_true, false_implies, Int.reduceLE, Int.reduceLT, Nat.reduceLeDiff, UInt8.reduceToNat, ↓reduceIte, Nat.reduceEqDiff, Nat.reduceAdd, reduceCtorEq, Int.reduceToNat, clsL, clsS, clsC, Tryz.f37, a1, h0, hl0, hr, h1, h2]
  refine gCall_exact (first := []) (cap := []) (fun _ => xhas_spec hS.toStdX.toStdW.toStdV.toStdT.toStdF c 128 _) fun fp => ?_
  by_cases h3 : byI l 0 = 251
  · by_cases h4 : hasP c 128
    · rw [if_pos ⟨h3, h4⟩]
      have h3 := eq_true h3
      simp +contextual (disch := first | (simp only [facts, clsL, clsS, clsC, isPtrD]; done) | omega | (simp only [push_nx, put_nx, del_nx]; omega) | (refine Nat.le_antisymm ?_ ?_ <;> simp only [push_nx, put_nx, del_nx] <;> omega) | fail) only [wpy, facts, wpb, cst, wpk, wpl, forall_const, implies_true, false_implies, Int.reduceLE, Int.reduceLT, Nat.reduceLeDiff, UInt8.reduceToNat, ↓reduceIte, Nat.reduceEqDiff, Nat.reduceAdd, reduceCtorEq, Int.reduceToNat, clsL, clsS, clsC, Tryz.f37, a1, h0, hl0, hr, h1, h2, h3, h4]
    · rw [if_neg (fun q => h4 q.2)]
      have h3 := eq_true h3
      simp +contextual (disch := first | (simp only [facts, clsL, clsS, clsC, isPtrD]; done) | omega | (simp only [push_nx, put_nx, del_nx]; omega) | (refine Nat.le_antisymm ?_ ?_ <;> simp only [push_nx, put_nx, del_nx] <;> omega) | fail) only [wpy, facts, wpb, cst, wpk, wpl, forall_const, implies_true, false_implies, Int.reduceLE, Int.reduceLT, Nat.reduceLeDiff, UInt8.reduceToNat, ↓reduceIte, Nat.reduceEqDiff, Nat.reduceAdd, reduceCtorEq, Int.reduceToNat, clsL, clsS, clsC, Tryz.f37, a1, h0, hl0, hr, h1, h2, h3, h4]
  · rw [if_neg (fun q => h3 q.1)]
    simp +contextual (disch := first | (simp only [facts, clsL, clsS, clsC, isPtrD]; done) | omega | (simp only [push_nx, put_nx, del_nx]; omega) | (refine Nat.le_antisymm ?_ ?_ <;> simp only [push_nx, put_nx, del_nx] <;> omega) | fail) only [wpy, facts, wpb, cst, wpk, wpl, forall_const, implies_true, false_implies, Int.reduceLE, Int.reduceLT, Nat.reduceLeDiff, UInt8.reduceToNat, ↓reduceIte, Nat.reduceEqDiff, Nat.reduceAdd, reduceCtorEq, Int.reduceToNat, clsL, clsS, clsC, Tryz.f37, a1, h0, hl0, hr, h1, h2, h3]
def firstF (l : List Nat) (c : Int) : Int := @ite _ (l.length = 0) (Classical.propDecidable _) 0 (@ite _ (byI l 0 = 0) (Classical.propDecidable _) 1 (@ite _ (byI l 0 = 255) (Classical.propDecidable _) 2 (@ite _ (byI l 0 = 251 ∧ hasP c 128) (Classical.propDecidable _) 4 0)))
omit hS in
theorem first1 (hS : StdB S) {v : V} {l : List Nat} {h : H} (a : BS 5 h v l) (c : Int) : Exact S.cfg 35 [v, .int .u32 c] h (.int .i64 (firstF l c)) := first_spec hS a c
theorem first2 {v : V} {l : List Nat} {h : H} (a : BS 5 h v l) (c : Int) : Exact S.cfg 37 [v, .int .u32 c] h (.int .i64 (firstF l c)) := xfirst_spec hS a c
def goodP (l : List Nat) (c : Int) : Prop := firstF l c = 1 ∧ okeF l c = 0
def RP.gotE (p : RP) (l : List Nat) : Int := @ite _ p.over (Classical.propDecidable _) 9 (@ite _ (¬ p.waits) (Classical.propDecidable _) 6 (@ite _ (goodP l p.c) (Classical.propDecidable _) 0 5))
def RP.got (p : RP) (l : List Nat) : RP := @ite _ (p.over ∨ ¬ p.waits) (Classical.propDecidable _) p (@ite _ (goodP l p.c) (Classical.propDecidable _) ⟨p.c, p.l.tail, False, p.fell⟩ ⟨p.c, p.l, False, True⟩)
omit hS in
theorem tail_cells (l : List CM) : ccells l.tail = (ccells l).drop (1 * 8) := by
  cases l with
  | nil => rfl
  | cons c l => rfl
theorem got_spec {b b2 : Nat} {p : RP} {h : H} (a : PRo 66 b b2 p h) {v : V} {l : List Nat} (al : BS 5 h v l) (ho1 : Off v b) (hl28 : l.length < 2 ^ 28) : callW S.cfg (· = b) 14 [.ptr b 0, v] h fun w h' => w = .int .i64 (p.gotE l) ∧ PRo 66 b b2 (p.got l) h' ∧ But b h h' := by
  refine into Tryz.f14 _ Tryz.func14 (hS.ownY _ (by decide)) rfl rfl (by kernel_rfl) (by kernel_rfl) ?_
  have a' := a
  obtain ⟨⟨lv, g, hr, o1, o2⟩, hl, hg⟩ := a
  have hlen := hr.len 55
  obtain ⟨c1, c2⟩ := al.cell
  simp +contextual (disch := first | (simp only [facts, clsL, clsS, clsC, isPtrD]; done) | omega | (simp only [push_nx, put_nx, del_nx]; omega) | (refine Nat.le_antisymm ?_ ?_ <;> simp only [push_nx, put_nx, del_nx] <;> omega) | fail) only [wpy, facts, wpb, cst, wpk, wpl, forall_const, implies_true, false_implies, Int.reduceLE, Int.reduceLT, Nat.reduceLeDiff, UInt8.reduceToNat, ↓reduceIte, Nat.reduceEqDiff, Nat.reduceAdd, reduceCtorEq, Int.reduceToNat, clsL, clsS, clsC, Tryz.f14, g]
  refine callF_exact (over1_spec hS a') ?_
  by_cases ho : p.over
  · have e1 : p.gotE l = 9 := if_pos ho
    have e2 : p.got l = p := if_pos (.inl ho)
    rw [e1, e2]
    simp +contextual (disch := first | (simp only [facts, clsL, clsS, clsC, isPtrD]; done) | omega | (simp only [push_nx, put_nx, del_nx]; omega) | (refine Nat.le_antisymm ?_ ?_ <;> simp only [push_nx, put_nx, del_nx] <;> omega) | fail) only [wpy, facts, wpb, cst, wpk, wpl, forall_const, implies_true, false_implies, Int.reduceLE, Int.reduceLT, Nat.reduceLeDiff, UInt8.reduceToNat, ↓reduceIte, Nat.reduceEqDiff, Nat.reduceAdd, reduceCtorEq, Int.reduceToNat, clsL, clsS, clsC, Tryz.f14, g, ho]
    exact ⟨a', But.refl b h⟩
  by_cases hw : p.waits
  case neg =>
    have e1 : p.gotE l = 6 := by unfold RP.gotE; rw [if_neg ho, if_pos hw]
    have e2 : p.got l = p := if_pos (.inr hw)
    rw [e1, e2]
    simp +contextual (disch := first | (simp only [facts, clsL, clsS, clsC, isPtrD]; done) | omega | (simp only [push_nx, put_nx, del_nx]; omega) | (refine Nat.le_antisymm ?_ ?_ <;> simp only [push_nx, put_nx, del_nx] <;> omega) | fail) only [wpy, facts, wpb, cst, wpk, wpl, forall_const, implies_true, false_implies, Int.reduceLE, Int.reduceLT, Nat.reduceLeDiff, UInt8.reduceToNat, ↓reduceIte, Nat.reduceEqDiff, Nat.reduceAdd, reduceCtorEq, Int.reduceToNat, clsL, clsS, clsC, Tryz.f14, g, ho, hw]
    exact ⟨a', But.refl b h⟩
  have e1 : p.gotE l = @ite _ (goodP l p.c) (Classical.propDecidable _) 0 5 := by unfold RP.gotE; rw [if_neg ho, if_neg (fun q => q hw)]
  have e2 : p.got l = @ite _ (goodP l p.c) (Classical.propDecidable _) ⟨p.c, p.l.tail, False, p.fell⟩ ⟨p.c, p.l, False, True⟩ := if_neg (fun q => q.elim ho fun w => w hw)
  have hne : p.l ≠ [] := fun q => ho (.inr (by rw [q]; rfl))
  have hpos : 0 < p.l.length := List.length_pos_iff.2 hne
  rw [e1, e2]
  simp +contextual (disch := first | (simp only [facts, clsL, clsS, clsC, isPtrD]; done) | omega | (simp only [push_nx, put_nx, del_nx]; omega) | (refine Nat.le_antisymm ?_ ?_ <;> simp only [push_nx, put_nx, del_nx] <;> omega) | fail) only [wpy, facts, wpb, cst, wpk, wpl, forall_const, implies_true, false_implies, Int.reduceLE, Int.reduceLT, Nat.reduceLeDiff, UInt8.reduceToNat, ↓reduceIte, Nat.reduceEqDiff, Nat.reduceAdd, reduceCtorEq, Int.reduceToNat, clsL, clsS, clsC, Tryz.f14, g, ho, hw]
  generalize hhA : H.put h b _ = hA
  have gA : hA.get b = some (.cells [bo True, .int .u32 p.c, lv, bo False, bo p.fell] 66 false) := by rw [← hhA]; exact put_eq rfl
  have bA : But b h hA := by rw [← hhA]; exact (But.refl b h).put _
  have alA : BS 5 hA v l := by rw [← hhA]; exact al.put ho1
  have hrA : RW 55 8 p.l.length hA lv (ccells p.l) := by rw [← hhA]; exact hr.keep (Nat.le_refl _) fun k hk ⟨o, n, m, q⟩ => put_ne fun e => o1 o n m (by rw [← e]; exact q)
  have hnA : hA.nx = h.nx := by rw [← hhA]; rfl
  clear hhA
  refine callF_pure (readok_spec hS.toStdB alA hl28 p.c) ?_
  rintro _ h1 hx1 ⟨y0, y1, y2, y3, y4, y5, rfl, hy⟩
  have hn1 := hx1.1
  have g1 : h1.get b = some (.cells [bo True, .int .u32 p.c, lv, bo False, bo p.fell] 66 false) := by rw [hx1.2 _ (by omega)]; exact gA
  simp +contextual (disch := first | (simp only [facts, clsL, clsS, clsC, isPtrD]; done) | omega | (simp only [push_nx, put_nx, del_nx]; omega) | (refine Nat.le_antisymm ?_ ?_ <;> simp only [push_nx, put_nx, del_nx] <;> omega) | fail) only [wpy, facts, wpb, cst, wpk, wpl, forall_const, implies_true, false_implies, Int.reduceLE, Int.reduceLT, Nat.reduceLeDiff, UInt8.reduceToNat, ↓reduceIte, Nat.reduceEqDiff, Nat.reduceAdd, reduceCtorEq, Int.reduceToNat, clsL, clsS, clsC, Tryz.f14, g1, hy]
  refine ⟨.inr (.inl (by omega)), ?_⟩
  generalize hhB : H.put _ _ _ = hB
  have hxB : Ext h1 hB := by rw [← hhB]; exact Ext.new _ _ _
  clear hhB
  have hnB := hxB.1
  have gB : hB.get b = some (.cells [bo True, .int .u32 p.c, lv, bo False, bo p.fell] 66 false) := by rw [hxB.2 _ (by omega)]; exact g1
  have hxAB := hx1.trans hxB
  have bB : But b h hB := bA.trans (But.of_ext hxAB)
  have hrB := hrA.ext hxAB
  have hlB : b < hB.nx := by omega
  refine callF_exact (first1 hS.toStdB (alA.ext hxAB) p.c) ?_
  by_cases hf : firstF l p.c = 1
  case neg =>
    have hn : ¬ goodP l p.c := fun q => hf q.1
    rw [if_neg hn, if_neg hn]
    simp +contextual (disch := first | (simp only [facts, clsL, clsS, clsC, isPtrD]; done) | omega | (simp only [push_nx, put_nx, del_nx]; omega) | (refine Nat.le_antisymm ?_ ?_ <;> simp only [push_nx, put_nx, del_nx] <;> omega) | fail) only [wpy, facts, wpb, cst, wpk, wpl, forall_const, implies_true, false_implies, Int.reduceLE, Int.reduceLT, Nat.reduceLeDiff, UInt8.reduceToNat, ↓reduceIte, Nat.reduceEqDiff, Nat.reduceAdd, reduceCtorEq, Int.reduceToNat, clsL, clsS, clsC, Tryz.f14, gB, hf]
    exact ⟨PRo.put (p := ⟨p.c, p.l, False, True⟩) hrB o1 o2 hlB hg, bB.put _⟩
  by_cases he : okeF l p.c = 0
  case neg =>
    have hn : ¬ goodP l p.c := fun q => he q.2
    rw [if_neg hn, if_neg hn]
    have hf := eq_true hf
    simp +contextual (disch := first | (simp only [facts, clsL, clsS, clsC, isPtrD]; done) | omega | (simp only [push_nx, put_nx, del_nx]; omega) | (refine Nat.le_antisymm ?_ ?_ <;> simp only [push_nx, put_nx, del_nx] <;> omega) | fail) only [wpy, facts, wpb, cst, wpk, wpl, forall_const, implies_true, false_implies, Int.reduceLE, Int.reduceLT, Nat.reduceLeDiff, UInt8.reduceToNat, ↓reduceIte, Nat.reduceEqDiff, Nat.reduceAdd, reduceCtorEq, Int.reduceToNat, clsL, clsS, clsC, Tryz.f14, gB, hf, he]
    exact ⟨PRo.put (p := ⟨p.c, p.l, False, True⟩) hrB o1 o2 hlB hg, bB.put _⟩
  rw [if_pos ⟨hf, he⟩, if_pos ⟨hf, he⟩]
  have hf := eq_true hf
  have he := eq_true he
  simp +contextual (disch := first | (simp only [facts, clsL, clsS, clsC, isPtrD]; done) | omega | (simp only [push_nx, put_nx, del_nx]; omega) | (refine Nat.le_antisymm ?_ ?_ <;> simp only [push_nx, put_nx, del_nx] <;> omega) | fail) only [wpy, facts, wpb, cst, wpk, wpl, forall_const, implies_true, false_implies, Int.reduceLE, Int.reduceLT, Nat.reduceLeDiff, UInt8.reduceToNat, ↓reduceIte, Nat.reduceEqDiff, Nat.reduceAdd, reduceCtorEq, Int.reduceToNat, clsL, clsS, clsC, Tryz.f14, gB, hf, he]
  refine drop_rw (i := 1) hrB u32' s55' (by simp +contextual (disch := first | (simp only [facts, clsL, clsS, clsC, isPtrD]; done) | omega | (simp only [push_nx, put_nx, del_nx]; omega) | (refine Nat.le_antisymm ?_ ?_ <;> simp only [push_nx, put_nx, del_nx] <;> omega) | fail) only [wpy, facts, wpb, cst, wpk, wpl, forall_const, implies_true, false_implies, Int.reduceLE, Int.reduceLT, Nat.reduceLeDiff, UInt8.reduceToNat, ↓reduceIte, Nat.reduceEqDiff, Nat.reduceAdd, reduceCtorEq, Int.reduceToNat, clsL, clsS, clsC]) (by simp +contextual (disch := first | (simp only [facts, clsL, clsS, clsC, isPtrD]; done) | omega | (simp only [push_nx, put_nx, del_nx]; omega) | (refine Nat.le_antisymm ?_ ?_ <;> simp only [push_nx, put_nx, del_nx] <;> omega) | fail) only [wpy, facts, wpb, cst, wpk, wpl, forall_const, implies_true, false_implies, Int.reduceLE, Int.reduceLT, Nat.reduceLeDiff, UInt8.reduceToNat, ↓reduceIte, Nat.reduceEqDiff, Nat.reduceAdd, reduceCtorEq, Int.reduceToNat, clsL, clsS, clsC]) hpos fun w2 L2 hw2 ho2 _ => ?_
  obtain ⟨d1, d2⟩ := hw2.cell
  simp +contextual (disch := first | (simp only [facts, clsL, clsS, clsC, isPtrD]; done) | omega | (simp only [push_nx, put_nx, del_nx]; omega) | (refine Nat.le_antisymm ?_ ?_ <;> simp only [push_nx, put_nx, del_nx] <;> omega) | fail) only [wpy, facts, wpb, cst, wpk, wpl, forall_const, implies_true, false_implies, Int.reduceLE, Int.reduceLT, Nat.reduceLeDiff, UInt8.reduceToNat, ↓reduceIte, Nat.reduceEqDiff, Nat.reduceAdd, reduceCtorEq, Int.reduceToNat, clsL, clsS, clsC, Tryz.f14, gB, d1, d2]
  have hgt : GC p.l.tail := fun c hc => hg c (List.mem_of_mem_tail hc)
  refine ⟨PRo.put (p := ⟨p.c, p.l.tail, False, p.fell⟩) ?_ (ho2 _ o1) (ho2 _ o2) hlB hgt, bB.put _⟩
  show RW 55 8 p.l.tail.length hB w2 (ccells p.l.tail)
  rw [List.length_tail, tail_cells]
  exact hw2
theorem xgot_spec {b b2 : Nat} {p : RP} {h : H} (a : PRo 68 b b2 p h) {v : V} {l : List Nat} (al : BS 5 h v l) (ho1 : Off v b) (hl28 : l.length < 2 ^ 28) : callW S.cfg (· = b) 15 [.ptr b 0, v] h fun w h' => w = .int .i64 (p.gotE l) ∧ PRo 68 b b2 (p.got l) h' ∧ But b h h' := by
  refine into Tryz.f15 _ Tryz.func15 (hS.ownY _ (by decide)) rfl rfl (by kernel_rfl) (by kernel_rfl) ?_
  have a' := a
  obtain ⟨⟨lv, g, hr, o1, o2⟩, hl, hg⟩ := a
  have hlen := hr.len 55
  obtain ⟨c1, c2⟩ := al.cell
  simp +contextual (disch := first | (simp only [facts, clsL, clsS, clsC, isPtrD]; done) | omega | (simp only [push_nx, put_nx, del_nx]; omega) | (refine Nat.le_antisymm ?_ ?_ <;> simp only [push_nx, put_nx, del_nx] <;> omega) | fail) only [wpy, facts, wpb, cst, wpk, wpl, forall_const, implies_true, false_implies, Int.reduceLE, Int.reduceLT, Nat.reduceLeDiff, UInt8.reduceToNat, ↓reduceIte, Nat.reduceEqDiff, Nat.reduceAdd, reduceCtorEq, Int.reduceToNat, clsL, clsS, clsC, Tryz.f15, g]
  refine callF_exact (xovers_spec hS a') ?_
  simp +contextual (disch := first | (simp only [facts, clsL, clsS, clsC, isPtrD]; done) | omega | (simp only [push_nx, put_nx, del_nx]; omega) | (refine Nat.le_antisymm ?_ ?_ <;> simp only [push_nx, put_nx, del_nx] <;> omega) | fail) only [wpy, facts, wpb, cst, wpk, wpl, forall_const, implies_true, false_implies, Int.reduceLE, Int.reduceLT, Nat.reduceLeDiff, UInt8.reduceToNat, ↓reduceIte, Nat.reduceEqDiff, Nat.reduceAdd, reduceCtorEq, Int.reduceToNat, clsL, clsS, clsC, Tryz.f15, g]
  refine callF_exact (none_spec hS a') ?_
  by_cases ho : p.over
  · have e1 : p.gotE l = 9 := if_pos ho
    have e2 : p.got l = p := if_pos (.inl ho)
    rw [e1, e2]
    simp +contextual (disch := first | (simp only [facts, clsL, clsS, clsC, isPtrD]; done) | omega | (simp only [push_nx, put_nx, del_nx]; omega) | (refine Nat.le_antisymm ?_ ?_ <;> simp only [push_nx, put_nx, del_nx] <;> omega) | fail) only [wpy, facts, wpb, cst, wpk, wpl, forall_const, implies_true, false_implies, Int.reduceLE, Int.reduceLT, Nat.reduceLeDiff, UInt8.reduceToNat, ↓reduceIte, Nat.reduceEqDiff, Nat.reduceAdd, reduceCtorEq, Int.reduceToNat, clsL, clsS, clsC, Tryz.f15, g, ho]
    exact ⟨a', But.refl b h⟩
  by_cases hw : p.waits
  case neg =>
    have e1 : p.gotE l = 6 := by unfold RP.gotE; rw [if_neg ho, if_pos hw]
    have e2 : p.got l = p := if_pos (.inr hw)
    rw [e1, e2]
    simp +contextual (disch := first | (simp only [facts, clsL, clsS, clsC, isPtrD]; done) | omega | (simp only [push_nx, put_nx, del_nx]; omega) | (refine Nat.le_antisymm ?_ ?_ <;> simp only [push_nx, put_nx, del_nx] <;> omega) | fail) only [wpy, facts, wpb, cst, wpk, wpl, forall_const, implies_true, false_implies, Int.reduceLE, Int.reduceLT, Nat.reduceLeDiff, UInt8.reduceToNat, ↓reduceIte, Nat.reduceEqDiff, Nat.reduceAdd, reduceCtorEq, Int.reduceToNat, clsL, clsS, clsC, Tryz.f15, g, ho, hw]
    exact ⟨a', But.refl b h⟩
  have e1 : p.gotE l = @ite _ (goodP l p.c) (Classical.propDecidable _) 0 5 := by unfold RP.gotE; rw [if_neg ho, if_neg (fun q => q hw)]
  have e2 : p.got l = @ite _ (goodP l p.c) (Classical.propDecidable _) ⟨p.c, p.l.tail, False, p.fell⟩ ⟨p.c, p.l, False, True⟩ := if_neg (fun q => q.elim ho fun w => w hw)
  have hne : p.l ≠ [] := fun q => ho (.inr (by rw [q]; rfl))
  have hpos : 0 < p.l.length := List.length_pos_iff.2 hne
  rw [e1, e2]
  simp +contextual (disch := first | (simp only [facts, clsL, clsS, clsC, isPtrD]; done) | omega | (simp only [push_nx, put_nx, del_nx]; omega) | (refine Nat.le_antisymm ?_ ?_ <;> simp only [push_nx, put_nx, del_nx] <;> omega) | fail) only [wpy, facts, wpb, cst, wpk, wpl, forall_const, implies_true, false_implies, Int.reduceLE, Int.reduceLT, Nat.reduceLeDiff, UInt8.reduceToNat, ↓reduceIte, Nat.reduceEqDiff, Nat.reduceAdd, reduceCtorEq, Int.reduceToNat, clsL, clsS, clsC, Tryz.f15, g, ho, hw]
  generalize hhA : H.put h b _ = hA
  have gA : hA.get b = some (.cells [bo True, .int .u32 p.c, lv, bo False, bo p.fell] 68 false) := by rw [← hhA]; exact put_eq rfl
  have bA : But b h hA := by rw [← hhA]; exact (But.refl b h).put _
  have alA : BS 5 hA v l := by rw [← hhA]; exact al.put ho1
  have hrA : RW 55 8 p.l.length hA lv (ccells p.l) := by rw [← hhA]; exact hr.keep (Nat.le_refl _) fun k hk ⟨o, n, m, q⟩ => put_ne fun e => o1 o n m (by rw [← e]; exact q)
  have hnA : hA.nx = h.nx := by rw [← hhA]; rfl
  clear hhA
  refine callF_pure (xreadok_spec hS.toStdX.toStdW.toStdV.toStdT.toStdF alA hl28 p.c) ?_
  rintro _ h1 hx1 ⟨y0, y1, y2, y3, y4, y5, rfl, hy⟩
  have hn1 := hx1.1
  have g1 : h1.get b = some (.cells [bo True, .int .u32 p.c, lv, bo False, bo p.fell] 68 false) := by rw [hx1.2 _ (by omega)]; exact gA
  simp +contextual (disch := first | (simp only [facts, clsL, clsS, clsC, isPtrD]; done) | omega | (simp only [push_nx, put_nx, del_nx]; omega) | (refine Nat.le_antisymm ?_ ?_ <;> simp only [push_nx, put_nx, del_nx] <;> omega) | fail) only [wpy, facts, wpb, cst, wpk, wpl, forall_const, implies_true, false_implies, Int.reduceLE, Int.reduceLT, Nat.reduceLeDiff, UInt8.reduceToNat, ↓reduceIte, Nat.reduceEqDiff, Nat.reduceAdd, reduceCtorEq, Int.reduceToNat, clsL, clsS, clsC, Tryz.f15, g1, hy]
  refine ⟨.inr (.inl (by omega)), ?_⟩
  generalize hhB : H.put _ _ _ = hB
  have hxB : Ext h1 hB := by rw [← hhB]; exact Ext.new _ _ _
  clear hhB
  have hnB := hxB.1
  have gB : hB.get b = some (.cells [bo True, .int .u32 p.c, lv, bo False, bo p.fell] 68 false) := by rw [hxB.2 _ (by omega)]; exact g1
  have hxAB := hx1.trans hxB
  have bB : But b h hB := bA.trans (But.of_ext hxAB)
  have hrB := hrA.ext hxAB
  have hlB : b < hB.nx := by omega
  refine callF_exact (first2 hS (alA.ext hxAB) p.c) ?_
  by_cases hf : firstF l p.c = 1
  case neg =>
    have hn : ¬ goodP l p.c := fun q => hf q.1
    rw [if_neg hn, if_neg hn]
    simp +contextual (disch := first | (simp only [facts, clsL, clsS, clsC, isPtrD]; done) | omega | (simp only [push_nx, put_nx, del_nx]; omega) | (refine Nat.le_antisymm ?_ ?_ <;> simp only [push_nx, put_nx, del_nx] <;> omega) | fail) only [wpy, facts, wpb, cst, wpk, wpl, forall_const, implies_true, false_implies, Int.reduceLE, Int.reduceLT, Nat.reduceLeDiff, UInt8.reduceToNat, ↓reduceIte, Nat.reduceEqDiff, Nat.reduceAdd, reduceCtorEq, Int.reduceToNat, clsL, clsS, clsC, Tryz.f15, gB, hf]
    exact ⟨PRo.put (p := ⟨p.c, p.l, False, True⟩) hrB o1 o2 hlB hg, bB.put _⟩
  by_cases he : okeF l p.c = 0
  case neg =>
    have hn : ¬ goodP l p.c := fun q => he q.2
    rw [if_neg hn, if_neg hn]
    have hf := eq_true hf
    simp +contextual (disch := first | (simp only [facts, clsL, clsS, clsC, isPtrD]; done) | omega | (simp only [push_nx, put_nx, del_nx]; omega) | (refine Nat.le_antisymm ?_ ?_ <;> simp only [push_nx, put_nx, del_nx] <;> omega) | fail) only [wpy, facts, wpb, cst, wpk, wpl, forall_const, implies_true, false_implies, Int.reduceLE, Int.reduceLT, Nat.reduceLeDiff, UInt8.reduceToNat, ↓reduceIte, Nat.reduceEqDiff, Nat.reduceAdd, reduceCtorEq, Int.reduceToNat, clsL, clsS, clsC, Tryz.f15, gB, hf, he]
    exact ⟨PRo.put (p := ⟨p.c, p.l, False, True⟩) hrB o1 o2 hlB hg, bB.put _⟩
  rw [if_pos ⟨hf, he⟩, if_pos ⟨hf, he⟩]
  have hf := eq_true hf
  have he := eq_true he
  simp +contextual (disch := first | (simp only [facts, clsL, clsS, clsC, isPtrD]; done) | omega | (simp only [push_nx, put_nx, del_nx]; omega) | (refine Nat.le_antisymm ?_ ?_ <;> simp only [push_nx, put_nx, del_nx] <;> omega) | fail) only [wpy, facts, wpb, cst, wpk, wpl, forall_const, implies_true, false_implies, Int.reduceLE, Int.reduceLT, Nat.reduceLeDiff, UInt8.reduceToNat, ↓reduceIte, Nat.reduceEqDiff, Nat.reduceAdd, reduceCtorEq, Int.reduceToNat, clsL, clsS, clsC, Tryz.f15, gB, hf, he]
  refine drop_rw (i := 1) hrB u32' s55' (by simp +contextual (disch := first | (simp only [facts, clsL, clsS, clsC, isPtrD]; done) | omega | (simp only [push_nx, put_nx, del_nx]; omega) | (refine Nat.le_antisymm ?_ ?_ <;> simp only [push_nx, put_nx, del_nx] <;> omega) | fail) only [wpy, facts, wpb, cst, wpk, wpl, forall_const, implies_true, false_implies, Int.reduceLE, Int.reduceLT, Nat.reduceLeDiff, UInt8.reduceToNat, ↓reduceIte, Nat.reduceEqDiff, Nat.reduceAdd, reduceCtorEq, Int.reduceToNat, clsL, clsS, clsC]) (by simp +contextual (disch := first | (simp only [facts, clsL, clsS, clsC, isPtrD]; done) | omega | (simp only [push_nx, put_nx, del_nx]; omega) | (refine Nat.le_antisymm ?_ ?_ <;> simp only [push_nx, put_nx, del_nx] <;> omega) | fail) only [wpy, facts, wpb, cst, wpk, wpl, forall_const, implies_true, false_implies, Int.reduceLE, Int.reduceLT, Nat.reduceLeDiff, UInt8.reduceToNat, ↓reduceIte, Nat.reduceEqDiff, Nat.reduceAdd, reduceCtorEq, Int.reduceToNat, clsL, clsS, clsC]) hpos fun w2 L2 hw2 ho2 _ => ?_
  obtain ⟨d1, d2⟩ := hw2.cell
  simp +contextual (disch := first | (simp only [facts, clsL, clsS, clsC, isPtrD]; done) | omega | (simp only [push_nx, put_nx, del_nx]; omega) | (refine Nat.le_antisymm ?_ ?_ <;> simp only [push_nx, put_nx, del_nx] <;> omega) | fail) only [wpy, facts, wpb, cst, wpk, wpl, forall_const, implies_true, false_implies, Int.reduceLE, Int.reduceLT, Nat.reduceLeDiff, UInt8.reduceToNat, ↓reduceIte, Nat.reduceEqDiff, Nat.reduceAdd, reduceCtorEq, Int.reduceToNat, clsL, clsS, clsC, Tryz.f15, gB, d1, d2]
  have hgt : GC p.l.tail := fun c hc => hg c (List.mem_of_mem_tail hc)
  refine ⟨PRo.put (p := ⟨p.c, p.l.tail, False, p.fell⟩) ?_ (ho2 _ o1) (ho2 _ o2) hlB hgt, bB.put _⟩
  show RW 55 8 p.l.tail.length hB w2 (ccells p.l.tail)
  rw [List.length_tail, tail_cells]
  exact hw2
def newP (T : TK) (schema : List Nat) (c : Int) : RP := ⟨c, planL T schema, False, False⟩
omit hS in
theorem plan_good {T : TK} {schema : List Nat} (hp : planP T) (hb : Bytes T.schema) (hl : T.schema.length < 2 ^ 20) (hby : ∀ x ∈ T.vars, Bytes x.1 ∧ Bytes x.2) : GC (planL T schema) := by
  intro c hc
  rcases List.mem_append.1 hc with hc | hc
  · unfold useC at hc
    split at hc
    · cases hc
    · rw [List.mem_singleton.1 hc]
      exact ⟨.inl rfl, hb, hl⟩
  · obtain ⟨x, hx, rfl⟩ := List.mem_map.1 hc
    obtain ⟨i, hi, rfl⟩ := List.getElem_of_mem hx
    have := hp.2.2 i hi
    rw [List.getD_eq_getElem?_getD, List.getElem?_eq_getElem hi] at this
    have h1 : ¬ 1000 < T.vars[i].1.length := fun q => this (.inl q)
    have h2 : ¬ 1000 < T.vars[i].2.length := fun q => this (.inr q)
    have h3 := anewF_len T.vars[i].1 T.vars[i].2
    exact ⟨.inr rfl, anewF_bytes _ _, by show (anewF _ _).length < _; omega⟩
omit hS in
theorem ccells_ok {h : H} {n0 : Nat} {lv : V} {l : List CM} (ha : Acc n0 h lv (ccells l) 55 8) : RW 55 8 l.length h lv (ccells l) := RW.of_acc' ha (by decide) (ccells_len l)
theorem new_spec (T : TK) (vv tv : V) (schema : List Nat) (c : Int) (h : H) (a : TR h T vv tv) (hv : T.vars.length < 2 ^ 16) (ht : T.temps.length < 2 ^ 30) (hb : Bytes T.schema) (hl : T.schema.length < 2 ^ 20) (hby : ∀ x ∈ T.vars, Bytes x.1 ∧ Bytes x.2) : Pure S.cfg 9 [.agg (T.cells vv tv), .str schema, .int .u32 c] h fun w h' => (planP T ∧ neededP c → ∃ b, w = .tuple [.ptr b 0, .int .i64 0] ∧ h.nx ≤ b ∧ ∀ b2, h'.nx ≤ b2 ∨ b2 < h.nx → PRo 66 b b2 (newP T schema c) h') ∧ (¬ (planP T ∧ neededP c) → w = .tuple [.nilptr, .int .i64 2]) := by
  refine into Tryz.f9 _ Tryz.func9 (hS.ownY _ (by decide)) rfl rfl (by kernel_rfl) (by kernel_rfl) ?_
  obtain ⟨c1, c2⟩ := a.vars.cell
  obtain ⟨c3, c4⟩ := a.temps.cell
  have pk := fun h a => plan_spec hS.toStdX.toStdW T vv tv schema h a hv ht
  unfold TK.cells at pk ⊢
  simp +contextual (disch := first | (simp only [facts, clsL, clsS, clsC, isPtrD]; done) | omega | (simp only [push_nx, put_nx, del_nx]; omega) | (refine Nat.le_antisymm ?_ ?_ <;> simp only [push_nx, put_nx, del_nx] <;> omega) | fail) only [wpy, facts, wpb, cst, wpk, wpl, forall_const, implies_true, false_implies, Int.reduceLE, Int.reduceLT, Nat.reduceLeDiff, UInt8.reduceToNat, ↓reduceIte, Nat.reduceEqDiff, Nat.reduceAdd, reduceCtorEq, Int.reduceToNat, clsL, clsS, clsC, Tryz.f9, c1, c2, c3, c4]
  refine callF_pure (pk _ (a.ext ((Ext.refl h).push _))) ?_
  rintro w h1 hx1 ⟨p1, p2⟩
  have hx : Ext h h1 := ((Ext.refl h).push _).trans hx1
  have hn1 : h.nx + 1 ≤ h1.nx := hx1.1
  by_cases hp : planP T
  case neg =>
    rw [p2 hp]
    simp +contextual (disch := first | (simp only [facts, clsL, clsS, clsC, isPtrD]; done) | omega | (simp only [push_nx, put_nx, del_nx]; omega) | (refine Nat.le_antisymm ?_ ?_ <;> simp only [push_nx, put_nx, del_nx] <;> omega) | fail) only [wpy, facts, wpb, cst, wpk, wpl, forall_const, implies_true, false_implies, Int.reduceLE, Int.reduceLT, Nat.reduceLeDiff, UInt8.reduceToNat, ↓reduceIte, Nat.reduceEqDiff, Nat.reduceAdd, reduceCtorEq, Int.reduceToNat, clsL, clsS, clsC, Tryz.f9, n20]
    exact ⟨hx, fun q => absurd q.1 hp⟩
  obtain ⟨lv, rfl, ha⟩ := p1 hp
  obtain ⟨d1, d2⟩ := ha.cell
  simp +contextual (disch := first | (simp only [facts, clsL, clsS, clsC, isPtrD]; done) | omega | (simp only [push_nx, put_nx, del_nx]; omega) | (refine Nat.le_antisymm ?_ ?_ <;> simp only [push_nx, put_nx, del_nx] <;> omega) | fail) only [wpy, facts, wpb, cst, wpk, wpl, forall_const, implies_true, false_implies, Int.reduceLE, Int.reduceLT, Nat.reduceLeDiff, UInt8.reduceToNat, ↓reduceIte, Nat.reduceEqDiff, Nat.reduceAdd, reduceCtorEq, Int.reduceToNat, clsL, clsS, clsC, Tryz.f9]
  refine callF_exact (ccheck_spec hS.toStdX c _) ?_
  by_cases hc : neededP c
  case neg =>
    rw [if_neg hc]
    simp +contextual (disch := first | (simp only [facts, clsL, clsS, clsC, isPtrD]; done) | omega | (simp only [push_nx, put_nx, del_nx]; omega) | (refine Nat.le_antisymm ?_ ?_ <;> simp only [push_nx, put_nx, del_nx] <;> omega) | fail) only [wpy, facts, wpb, cst, wpk, wpl, forall_const, implies_true, false_implies, Int.reduceLE, Int.reduceLT, Nat.reduceLeDiff, UInt8.reduceToNat, ↓reduceIte, Nat.reduceEqDiff, Nat.reduceAdd, reduceCtorEq, Int.reduceToNat, clsL, clsS, clsC, Tryz.f9, n50]
    exact ⟨hx, fun q => absurd q.2 hc⟩
  rw [if_pos hc]
  simp +contextual (disch := first | (simp only [facts, clsL, clsS, clsC, isPtrD]; done) | omega | (simp only [push_nx, put_nx, del_nx]; omega) | (refine Nat.le_antisymm ?_ ?_ <;> simp only [push_nx, put_nx, del_nx] <;> omega) | fail) only [wpy, facts, wpb, cst, wpk, wpl, forall_const, implies_true, false_implies, Int.reduceLE, Int.reduceLT, Nat.reduceLeDiff, UInt8.reduceToNat, ↓reduceIte, Nat.reduceEqDiff, Nat.reduceAdd, reduceCtorEq, Int.reduceToNat, clsL, clsS, clsC, Tryz.f9, d1, d2]
  have hgood := plan_good (schema := schema) hp hb hl hby
  have hrw := ccells_ok ha
  refine ⟨hx.push _, fun _ => ⟨h1.nx, rfl, by omega, fun b2 hb2 => ⟨⟨lv, push_eq rfl, hrw.ext ((Ext.refl h1).push _), hrw.off (Nat.le_refl _), ?_⟩, Nat.lt_succ_self _, hgood⟩⟩, fun q => absurd ⟨hp, hc⟩ q⟩
  rcases hb2 with q | q
  · exact hrw.off (by omega)
  · exact fun o n m e => ha.ne (by simp only [push_nx]; omega) e
theorem xnew_spec (T : TK) (vv tv : V) (schema : List Nat) (c : Int) (h : H) (a : TR h T vv tv) (hv : T.vars.length < 2 ^ 16) (ht : T.temps.length < 2 ^ 30) (hb : Bytes T.schema) (hl : T.schema.length < 2 ^ 20) (hby : ∀ x ∈ T.vars, Bytes x.1 ∧ Bytes x.2) : Pure S.cfg 10 [.agg (T.cells vv tv), .str schema, .int .u32 c] h fun w h' => (planP T ∧ neededP c → ∃ b, w = .tuple [.ptr b 0, .int .i64 0] ∧ h.nx ≤ b ∧ ∀ b2, h'.nx ≤ b2 ∨ b2 < h.nx → PRo 68 b b2 (newP T schema c) h') ∧ (¬ (planP T ∧ neededP c) → w = .tuple [.nilptr, .int .i64 2]) := by
  refine into Tryz.f10 _ Tryz.func10 (hS.ownY _ (by decide)) rfl rfl (by kernel_rfl) (by kernel_rfl) ?_
  obtain ⟨c1, c2⟩ := a.vars.cell
  obtain ⟨c3, c4⟩ := a.temps.cell
  have pk := fun h a => xplan_spec hS.toStdX.toStdW T vv tv schema h a hv ht hby
  unfold TK.cells at pk ⊢
  simp +contextual (disch := first | (simp only [facts, clsL, clsS, clsC, isPtrD]; done) | omega | (simp only [push_nx, put_nx, del_nx]; omega) | (refine Nat.le_antisymm ?_ ?_ <;> simp only [push_nx, put_nx, del_nx] <;> omega) | fail) only [wpy, facts, wpb, cst, wpk, wpl, forall_const, implies_true, false_implies, Int.reduceLE, Int.reduceLT, Nat.reduceLeDiff, UInt8.reduceToNat, ↓reduceIte, Nat.reduceEqDiff, Nat.reduceAdd, reduceCtorEq, Int.reduceToNat, clsL, clsS, clsC, Tryz.f10, c1, c2, c3, c4]
  refine callF_pure (pk _ (a.ext ((Ext.refl h).push _))) ?_
  rintro w h1 hx1 ⟨p1, p2⟩
  have hx : Ext h h1 := ((Ext.refl h).push _).trans hx1
  have hn1 : h.nx + 1 ≤ h1.nx := hx1.1
  by_cases hp : planP T
  case neg =>
    rw [p2 hp]
    simp +contextual (disch := first | (simp only [facts, clsL, clsS, clsC, isPtrD]; done) | omega | (simp only [push_nx, put_nx, del_nx]; omega) | (refine Nat.le_antisymm ?_ ?_ <;> simp only [push_nx, put_nx, del_nx] <;> omega) | fail) only [wpy, facts, wpb, cst, wpk, wpl, forall_const, implies_true, false_implies, Int.reduceLE, Int.reduceLT, Nat.reduceLeDiff, UInt8.reduceToNat, ↓reduceIte, Nat.reduceEqDiff, Nat.reduceAdd, reduceCtorEq, Int.reduceToNat, clsL, clsS, clsC, Tryz.f10, n20]
    exact ⟨hx, fun q => absurd q.1 hp⟩
  obtain ⟨lv, rfl, ha⟩ := p1 hp
  obtain ⟨d1, d2⟩ := ha.cell
  simp +contextual (disch := first | (simp only [facts, clsL, clsS, clsC, isPtrD]; done) | omega | (simp only [push_nx, put_nx, del_nx]; omega) | (refine Nat.le_antisymm ?_ ?_ <;> simp only [push_nx, put_nx, del_nx] <;> omega) | fail) only [wpy, facts, wpb, cst, wpk, wpl, forall_const, implies_true, false_implies, Int.reduceLE, Int.reduceLT, Nat.reduceLeDiff, UInt8.reduceToNat, ↓reduceIte, Nat.reduceEqDiff, Nat.reduceAdd, reduceCtorEq, Int.reduceToNat, clsL, clsS, clsC, Tryz.f10]
  refine callF_exact (xccheck_spec hS.toStdX c _) ?_
  by_cases hc : neededP c
  case neg =>
    rw [if_neg hc]
    simp +contextual (disch := first | (simp only [facts, clsL, clsS, clsC, isPtrD]; done) | omega | (simp only [push_nx, put_nx, del_nx]; omega) | (refine Nat.le_antisymm ?_ ?_ <;> simp only [push_nx, put_nx, del_nx] <;> omega) | fail) only [wpy, facts, wpb, cst, wpk, wpl, forall_const, implies_true, false_implies, Int.reduceLE, Int.reduceLT, Nat.reduceLeDiff, UInt8.reduceToNat, ↓reduceIte, Nat.reduceEqDiff, Nat.reduceAdd, reduceCtorEq, Int.reduceToNat, clsL, clsS, clsC, Tryz.f10, n50]
    exact ⟨hx, fun q => absurd q.2 hc⟩
  rw [if_pos hc]
  simp +contextual (disch := first | (simp only [facts, clsL, clsS, clsC, isPtrD]; done) | omega | (simp only [push_nx, put_nx, del_nx]; omega) | (refine Nat.le_antisymm ?_ ?_ <;> simp only [push_nx, put_nx, del_nx] <;> omega) | fail) only [wpy, facts, wpb, cst, wpk, wpl, forall_const, implies_true, false_implies, Int.reduceLE, Int.reduceLT, Nat.reduceLeDiff, UInt8.reduceToNat, ↓reduceIte, Nat.reduceEqDiff, Nat.reduceAdd, reduceCtorEq, Int.reduceToNat, clsL, clsS, clsC, Tryz.f10, d1, d2]
  have hgood := plan_good (schema := schema) hp hb hl hby
  have hrw := ccells_ok ha
  refine ⟨hx.push _, fun _ => ⟨h1.nx, rfl, by omega, fun b2 hb2 => ⟨⟨lv, push_eq rfl, hrw.ext ((Ext.refl h1).push _), hrw.off (Nat.le_refl _), ?_⟩, Nat.lt_succ_self _, hgood⟩⟩, fun q => absurd ⟨hp, hc⟩ q⟩
  rcases hb2 with q | q
  · exact hrw.off (by omega)
  · exact fun o n m e => ha.ne (by simp only [push_nx]; omega) e
end
noncomputable section
theorem flatb {P : Program} {t : TypeId} {cc x y : Bool} (hu : P.underlying t = some .bool) : binV P .neq t cc (.bool x) (.bool y) = some (.bool (!(x == y))) ∧ binV P .eql t cc (.bool x) (.bool y) = some (.bool (x == y)) := by
  have e : eqT P t (.bool x) (.bool y) = some (x == y) := by
    unfold eqT
    rw [hu]
    rfl
  constructor
  · show (eqT P t (.bool x) (.bool y)).map (fun r => V.bool (!r)) = _
    rw [e]; rfl
  · show (eqT P t (.bool x) (.bool y)).map V.bool = _
    rw [e]; rfl
theorem bo_neq {P : Program} {t : TypeId} {cc : Bool} {p q : Prop} (hu : P.underlying t = some .bool) : binV P .neq t cc (bo p) (bo q) = some (bo (¬ (p ↔ q))) := by
  unfold bo
  by_cases hp : p <;> by_cases hq : q <;> simp only [hp, hq, iff_self, not_true, not_false_eq_true, decide_true, decide_false, iff_true, iff_false, true_iff, false_iff, (flatb hu).1] <;> rfl
theorem cond_yes {c : Cfg} {Ok : Nat → Prop} {k : List Kt} {Q : Ex → Env → H → Prop} {env : Env} {h : H} {x : Operand} {a b : Code} {p : Prop} (hv : evalE env x = bo p) (hp : p) (hA : run c Ok k a env h Q) : run c Ok k (.cond x a b) env h Q := by
  rw [run_cond, hv, condW_bo]
  exact ⟨fun _ => hA, fun q => absurd hp q⟩
theorem u4' : Tryz.prog.underlying 4 = some .bool := by kernel_rfl
def smallP (T : TK) : Prop := (∀ x ∈ T.vars, x.1.length ≤ 3000 ∧ x.2.length ≤ 3000) ∧ T.vars.length ≤ 200 ∧ T.temps.length ≤ 200 ∧ T.schema.length ≤ 3000
structure StdZ (S : Set0) : Prop extends StdY S where
  ownZ : ∀ f, f ∈ [3, 5, 8, 13, 27] → sums S.exts f = none
  lives : ∀ h : H, Exact S.cfg 4 [] h (.bool true)
variable {S : Set0} (hS : StdZ S)
include hS
theorem small_spec (T : TK) (vv tv : V) (h : H) (a : TR h T vv tv) (hv : T.vars.length < 2 ^ 63) : Pure S.cfg 5 [.agg (T.cells vv tv)] h fun w _ => ∃ p : Prop, w = bo p ∧ (p → smallP T) := by
  refine into Tryz.f5 _ Tryz.func5 (hS.ownZ _ (by decide)) rfl rfl (by kernel_rfl) (by kernel_rfl) ?_
  obtain ⟨c1, c2⟩ := a.vars.cell
  obtain ⟨c3, c4⟩ := a.temps.cell
  have hl := a.temps.len 9
  have hl2 := a.vars.len 57
  unfold TK.cells
  simp +contextual (disch := first | (simp only [facts, clsL, clsS, clsC, isPtrD]; done) | omega | (simp only [push_nx, put_nx, del_nx]; omega) | (refine Nat.le_antisymm ?_ ?_ <;> simp only [push_nx, put_nx, del_nx] <;> omega) | fail) only [wpy, facts, wpb, cst, wpk, wpl, forall_const, implies_true, false_implies, Int.reduceLE, Int.reduceLT, Nat.reduceLeDiff, UInt8.reduceToNat, ↓reduceIte, Nat.reduceEqDiff, Nat.reduceAdd, reduceCtorEq, Int.reduceToNat, clsL, clsS, clsC, Tryz.f5, c1, c2, c3, c4]
  generalize hhA : H.push h _ = hA
  have hxA : Ext h hA := by rw [← hhA]; exact (Ext.refl h).push _
  have g1 : hA.get h.nx = some (.cells [.str T.schema, vv, tv, bo T.trans, bo T.users, bo T.locked, bo T.odd] 25 false) := by rw [← hhA]; exact push_eq rfl
  clear hhA
  have a2 := a.ext hxA
  refine run_loop (fun k env h' => ∃ i : Nat, k = T.vars.length - i ∧ i ≤ T.vars.length ∧ (∀ j, j < i → (T.vars.getD j ([], [])).1.length ≤ 3000 ∧ (T.vars.getD j ([], [])).2.length ≤ 3000) ∧ env 1 = .ptr h.nx 0 ∧ env 3 = .int .i64 i ∧ h' = hA) T.vars.length ⟨0, ?_⟩ ?_
  · simp +contextual (disch := first | (simp only [facts, clsL, clsS, clsC, isPtrD]; done) | omega | (simp only [push_nx, put_nx, del_nx]; omega) | (refine Nat.le_antisymm ?_ ?_ <;> simp only [push_nx, put_nx, del_nx] <;> omega) | fail) only [wpy, facts, wpb, cst, wpk, wpl, forall_const, implies_true, false_implies, Int.reduceLE, Int.reduceLT, Nat.reduceLeDiff, UInt8.reduceToNat, ↓reduceIte, Nat.reduceEqDiff, Nat.reduceAdd, reduceCtorEq, Int.reduceToNat, clsL, clsS, clsC]
    exact ⟨rfl, fun i hi => by omega⟩
  rintro k env h' ⟨i, rfl, hi, hri, e1, e3, rfl⟩
  by_cases hi2 : i < T.vars.length
  · obtain ⟨b, o, m, rfl⟩ := a2.vars.at (by omega)
    obtain ⟨_, hb, hr1, hr2⟩ := a2.vars.rd
    have hcl := vcells_len T.vars
    obtain ⟨k1, k2, k3⟩ := vcells_at hi2
    have r2 : rdV (some (1, false)) (h'.get b) (o + i * 2) = some (.str (T.vars.getD i ([], [])).1) := by
      rw [hr1 (i * 2) 1 (by rw [hcl]; omega)]
      rw [List.getElem?_eq_getElem (by rw [hcl]; omega)] at k1
      exact k1
    have r3 : rdV (some (1, false)) (h'.get b) (o + i * 2 + 1) = some (.str (T.vars.getD i ([], [])).2) := by
      rw [Nat.add_assoc, hr1 (i * 2 + 1) 1 (by rw [hcl]; omega)]
      rw [List.getElem?_eq_getElem (by rw [hcl]; omega)] at k2
      exact k2
    by_cases h5 : 3000 < (T.vars.getD i ([], [])).1.length
    · simp +contextual (disch := first | (simp only [facts, clsL, clsS, clsC, isPtrD]; done) | omega | (simp only [push_nx, put_nx, del_nx]; omega) | (refine Nat.le_antisymm ?_ ?_ <;> simp only [push_nx, put_nx, del_nx] <;> omega) | fail) only [wpy, facts, wpb, cst, wpk, wpl, forall_const, implies_true, false_implies, Int.reduceLE, Int.reduceLT, Nat.reduceLeDiff, UInt8.reduceToNat, ↓reduceIte, Nat.reduceEqDiff, Nat.reduceAdd, reduceCtorEq, Int.reduceToNat, clsL, clsS, clsC, Tryz.f5, e1, e3, hi2, g1, hl2, r2, h5]
      exact ⟨hxA, False, rfl, fun q => q.elim⟩
    by_cases h6 : 3000 < (T.vars.getD i ([], [])).2.length
    · simp +contextual (disch := first | (simp only [facts, clsL, clsS, clsC, isPtrD]; done) | omega | (simp only [push_nx, put_nx, del_nx]; omega) | (refine Nat.le_antisymm ?_ ?_ <;> simp only [push_nx, put_nx, del_nx] <;> omega) | fail) only [wpy, facts, wpb, cst, wpk, wpl, forall_const, implies_true, false_implies, Int.reduceLE, Int.reduceLT, Nat.reduceLeDiff, UInt8.reduceToNat, ↓reduceIte, Nat.reduceEqDiff, Nat.reduceAdd, reduceCtorEq, Int.reduceToNat, clsL, clsS, clsC, Tryz.f5, e1, e3, hi2, g1, hl2, r2, h5, r3, h6]
      exact ⟨hxA, False, rfl, fun q => q.elim⟩
    simp +contextual (disch := first | (simp only [facts, clsL, clsS, clsC, isPtrD]; done) | omega | (simp only [push_nx, put_nx, del_nx]; omega) | (refine Nat.le_antisymm ?_ ?_ <;> simp only [push_nx, put_nx, del_nx] <;> omega) | fail) only [wpy, facts, wpb, cst, wpk, wpl, forall_const, implies_true, false_implies, Int.reduceLE, Int.reduceLT, Nat.reduceLeDiff, UInt8.reduceToNat, ↓reduceIte, Nat.reduceEqDiff, Nat.reduceAdd, reduceCtorEq, Int.reduceToNat, clsL, clsS, clsC, Tryz.f5, e1, e3, hi2, g1, hl2, r2, h5, r3, h6]
    refine ⟨_, by omega, i + 1, rfl, by omega, fun j hj => ?_, rfl⟩
    by_cases e : j = i
    · rw [e]; exact ⟨by omega, by omega⟩
    · exact hri j (by omega)
  · have hin : i = T.vars.length := by omega
    subst hin
    simp +contextual (disch := first | (simp only [facts, clsL, clsS, clsC, isPtrD]; done) | omega | (simp only [push_nx, put_nx, del_nx]; omega) | (refine Nat.le_antisymm ?_ ?_ <;> simp only [push_nx, put_nx, del_nx] <;> omega) | fail) only [wpy, facts, wpb, cst, wpk, wpl, forall_const, implies_true, false_implies, Int.reduceLE, Int.reduceLT, Nat.reduceLeDiff, UInt8.reduceToNat, ↓reduceIte, Nat.reduceEqDiff, Nat.reduceAdd, reduceCtorEq, Int.reduceToNat, clsL, clsS, clsC, Tryz.f5, e1, e3, hi2, g1, hl2, hl]
    refine ⟨hxA, _, rfl, fun q => ⟨fun x hx => ?_, q.1.1, q.1.2, q.2⟩⟩
    obtain ⟨j, hj, rfl⟩ := List.getElem_of_mem hx
    have := hri j hj
    rw [List.getD_eq_getElem?_getD, List.getElem?_eq_getElem hj] at this
    exact this
theorem same_spec {v w : V} {l : List Nat} {h : H} (a : BS 5 h v l) (b : BS 5 h w l) : Exact S.cfg 13 [v, w] h (bo True) := by
  refine into Tryz.f13 _ Tryz.func13 (hS.ownZ _ (by decide)) rfl rfl (by kernel_rfl) (by kernel_rfl) ?_
  obtain ⟨L1, _, e1⟩ := a.str
  obtain ⟨L2, _, e2⟩ := b.str
  have hll : (l = l) = True := by simp
  simp +contextual (disch := first | (simp only [facts, clsL, clsS, clsC, isPtrD]; done) | omega | (simp only [push_nx, put_nx, del_nx]; omega) | (refine Nat.le_antisymm ?_ ?_ <;> simp only [push_nx, put_nx, del_nx] <;> omega) | fail) only [wpy, facts, wpb, cst, wpk, wpl, forall_const, implies_true, false_implies, Int.reduceLE, Int.reduceLT, Nat.reduceLeDiff, UInt8.reduceToNat, ↓reduceIte, Nat.reduceEqDiff, Nat.reduceAdd, reduceCtorEq, Int.reduceToNat, clsL, clsS, clsC, Tryz.f13, e1, e2, hll]
theorem samec_spec (c : CM) (h : H) : Pure S.cfg 27 [.agg c.cells, .agg c.cells] h fun w _ => w = bo True := by
  refine into Tryz.f27 _ Tryz.func27 (hS.ownZ _ (by decide)) rfl rfl (by kernel_rfl) (by kernel_rfl) ?_
  unfold CM.cells
  have q1 : ¬ h.nx = h.nx + 1 := by omega
  simp +contextual (disch := first | (simp only [facts, clsL, clsS, clsC, isPtrD]; done) | omega | (simp only [push_nx, put_nx, del_nx]; omega) | (refine Nat.le_antisymm ?_ ?_ <;> simp only [push_nx, put_nx, del_nx] <;> omega) | fail) only [wpy, facts, wpb, cst, wpk, wpl, forall_const, implies_true, false_implies, Int.reduceLE, Int.reduceLT, Nat.reduceLeDiff, UInt8.reduceToNat, ↓reduceIte, Nat.reduceEqDiff, Nat.reduceAdd, reduceCtorEq, Int.reduceToNat, clsL, clsS, clsC, Tryz.f27, q1]
  refine callF_exact (same_spec hS (BS.nil 5 _) (BS.nil 5 _)) ?_
  simp +contextual (disch := first | (simp only [facts, clsL, clsS, clsC, isPtrD]; done) | omega | (simp only [push_nx, put_nx, del_nx]; omega) | (refine Nat.le_antisymm ?_ ?_ <;> simp only [push_nx, put_nx, del_nx] <;> omega) | fail) only [wpy, facts, wpb, cst, wpk, wpl, forall_const, implies_true, false_implies, Int.reduceLE, Int.reduceLT, Nat.reduceLeDiff, UInt8.reduceToNat, ↓reduceIte, Nat.reduceEqDiff, Nat.reduceAdd, reduceCtorEq, Int.reduceToNat, clsL, clsS, clsC, Tryz.f27]
  exact ((Ext.refl h).push _).push _
theorem cmds_spec (L : List CM) (v w : V) (h : H) (a : RW 55 8 L.length h v (ccells L)) (b : RW 55 8 L.length h w (ccells L)) (hL : L.length < 2 ^ 40) : Pure S.cfg 8 [v, w] h fun r _ => r = bo True := by
  refine into Tryz.f8 _ Tryz.func8 (hS.ownZ _ (by decide)) rfl rfl (by kernel_rfl) (by kernel_rfl) ?_
  have hl := a.len 55
  have hl2 := b.len 55
  have hll : (L.length = L.length) = True := by simp
  simp +contextual (disch := first | (simp only [facts, clsL, clsS, clsC, isPtrD]; done) | omega | (simp only [push_nx, put_nx, del_nx]; omega) | (refine Nat.le_antisymm ?_ ?_ <;> simp only [push_nx, put_nx, del_nx] <;> omega) | fail) only [wpy, facts, wpb, cst, wpk, wpl, forall_const, implies_true, false_implies, Int.reduceLE, Int.reduceLT, Nat.reduceLeDiff, UInt8.reduceToNat, ↓reduceIte, Nat.reduceEqDiff, Nat.reduceAdd, reduceCtorEq, Int.reduceToNat, clsL, clsS, clsC, Tryz.f8, hl, hl2, hll]
  refine run_loop (fun k env h' => ∃ i : Nat, k = L.length - i ∧ i ≤ L.length ∧ env 0 = v ∧ env 1 = w ∧ env 5 = .int .i64 i ∧ Ext h h') L.length ⟨0, ?_⟩ ?_
  · simp +contextual (disch := first | (simp only [facts, clsL, clsS, clsC, isPtrD]; done) | omega | (simp only [push_nx, put_nx, del_nx]; omega) | (refine Nat.le_antisymm ?_ ?_ <;> simp only [push_nx, put_nx, del_nx] <;> omega) | fail) only [wpy, facts, wpb, cst, wpk, wpl, forall_const, implies_true, false_implies, Int.reduceLE, Int.reduceLT, Nat.reduceLeDiff, UInt8.reduceToNat, ↓reduceIte, Nat.reduceEqDiff, Nat.reduceAdd, reduceCtorEq, Int.reduceToNat, clsL, clsS, clsC]
    exact ⟨rfl, Ext.refl _⟩
  rintro k env h' ⟨i, rfl, hi, e0, e1, e5, hx⟩
  by_cases hi2 : i < L.length
  · obtain ⟨b1, o1, m1, rfl⟩ := a.at (by omega)
    obtain ⟨b2, o2, m2, rfl⟩ := b.at (by omega)
    obtain ⟨_, hb1, _, hr1⟩ := (a.ext hx).rd
    obtain ⟨_, hb2, _, hr2⟩ := (b.ext hx).rd
    have hcl := ccells_len L
    have hcc : ((ccells L).drop (i * 8)).take 8 = L[i].cells := by
      have : ∀ (l : List CM) (i : Nat) (hi : i < l.length), ((ccells l).drop (i * 8)).take 8 = l[i].cells := fun l => by
        induction l with
        | nil => intro i hi; simp at hi
        | cons c l ih =>
          intro i hi
          cases i with
          | zero => rfl
          | succ i =>
            have e : (i + 1) * 8 = i * 8 + 8 := by omega
            rw [e]
            exact ih i (by simpa using hi)
      exact this L i hi2
    have r1 := hr1 (i * 8) 8 (by rw [hcl]; omega)
    have r2 := hr2 (i * 8) 8 (by rw [hcl]; omega)
    rw [hcc] at r1 r2
    simp +contextual (disch := first | (simp only [facts, clsL, clsS, clsC, isPtrD]; done) | omega | (simp only [push_nx, put_nx, del_nx]; omega) | (refine Nat.le_antisymm ?_ ?_ <;> simp only [push_nx, put_nx, del_nx] <;> omega) | fail) only [wpy, facts, wpb, cst, wpk, wpl, forall_const, implies_true, false_implies, Int.reduceLE, Int.reduceLT, Nat.reduceLeDiff, UInt8.reduceToNat, ↓reduceIte, Nat.reduceEqDiff, Nat.reduceAdd, reduceCtorEq, Int.reduceToNat, clsL, clsS, clsC, Tryz.f8, e0, e1, e5, hi2, hl]
    refine draw_by [] (by kernel_rfl) ?_
    simp +contextual (disch := first | (simp only [facts, clsL, clsS, clsC, isPtrD]; done) | omega | (simp only [push_nx, put_nx, del_nx]; omega) | (refine Nat.le_antisymm ?_ ?_ <;> simp only [push_nx, put_nx, del_nx] <;> omega) | fail) only [wpy, facts, wpb, cst, wpk, wpl, forall_const, implies_true, false_implies, Int.reduceLE, Int.reduceLT, Nat.reduceLeDiff, UInt8.reduceToNat, ↓reduceIte, Nat.reduceEqDiff, Nat.reduceAdd, reduceCtorEq, Int.reduceToNat, clsL, clsS, clsC, Tryz.f8, e0, e1, e5, hi2, r1, r2]
    refine callF_pure (samec_spec hS L[i] h') ?_
    rintro _ h2 hx2 rfl
    simp +contextual (disch := first | (simp only [facts, clsL, clsS, clsC, isPtrD]; done) | omega | (simp only [push_nx, put_nx, del_nx]; omega) | (refine Nat.le_antisymm ?_ ?_ <;> simp only [push_nx, put_nx, del_nx] <;> omega) | fail) only [wpy, facts, wpb, cst, wpk, wpl, forall_const, implies_true, false_implies, Int.reduceLE, Int.reduceLT, Nat.reduceLeDiff, UInt8.reduceToNat, ↓reduceIte, Nat.reduceEqDiff, Nat.reduceAdd, reduceCtorEq, Int.reduceToNat, clsL, clsS, clsC, Tryz.f8, e0, e1, e5]
    exact ⟨(fun p hp => by cases hp), _, by omega, i + 1, rfl, by omega, rfl, hx.trans hx2⟩
  · simp +contextual (disch := first | (simp only [facts, clsL, clsS, clsC, isPtrD]; done) | omega | (simp only [push_nx, put_nx, del_nx]; omega) | (refine Nat.le_antisymm ?_ ?_ <;> simp only [push_nx, put_nx, del_nx] <;> omega) | fail) only [wpy, facts, wpb, cst, wpk, wpl, forall_const, implies_true, false_implies, Int.reduceLE, Int.reduceLT, Nat.reduceLeDiff, UInt8.reduceToNat, ↓reduceIte, Nat.reduceEqDiff, Nat.reduceAdd, reduceCtorEq, Int.reduceToNat, clsL, clsS, clsC, Tryz.f8, e0, e1, e5, hi2, hl]
    exact hx
structure PK (h : H) (lv : V) (ls : List (List Nat)) (cs : List V) : Prop where
  row : RW 43 1 ls.length h lv cs
  each : ∀ i (hi : i < ls.length) (hc : i < cs.length), BS 5 h cs[i] ls[i]
theorem script_law (T : TK) (vv tv : V) (schema : List Nat) (c : Int) (lv ov : V) (ls : List (List Nat)) (cs : List V) (on : List Prop) (h : H) (a : TR h T vv tv) (hv : T.vars.length < 2 ^ 63) (hb : Bytes T.schema) (hby : ∀ x ∈ T.vars, Bytes x.1 ∧ Bytes x.2) (al : PK h lv ls cs) (ao : RW 4 1 on.length h ov (on.map bo)) : Pure S.cfg 3 [.agg (T.cells vv tv), .str schema, .int .u32 c, lv, ov] h fun v _ => v = .bool true := by
  refine into Tryz.f3 _ Tryz.func3 (hS.ownZ _ (by decide)) rfl rfl (by kernel_rfl) (by kernel_rfl) ?_
  obtain ⟨c1, c2⟩ := a.vars.cell
  obtain ⟨c3, c4⟩ := a.temps.cell
  have hcs : T.cells vv tv = [.str T.schema, vv, tv, bo T.trans, bo T.users, bo T.locked, bo T.odd] := rfl
  have hlen := al.row.len 43
  rw [hcs]
  simp +contextual (disch := first | (simp only [facts, clsL, clsS, clsC, isPtrD]; done) | omega | (simp only [push_nx, put_nx, del_nx]; omega) | (refine Nat.le_antisymm ?_ ?_ <;> simp only [push_nx, put_nx, del_nx] <;> omega) | fail) only [wpy, facts, wpb, cst, wpk, wpl, forall_const, implies_true, false_implies, Int.reduceLE, Int.reduceLT, Nat.reduceLeDiff, UInt8.reduceToNat, ↓reduceIte, Nat.reduceEqDiff, Nat.reduceAdd, reduceCtorEq, Int.reduceToNat, clsL, clsS, clsC, Tryz.f3, c1, c2, c3, c4]
  refine callF_exact (hS.lives _) ?_
  simp +contextual (disch := first | (simp only [facts, clsL, clsS, clsC, isPtrD]; done) | omega | (simp only [push_nx, put_nx, del_nx]; omega) | (refine Nat.le_antisymm ?_ ?_ <;> simp only [push_nx, put_nx, del_nx] <;> omega) | fail) only [wpy, facts, wpb, cst, wpk, wpl, forall_const, implies_true, false_implies, Int.reduceLE, Int.reduceLT, Nat.reduceLeDiff, UInt8.reduceToNat, ↓reduceIte, Nat.reduceEqDiff, Nat.reduceAdd, reduceCtorEq, Int.reduceToNat, clsL, clsS, clsC, Tryz.f3]
  generalize hhA : H.push h _ = hA
  have hxA : Ext h hA := by rw [← hhA]; exact (Ext.refl h).push _
  have gA : hA.get h.nx = some (.cells [.str T.schema, vv, tv, bo T.trans, bo T.users, bo T.locked, bo T.odd] 25 false) := by rw [← hhA]; exact push_eq rfl
  have hnA : hA.nx = h.nx + 1 := by rw [← hhA]; rfl
  clear hhA
  have sk := small_spec hS T vv tv hA (a.ext hxA) hv
  rw [hcs] at sk
  refine callF_pure sk ?_
  rintro _ h1 hx1 ⟨p, rfl, hp⟩
  have hx01 := hxA.trans hx1
  have hn1 := hx1.1
  by_cases hq : p
  case neg =>
    simp +contextual (disch := first | (simp only [facts, clsL, clsS, clsC, isPtrD]; done) | omega | (simp only [push_nx, put_nx, del_nx]; omega) | (refine Nat.le_antisymm ?_ ?_ <;> simp only [push_nx, put_nx, del_nx] <;> omega) | fail) only [wpy, facts, wpb, cst, wpk, wpl, forall_const, implies_true, false_implies, Int.reduceLE, Int.reduceLT, Nat.reduceLeDiff, UInt8.reduceToNat, ↓reduceIte, Nat.reduceEqDiff, Nat.reduceAdd, reduceCtorEq, Int.reduceToNat, clsL, clsS, clsC, Tryz.f3, hq]
    exact hx01
  obtain ⟨s1, s2, s3, s4⟩ := hp hq
  by_cases hl200 : 200 < ls.length
  · simp +contextual (disch := first | (simp only [facts, clsL, clsS, clsC, isPtrD]; done) | omega | (simp only [push_nx, put_nx, del_nx]; omega) | (refine Nat.le_antisymm ?_ ?_ <;> simp only [push_nx, put_nx, del_nx] <;> omega) | fail) only [wpy, facts, wpb, cst, wpk, wpl, forall_const, implies_true, false_implies, Int.reduceLE, Int.reduceLT, Nat.reduceLeDiff, UInt8.reduceToNat, ↓reduceIte, Nat.reduceEqDiff, Nat.reduceAdd, reduceCtorEq, Int.reduceToNat, clsL, clsS, clsC, Tryz.f3, hq, hlen, hl200]
    exact hx01
  have g1 : h1.get h.nx = some (.cells [.str T.schema, vv, tv, bo T.trans, bo T.users, bo T.locked, bo T.odd] 25 false) := by rw [hx1.2 _ (by omega)]; exact gA
  simp +contextual (disch := first | (simp only [facts, clsL, clsS, clsC, isPtrD]; done) | omega | (simp only [push_nx, put_nx, del_nx]; omega) | (refine Nat.le_antisymm ?_ ?_ <;> simp only [push_nx, put_nx, del_nx] <;> omega) | fail) only [wpy, facts, wpb, cst, wpk, wpl, forall_const, implies_true, false_implies, Int.reduceLE, Int.reduceLT, Nat.reduceLeDiff, UInt8.reduceToNat, ↓reduceIte, Nat.reduceEqDiff, Nat.reduceAdd, reduceCtorEq, Int.reduceToNat, clsL, clsS, clsC, Tryz.f3, hq, hlen, hl200, g1]
  have i22 : ((2 : Int) = 2) = True := by simp
  have i00 : ((0 : Int) = 0) = True := by simp
  have pk := fun h a => plan_spec hS.toStdW T vv tv schema h a (by omega) (by omega)
  have xpk := fun h a => xplan_spec hS.toStdW T vv tv schema h a (by omega) (by omega) hby
  have nk := fun h a => new_spec hS.toStdY T vv tv schema c h a (by omega) (by omega) hb (by omega) hby
  have xnk := fun h a => xnew_spec hS.toStdY T vv tv schema c h a (by omega) (by omega) hb (by omega) hby
  rw [hcs] at pk xpk nk xnk
  refine callF_pure (pk h1 (a.ext hx01)) ?_
  rintro w2 h2 hx2 ⟨p1, p2⟩
  have hx02 := hx01.trans hx2
  have hn2 := hx2.1
  have g2 : h2.get h.nx = some (.cells [.str T.schema, vv, tv, bo T.trans, bo T.users, bo T.locked, bo T.odd] 25 false) := by rw [hx2.2 _ (by omega)]; exact g1
  by_cases hpl : planP T
  case neg =>
    rw [p2 hpl]
    simp +contextual (disch := first | (simp only [facts, clsL, clsS, clsC, isPtrD]; done) | omega | (simp only [push_nx, put_nx, del_nx]; omega) | (refine Nat.le_antisymm ?_ ?_ <;> simp only [push_nx, put_nx, del_nx] <;> omega) | fail) only [wpy, facts, wpb, cst, wpk, wpl, forall_const, implies_true, false_implies, Int.reduceLE, Int.reduceLT, Nat.reduceLeDiff, UInt8.reduceToNat, ↓reduceIte, Nat.reduceEqDiff, Nat.reduceAdd, reduceCtorEq, Int.reduceToNat, clsL, clsS, clsC, Tryz.f3, g2]
    refine callF_pure (xpk h2 (a.ext hx02)) ?_
    rintro w3 h3 hx3 ⟨p3, p4⟩
    have hx03 := hx02.trans hx3
    have hn3 := hx3.1
    have g3 : h3.get h.nx = some (.cells [.str T.schema, vv, tv, bo T.trans, bo T.users, bo T.locked, bo T.odd] 25 false) := by rw [hx3.2 _ (by omega)]; exact g2
    rw [p4 hpl]
    simp +contextual (disch := first | (simp only [facts, clsL, clsS, clsC, isPtrD]; done) | omega | (simp only [push_nx, put_nx, del_nx]; omega) | (refine Nat.le_antisymm ?_ ?_ <;> simp only [push_nx, put_nx, del_nx] <;> omega) | fail) only [wpy, facts, wpb, cst, wpk, wpl, forall_const, implies_true, false_implies, Int.reduceLE, Int.reduceLT, Nat.reduceLeDiff, UInt8.reduceToNat, ↓reduceIte, Nat.reduceEqDiff, Nat.reduceAdd, reduceCtorEq, Int.reduceToNat, clsL, clsS, clsC, Tryz.f3, g3]
    refine callF_pure (cmds_spec hS [] .nilslice .nilslice h3 ⟨rfl, .inl ⟨rfl, rfl⟩⟩ ⟨rfl, .inl ⟨rfl, rfl⟩⟩ (by decide)) ?_
    rintro _ h4 hx4 rfl
    have hx04 := hx03.trans hx4
    have hn4 := hx4.1
    have g4 : h4.get h.nx = some (.cells [.str T.schema, vv, tv, bo T.trans, bo T.users, bo T.locked, bo T.odd] 25 false) := by rw [hx4.2 _ (by omega)]; exact g3
    simp +contextual (disch := first | (simp only [facts, clsL, clsS, clsC, isPtrD]; done) | omega | (simp only [push_nx, put_nx, del_nx]; omega) | (refine Nat.le_antisymm ?_ ?_ <;> simp only [push_nx, put_nx, del_nx] <;> omega) | fail) only [wpy, facts, wpb, cst, wpk, wpl, forall_const, implies_true, false_implies, Int.reduceLE, Int.reduceLT, Nat.reduceLeDiff, UInt8.reduceToNat, ↓reduceIte, Nat.reduceEqDiff, Nat.reduceAdd, reduceCtorEq, Int.reduceToNat, clsL, clsS, clsC, Tryz.f3, g4, i22]
    refine callF_pure (nk h4 (a.ext hx04)) ?_
    rintro w5 h5 hx5 ⟨_, p5⟩
    have hx05 := hx04.trans hx5
    have hn5 := hx5.1
    have g5 : h5.get h.nx = some (.cells [.str T.schema, vv, tv, bo T.trans, bo T.users, bo T.locked, bo T.odd] 25 false) := by rw [hx5.2 _ (by omega)]; exact g4
    rw [p5 (fun q => hpl q.1)]
    simp +contextual (disch := first | (simp only [facts, clsL, clsS, clsC, isPtrD]; done) | omega | (simp only [push_nx, put_nx, del_nx]; omega) | (refine Nat.le_antisymm ?_ ?_ <;> simp only [push_nx, put_nx, del_nx] <;> omega) | fail) only [wpy, facts, wpb, cst, wpk, wpl, forall_const, implies_true, false_implies, Int.reduceLE, Int.reduceLT, Nat.reduceLeDiff, UInt8.reduceToNat, ↓reduceIte, Nat.reduceEqDiff, Nat.reduceAdd, reduceCtorEq, Int.reduceToNat, clsL, clsS, clsC, Tryz.f3, g5]
    refine callF_pure (xnk h5 (a.ext hx05)) ?_
    rintro w6 h6 hx6 ⟨_, p6⟩
    have hx06 := hx05.trans hx6
    rw [p6 (fun q => hpl q.1)]
    simp +contextual (disch := first | (simp only [facts, clsL, clsS, clsC, isPtrD]; done) | omega | (simp only [push_nx, put_nx, del_nx]; omega) | (refine Nat.le_antisymm ?_ ?_ <;> simp only [push_nx, put_nx, del_nx] <;> omega) | fail) only [wpy, facts, wpb, cst, wpk, wpl, forall_const, implies_true, false_implies, Int.reduceLE, Int.reduceLT, Nat.reduceLeDiff, UInt8.reduceToNat, ↓reduceIte, Nat.reduceEqDiff, Nat.reduceAdd, reduceCtorEq, Int.reduceToNat, clsL, clsS, clsC, Tryz.f3, i22, bo_neq u4']
    exact hx06
  obtain ⟨lv2, rfl, ha2⟩ := p1 hpl
  obtain ⟨d1, d2⟩ := ha2.cell
  simp +contextual (disch := first | (simp only [facts, clsL, clsS, clsC, isPtrD]; done) | omega | (simp only [push_nx, put_nx, del_nx]; omega) | (refine Nat.le_antisymm ?_ ?_ <;> simp only [push_nx, put_nx, del_nx] <;> omega) | fail) only [wpy, facts, wpb, cst, wpk, wpl, forall_const, implies_true, false_implies, Int.reduceLE, Int.reduceLT, Nat.reduceLeDiff, UInt8.reduceToNat, ↓reduceIte, Nat.reduceEqDiff, Nat.reduceAdd, reduceCtorEq, Int.reduceToNat, clsL, clsS, clsC, Tryz.f3, g2, d1, d2]
  refine callF_pure (xpk h2 (a.ext hx02)) ?_
  rintro w3 h3 hx3 ⟨p3, p4⟩
  have hx03 := hx02.trans hx3
  have hn3 := hx3.1
  have g3 : h3.get h.nx = some (.cells [.str T.schema, vv, tv, bo T.trans, bo T.users, bo T.locked, bo T.odd] 25 false) := by rw [hx3.2 _ (by omega)]; exact g2
  obtain ⟨lv3, rfl, ha3⟩ := p3 hpl
  obtain ⟨d3, d4⟩ := ha3.cell
  simp +contextual (disch := first | (simp only [facts, clsL, clsS, clsC, isPtrD]; done) | omega | (simp only [push_nx, put_nx, del_nx]; omega) | (refine Nat.le_antisymm ?_ ?_ <;> simp only [push_nx, put_nx, del_nx] <;> omega) | fail) only [wpy, facts, wpb, cst, wpk, wpl, forall_const, implies_true, false_implies, Int.reduceLE, Int.reduceLT, Nat.reduceLeDiff, UInt8.reduceToNat, ↓reduceIte, Nat.reduceEqDiff, Nat.reduceAdd, reduceCtorEq, Int.reduceToNat, clsL, clsS, clsC, Tryz.f3, g3, d1, d2, d3, d4]
  have hpll : (planL T schema).length ≤ 201 := by
    have := useC_len T schema
    unfold planL
    rw [List.length_append, List.length_map]; omega
  refine callF_pure (cmds_spec hS (planL T schema) lv2 lv3 h3 ((ccells_ok ha2).ext hx3) (ccells_ok ha3) (by omega)) ?_
  rintro _ h4 hx4 rfl
  have hx04 := hx03.trans hx4
  have hn4 := hx4.1
  have g4 : h4.get h.nx = some (.cells [.str T.schema, vv, tv, bo T.trans, bo T.users, bo T.locked, bo T.odd] 25 false) := by rw [hx4.2 _ (by omega)]; exact g3
  simp +contextual (disch := first | (simp only [facts, clsL, clsS, clsC, isPtrD]; done) | omega | (simp only [push_nx, put_nx, del_nx]; omega) | (refine Nat.le_antisymm ?_ ?_ <;> simp only [push_nx, put_nx, del_nx] <;> omega) | fail) only [wpy, facts, wpb, cst, wpk, wpl, forall_const, implies_true, false_implies, Int.reduceLE, Int.reduceLT, Nat.reduceLeDiff, UInt8.reduceToNat, ↓reduceIte, Nat.reduceEqDiff, Nat.reduceAdd, reduceCtorEq, Int.reduceToNat, clsL, clsS, clsC, Tryz.f3, g4, i00]
  refine callF_pure (nk h4 (a.ext hx04)) ?_
  rintro w5 h5 hx5 ⟨q5, p5⟩
  have hx05 := hx04.trans hx5
  have hn5 := hx5.1
  have g5 : h5.get h.nx = some (.cells [.str T.schema, vv, tv, bo T.trans, bo T.users, bo T.locked, bo T.odd] 25 false) := by rw [hx5.2 _ (by omega)]; exact g4
  by_cases hnd : neededP c
  case neg =>
    rw [p5 (fun q => hnd q.2)]
    simp +contextual (disch := first | (simp only [facts, clsL, clsS, clsC, isPtrD]; done) | omega | (simp only [push_nx, put_nx, del_nx]; omega) | (refine Nat.le_antisymm ?_ ?_ <;> simp only [push_nx, put_nx, del_nx] <;> omega) | fail) only [wpy, facts, wpb, cst, wpk, wpl, forall_const, implies_true, false_implies, Int.reduceLE, Int.reduceLT, Nat.reduceLeDiff, UInt8.reduceToNat, ↓reduceIte, Nat.reduceEqDiff, Nat.reduceAdd, reduceCtorEq, Int.reduceToNat, clsL, clsS, clsC, Tryz.f3, g5]
    refine callF_pure (xnk h5 (a.ext hx05)) ?_
    rintro w6 h6 hx6 ⟨_, p6⟩
    have hx06 := hx05.trans hx6
    rw [p6 (fun q => hnd q.2)]
    simp +contextual (disch := first | (simp only [facts, clsL, clsS, clsC, isPtrD]; done) | omega | (simp only [push_nx, put_nx, del_nx]; omega) | (refine Nat.le_antisymm ?_ ?_ <;> simp only [push_nx, put_nx, del_nx] <;> omega) | fail) only [wpy, facts, wpb, cst, wpk, wpl, forall_const, implies_true, false_implies, Int.reduceLE, Int.reduceLT, Nat.reduceLeDiff, UInt8.reduceToNat, ↓reduceIte, Nat.reduceEqDiff, Nat.reduceAdd, reduceCtorEq, Int.reduceToNat, clsL, clsS, clsC, Tryz.f3, i22, bo_neq u4']
    exact hx06
  obtain ⟨b, rfl, hb4, pb⟩ := q5 ⟨hpl, hnd⟩
  simp +contextual (disch := first | (simp only [facts, clsL, clsS, clsC, isPtrD]; done) | omega | (simp only [push_nx, put_nx, del_nx]; omega) | (refine Nat.le_antisymm ?_ ?_ <;> simp only [push_nx, put_nx, del_nx] <;> omega) | fail) only [wpy, facts, wpb, cst, wpk, wpl, forall_const, implies_true, false_implies, Int.reduceLE, Int.reduceLT, Nat.reduceLeDiff, UInt8.reduceToNat, ↓reduceIte, Nat.reduceEqDiff, Nat.reduceAdd, reduceCtorEq, Int.reduceToNat, clsL, clsS, clsC, Tryz.f3, g5]
  refine callF_pure (xnk h5 (a.ext hx05)) ?_
  rintro w6 h6 hx6 ⟨q6, _⟩
  have hx06 := hx05.trans hx6
  have hn6 := hx6.1
  obtain ⟨x, rfl, hx5x, px⟩ := q6 ⟨hpl, hnd⟩
  have hbl : b < h5.nx := (pb h5.nx (.inl (Nat.le_refl _))).lt
  have P0 : PRo 66 b x (newP T schema c) h6 := (pb x (.inl hx5x)).ext hx6
  have X0 : PRo 68 x b (newP T schema c) h6 := px b (.inr hbl)
  simp +contextual (disch := first | (simp only [facts, clsL, clsS, clsC, isPtrD]; done) | omega | (simp only [push_nx, put_nx, del_nx]; omega) | (refine Nat.le_antisymm ?_ ?_ <;> simp only [push_nx, put_nx, del_nx] <;> omega) | fail) only [wpy, facts, wpb, cst, wpk, wpl, forall_const, implies_true, false_implies, Int.reduceLE, Int.reduceLT, Nat.reduceLeDiff, UInt8.reduceToNat, ↓reduceIte, Nat.reduceEqDiff, Nat.reduceAdd, reduceCtorEq, Int.reduceToNat, clsL, clsS, clsC, Tryz.f3, i00, bo_neq u4']
  have hbh : h.nx ≤ b := by omega
  have hxh : h.nx ≤ x := by omega
  have hbx : b ≠ x := by omega
  have hcl := al.row.1
  generalize newP T schema c = p0 at *
  clear pk xpk nk xnk p1 p3 p4 p5 q5 q6 pb px ha2 ha3 sk hp d1 d2 d3 d4
  refine run_loop (fun k env h' => ∃ (i : Nat) (p : RP), k = ls.length - i ∧ i ≤ ls.length ∧ env 3 = lv ∧ env 4 = ov ∧ env 15 = .ptr b 0 ∧ env 16 = .ptr x 0 ∧ env 17 = .int .i64 i ∧ Ext h h' ∧ PRo 66 b x p h' ∧ PRo 68 x b p h') ls.length ⟨0, p0, ?_⟩ ?_
  · simp +contextual (disch := first | (simp only [facts, clsL, clsS, clsC, isPtrD]; done) | omega | (simp only [push_nx, put_nx, del_nx]; omega) | (refine Nat.le_antisymm ?_ ?_ <;> simp only [push_nx, put_nx, del_nx] <;> omega) | fail) only [wpy, facts, wpb, cst, wpk, wpl, forall_const, implies_true, false_implies, Int.reduceLE, Int.reduceLT, Nat.reduceLeDiff, UInt8.reduceToNat, ↓reduceIte, Nat.reduceEqDiff, Nat.reduceAdd, reduceCtorEq, Int.reduceToNat, clsL, clsS, clsC]
    exact ⟨rfl, hx06, P0, X0⟩
  clear P0 X0 hx06
  rintro k env h' ⟨i, p, rfl, hi, e3, e4, e15, e16, e17, hx, P, X⟩
  by_cases hi2 : i < ls.length
  case neg =>
    simp +contextual (disch := first | (simp only [facts, clsL, clsS, clsC, isPtrD]; done) | omega | (simp only [push_nx, put_nx, del_nx]; omega) | (refine Nat.le_antisymm ?_ ?_ <;> simp only [push_nx, put_nx, del_nx] <;> omega) | fail) only [wpy, facts, wpb, cst, wpk, wpl, forall_const, implies_true, false_implies, Int.reduceLE, Int.reduceLT, Nat.reduceLeDiff, UInt8.reduceToNat, ↓reduceIte, Nat.reduceEqDiff, Nat.reduceAdd, reduceCtorEq, Int.reduceToNat, clsL, clsS, clsC, Tryz.f3, e3, e4, e15, e16, e17, hlen, hi2]
    exact hx
  obtain ⟨lb, lo, lm, rfl⟩ := al.row.at (by omega)
  have hlbh := al.row.blk rfl
  obtain ⟨_, hlb, hlr, _⟩ := al.row.rd
  have hci : i < cs.length := by omega
  have hw := al.each i hi2 hci
  have r0 := hlr i 1 hci
  have rr : ∀ {h2 : H}, Ext h h2 → rdV (some (1, false)) (h2.get lb) (lo + i) = some cs[i] := fun {h2} q => by rw [q.2 _ hlbh]; exact r0
  have r1 := rr hx
  have hwl := hw.len 5
  obtain ⟨w1, w2⟩ := hw.cell
  have hoff : ∀ k, h.nx ≤ k → Off cs[i] k := fun k hk => hw.off hk
  generalize cs[i] = wv at *
  simp +contextual (disch := first | (simp only [facts, clsL, clsS, clsC, isPtrD]; done) | omega | (simp only [push_nx, put_nx, del_nx]; omega) | (refine Nat.le_antisymm ?_ ?_ <;> simp only [push_nx, put_nx, del_nx] <;> omega) | fail) only [wpyr, facts, wpb, cst, wpk, wpl, forall_const, implies_true, false_implies, Int.reduceLE, Int.reduceLT, Nat.reduceLeDiff, UInt8.reduceToNat, ↓reduceIte, Nat.reduceEqDiff, Nat.reduceAdd, reduceCtorEq, Int.reduceToNat, clsL, clsS, clsC, Tryz.f3, e3, e4, e15, e16, e17, hlen, hi2, r1, hwl]
  refine cond_yes (p := True) (by simp +contextual (disch := first | (simp only [facts, clsL, clsS, clsC, isPtrD]; done) | omega | (simp only [push_nx, put_nx, del_nx]; omega) | (refine Nat.le_antisymm ?_ ?_ <;> simp only [push_nx, put_nx, del_nx] <;> omega) | fail) only [wpy, facts, wpb, cst, wpk, wpl, forall_const, implies_true, false_implies, Int.reduceLE, Int.reduceLT, Nat.reduceLeDiff, UInt8.reduceToNat, ↓reduceIte, Nat.reduceEqDiff, Nat.reduceAdd, reduceCtorEq, Int.reduceToNat, clsL, clsS, clsC]) trivial ?_
  rw [run_skip, kont_seq]
  simp +contextual (disch := first | (simp only [facts, clsL, clsS, clsC, isPtrD]; done) | omega | (simp only [push_nx, put_nx, del_nx]; omega) | (refine Nat.le_antisymm ?_ ?_ <;> simp only [push_nx, put_nx, del_nx] <;> omega) | fail) only [wpyr, facts, wpb, cst, wpk, wpl, forall_const, implies_true, false_implies, Int.reduceLE, Int.reduceLT, Nat.reduceLeDiff, UInt8.reduceToNat, ↓reduceIte, Nat.reduceEqDiff, Nat.reduceAdd, reduceCtorEq, Int.reduceToNat, clsL, clsS, clsC, Tryz.f3, e3, e4, e15, e16, e17, hlen, hi2, r1, hwl]
  by_cases h5 : 3000 < ls[i].length
  · simp +contextual (disch := first | (simp only [facts, clsL, clsS, clsC, isPtrD]; done) | omega | (simp only [push_nx, put_nx, del_nx]; omega) | (refine Nat.le_antisymm ?_ ?_ <;> simp only [push_nx, put_nx, del_nx] <;> omega) | fail) only [wpy, facts, wpb, cst, wpk, wpl, forall_const, implies_true, false_implies, Int.reduceLE, Int.reduceLT, Nat.reduceLeDiff, UInt8.reduceToNat, ↓reduceIte, Nat.reduceEqDiff, Nat.reduceAdd, reduceCtorEq, Int.reduceToNat, clsL, clsS, clsC, Tryz.f3, e3, e4, e15, e16, e17, hlen, hi2, r1, hwl, h5]
    exact hx
  refine cond_no (p := False) (by simp +contextual (disch := first | (simp only [facts, clsL, clsS, clsC, isPtrD]; done) | omega | (simp only [push_nx, put_nx, del_nx]; omega) | (refine Nat.le_antisymm ?_ ?_ <;> simp only [push_nx, put_nx, del_nx] <;> omega) | fail) only [wpy, facts, wpb, cst, wpk, wpl, forall_const, implies_true, false_implies, Int.reduceLE, Int.reduceLT, Nat.reduceLeDiff, UInt8.reduceToNat, ↓reduceIte, Nat.reduceEqDiff, Nat.reduceAdd, reduceCtorEq, Int.reduceToNat, clsL, clsS, clsC, h5]) (fun q => q) ?_
  rw [run_skip, kont_seq, run_seq]
  have hlon := ao.len 4
  have h28 : ls[i].length < 2 ^ 28 := by omega
  refine run_cut (fun env1 h1 => ∃ p1 : RP, env1 3 = .slice lb lo ls.length lm ∧ env1 4 = ov ∧ env1 15 = .ptr b 0 ∧ env1 16 = .ptr x 0 ∧ env1 17 = .int .i64 i ∧ Ext h h1 ∧ PRo 66 b x p1 h1 ∧ PRo 68 x b p1 h1) ?_ ?_
  · by_cases ho : on.length ≤ i
    · simp +contextual (disch := first | (simp only [facts, clsL, clsS, clsC, isPtrD]; done) | omega | (simp only [push_nx, put_nx, del_nx]; omega) | (refine Nat.le_antisymm ?_ ?_ <;> simp only [push_nx, put_nx, del_nx] <;> omega) | fail) only [wpy, facts, wpb, cst, wpk, wpl, forall_const, implies_true, false_implies, Int.reduceLE, Int.reduceLT, Nat.reduceLeDiff, UInt8.reduceToNat, ↓reduceIte, Nat.reduceEqDiff, Nat.reduceAdd, reduceCtorEq, Int.reduceToNat, clsL, clsS, clsC, Tryz.f3, e3, e4, e15, e16, e17, hlon, ho]
      refine callF_of (next_spec hS.toStdY P) (fun k hk => by rw [fresh_def]; exact .inl (by omega)) ?_
      rintro _ h2 ⟨v2, rfl, bv2, P2, B2, of2⟩
      have hx2 : Ext h h2 := But.ext hx B2 hbh
      have X2 := X.keep B2 (Ne.symm hbx)
      obtain ⟨f1, f2⟩ := bv2.cell
      simp +contextual (disch := first | (simp only [facts, clsL, clsS, clsC, isPtrD]; done) | omega | (simp only [push_nx, put_nx, del_nx]; omega) | (refine Nat.le_antisymm ?_ ?_ <;> simp only [push_nx, put_nx, del_nx] <;> omega) | fail) only [wpy, facts, wpb, cst, wpk, wpl, forall_const, implies_true, false_implies, Int.reduceLE, Int.reduceLT, Nat.reduceLeDiff, UInt8.reduceToNat, ↓reduceIte, Nat.reduceEqDiff, Nat.reduceAdd, reduceCtorEq, Int.reduceToNat, clsL, clsS, clsC, Tryz.f3, e3, e4, e15, e16, e17, f1, f2]
      refine callF_of (xnext_spec hS.toStdY X2) (fun k hk => by rw [fresh_def]; exact .inl (by omega)) ?_
      rintro _ h3 ⟨v3, rfl, bv3, X3, B3, _⟩
      have hx3 : Ext h h3 := But.ext hx2 B3 hxh
      have P3 := P2.keep B3 hbx
      obtain ⟨f3, f4⟩ := bv3.cell
      have bv2' : BS 5 h3 v2 p.said := bv2.keep B3.1 fun k hk ⟨o, n, m, q⟩ => B3.2 k hk fun e => of2 x X.lt o n m (by rw [← e]; exact q)
      simp +contextual (disch := first | (simp only [facts, clsL, clsS, clsC, isPtrD]; done) | omega | (simp only [push_nx, put_nx, del_nx]; omega) | (refine Nat.le_antisymm ?_ ?_ <;> simp only [push_nx, put_nx, del_nx] <;> omega) | fail) only [wpy, facts, wpb, cst, wpk, wpl, forall_const, implies_true, false_implies, Int.reduceLE, Int.reduceLT, Nat.reduceLeDiff, UInt8.reduceToNat, ↓reduceIte, Nat.reduceEqDiff, Nat.reduceAdd, reduceCtorEq, Int.reduceToNat, clsL, clsS, clsC, Tryz.f3, e3, e4, e15, e16, e17, f1, f2, f3, f4]
      refine callF_exact (same_spec hS bv2' bv3) ?_
      simp +contextual (disch := first | (simp only [facts, clsL, clsS, clsC, isPtrD]; done) | omega | (simp only [push_nx, put_nx, del_nx]; omega) | (refine Nat.le_antisymm ?_ ?_ <;> simp only [push_nx, put_nx, del_nx] <;> omega) | fail) only [wpy, facts, wpb, cst, wpk, wpl, forall_const, implies_true, false_implies, Int.reduceLE, Int.reduceLT, Nat.reduceLeDiff, UInt8.reduceToNat, ↓reduceIte, Nat.reduceEqDiff, Nat.reduceAdd, reduceCtorEq, Int.reduceToNat, clsL, clsS, clsC, Tryz.f3, e3, e4, e15, e16, e17, f1, f2, f3, f4, bo_neq u4']
      exact ⟨p.next, hx3, P3, X3⟩
    · have ho2 : i < on.length := by omega
      obtain ⟨ob, oo, om, rfl⟩ := ao.at (by omega)
      obtain ⟨_, hob, hor, _⟩ := (ao.ext hx).rd
      have hol : i < (on.map bo).length := by rw [List.length_map]; exact ho2
      have ro := hor i 1 hol
      rw [List.getElem_map] at ro
      by_cases hon : on[i]
      · have hon' := eq_true hon
        rw [hon'] at ro
        simp +contextual (disch := first | (simp only [facts, clsL, clsS, clsC, isPtrD]; done) | omega | (simp only [push_nx, put_nx, del_nx]; omega) | (refine Nat.le_antisymm ?_ ?_ <;> simp only [push_nx, put_nx, del_nx] <;> omega) | fail) only [wpy, facts, wpb, cst, wpk, wpl, forall_const, implies_true, false_implies, Int.reduceLE, Int.reduceLT, Nat.reduceLeDiff, UInt8.reduceToNat, ↓reduceIte, Nat.reduceEqDiff, Nat.reduceAdd, reduceCtorEq, Int.reduceToNat, clsL, clsS, clsC, Tryz.f3, e3, e4, e15, e16, e17, hlon, ho, ho2, ro]
        refine callF_of (next_spec hS.toStdY P) (fun k hk => by rw [fresh_def]; exact .inl (by omega)) ?_
        rintro _ h2 ⟨v2, rfl, bv2, P2, B2, of2⟩
        have hx2 : Ext h h2 := But.ext hx B2 hbh
        have X2 := X.keep B2 (Ne.symm hbx)
        obtain ⟨f1, f2⟩ := bv2.cell
        simp +contextual (disch := first | (simp only [facts, clsL, clsS, clsC, isPtrD]; done) | omega | (simp only [push_nx, put_nx, del_nx]; omega) | (refine Nat.le_antisymm ?_ ?_ <;> simp only [push_nx, put_nx, del_nx] <;> omega) | fail) only [wpy, facts, wpb, cst, wpk, wpl, forall_const, implies_true, false_implies, Int.reduceLE, Int.reduceLT, Nat.reduceLeDiff, UInt8.reduceToNat, ↓reduceIte, Nat.reduceEqDiff, Nat.reduceAdd, reduceCtorEq, Int.reduceToNat, clsL, clsS, clsC, Tryz.f3, e3, e4, e15, e16, e17, f1, f2]
        refine callF_of (xnext_spec hS.toStdY X2) (fun k hk => by rw [fresh_def]; exact .inl (by omega)) ?_
        rintro _ h3 ⟨v3, rfl, bv3, X3, B3, _⟩
        have hx3 : Ext h h3 := But.ext hx2 B3 hxh
        have P3 := P2.keep B3 hbx
        obtain ⟨f3, f4⟩ := bv3.cell
        have bv2' : BS 5 h3 v2 p.said := bv2.keep B3.1 fun k hk ⟨o, n, m, q⟩ => B3.2 k hk fun e => of2 x X.lt o n m (by rw [← e]; exact q)
        simp +contextual (disch := first | (simp only [facts, clsL, clsS, clsC, isPtrD]; done) | omega | (simp only [push_nx, put_nx, del_nx]; omega) | (refine Nat.le_antisymm ?_ ?_ <;> simp only [push_nx, put_nx, del_nx] <;> omega) | fail) only [wpy, facts, wpb, cst, wpk, wpl, forall_const, implies_true, false_implies, Int.reduceLE, Int.reduceLT, Nat.reduceLeDiff, UInt8.reduceToNat, ↓reduceIte, Nat.reduceEqDiff, Nat.reduceAdd, reduceCtorEq, Int.reduceToNat, clsL, clsS, clsC, Tryz.f3, e3, e4, e15, e16, e17, f1, f2, f3, f4]
        refine callF_exact (same_spec hS bv2' bv3) ?_
        simp +contextual (disch := first | (simp only [facts, clsL, clsS, clsC, isPtrD]; done) | omega | (simp only [push_nx, put_nx, del_nx]; omega) | (refine Nat.le_antisymm ?_ ?_ <;> simp only [push_nx, put_nx, del_nx] <;> omega) | fail) only [wpy, facts, wpb, cst, wpk, wpl, forall_const, implies_true, false_implies, Int.reduceLE, Int.reduceLT, Nat.reduceLeDiff, UInt8.reduceToNat, ↓reduceIte, Nat.reduceEqDiff, Nat.reduceAdd, reduceCtorEq, Int.reduceToNat, clsL, clsS, clsC, Tryz.f3, e3, e4, e15, e16, e17, f1, f2, f3, f4, bo_neq u4']
        exact ⟨p.next, hx3, P3, X3⟩
      · have hon' := eq_false hon
        rw [hon'] at ro
        simp +contextual (disch := first | (simp only [facts, clsL, clsS, clsC, isPtrD]; done) | omega | (simp only [push_nx, put_nx, del_nx]; omega) | (refine Nat.le_antisymm ?_ ?_ <;> simp only [push_nx, put_nx, del_nx] <;> omega) | fail) only [wpy, facts, wpb, cst, wpk, wpl, forall_const, implies_true, false_implies, Int.reduceLE, Int.reduceLT, Nat.reduceLeDiff, UInt8.reduceToNat, ↓reduceIte, Nat.reduceEqDiff, Nat.reduceAdd, reduceCtorEq, Int.reduceToNat, clsL, clsS, clsC, Tryz.f3, e3, e4, e15, e16, e17, hlon, ho, ho2, ro]
        exact ⟨p, hx, P, X⟩
  clear P X hx e3 e4 e15 e16 e17 r1
  rintro env1 h1 ⟨p1, e3, e4, e15, e16, e17, hx, P, X⟩
  have r1 := rr hx
  have hp1 := P.lt
  have hp2 := X.lt
  simp +contextual (disch := first | (simp only [facts, clsL, clsS, clsC, isPtrD]; done) | omega | (simp only [push_nx, put_nx, del_nx]; omega) | (refine Nat.le_antisymm ?_ ?_ <;> simp only [push_nx, put_nx, del_nx] <;> omega) | fail) only [wpy, facts, wpb, cst, wpk, wpl, forall_const, implies_true, false_implies, Int.reduceLE, Int.reduceLT, Nat.reduceLeDiff, UInt8.reduceToNat, ↓reduceIte, Nat.reduceEqDiff, Nat.reduceAdd, reduceCtorEq, Int.reduceToNat, clsL, clsS, clsC, Tryz.f3, e3, e4, e15, e16, e17, hi2, r1]
  refine draw_by [(5, 10)] (by kernel_rfl) ?_
  simp +contextual (disch := first | (simp only [facts, clsL, clsS, clsC, isPtrD]; done) | omega | (simp only [push_nx, put_nx, del_nx]; omega) | (refine Nat.le_antisymm ?_ ?_ <;> simp only [push_nx, put_nx, del_nx] <;> omega) | fail) only [wpy, facts, wpb, cst, wpk, wpl, forall_const, implies_true, false_implies, Int.reduceLE, Int.reduceLT, Nat.reduceLeDiff, UInt8.reduceToNat, ↓reduceIte, Nat.reduceEqDiff, Nat.reduceAdd, reduceCtorEq, Int.reduceToNat, clsL, clsS, clsC, Tryz.f3, e3, e4, e15, e16, e17, hi2, r1]
  refine callF_of (got_spec hS.toStdY P (hw.ext hx) (hoff _ hbh) h28) (fun k hk => by rw [fresh_def]; exact .inl (by omega)) ?_
  rintro _ h2 ⟨rfl, P2, B2⟩
  have hx2 : Ext h h2 := But.ext hx B2 hbh
  have X2 := X.keep B2 (Ne.symm hbx)
  have r2 := rr hx2
  simp +contextual (disch := first | (simp only [facts, clsL, clsS, clsC, isPtrD]; done) | omega | (simp only [push_nx, put_nx, del_nx]; omega) | (refine Nat.le_antisymm ?_ ?_ <;> simp only [push_nx, put_nx, del_nx] <;> omega) | fail) only [wpy, facts, wpb, cst, wpk, wpl, forall_const, implies_true, false_implies, Int.reduceLE, Int.reduceLT, Nat.reduceLeDiff, UInt8.reduceToNat, ↓reduceIte, Nat.reduceEqDiff, Nat.reduceAdd, reduceCtorEq, Int.reduceToNat, clsL, clsS, clsC, Tryz.f3, e3, e4, e15, e16, e17, hi2, r2]
  refine callF_of (xgot_spec hS.toStdY X2 (hw.ext hx2) (hoff _ hxh) h28) (fun k hk => by rw [fresh_def]; exact .inl (by omega)) ?_
  rintro _ h3 ⟨rfl, X3, B3⟩
  have hx3 : Ext h h3 := But.ext hx2 B3 hxh
  have P3 := P2.keep B3 hbx
  have hee : (p1.gotE ls[i] = p1.gotE ls[i]) = True := by simp
  simp +contextual (disch := first | (simp only [facts, clsL, clsS, clsC, isPtrD]; done) | omega | (simp only [push_nx, put_nx, del_nx]; omega) | (refine Nat.le_antisymm ?_ ?_ <;> simp only [push_nx, put_nx, del_nx] <;> omega) | fail) only [wpy, facts, wpb, cst, wpk, wpl, forall_const, implies_true, false_implies, Int.reduceLE, Int.reduceLT, Nat.reduceLeDiff, UInt8.reduceToNat, ↓reduceIte, Nat.reduceEqDiff, Nat.reduceAdd, reduceCtorEq, Int.reduceToNat, clsL, clsS, clsC, Tryz.f3, e3, e4, e15, e16, e17, hee]
  refine ⟨?_, callF_exact (overs_spec hS.toStdY P3) ?_⟩
  · intro q hq
    rw [List.mem_singleton.1 hq]
    exact pair_one rfl rfl fun e he => by
      rw [List.mem_singleton.1 (show e ∈ [_] from he)]
      exact .inr ⟨rfl, by have := hx.1; show lb < h1.nx; omega, by show ¬ lb = b; omega⟩
  simp +contextual (disch := first | (simp only [facts, clsL, clsS, clsC, isPtrD]; done) | omega | (simp only [push_nx, put_nx, del_nx]; omega) | (refine Nat.le_antisymm ?_ ?_ <;> simp only [push_nx, put_nx, del_nx] <;> omega) | fail) only [wpy, facts, wpb, cst, wpk, wpl, forall_const, implies_true, false_implies, Int.reduceLE, Int.reduceLT, Nat.reduceLeDiff, UInt8.reduceToNat, ↓reduceIte, Nat.reduceEqDiff, Nat.reduceAdd, reduceCtorEq, Int.reduceToNat, clsL, clsS, clsC, Tryz.f3, e3, e4, e15, e16, e17]
  refine callF_exact (xovers_spec hS.toStdY X3) ?_
  simp +contextual (disch := first | (simp only [facts, clsL, clsS, clsC, isPtrD]; done) | omega | (simp only [push_nx, put_nx, del_nx]; omega) | (refine Nat.le_antisymm ?_ ?_ <;> simp only [push_nx, put_nx, del_nx] <;> omega) | fail) only [wpy, facts, wpb, cst, wpk, wpl, forall_const, implies_true, false_implies, Int.reduceLE, Int.reduceLT, Nat.reduceLeDiff, UInt8.reduceToNat, ↓reduceIte, Nat.reduceEqDiff, Nat.reduceAdd, reduceCtorEq, Int.reduceToNat, clsL, clsS, clsC, Tryz.f3, e3, e4, e15, e16, e17, bo_neq u4']
  refine callF_exact (left_spec hS.toStdY P3) ?_
  simp +contextual (disch := first | (simp only [facts, clsL, clsS, clsC, isPtrD]; done) | omega | (simp only [push_nx, put_nx, del_nx]; omega) | (refine Nat.le_antisymm ?_ ?_ <;> simp only [push_nx, put_nx, del_nx] <;> omega) | fail) only [wpy, facts, wpb, cst, wpk, wpl, forall_const, implies_true, false_implies, Int.reduceLE, Int.reduceLT, Nat.reduceLeDiff, UInt8.reduceToNat, ↓reduceIte, Nat.reduceEqDiff, Nat.reduceAdd, reduceCtorEq, Int.reduceToNat, clsL, clsS, clsC, Tryz.f3, e3, e4, e15, e16, e17, bo_neq u4']
  refine callF_exact (xleft_spec hS.toStdY X3) ?_
  have hll : ((p1.got ls[i]).l.length = (p1.got ls[i]).l.length) = True := by simp
  simp +contextual (disch := first | (simp only [facts, clsL, clsS, clsC, isPtrD]; done) | omega | (simp only [push_nx, put_nx, del_nx]; omega) | (refine Nat.le_antisymm ?_ ?_ <;> simp only [push_nx, put_nx, del_nx] <;> omega) | fail) only [wpy, facts, wpb, cst, wpk, wpl, forall_const, implies_true, false_implies, Int.reduceLE, Int.reduceLT, Nat.reduceLeDiff, UInt8.reduceToNat, ↓reduceIte, Nat.reduceEqDiff, Nat.reduceAdd, reduceCtorEq, Int.reduceToNat, clsL, clsS, clsC, Tryz.f3, e3, e4, e15, e16, e17, hll]
  exact ⟨_, by omega, i + 1, ⟨_, rfl, by omega, rfl, hx3, P3, X3⟩⟩
end
end Go.Proofs.YtlffhbpkphigdaaGreatDoor
