/-
  Several texts of one walk, joined.
-/
import Derived.Test.YtkibhdbmamfjcaaDoorProg
import Derived.Test.YtkibhdbmamfjcaaDoorWxZ
import Derived.Test.YtkibhdbmamfjcaaDoorClL
import Derived.Test.YtkibhdbmamfjcaaDoorLyP
set_option linter.unusedSimpArgs false
set_option linter.unusedVariables false
set_option linter.defProp false
namespace Go.Proofs.YtkibhdbmamfjcaaDoor
open Go.Proofs Go.Lx Go.Wx
noncomputable section
namespace C3

theorem ze26 : zeroL Tryd.prog 26 = some [.int .i64 0, .int .i64 0] := by kernel_rfl
theorem sz26 : szT Tryd.prog 26 = some 2 := by kernel_rfl
theorem ty26 : tyR Tryd.prog 26 = some (2, true) := by kernel_rfl
theorem bu26 : buildV Tryd.prog 26 [] = some (.agg [.int .i64 0, .int .i64 0]) := by kernel_rfl
-- eq on type 26
theorem bs29_11 (v0_0 v1_0 v2_0 v3_0 v4_0 v5_0 v6_0 v7_0 v8_0 v9_0 v10_0 : V) : buildSliceL Tryd.prog 29 11 [(0, [v0_0]), (1, [v1_0]), (2, [v2_0]), (3, [v3_0]), (4, [v4_0]), (5, [v5_0]), (6, [v6_0]), (7, [v7_0]), (8, [v8_0]), (9, [v9_0]), (10, [v10_0])] = some ([v0_0, v1_0, v2_0, v3_0, v4_0, v5_0, v6_0, v7_0, v8_0, v9_0, v10_0], 9) := by kernel_rfl
theorem ia29 (k o n m : Nat) (kd : IntKind) (i : Int) : indexAddrV Tryd.prog 29 (.slice k o n m) (.int kd i) = if 0 ≤ i ∧ i < n then some (.ptr k (o + i.toNat * 1)) else none := indexAddr_slice (e := 9) (by kernel_rfl) (by kernel_rfl) k o n m kd i
theorem ty9 : tyR Tryd.prog 9 = some (1, false) := by kernel_rfl
theorem bu36_0_1 (v0_0 v1_0 : V) : buildV Tryd.prog 36 [(0, [v0_0]), (1, [v1_0])] = some (.agg [v0_0, v1_0, .int .i64 0]) := by kernel_rfl
theorem ze36 : zeroL Tryd.prog 36 = some [.int .i64 0, .str [], .int .i64 0] := by kernel_rfl
theorem sz36 : szT Tryd.prog 36 = some 3 := by kernel_rfl
theorem bs23_0 : buildSliceL Tryd.prog 23 0 [] = some ([], 36) := by kernel_rfl
theorem ap23 : apI Tryd.prog 23 = some (36, 3, 32) := by kernel_rfl
theorem ty36 : tyR Tryd.prog 36 = some (3, true) := by kernel_rfl
theorem bs23_1 (v0_0 v0_1 v0_2 : V) : buildSliceL Tryd.prog 23 1 [(0, [v0_0, v0_1, v0_2])] = some ([v0_0, v0_1, v0_2], 36) := by kernel_rfl
-- eq on type 45
theorem bs49_0 : buildSliceL Tryd.prog 49 0 [] = some ([], 45) := by kernel_rfl
theorem ap49 : apI Tryd.prog 49 = some (45, 3, 40) := by kernel_rfl
theorem ze45 : zeroL Tryd.prog 45 = some [.int .i64 0, .str [], .str []] := by kernel_rfl
theorem sz45 : szT Tryd.prog 45 = some 3 := by kernel_rfl
theorem bu45_0_1_2 (v0_0 v1_0 v2_0 : V) : buildV Tryd.prog 45 [(0, [v0_0]), (1, [v1_0]), (2, [v2_0])] = some (.agg [v0_0, v1_0, v2_0]) := by kernel_rfl
theorem ty45 : tyR Tryd.prog 45 = some (3, true) := by kernel_rfl
theorem bs49_3 (v0_0 v0_1 v0_2 v1_0 v1_1 v1_2 v2_0 v2_1 v2_2 : V) : buildSliceL Tryd.prog 49 3 [(0, [v0_0, v0_1, v0_2]), (1, [v1_0, v1_1, v1_2]), (2, [v2_0, v2_1, v2_2])] = some ([v0_0, v0_1, v0_2, v1_0, v1_1, v1_2, v2_0, v2_1, v2_2], 45) := by kernel_rfl
theorem bu45_0_1 (v0_0 v1_0 : V) : buildV Tryd.prog 45 [(0, [v0_0]), (1, [v1_0])] = some (.agg [v0_0, v1_0, .str []]) := by kernel_rfl
theorem bs49_2 (v0_0 v0_1 v0_2 v1_0 v1_1 v1_2 : V) : buildSliceL Tryd.prog 49 2 [(0, [v0_0, v0_1, v0_2]), (1, [v1_0, v1_1, v1_2])] = some ([v0_0, v0_1, v0_2, v1_0, v1_1, v1_2], 45) := by kernel_rfl
theorem bs49_4 (v0_0 v0_1 v0_2 v1_0 v1_1 v1_2 v2_0 v2_1 v2_2 v3_0 v3_1 v3_2 : V) : buildSliceL Tryd.prog 49 4 [(0, [v0_0, v0_1, v0_2]), (1, [v1_0, v1_1, v1_2]), (2, [v2_0, v2_1, v2_2]), (3, [v3_0, v3_1, v3_2])] = some ([v0_0, v0_1, v0_2, v1_0, v1_1, v1_2, v2_0, v2_1, v2_2, v3_0, v3_1, v3_2], 45) := by kernel_rfl
theorem ia49 (k o n m : Nat) (kd : IntKind) (i : Int) : indexAddrV Tryd.prog 49 (.slice k o n m) (.int kd i) = if 0 ≤ i ∧ i < n then some (.ptr k (o + i.toNat * 3)) else none := indexAddr_slice (e := 45) (by kernel_rfl) (by kernel_rfl) k o n m kd i
theorem fa45_0 (k o : Nat) : fieldAddrV Tryd.prog 45 (.ptr k o) 0 = some (.ptr k (o + 0)) := by kernel_rfl
theorem ty3 : tyR Tryd.prog 3 = some (1, false) := by kernel_rfl
-- eq on type 4
theorem bs49_1 (v0_0 v0_1 v0_2 : V) : buildSliceL Tryd.prog 49 1 [(0, [v0_0, v0_1, v0_2])] = some ([v0_0, v0_1, v0_2], 45) := by kernel_rfl
theorem by41 : byteS Tryd.prog 41 = true := by kernel_rfl
theorem el41 : elemS Tryd.prog 41 = 5 := by kernel_rfl
theorem ia23 (k o n m : Nat) (kd : IntKind) (i : Int) : indexAddrV Tryd.prog 23 (.slice k o n m) (.int kd i) = if 0 ≤ i ∧ i < n then some (.ptr k (o + i.toNat * 3)) else none := indexAddr_slice (e := 36) (by kernel_rfl) (by kernel_rfl) k o n m kd i
theorem fa36_0 (k o : Nat) : fieldAddrV Tryd.prog 36 (.ptr k o) 0 = some (.ptr k (o + 0)) := by kernel_rfl
theorem ia41 (k o n m : Nat) (kd : IntKind) (i : Int) : indexAddrV Tryd.prog 41 (.slice k o n m) (.int kd i) = if 0 ≤ i ∧ i < n then some (.ptr k (o + i.toNat * 1)) else none := indexAddr_slice (e := 5) (by kernel_rfl) (by kernel_rfl) k o n m kd i
theorem ty5 : tyR Tryd.prog 5 = some (1, false) := by kernel_rfl
theorem sz5 : szT Tryd.prog 5 = some 1 := by kernel_rfl
theorem ap41 : apI Tryd.prog 41 = some (5, 1, 1) := by kernel_rfl
theorem fa45_1 (k o : Nat) : fieldAddrV Tryd.prog 45 (.ptr k o) 1 = some (.ptr k (o + 1)) := by kernel_rfl
theorem fa45_2 (k o : Nat) : fieldAddrV Tryd.prog 45 (.ptr k o) 2 = some (.ptr k (o + 2)) := by kernel_rfl
theorem fa36_1 (k o : Nat) : fieldAddrV Tryd.prog 36 (.ptr k o) 1 = some (.ptr k (o + 1)) := by kernel_rfl
theorem bs29_1 (v0_0 : V) : buildSliceL Tryd.prog 29 1 [(0, [v0_0])] = some ([v0_0], 9) := by kernel_rfl
theorem ap29 : apI Tryd.prog 29 = some (9, 1, 16) := by kernel_rfl
noncomputable def factsT := And.intro @Tryd.underlying3 <| And.intro @Tryd.underlying4 <| And.intro @Tryd.underlying9 <| And.intro @Tryd.underlying23 <| And.intro @Tryd.underlying29 <| And.intro @Tryd.underlying41 <| And.intro @Tryd.underlying45 <| And.intro @Tryd.underlying49 <| And.intro @ze26 <| And.intro @sz26 <| And.intro @ty26 <| And.intro @bu26 <| And.intro @bs29_11 <| And.intro @ia29 <| And.intro @ty9 <| And.intro @bu36_0_1 <| And.intro @ze36 <| And.intro @sz36 <| And.intro @bs23_0 <| And.intro @ap23 <| And.intro @ty36 <| And.intro @bs23_1 <| And.intro @bs49_0 <| And.intro @ap49 <| And.intro @ze45 <| And.intro @sz45 <| And.intro @bu45_0_1_2 <| And.intro @ty45 <| And.intro @bs49_3 <| And.intro @bu45_0_1 <| And.intro @bs49_2 <| And.intro @bs49_4 <| And.intro @ia49 <| And.intro @fa45_0 <| And.intro @ty3 <| And.intro @bs49_1 <| And.intro @by41 <| And.intro @el41 <| And.intro @ia23 <| And.intro @fa36_0 <| And.intro @ia41 <| And.intro @ty5 <| And.intro @sz5 <| And.intro @ap41 <| And.intro @fa45_1 <| And.intro @fa45_2 <| And.intro @fa36_1 <| And.intro @bs29_1 <| @ap29

end C3
end
end Go.Proofs.YtkibhdbmamfjcaaDoor
set_option linter.unusedSimpArgs false
set_option linter.unusedVariables false
set_option linter.unusedSectionVars false
set_option linter.defProp false
set_option maxRecDepth 10000
namespace Go.Proofs.YtkibhdbmamfjcaaDoor
open Int (reduceLE reduceLT reduceToNat)
open Nat (reduceLeDiff reduceEqDiff reduceAdd)
open Go.Proofs Go.Lx Go.Wx Go.IntWalk
noncomputable section

noncomputable def factsN := And.intro @factsC @C3.factsT
noncomputable def fs := And.intro @factsN <| And.intro @K3 <| And.intro @isPtrD.eq_1 @isPtrD.eq_2
noncomputable def fE := And.intro @factsN <| And.intro @wpb <| And.intro @cst <| And.intro @wpk <| And.intro @wpl <| And.intro @forall_const.{0} <| And.intro @forall_const.{1} <| And.intro @implies_true.{0} <| And.intro @implies_true.{1} <| And.intro @false_implies @K3
open Go.Lib in
theorem repl_u (x : UInt8) : ∀ s : List UInt8, replaceK [x] [x, x] (count s [x]) s = s.flatMap fun c => if c = x then [x, x] else [c]
  | [] => by
    have h : index [] [x] = -1 := rfl
    rw [count_miss h]
    rfl
  | b :: l => by
    have ih := repl_u x l
    have hx : [x] ≠ [] := by simp
    rw [List.flatMap_cons]
    by_cases hb : b = x
    · have h0 : index (b :: l) [x] = ((0 : Nat) : Int) := by
        rw [index, if_pos (by simp [hb])]
        rfl
      have hc := count_hit hx h0
      rw [show (b :: l).drop (0 + [x].length) = l from rfl] at hc
      rw [hc, Nat.add_comm, replaceK_hit _ _ _ _ 0 h0, show (b :: l).drop (0 + [x].length) = l from rfl, ih, if_pos hb]
      rfl
    · have hp : ¬ ([x].isPrefixOf (b :: l) = true) := by simp; exact fun e => hb e.symm
      rw [if_neg hb]
      by_cases hm : index l [x] = -1
      · have h0 : index (b :: l) [x] = -1 := by rw [index, if_neg hp, if_pos (by simp [hm])]
        rw [count_miss h0]
        rw [count_miss hm] at ih
        rw [← ih]
        rfl
      · obtain ⟨i, hi⟩ : ∃ i : Nat, index l [x] = i := ⟨(index l [x]).toNat, by have := index_ge l [x]; omega⟩
        have h0 : index (b :: l) [x] = ((i + 1 : Nat) : Int) := by
          rw [index, if_neg hp, if_neg (by simpa using hm), hi]
          omega
        have hc := count_hit hx h0
        have hc2 := count_hit hx hi
        have e1 : (b :: l).drop (i + 1 + [x].length) = l.drop (i + [x].length) := by
          rw [Nat.add_right_comm]
          rfl
        rw [e1] at hc
        rw [hc2, Nat.add_comm, replaceK_hit _ _ _ _ i hi] at ih
        rw [hc, Nat.add_comm, replaceK_hit _ _ _ _ (i + 1) h0, e1, ← ih]
        rfl
theorem toN_app (a b : List UInt8) : toN (a ++ b) = toN a ++ toN b := List.map_append
theorem repl_one {s : List Nat} (h : Bytes s) {x : Nat} (hx : x < 256) : replF s [x] [x, x] = s.flatMap fun c => if c = x then [x, x] else [c] := by
  have e1 : Go.Lib.replaceAll (toU s) (toU [x]) (toU [x, x]) = (toU s).flatMap fun c => if c = UInt8.ofNat x then [UInt8.ofNat x, UInt8.ofNat x] else [c] := by
    unfold Go.Lib.replaceAll Go.Lib.replace
    rw [if_neg (by simp [toU]), show Go.Lib.replaceNum (toU s) (toU [x]) (-1) = Go.Lib.count (toU s) (toU [x]) by unfold Go.Lib.replaceNum; rw [if_pos (.inl (by decide))]]
    exact repl_u _ _
  rw [replF, e1]
  clear e1
  induction s with
  | nil => rfl
  | cons c s ih =>
    have hc : c < 256 := h c List.mem_cons_self
    have ih := ih fun y hy => h y (List.mem_cons_of_mem _ hy)
    rw [List.flatMap_cons, ← ih]
    rw [show toU (c :: s) = UInt8.ofNat c :: toU s from rfl, List.flatMap_cons, toN_app]
    have hiff : (UInt8.ofNat c = UInt8.ofNat x) ↔ c = x := by
      constructor
      · intro q
        have := congrArg UInt8.toNat q
        simp [UInt8.toNat_ofNat'] at this
        omega
      · rintro rfl; rfl
    have tx : (UInt8.ofNat x).toNat = x := by simp [UInt8.toNat_ofNat']; omega
    have tc : (UInt8.ofNat c).toNat = c := by simp [UInt8.toNat_ofNat']; omega
    by_cases hcx : c = x
    · rw [if_pos (hiff.2 hcx), if_pos hcx]
      simp only [toN, List.map_cons, List.map_nil, tx]
    · rw [if_neg (fun q => hcx (hiff.1 q)), if_neg hcx]
      simp only [toN, List.map_cons, List.map_nil, tc]
theorem bytes_repl (a b c : List Nat) : Bytes (replF a b c) := toN_bytes _
def tickF (s : List Nat) : List Nat := [96] ++ replF s [96] [96, 96] ++ [96]
def quoteF (s : List Nat) : List Nat := [39] ++ replF (replF s [92] [92, 92]) [39] [39, 39] ++ [39]
structure StdN (S : Set0) : Prop extends StdE S where
  ownN : ∀ f, f ∈ [20, 33, 35, 64] → sums S.exts f = none
  repl : sums S.exts 49 = some (pureM replV)
  join : sums S.exts 65 = some joinM

variable {S : Set0} (hS : StdN S)
include hS
theorem repl_exact (a b c : List Nat) (h : H) (ha : a.length < 2 ^ 30) (hb : 0 < b.length) (hc : c.length < 10) : Exact S.cfg 49 [.str a, .str b, .str c] h (.str (replF a b c)) := by
  refine sum_exact hS.repl ?_
  have h1 : Nat.blt a.length 4294967281 = true := blt_iff.2 (by omega)
  have h2 : Nat.blt 0 b.length = true := blt_iff.2 hb
  have h3 : Nat.ble (a.length + (a.length + 1) * c.length) 140737488355328 = true := ble_iff.2 (by
    have := Nat.mul_le_mul_left (a.length + 1) (Nat.le_of_lt hc)
    omega)
  show (bif Nat.blt a.length 4294967281 && (Nat.blt 0 b.length && Nat.ble (a.length + (a.length + 1) * c.length) 140737488355328) then some (V.str (replF a b c)) else none) = _
  rw [h1, h2, h3]
  rfl
theorem quote_spec (s : List Nat) (h : H) (hs : s.length < 2 ^ 20) : Exact S.cfg 20 [.str s] h (.str (quoteF s)) := by
  refine into Tryd.f20 _ Tryd.func20 (hS.ownN _ (by decide)) rfl rfl (by kernel_rfl) (by kernel_rfl) ?_
  simp +contextual (disch := first | (simp only [fs]; done) | omega | (simp only [Knx]; omega) | (apply Nat.le_antisymm <;> simp only [Knx] <;> omega) | fail) only [wpy, fE, reduceLE, reduceLT, reduceLeDiff, UInt8.reduceToNat, ↓reduceIte, reduceEqDiff, reduceAdd, reduceCtorEq, reduceToNat, Tryd.f20]
  refine callF_exact (repl_exact hS s [92] [92, 92] _ (by omega) (by decide) (by decide)) ?_
  have h1 := replF_len s [92] [92, 92]
  simp only [List.length_cons, List.length_nil] at h1
  have h2 : (replF s [92] [92, 92]).length < 2 ^ 22 := by omega
  simp +contextual (disch := first | (simp only [fs]; done) | omega | (simp only [Knx]; omega) | (apply Nat.le_antisymm <;> simp only [Knx] <;> omega) | fail) only [wpy, fE, reduceLE, reduceLT, reduceLeDiff, UInt8.reduceToNat, ↓reduceIte, reduceEqDiff, reduceAdd, reduceCtorEq, reduceToNat, Tryd.f20]
  refine callF_exact (repl_exact hS _ [39] [39, 39] _ (by omega) (by decide) (by decide)) ?_
  have h3 := replF_len (replF s [92] [92, 92]) [39] [39, 39]
  simp only [List.length_cons, List.length_nil] at h3
  have h4 : (replF (replF s [92] [92, 92]) [39] [39, 39]).length < 2 ^ 24 := by omega
  have h5 : 1 + (replF (replF s [92] [92, 92]) [39] [39, 39]).length ≤ 9223372036854775807 := by omega
  have h6 : (replF (replF s [92] [92, 92]) [39] [39, 39]).length + 1 + 1 ≤ 9223372036854775807 := by omega
  simp +contextual (disch := first | (simp only [fs]; done) | omega | (simp only [Knx]; omega) | (apply Nat.le_antisymm <;> simp only [Knx] <;> omega) | fail) only [wpy, fE, reduceLE, reduceLT, reduceLeDiff, UInt8.reduceToNat, ↓reduceIte, reduceEqDiff, reduceAdd, reduceCtorEq, reduceToNat, Tryd.f20, h5, h6]
  first | done | rfl | exact ⟨rfl, rfl⟩ | trace_state
theorem ctick_spec (s : List Nat) (h : H) (hs : s.length < 2 ^ 20) : Exact S.cfg 63 [.str s] h (.str (tickF s)) := by
  refine into Tryd.f63 _ Tryd.func63 (hS.ownC _ (by decide)) rfl rfl (by kernel_rfl) (by kernel_rfl) ?_
  simp +contextual (disch := first | (simp only [fs]; done) | omega | (simp only [Knx]; omega) | (apply Nat.le_antisymm <;> simp only [Knx] <;> omega) | fail) only [wpy, fE, reduceLE, reduceLT, reduceLeDiff, UInt8.reduceToNat, ↓reduceIte, reduceEqDiff, reduceAdd, reduceCtorEq, reduceToNat, Tryd.f63]
  refine callF_exact (repl_exact hS s [96] [96, 96] _ (by omega) (by decide) (by decide)) ?_
  have h1 := replF_len s [96] [96, 96]
  simp only [List.length_cons, List.length_nil] at h1
  have h2 : (replF s [96] [96, 96]).length < 2 ^ 22 := by omega
  have h3 : 1 + (replF s [96] [96, 96]).length ≤ 9223372036854775807 := by omega
  have h4 : (replF s [96] [96, 96]).length + 1 + 1 ≤ 9223372036854775807 := by omega
  simp +contextual (disch := first | (simp only [fs]; done) | omega | (simp only [Knx]; omega) | (apply Nat.le_antisymm <;> simp only [Knx] <;> omega) | fail) only [wpy, fE, reduceLE, reduceLT, reduceLeDiff, UInt8.reduceToNat, ↓reduceIte, reduceEqDiff, reduceAdd, reduceCtorEq, reduceToNat, Tryd.f63, h3, h4]
  first | done | rfl | exact ⟨rfl, rfl⟩ | trace_state
omit hS in
theorem tickF_is {t : List Nat} (h : Bytes t) : tickF t = tickS t := by
  unfold tickF tickS dbl
  rw [repl_one h (by decide)]
  rfl
omit hS in
theorem quoteF_is {t : List Nat} (h : Bytes t) : quoteF t = quoteS t := by
  unfold quoteF quoteS
  rw [repl_one (bytes_repl _ _ _) (by decide), repl_one h (by decide)]
  rfl
def pinsP (k : Nat) : Prop := k = 3 ∨ k = 7 ∨ k = 8 ∨ k = 10 ∨ k = 13
theorem pins_spec (k : Nat) (h : H) : Exact S.cfg 33 [.int .i64 k] h (bo (pinsP k)) := by
  refine into Tryd.f33 _ Tryd.func33 (hS.ownN _ (by decide)) rfl rfl (by kernel_rfl) (by kernel_rfl) ?_
  by_cases k3 : k = 3
  · subst k3
    simp +contextual (disch := first | (simp only [fs]; done) | omega | (simp only [Knx]; omega) | (apply Nat.le_antisymm <;> simp only [Knx] <;> omega) | fail) only [wpy, fE, reduceLE, reduceLT, reduceLeDiff, UInt8.reduceToNat, ↓reduceIte, reduceEqDiff, reduceAdd, reduceCtorEq, reduceToNat, Tryd.f33]
    exact congrArg bo (propext ⟨fun _ => by unfold pinsP; omega, fun _ => trivial⟩)
  by_cases k7 : k = 7
  · subst k7
    simp +contextual (disch := first | (simp only [fs]; done) | omega | (simp only [Knx]; omega) | (apply Nat.le_antisymm <;> simp only [Knx] <;> omega) | fail) only [wpy, fE, reduceLE, reduceLT, reduceLeDiff, UInt8.reduceToNat, ↓reduceIte, reduceEqDiff, reduceAdd, reduceCtorEq, reduceToNat, Tryd.f33]
    exact congrArg bo (propext ⟨fun _ => by unfold pinsP; omega, fun _ => trivial⟩)
  by_cases k8 : k = 8
  · subst k8
    simp +contextual (disch := first | (simp only [fs]; done) | omega | (simp only [Knx]; omega) | (apply Nat.le_antisymm <;> simp only [Knx] <;> omega) | fail) only [wpy, fE, reduceLE, reduceLT, reduceLeDiff, UInt8.reduceToNat, ↓reduceIte, reduceEqDiff, reduceAdd, reduceCtorEq, reduceToNat, Tryd.f33]
    exact congrArg bo (propext ⟨fun _ => by unfold pinsP; omega, fun _ => trivial⟩)
  by_cases k10 : k = 10
  · subst k10
    simp +contextual (disch := first | (simp only [fs]; done) | omega | (simp only [Knx]; omega) | (apply Nat.le_antisymm <;> simp only [Knx] <;> omega) | fail) only [wpy, fE, reduceLE, reduceLT, reduceLeDiff, UInt8.reduceToNat, ↓reduceIte, reduceEqDiff, reduceAdd, reduceCtorEq, reduceToNat, Tryd.f33]
    exact congrArg bo (propext ⟨fun _ => by unfold pinsP; omega, fun _ => trivial⟩)
  by_cases k13 : k = 13
  · subst k13
    simp +contextual (disch := first | (simp only [fs]; done) | omega | (simp only [Knx]; omega) | (apply Nat.le_antisymm <;> simp only [Knx] <;> omega) | fail) only [wpy, fE, reduceLE, reduceLT, reduceLeDiff, UInt8.reduceToNat, ↓reduceIte, reduceEqDiff, reduceAdd, reduceCtorEq, reduceToNat, Tryd.f33]
    exact congrArg bo (propext ⟨fun _ => by unfold pinsP; omega, fun _ => trivial⟩)
  simp +contextual (disch := first | (simp only [fs]; done) | omega | (simp only [Knx]; omega) | (apply Nat.le_antisymm <;> simp only [Knx] <;> omega) | fail) only [wpy, fE, reduceLE, reduceLT, reduceLeDiff, UInt8.reduceToNat, ↓reduceIte, reduceEqDiff, reduceAdd, reduceCtorEq, reduceToNat, Tryd.f33, k3, k7, k8, k10, k13]
  exact congrArg bo (propext ⟨fun q => q.elim, fun q => by unfold pinsP at q; omega⟩)

end
end Go.Proofs.YtkibhdbmamfjcaaDoor
set_option linter.unusedSimpArgs false
set_option linter.unusedVariables false
set_option linter.defProp false
set_option maxRecDepth 10000
namespace Go.Proofs.YtkibhdbmamfjcaaDoor
open Go.Proofs Go.Lx Go.Wx Go.IntWalk
noncomputable section

theorem lex_tlen : ∀ (n : Nat) (s : List Nat) (l : List KT), s.length ≤ n → Bytes s → lex s = some l → ∀ w ∈ l, w.2.length ≤ s.length
  | n, [], l, _, _, h, w, hw => by rw [lex_nil] at h; cases h; cases hw
  | 0, x :: t, l, h, _, _, _, _ => by simp at h
  | n + 1, x :: t, l, hn, hb, h, w, hw => by
    have h0 : x :: t ≠ [] := List.cons_ne_nil _ _
    generalize x :: t = s at *
    have hl : 0 < s.length := List.length_pos_iff.2 h0
    by_cases he : (passF s).2 ≠ 0
    · rw [lex_bad h0 he] at h; cases h
    have he : (passF s).2 = 0 := by omega
    by_cases h2 : 0 < (passF s).1
    · rw [lex_pass h0 he h2] at h
      have := lex_tlen n _ l (by rw [List.length_drop]; omega) (hb.drop _) h w hw
      rw [List.length_drop] at this
      omega
    · by_cases h3 : (wordD s).e ≠ 0
      · rw [lex_fault h0 he h2 h3] at h; cases h
      have h3 : (wordD s).e = 0 := by omega
      have hpos := wordD_pos h3
      rw [lex_word h0 he h2 h3] at h
      cases hx : lex (s.drop (wordD s).n) with
      | none => rw [hx] at h; cases h
      | some l' =>
        rw [hx] at h
        cases h
        rcases List.mem_cons.1 hw with rfl | hw
        · exact (wordD_ok h0 hb).2.1
        · have := lex_tlen n _ l' (by rw [List.length_drop]; omega) (hb.drop _) hx w hw
          rw [List.length_drop] at this
          omega
def caseS (s : List Nat) : List Nat := toldL ((wordsOf s).map WD.kt)
theorem case_plain {s : List Nat} (hb : Bytes s) (hl : s.length ≤ 2000) (hf : fine0 s) : Bytes (caseS s) ∧ (caseS s).length ≤ 34000 ∧ fine0 (caseS s) ∧ clsOf (caseS s) = clsOf s ∧ ∀ w ∈ wordsOf s, Bytes w.text ∧ w.text.length ≤ 2000 ∧ 0 < (plainW w.kind w.text).length := by
  cases hx : lex s with
  | none => exact absurd hf.1 ((words_lex hb (by omega)).2 hx)
  | some l =>
    obtain ⟨_, _, w⟩ := (words_lex hb (by omega)).1 l hx
    have hlen := toldL_len _ s l (Nat.le_refl _) hb hx
    have hby := toldL_bytes (lex_bytes _ s l (Nat.le_refl _) hb hx)
    have htell := lex_tellable _ s l (Nat.le_refl _) hx
    have e : caseS s = toldL l := by unfold caseS; rw [w]
    rw [e]
    obtain ⟨f1, f2, w2⟩ := (words_lex hby (by omega)).1 _ (lex_told l htell)
    refine ⟨hby, by omega, ⟨f1, f2⟩, ?_, fun v hv => ?_⟩
    · unfold clsOf
      exact s_cls (show Same (wordsOf (toldL l)) (wordsOf s) by unfold Same; rw [w, w2]) (rfl : Same [] [])
    · have hm : v.kt ∈ l := by rw [← w]; exact List.mem_map_of_mem hv
      refine ⟨lex_bytes _ s l (Nat.le_refl _) hb hx _ hm, Nat.le_trans (lex_tlen _ s l (Nat.le_refl _) hb hx _ hm) hl, ?_⟩
      have ht := htell _ hm
      have hpos := wordD_pos (s := toldW v.kind v.text) (by rw [show wordD (toldW v.kind v.text) = _ from ht.1])
      rw [show wordD (toldW v.kind v.text) = _ from ht.1] at hpos
      have hpos : 0 < (toldW v.kind v.text).length := hpos
      unfold toldW at hpos
      split at hpos
      · rwa [up_len] at hpos
      · exact hpos
theorem words_bad {s : List Nat} (h : ¬ fine0 s) : wordsOf s = [] := by
  unfold fine0 faultE faultP at h
  unfold wordsOf
  split
  · rfl
  · rename_i hl
    rw [if_neg hl, if_neg hl] at h
    cases hx : allF s with
    | inl ws => rw [hx] at h; exact absurd ⟨rfl, rfl⟩ h
    | inr q => rfl
theorem cls_bad {s : List Nat} (h : ¬ fine0 s) : clsOf s = [] := by
  unfold clsOf
  rw [words_bad h]
  rfl
end
end Go.Proofs.YtkibhdbmamfjcaaDoor
set_option linter.unusedSimpArgs false
set_option linter.unusedVariables false
set_option linter.unusedSectionVars false
set_option linter.defProp false
set_option maxRecDepth 10000
namespace Go.Proofs.YtkibhdbmamfjcaaDoor
open Int (reduceLE reduceLT reduceToNat)
open Nat (reduceLeDiff reduceEqDiff reduceAdd)
open Go.Proofs Go.Lx Go.Wx Go.IntWalk
noncomputable section

variable {S : Set0} (hS : StdN S)
include hS
end
end Go.Proofs.YtkibhdbmamfjcaaDoor
set_option linter.unusedSimpArgs false
set_option linter.unusedVariables false
set_option linter.defProp false
set_option maxRecDepth 10000
namespace Go.Proofs.YtkibhdbmamfjcaaDoor
open Go.Proofs Go.Lx Go.Wx Go.IntWalk
noncomputable section

theorem run_letters : ∀ (x : List Nat), x ≠ [] → (∀ b ∈ x, 97 ≤ b ∧ b ≤ 122) → runF x = (x.length, true)
  | [], h, _ => absurd rfl h
  | b :: t, _, h => by
    have hb := h b (by simp)
    have hd : dec (b :: t) = (b, 1) := dec_low (s := b :: t) (by show b < 128; omega)
    rw [runF_letter (List.cons_ne_nil _ _) (by unfold badR; rw [hd]; simp only; omega) (by rw [hd]; unfold letterR; simp only; omega), hd]
    show (1 + (runF t).1, true) = _
    by_cases ht : t = []
    · subst ht; rw [runF_nil]; rfl
    · rw [run_letters t ht fun b hb => h b (by simp [hb])]
      rw [List.length_cons, Nat.add_comm]
theorem pass_of {c : Nat} {u : List Nat} (h1 : ¬ isBlank c) (h2 : c ≠ 35) (h3 : c ≠ 45) (h4 : c ≠ 47) : passF (c :: u) = (0, 0) := by
  unfold passF
  rw [if_neg (show ¬ isBlank ((c :: u).getD 0 0) from h1), if_neg, if_pos (.inl fun q => h4 (hasP_head q))]
  rintro (q | q)
  · exact h2 q
  · exact h3 (hasP_head q.1)
theorem word_letters {x : List Nat} (h0 : x ≠ []) (h : ∀ b ∈ x, 97 ≤ b ∧ b ≤ 122) : wordD x = ⟨1, x, x.length, 0⟩ ∧ still x := by
  have hr := run_letters x h0 h
  cases hx : x with
  | nil => exact absurd hx h0
  | cons c u =>
    have hc := h c (by rw [hx]; simp)
    rw [← hx]
    have hl : 0 < x.length := List.length_pos_iff.2 h0
    have hn : numN x = 0 := by rw [hx]; exact num_none (by unfold isDigit; omega) (by omega)
    have hN : nameN x = x.length := by unfold nameN; rw [hr, if_pos rfl]
    have hlow : lowS x = x := by
      unfold lowS
      conv => rhs; rw [← List.map_id x]
      refine List.map_congr_left fun b hb => ?_
      have := h b hb
      show lowB b = b
      unfold lowB
      rw [if_neg (by omega)]
    have e2 : eitherD x = ⟨1, x, x.length, 0⟩ := by
      unfold eitherD
      rw [if_pos (by omega)]
      unfold nameD
      rw [hr, if_pos rfl, List.take_length, hlow]
    have e1 : oddD x = FD.none := by rw [hx]; exact odd_none (by omega)
    refine ⟨?_, still_run hl hr⟩
    unfold wordD finds
    rw [e1, e2, tryW_skip, tryW_hit rfl hl]
theorem lex_next {x t : List Nat} {k : Nat} (h0 : x ≠ []) (hw : wordD x = ⟨k, t, x.length, 0⟩) (hs : still x) (r : List Nat) : lex (x ++ 32 :: r) = (lex r).map ((k, t) :: ·) := by
  have e : wordD (x ++ 32 :: r) = ⟨k, t, x.length, 0⟩ := by rw [wordD_ext blank32 _ h0 (by rw [hw]), hw]
  have p := hs r
  have e3 : passF (32 :: r) = (1, 0) := if_pos (show isBlank (32 : Nat) by decide)
  rw [lex_word (by simp) (by rw [p]) (by rw [p]; exact Nat.lt_irrefl 0) (by rw [e]), e]
  show (lex ((x ++ 32 :: r).drop x.length)).map _ = _
  rw [List.drop_left', lex_pass (by simp) (by rw [e3]) (by rw [e3]; decide), e3]
  · rfl
  · rfl
theorem lex_last {x t : List Nat} {k : Nat} (h0 : x ≠ []) (hw : wordD x = ⟨k, t, x.length, 0⟩) (hp : passF x = (0, 0)) : lex x = some [(k, t)] := by
  rw [lex_word h0 (by rw [hp]) (by rw [hp]; exact Nat.lt_irrefl 0) (by rw [hw]), hw]
  show (lex (x.drop x.length)).map _ = _
  rw [List.drop_length, lex_nil]
  rfl
def sesW : List Nat := [115, 101, 115, 115, 105, 111, 110]
def anewF (c : CL) : Option (List Nat) :=
  if c.kind = 5 ∧ c.name = namT then some (setT ++ 32 :: (namT ++ 32 :: quoteS c.value))
  else if c.kind = 5 then some (setT ++ 32 :: (sesW ++ 32 :: (tickS c.name ++ 32 :: ([61] ++ 32 :: quoteS c.value))))
  else if c.kind = 6 then some (useT ++ 32 :: tickS c.name)
  else none
theorem tick_ne (t : List Nat) : tickS t ≠ [] := List.cons_ne_nil _ _
theorem quote_ne (t : List Nat) : quoteS t ≠ [] := List.cons_ne_nil _ _
theorem tick_pass (t : List Nat) : passF (tickS t) = (0, 0) := pass_of (by decide) (by decide) (by decide) (by decide)
theorem quote_pass (t : List Nat) : passF (quoteS t) = (0, 0) := pass_of (by decide) (by decide) (by decide) (by decide)
theorem tick_still (t : List Nat) : still (tickS t) := still_of (by decide) (by decide) (by decide) (by decide)
theorem lex_names (v : List Nat) : lex (setT ++ 32 :: (namT ++ 32 :: quoteS v)) = some [(1, setT), (1, namT), (3, v)] := by
  have h1 := word_letters (x := setT) (by decide) (by decide)
  have h2 := word_letters (x := namT) (by decide) (by decide)
  rw [lex_next (by decide) h1.1 h1.2, lex_next (by decide) h2.1 h2.2, lex_last (quote_ne v) (word_quote v) (quote_pass v)]
  rfl
theorem lex_session (n v : List Nat) : lex (setT ++ 32 :: (sesW ++ 32 :: (tickS n ++ 32 :: ([61] ++ 32 :: quoteS v)))) = some [(1, setT), (1, sesW), (2, n), (5, [61]), (3, v)] := by
  have h1 := word_letters (x := setT) (by decide) (by decide)
  have h2 := word_letters (x := sesW) (by decide) (by decide)
  have h4 := signs_words [61] (by decide)
  rw [lex_next (by decide) h1.1 h1.2, lex_next (by decide) h2.1 h2.2, lex_next (tick_ne n) (word_tick n) (tick_still n), lex_next (by decide) h4.1 (signs_still [61] (by decide)), lex_last (quote_ne v) (word_quote v) (quote_pass v)]
  rfl
theorem lex_use (n : List Nat) : lex (useT ++ 32 :: tickS n) = some [(1, useT), (2, n)] := by
  have h1 := word_letters (x := useT) (by decide) (by decide)
  rw [lex_next (by decide) h1.1 h1.2, lex_last (tick_ne n) (word_tick n) (tick_pass n)]
  rfl
theorem no_first {ws : List WD} {x : List Nat} (h : wordAt ws 0 = ⟨1, x, 0⟩) {s : List Nat} (hs : x ≠ s) : ¬ isC ws 0 s := fun q => hs (by rw [← q.2, h])
theorem no_all {ws : List WD} {x s : List Nat} {l : List (List Nat)} (h : wordAt ws 0 = ⟨1, x, 0⟩) (hs : x ≠ s) : ¬ allC ws 0 (s :: l) := fun q => no_first h hs (q 0 (by simp))
theorem no_any {ws : List WD} {x : List Nat} {l : List (List Nat)} (h : wordAt ws 0 = ⟨1, x, 0⟩) (hs : x ∉ l) : ¬ anyC ws 0 l := by
  rintro ⟨s, hm, q⟩
  exact no_first h (fun e => hs (by rw [e]; exact hm)) q
theorem no_odd {ws : List WD} (h0 : ws ≠ []) (h : ∀ w ∈ ws, (w.kind = 1 ∧ w.text ∉ oddL ∧ w.text ≠ intoT ∧ w.text ∉ lockL) ∨ w.kind = 2 ∨ w.kind = 3 ∨ (w.kind = 5 ∧ w.text = [61])) : ¬ oddA ws ∧ ¬ lockedP ws := by
  have key : ∀ i, i < ws.length → ∃ w ∈ ws, wordAt ws i = w := fun i hi => ⟨ws[i], List.getElem_mem hi, wordAt_lt hi⟩
  constructor
  · rintro (⟨i, hi, q1, q2⟩ | q | ⟨i, hi, q⟩)
    · obtain ⟨w, hw, e⟩ := key i hi
      unfold knd at q1
      unfold txt at q2
      rw [e] at q1 q2
      rcases h w hw with ⟨q, _⟩ | q | q | ⟨_, q⟩
      · omega
      · omega
      · omega
      · rw [q] at q2; exact absurd q2 (by decide)
    · exact h0 (List.eq_nil_of_length_eq_zero q)
    · obtain ⟨w, hw, e⟩ := key i hi
      unfold oddW at q
      rw [e] at q
      rcases h w hw with ⟨k, t1, t2, _⟩ | k | k | ⟨k, t⟩
      · rcases q with q | q | q | q
        · omega
        · omega
        · exact t1 q.2
        · exact t2 q.2.1
      · rcases q with q | q | q | q <;> omega
      · rcases q with q | q | q | q <;> omega
      · rcases q with q | q | q | q
        · omega
        · rw [t] at q; exact absurd q.2 (by decide)
        · omega
        · omega
  · rintro ⟨i, hi, q1, q2⟩
    obtain ⟨w, hw, e⟩ := key i hi
    unfold knd at q1
    unfold txt at q2
    rw [e] at q1 q2
    rcases h w hw with ⟨_, _, _, t⟩ | k | k | ⟨k, _⟩
    · exact t q2
    · omega
    · omega
    · omega
theorem no_locks {ws : List WD} {x : List Nat} (h : wordAt ws 0 = ⟨1, x, 0⟩) (h1 : x ≠ selT) (h2 : x ≠ lckT) (h3 : x ≠ unlT) (h4 : ¬ lockedP ws) : locksF ws = none := by
  unfold locksF
  rw [if_neg (fun q => no_all h h1 q.1), if_neg (fun q => no_all h h1 q.1), if_neg h4, if_neg (fun q => no_first h h2 q.1), if_neg (fun q => no_first h h3 q.1)]
theorem no_trans {ws : List WD} {x : List Nat} (h : wordAt ws 0 = ⟨1, x, 0⟩) (h1 : x ≠ bgnT) (h2 : x ≠ [115, 116, 97, 114, 116]) (h3 : x ∉ comL) : transF ws = none := by
  unfold transF
  rw [if_neg (fun q => no_first h h1 q.1), if_neg (show ¬ allC ws 0 strL from no_all h h2), if_neg (fun q => no_any h h3 q.1)]
theorem one_names (v : List Nat) : oneF [⟨1, setT, 0⟩, ⟨1, namT, 0⟩, ⟨3, v, 0⟩] = ⟨5, namT, v⟩ := by
  have h : wordAt [⟨1, setT, 0⟩, ⟨1, namT, 0⟩, ⟨3, v, 0⟩] 0 = ⟨1, setT, 0⟩ := rfl
  obtain ⟨n1, n2⟩ := no_odd (ws := [⟨1, setT, 0⟩, ⟨1, namT, 0⟩, ⟨3, v, 0⟩]) (by simp) (by
    intro w hw
    simp only [List.mem_cons, List.not_mem_nil, or_false] at hw
    rcases hw with rfl | rfl | rfl
    · exact .inl ⟨rfl, by decide, by decide, by decide⟩
    · exact .inl ⟨rfl, by decide, by decide, by decide⟩
    · exact .inr (.inr (.inl rfl)))
  have hl : litF [⟨1, setT, 0⟩, ⟨1, namT, 0⟩, ⟨3, v, 0⟩] 2 = some (v, 3) := by
    unfold litF
    rw [if_neg (fun q => absurd (show (3 : Nat) = 5 from q.1) (by decide)), if_pos (.inr (.inl rfl))]
    rfl
  have hv : varF [⟨1, setT, 0⟩, ⟨1, namT, 0⟩, ⟨3, v, 0⟩] = some ⟨5, namT, v⟩ := by
    have k1 : knd [⟨1, setT, 0⟩, ⟨1, namT, 0⟩, ⟨3, v, 0⟩] 1 = 1 := rfl
    unfold varF
    rw [if_pos ⟨rfl, rfl⟩, k1, if_neg (show ¬ (1 : Nat) = 6 by decide), if_neg (show ¬ (1 : Nat) = 7 by decide), if_pos ⟨⟨rfl, rfl⟩, by rw [hl]; rfl, by rw [hl]; rfl⟩, hl]
    rfl
  unfold oneF
  rw [if_neg n1, no_locks h (by decide) (by decide) (by decide) n2, no_trans h (by decide) (by decide) (by decide), hv]
theorem one_session {n : List Nat} (v : List Nat) (h1 : lowS n = n) (h2 : n ∉ varL) (h3 : ¬ hasP n sqlT) : oneF [⟨1, setT, 0⟩, ⟨1, sesW, 0⟩, ⟨2, n, 0⟩, ⟨5, [61], 0⟩, ⟨3, v, 0⟩] = ⟨5, n, v⟩ := by
  generalize hws : ([⟨1, setT, 0⟩, ⟨1, sesW, 0⟩, ⟨2, n, 0⟩, ⟨5, [61], 0⟩, ⟨3, v, 0⟩] : List WD) = ws
  have h : wordAt ws 0 = ⟨1, setT, 0⟩ := by rw [← hws]; rfl
  have w1 : wordAt ws 1 = ⟨1, sesW, 0⟩ := by rw [← hws]; rfl
  have w2 : wordAt ws 2 = ⟨2, n, 0⟩ := by rw [← hws]; rfl
  have w3 : wordAt ws 3 = ⟨5, [61], 0⟩ := by rw [← hws]; rfl
  have w4 : wordAt ws 4 = ⟨3, v, 0⟩ := by rw [← hws]; rfl
  have hlen : ws.length = 5 := by rw [← hws]; rfl
  obtain ⟨n1, n2⟩ := no_odd (ws := ws) (by rw [← hws]; simp) (by
    intro w hw
    rw [← hws] at hw
    simp only [List.mem_cons, List.not_mem_nil, or_false] at hw
    rcases hw with rfl | rfl | rfl | rfl | rfl
    · exact .inl ⟨rfl, by decide, by decide, by decide⟩
    · exact .inl ⟨rfl, by decide, by decide, by decide⟩
    · exact .inr (.inl rfl)
    · exact .inr (.inr (.inr ⟨rfl, rfl⟩))
    · exact .inr (.inr (.inl rfl)))
  have hl : litF ws 4 = some (v, 5) := by
    have k4 : knd ws 4 = 3 := by unfold knd; rw [w4]
    have t4 : txt ws 4 = v := by unfold txt; rw [w4]
    unfold litF
    rw [if_neg (fun q => by have := q.1; omega), if_pos (.inr (.inl k4)), t4]
  have ha : assF ws 3 = some v := by
    unfold assF
    rw [if_pos (show isC ws 3 [61] by unfold isC; rw [w3]; exact ⟨rfl, rfl⟩)]
    show (match litF ws 4 with
      | some (t, b) => if b = ws.length then some t else none
      | none => none) = _
    rw [hl]
    exact if_pos hlen.symm
  have hvp : vp ws = 2 := by
    unfold vp
    rw [if_pos ⟨sesW, by decide, by unfold isC; rw [w1]; exact ⟨rfl, rfl⟩⟩]
  have hv : varF ws = some ⟨5, n, v⟩ := by
    unfold varF
    rw [if_pos (show isC ws 0 setT by unfold isC; rw [h]; exact ⟨rfl, rfl⟩)]
    have k1 : knd ws 1 = 1 := by unfold knd; rw [w1]
    have t2 : txt ws 2 = n := by unfold txt; rw [w2]
    rw [k1, if_neg (show ¬ (1 : Nat) = 6 by decide), if_neg (show ¬ (1 : Nat) = 7 by decide), if_neg, hvp, if_pos (show nameP ws 2 by unfold nameP; rw [w2]; exact .inr rfl), ha, t2]
    · show some (setF n v) = _
      unfold setF
      rw [h1, if_neg (fun q => q.elim h2 h3)]
    · rintro ⟨⟨_, q⟩, _⟩
      rw [w1] at q
      exact absurd q (by decide)
  unfold oneF
  rw [if_neg n1, no_locks h (by decide) (by decide) (by decide) n2, no_trans h (by decide) (by decide) (by decide), hv]
theorem one_use (n : List Nat) : oneF [⟨1, useT, 0⟩, ⟨2, n, 0⟩] = ⟨6, n, []⟩ := by
  have h : wordAt [⟨1, useT, 0⟩, ⟨2, n, 0⟩] 0 = ⟨1, useT, 0⟩ := rfl
  obtain ⟨n1, n2⟩ := no_odd (ws := [⟨1, useT, 0⟩, ⟨2, n, 0⟩]) (by simp) (by
    intro w hw
    simp only [List.mem_cons, List.not_mem_nil, or_false] at hw
    rcases hw with rfl | rfl
    · exact .inl ⟨rfl, by decide, by decide, by decide⟩
    · exact .inr (.inl rfl))
  have hv : varF [⟨1, useT, 0⟩, ⟨2, n, 0⟩] = none := by
    unfold varF
    rw [if_neg (no_first h (by decide))]
  unfold oneF
  rw [if_neg n1, no_locks h (by decide) (by decide) (by decide) n2, no_trans h (by decide) (by decide) (by decide), hv]
  exact if_pos ⟨⟨rfl, rfl⟩, .inr rfl, rfl⟩
end
end Go.Proofs.YtkibhdbmamfjcaaDoor
set_option linter.unusedSimpArgs false
set_option linter.unusedVariables false
set_option linter.unusedSectionVars false
set_option linter.defProp false
set_option maxRecDepth 10000
namespace Go.Proofs.YtkibhdbmamfjcaaDoor
open Go.Proofs Go.Lx Go.Wx Go.IntWalk
noncomputable section

structure TB (B : Nat) (t : List Nat) : Prop where
  b : Bytes t
  l : t.length ≤ B
structure GoodC (c : CL) : Prop where
  five : c.kind = 5 → (c.name = namT ∨ (lowS c.name = c.name ∧ c.name ∉ varL ∧ ¬ hasP c.name sqlT)) ∧ TB 4000 c.name ∧ TB 4000 c.value
  six : c.kind = 6 → c.value = [] ∧ TB 4000 c.name
theorem GoodC.other {c : CL} (h1 : c.kind ≠ 5) (h2 : c.kind ≠ 6) : GoodC c := ⟨fun q => absurd q h1, fun q => absurd q h2⟩
theorem TB.mono {A B : Nat} {t : List Nat} (h : TB A t) (hab : A ≤ B) : TB B t := ⟨h.b, Nat.le_trans h.l hab⟩
theorem TB.low {B : Nat} {t : List Nat} (h : TB B t) : TB B (lowS t) := ⟨lowS_bytes h.b, by rw [low_len]; exact h.l⟩
theorem TB.trim {B : Nat} {t : List Nat} (p : List Nat) (h : TB B t) : TB B (trimS t p) := ⟨trimS_bytes p h.b, Nat.le_trans (trimS_len _ _) h.l⟩
variable {ws : List WD} (hw : ∀ w ∈ ws, TB 2000 w.text)
include hw
theorem txt_tb (i : Nat) : TB 2000 (txt ws i) := by
  unfold txt
  by_cases hi : i < ws.length
  · rw [wordAt_lt hi]; exact hw _ (List.getElem_mem hi)
  · rw [wordAt_ge hi]; exact ⟨fun b hb => (by cases hb), Nat.zero_le _⟩
theorem lit_tb {a : Nat} {r : List Nat × Nat} (h : litF ws a = some r) : TB 4000 r.1 := by
  have h1 := txt_tb hw a
  have h2 := txt_tb hw (a + 1)
  unfold litF at h
  split at h
  · split at h
    · cases h
      exact ⟨fun b hb => (List.mem_append.1 hb).elim (h1.b b) (h2.b b), by show (txt ws a ++ txt ws (a + 1)).length ≤ _; rw [List.length_append]; have := h1.l; have := h2.l; omega⟩
    · cases h
  · split at h
    · cases h; exact h1.mono (by decide)
    · cases h
theorem ass_tb {a : Nat} {t : List Nat} (h : assF ws a = some t) : TB 4000 t := by
  unfold assF at h
  split at h
  · cases hl : litF ws (a + 1) with
    | none => rw [hl] at h; cases h
    | some r =>
      rw [hl] at h
      obtain ⟨x, b⟩ := r
      have h : (if b = ws.length then some x else none) = some t := h
      split at h
      · cases h; exact lit_tb hw hl
      · cases h
  · cases h
theorem sys_tb : TB 2000 (sysT ws) := by
  have h1 := txt_tb hw 1
  unfold sysT
  split
  · exact (h1.trim _).trim _
  · exact h1.trim _
omit hw in
theorem set_good {n v : List Nat} (hn : TB 2000 n) (hv : TB 4000 v) : GoodC (setF n v) := by
  unfold setF
  by_cases q : lowS n ∈ varL ∨ hasP (lowS n) sqlT
  · rw [if_pos q]; exact .other (by decide) (by decide)
  · rw [if_neg q]
    exact ⟨fun _ => ⟨.inr ⟨low_low n, fun w => q (.inl w), fun w => q (.inr w)⟩, hn.low.mono (by decide), hv⟩, fun w => absurd (show (5 : Nat) = 6 from w) (by decide)⟩
theorem var_good {c : CL} (h : varF ws = some c) : GoodC c := by
  unfold varF at h
  split at h
  · split at h
    · cases ha : assF ws 2 with
      | none => rw [ha] at h; cases h
      | some v => rw [ha] at h; cases h; exact .other (show (7 : Nat) ≠ 5 by decide) (show (7 : Nat) ≠ 6 by decide)
    · split at h
      · unfold sysA at h
        cases ha : assF ws 2 with
        | none => rw [ha] at h; cases h
        | some v =>
          rw [ha] at h
          have h : (if sysT ws ≠ [] ∧ idxNats (sysT ws) 46 < 0 then some (setF (sysT ws) v) else none) = some c := h
          split at h
          · cases h; exact set_good (sys_tb hw) (ass_tb hw ha)
          · cases h
      · split at h
        · rename_i q
          cases h
          refine ⟨fun _ => ⟨.inl rfl, ⟨fun b hb => blt_iff.1 (List.all_eq_true.1 (show (namT.all fun b => Nat.blt b 256) = true from rfl) b hb), show namT.length ≤ 4000 by decide⟩, ?_⟩, fun w => absurd (show (5 : Nat) = 6 from w) (by decide)⟩
          cases hl : litF ws 2 with
          | none => have := q.2.1; rw [hl] at this; cases this
          | some r => exact lit_tb hw hl
        · split at h
          · cases ha : assF ws (vp ws + 1) with
            | none => rw [ha] at h; cases h
            | some v =>
              rw [ha] at h
              have h : some (setF (txt ws (vp ws)) v) = some c := h
              cases h
              exact set_good (txt_tb hw _) (ass_tb hw ha)
          · cases h
  · cases h
omit hw in
theorem locks_other {c : CL} (h : locksF ws = some c) : GoodC c := by
  unfold locksF at h
  repeat' split at h
  all_goals first | (cases h; exact GoodC.other (show (10 : Nat) ≠ 5 by decide) (show (10 : Nat) ≠ 6 by decide)) | (cases h; exact GoodC.other (show (11 : Nat) ≠ 5 by decide) (show (11 : Nat) ≠ 6 by decide)) | (cases h; exact GoodC.other (show (8 : Nat) ≠ 5 by decide) (show (8 : Nat) ≠ 6 by decide)) | (cases h; exact GoodC.other (show (9 : Nat) ≠ 5 by decide) (show (9 : Nat) ≠ 6 by decide)) | (cases h; exact .other (by decide) (by decide)) | (cases h; done)
omit hw in
theorem trans_other {c : CL} (h : transF ws = some c) : GoodC c := by
  unfold transF at h
  repeat' split at h
  all_goals first | (cases h; exact GoodC.other (show (10 : Nat) ≠ 5 by decide) (show (10 : Nat) ≠ 6 by decide)) | (cases h; exact GoodC.other (show (11 : Nat) ≠ 5 by decide) (show (11 : Nat) ≠ 6 by decide)) | (cases h; exact GoodC.other (show (8 : Nat) ≠ 5 by decide) (show (8 : Nat) ≠ 6 by decide)) | (cases h; exact GoodC.other (show (9 : Nat) ≠ 5 by decide) (show (9 : Nat) ≠ 6 by decide)) | (cases h; exact .other (by decide) (by decide)) | (cases h; done)
omit hw in
theorem temps_other {c : CL} (h : tempsF ws = some c) : GoodC c := by
  unfold tempsF at h
  repeat' split at h
  all_goals first | (cases h; exact GoodC.other (show (10 : Nat) ≠ 5 by decide) (show (10 : Nat) ≠ 6 by decide)) | (cases h; exact GoodC.other (show (11 : Nat) ≠ 5 by decide) (show (11 : Nat) ≠ 6 by decide)) | (cases h; exact GoodC.other (show (8 : Nat) ≠ 5 by decide) (show (8 : Nat) ≠ 6 by decide)) | (cases h; exact GoodC.other (show (9 : Nat) ≠ 5 by decide) (show (9 : Nat) ≠ 6 by decide)) | (cases h; exact .other (by decide) (by decide)) | (cases h; done)
omit hw in
theorem rest_other : GoodC ⟨restF ws, [], []⟩ := by
  have : restF ws = 12 ∨ restF ws = 2 ∨ restF ws = 1 ∨ restF ws = 13 := by
    unfold restF
    repeat' split
    all_goals simp
  exact .other (by show restF ws ≠ 5; omega) (by show restF ws ≠ 6; omega)
theorem one_good : GoodC (oneF ws) := by
  unfold oneF
  split
  · exact .other (by decide) (by decide)
  cases h1 : locksF ws with
  | some c => exact locks_other h1
  | none =>
    cases h2 : transF ws with
    | some c => exact trans_other h2
    | none =>
      cases h3 : varF ws with
      | some c => exact var_good hw h3
      | none =>
        by_cases hu : useP ws
        · show GoodC (if useP ws then _ else _)
          rw [if_pos hu]
          exact ⟨fun w => absurd (show (6 : Nat) = 5 from w) (by decide), fun _ => ⟨rfl, (txt_tb hw 1).mono (by decide)⟩⟩
        · show GoodC (if useP ws then _ else _)
          rw [if_neg hu]
          cases h4 : tempsF ws with
          | some c => exact temps_other h4
          | none => exact rest_other
omit hw in
theorem clsR_good : ∀ (l cur : List WD), (∀ w ∈ l, TB 2000 w.text) → (∀ w ∈ cur, TB 2000 w.text) → ∀ c ∈ clsR l cur, GoodC c
  | [], cur, _, hc, c, h => by
    rw [clsR] at h
    split at h
    · cases h
    · rw [List.mem_singleton.1 h]; exact one_good hc
  | w :: l, cur, hl, hc, c, h => by
    rw [clsR] at h
    split at h
    · rcases List.mem_append.1 h with h | h
      · split at h
        · cases h
        · rw [List.mem_singleton.1 h]; exact one_good hc
      · exact clsR_good l [] (fun v hv => hl v (by simp [hv])) (fun v hv => by cases hv) c h
    · exact clsR_good l (cur ++ [w]) (fun v hv => hl v (by simp [hv])) (fun v hv => by
        rcases List.mem_append.1 hv with hv | hv
        · exact hc v hv
        · rw [List.mem_singleton.1 hv]; exact hl w (by simp)) c h
omit hw
theorem cls_good {s : List Nat} (hb : Bytes s) (hl : s.length ≤ 2000) : ∀ c ∈ clsOf s, GoodC c := by
  by_cases hf : fine0 s
  · obtain ⟨_, _, _, _, hW⟩ := case_plain hb hl hf
    exact clsR_good _ [] (fun w hw => ⟨(hW w hw).1, (hW w hw).2.1⟩) fun w hw => by cases hw
  · rw [cls_bad hf]
    intro c hc
    cases hc
theorem of_lex {T : List Nat} {l : List KT} {ws : List WD} (hb : Bytes T) (hT : T.length ≤ 1048576) (h : lex T = some l) (hw : ws.map WD.kt = l) (hc : ∀ w ∈ ws, ¬ isCut w) (h0 : ws ≠ []) : fine0 T ∧ clsOf T = [oneF ws] := by
  obtain ⟨f1, f2, w⟩ := (words_lex hb hT).1 l h
  refine ⟨⟨f1, f2⟩, ?_⟩
  unfold clsOf
  rw [s_cls (show Same (wordsOf T) ws by unfold Same; rw [w, hw]) (rfl : Same [] [])]
  have key : ∀ (l cur : List WD), (∀ w ∈ l, ¬ isCut w) → cur ++ l ≠ [] → clsR l cur = [oneF (cur ++ l)] := by
    intro l
    induction l with
    | nil => intro cur _ h; rw [clsR, List.append_nil] at *; rw [if_neg h]
    | cons w l ih =>
      intro cur hc h
      rw [clsR, if_neg (hc w (by simp)), ih (cur ++ [w]) (fun v hv => hc v (by simp [hv])) (by simp)]
      simp
  exact key ws [] hc (by simpa using h0)
theorem cat_bytes {a b : List Nat} (ha : Bytes a) (hb : Bytes b) : Bytes (a ++ 32 :: b) := by
  intro x hx
  rcases List.mem_append.1 hx with h | h
  · exact ha x h
  · rcases List.mem_cons.1 h with rfl | h
    · decide
    · exact hb x h
theorem lit_b {l : List Nat} (h : (l.all fun b => Nat.blt b 256) = true) : Bytes l := fun b hb => blt_iff.1 (List.all_eq_true.1 h b hb)
theorem quote_len (t : List Nat) : (quoteS t).length ≤ 4 * t.length + 2 := by
  have h2 := dbl_len 92 t
  have h3 := dbl_len 39 (dbl 92 t)
  unfold quoteS
  simp
  omega
theorem tick_len2 (t : List Nat) : (tickS t).length ≤ 2 * t.length + 2 := by
  have h1 := dbl_len 96 t
  rw [tick_len]
  omega
theorem anew_good {c : CL} (h : GoodC c) {T : List Nat} (hT : anewF c = some T) : Bytes T ∧ T.length ≤ 100000 ∧ fine0 T ∧ clsOf T = [c] ∧ ¬ pinsP c.kind := by
  obtain ⟨k, n, v⟩ := c
  unfold anewF at hT
  simp only at hT
  by_cases q1 : k = 5 ∧ n = namT
  · rw [if_pos q1] at hT
    cases hT
    obtain ⟨rfl, rfl⟩ := q1
    obtain ⟨_, hn, hv⟩ := h.five rfl
    have hl := quote_len v
    have hvl : v.length ≤ 4000 := hv.l
    have hB : Bytes (setT ++ 32 :: (namT ++ 32 :: quoteS v)) := cat_bytes (lit_b rfl) (cat_bytes (lit_b rfl) (quote_bytes hv.b))
    have hL : (setT ++ 32 :: (namT ++ 32 :: quoteS v)).length ≤ 100000 := by
      simp only [List.length_append, List.length_cons]
      have : setT.length = 3 := rfl
      have : namT.length = 5 := rfl
      omega
    obtain ⟨f, e⟩ := of_lex (ws := [⟨1, setT, 0⟩, ⟨1, namT, 0⟩, ⟨3, v, 0⟩]) hB (by omega) (lex_names v) rfl (by
      intro w hw
      simp only [List.mem_cons, List.not_mem_nil, or_false] at hw
      rcases hw with rfl | rfl | rfl
      · exact fun q => absurd q.1 (show ¬ (1 : Nat) = 5 by decide)
      · exact fun q => absurd q.1 (show ¬ (1 : Nat) = 5 by decide)
      · exact fun q => absurd q.1 (show ¬ (3 : Nat) = 5 by decide)) (by simp)
    exact ⟨hB, hL, f, by rw [e, one_names], by unfold pinsP; simp⟩
  rw [if_neg q1] at hT
  by_cases q2 : k = 5
  · rw [if_pos q2] at hT
    cases hT
    subst q2
    obtain ⟨hg, hn, hv⟩ := h.five rfl
    have hg := hg.resolve_left fun q => q1 ⟨rfl, q⟩
    have hl := quote_len v
    have hvl : v.length ≤ 4000 := hv.l
    have hl2 := tick_len2 n
    have hnl : n.length ≤ 4000 := hn.l
    have hB : Bytes (setT ++ 32 :: (sesW ++ 32 :: (tickS n ++ 32 :: ([61] ++ 32 :: quoteS v)))) := cat_bytes (lit_b rfl) (cat_bytes (lit_b rfl) (cat_bytes (tick_bytes hn.b) (cat_bytes (lit_b rfl) (quote_bytes hv.b))))
    have hL : (setT ++ 32 :: (sesW ++ 32 :: (tickS n ++ 32 :: ([61] ++ 32 :: quoteS v)))).length ≤ 100000 := by
      simp only [List.length_append, List.length_cons, List.length_nil]
      have : setT.length = 3 := rfl
      have : sesW.length = 7 := rfl
      omega
    obtain ⟨f, e⟩ := of_lex (ws := [⟨1, setT, 0⟩, ⟨1, sesW, 0⟩, ⟨2, n, 0⟩, ⟨5, [61], 0⟩, ⟨3, v, 0⟩]) hB (by omega) (lex_session n v) rfl (by
      intro w hw
      simp only [List.mem_cons, List.not_mem_nil, or_false] at hw
      rcases hw with rfl | rfl | rfl | rfl | rfl
      · exact fun q => absurd q.1 (show ¬ (1 : Nat) = 5 by decide)
      · exact fun q => absurd q.1 (show ¬ (1 : Nat) = 5 by decide)
      · exact fun q => absurd q.1 (show ¬ (2 : Nat) = 5 by decide)
      · exact fun q => absurd q.2 (show ¬ ([61] : List Nat) = [59] by decide)
      · exact fun q => absurd q.1 (show ¬ (3 : Nat) = 5 by decide)) (by simp)
    exact ⟨hB, hL, f, by rw [e, one_session v hg.1 hg.2.1 hg.2.2], by unfold pinsP; simp⟩
  rw [if_neg q2] at hT
  by_cases q3 : k = 6
  · rw [if_pos q3] at hT
    cases hT
    subst q3
    obtain ⟨hv, hn⟩ := h.six rfl
    have hv : v = [] := hv
    subst hv
    have hl2 := tick_len2 n
    have hnl : n.length ≤ 4000 := hn.l
    have hB : Bytes (useT ++ 32 :: tickS n) := cat_bytes (lit_b rfl) (tick_bytes hn.b)
    have hL : (useT ++ 32 :: tickS n).length ≤ 100000 := by
      simp only [List.length_append, List.length_cons]
      have : useT.length = 3 := rfl
      omega
    obtain ⟨f, e⟩ := of_lex (ws := [⟨1, useT, 0⟩, ⟨2, n, 0⟩]) hB (by omega) (lex_use n) rfl (by
      intro w hw
      simp only [List.mem_cons, List.not_mem_nil, or_false] at hw
      rcases hw with rfl | rfl
      · exact fun q => absurd q.1 (show ¬ (1 : Nat) = 5 by decide)
      · exact fun q => absurd q.1 (show ¬ (2 : Nat) = 5 by decide)) (by simp)
    exact ⟨hB, hL, f, by rw [e, one_use], by unfold pinsP; simp⟩
  · rw [if_neg q3] at hT
    cases hT
end
end Go.Proofs.YtkibhdbmamfjcaaDoor
set_option linter.unusedSimpArgs false
set_option linter.unusedVariables false
set_option linter.unusedSectionVars false
set_option linter.defProp false
set_option maxRecDepth 10000
namespace Go.Proofs.YtkibhdbmamfjcaaDoor
open Int (reduceLE reduceLT reduceToNat)
open Nat (reduceLeDiff reduceEqDiff reduceAdd)
open Go.Proofs Go.Lx Go.Wx Go.IntWalk
noncomputable section

def Looks (n : Nat) : Fp → Prop
  | .lg l => ∀ e ∈ l, e.isW = false
  | .cl n0 n1 Ok => n0 = n ∧ n1 = n ∧ ∀ k, ¬ Ok k
theorem hits_look : ∀ {a b : List LE}, (∀ e ∈ a, e.isW = false) → (∀ e ∈ b, e.isW = false) → hitsL a b = false ∧ hitsL b a = false := by
  intro a b ha hb
  constructor
  · exact hitsL_reads ha
  · exact hitsL_reads hb
theorem looks_apart {n : Nat} {f g : Fp} (hf : Looks n f) (hg : Looks n g) : fpApart f g := by
  cases f with
  | lg a =>
    cases g with
    | lg b => exact hits_look hf hg
    | cl n0 n1 Ok =>
      obtain ⟨h1, h2, hk⟩ := hg
      exact fun e he => ⟨hf e he, by omega, hk _⟩
  | cl n0 n1 Ok =>
    obtain ⟨h1, h2, hk⟩ := hf
    cases g with
    | lg b => exact fun e he => (Nat.lt_or_ge (blkOf e) n0).elim (fun q => .inr ⟨hg e he, q, hk _⟩) fun q => .inl (by omega)
    | cl m0 m1 Ok' =>
      obtain ⟨h3, h4, hk'⟩ := hg
      exact ⟨by omega, hk, by omega, hk'⟩
theorem look_nil {n : Nat} : Looks n (.lg []) := fun e he => by cases he
theorem look_rd {n k o m : Nat} : Looks n (.lg [.rd k o m]) := fun e he => by rw [List.mem_singleton] at he; subst he; rfl
theorem look_cl {n : Nat} : Looks n (.cl n n nil1) := ⟨rfl, rfl, fun _ h => h⟩
theorem looks_pairs {n : Nat} {l : List Fp} (h : ∀ f ∈ l, Looks n f) (pairs : List (Nat × Nat)) : ∀ p ∈ pairs, ∀ a b, l[p.1]? = some a → l[p.2]? = some b → fpApart a b := fun p _ a b ha hb => looks_apart (h a (List.mem_of_getElem? ha)) (h b (List.mem_of_getElem? hb))


variable {S : Set0} (hS : StdN S)
include hS
theorem anew_spec (c : CL) (h : H) (hg : GoodC c) : Pure S.cfg 34 [c.v] h fun v _ => v = .tuple [.str ((anewF c).getD []), bo ((anewF c).isSome = true)] := by
  refine into Tryd.f34 _ Tryd.func34 (hS.ownC _ (by decide)) rfl rfl (by kernel_rfl) (by kernel_rfl) ?_
  obtain ⟨k, n, v⟩ := c
  unfold CL.v
  by_cases k5 : k = 5
  · subst k5
    obtain ⟨_, hn, hv⟩ := hg.five rfl
    have hn : TB 4000 n := hn
    have hv : TB 4000 v := hv
    have hq : quoteF v = quoteS v := quoteF_is hv.b
    have ht : tickF n = tickS n := tickF_is hn.b
    have l1 := quote_len v
    have l2 := tick_len2 n
    have l3 := hn.l
    have l4 := hv.l
    by_cases hnm : n = namT
    · have ha : anewF ⟨5, n, v⟩ = some (setT ++ 32 :: (namT ++ 32 :: quoteS v)) := if_pos ⟨rfl, hnm⟩
      rw [ha]
      have hnm' : n = [110, 97, 109, 101, 115] := hnm
      simp +contextual (disch := first | (simp only [fs]; done) | omega | (simp only [Knx]; omega) | (apply Nat.le_antisymm <;> simp only [Knx] <;> omega) | fail) only [wpy, fE, reduceLE, reduceLT, reduceLeDiff, UInt8.reduceToNat, ↓reduceIte, reduceEqDiff, reduceAdd, reduceCtorEq, reduceToNat, Tryd.f34, hnm']
      refine callF_exact (quote_spec hS v _ (by omega)) ?_
      rw [hq]
      have z1 : 10 + (quoteS v).length ≤ 9223372036854775807 := by omega
      simp +contextual (disch := first | (simp only [fs]; done) | omega | (simp only [Knx]; omega) | (apply Nat.le_antisymm <;> simp only [Knx] <;> omega) | fail) only [wpy, fE, reduceLE, reduceLT, reduceLeDiff, UInt8.reduceToNat, ↓reduceIte, reduceEqDiff, reduceAdd, reduceCtorEq, reduceToNat, Tryd.f34, z1]
      exact ⟨(Ext.refl h).push _, by simp [setT, namT]⟩
    · have hnm' : ¬ n = [110, 97, 109, 101, 115] := hnm
      have ha : anewF ⟨5, n, v⟩ = some (setT ++ 32 :: (sesW ++ 32 :: (tickS n ++ 32 :: ([61] ++ 32 :: quoteS v)))) := by
        unfold anewF
        rw [if_neg (fun q => hnm q.2), if_pos rfl]
      rw [ha]
      simp +contextual (disch := first | (simp only [fs]; done) | omega | (simp only [Knx]; omega) | (apply Nat.le_antisymm <;> simp only [Knx] <;> omega) | fail) only [wpy, fE, reduceLE, reduceLT, reduceLeDiff, UInt8.reduceToNat, ↓reduceIte, reduceEqDiff, reduceAdd, reduceCtorEq, reduceToNat, Tryd.f34, hnm']
      refine draw_by [(1, 7), (2, 6), (2, 7)] (by kernel_rfl) ?_
      simp +contextual (disch := first | (simp only [fs]; done) | omega | (simp only [Knx]; omega) | (apply Nat.le_antisymm <;> simp only [Knx] <;> omega) | fail) only [wpy, fE, reduceLE, reduceLT, reduceLeDiff, UInt8.reduceToNat, ↓reduceIte, reduceEqDiff, reduceAdd, reduceCtorEq, reduceToNat, Tryd.f34]
      refine callF_exact (ctick_spec hS n _ (by omega)) ?_
      rw [ht]
      have z1 : 12 + (tickS n).length ≤ 9223372036854775807 := by omega
      have z2 : (tickS n).length ≤ 9223372036854775792 := by omega
      simp +contextual (disch := first | (simp only [fs]; done) | omega | (simp only [Knx]; omega) | (apply Nat.le_antisymm <;> simp only [Knx] <;> omega) | fail) only [wpy, fE, reduceLE, reduceLT, reduceLeDiff, UInt8.reduceToNat, ↓reduceIte, reduceEqDiff, reduceAdd, reduceCtorEq, reduceToNat, Tryd.f34, z1, z2]
      refine callF_exact (quote_spec hS v _ (by omega)) ?_
      rw [hq]
      have z3 : 12 + (tickS n).length + 3 + (quoteS v).length ≤ 9223372036854775807 := by omega
      have z4 : (tickS n).length + 3 + 1 + 1 + 1 + 1 + 1 + 1 + 1 + 1 + 1 + 1 + 1 + 1 + (quoteS v).length ≤ 9223372036854775807 := by omega
      simp +contextual (disch := first | (simp only [fs]; done) | omega | (simp only [Knx]; omega) | (apply Nat.le_antisymm <;> simp only [Knx] <;> omega) | fail) only [wpy, fE, reduceLE, reduceLT, reduceLeDiff, UInt8.reduceToNat, ↓reduceIte, reduceEqDiff, reduceAdd, reduceCtorEq, reduceToNat, Tryd.f34, z2, z4]
      exact ⟨looks_pairs (n := h.nx + 1) (by
        repeat (refine List.forall_mem_cons.2 ⟨by first | exact look_nil | exact look_rd | exact look_cl, ?_⟩)
        intro f hf
        cases hf) _, (Ext.refl h).push _, by simp [setT, sesW]⟩
  by_cases k6 : k = 6
  · subst k6
    obtain ⟨_, hn⟩ := hg.six rfl
    have hn : TB 4000 n := hn
    have ht : tickF n = tickS n := tickF_is hn.b
    have l2 := tick_len2 n
    have l3 := hn.l
    have ha : anewF ⟨6, n, v⟩ = some (useT ++ 32 :: tickS n) := by
      unfold anewF
      rw [if_neg (fun q => absurd (show (6 : Nat) = 5 from q.1) (by decide)), if_neg (show ¬ (6 : Nat) = 5 by decide), if_pos rfl]
    rw [ha]
    simp +contextual (disch := first | (simp only [fs]; done) | omega | (simp only [Knx]; omega) | (apply Nat.le_antisymm <;> simp only [Knx] <;> omega) | fail) only [wpy, fE, reduceLE, reduceLT, reduceLeDiff, UInt8.reduceToNat, ↓reduceIte, reduceEqDiff, reduceAdd, reduceCtorEq, reduceToNat, Tryd.f34]
    refine callF_exact (ctick_spec hS n _ (by omega)) ?_
    rw [ht]
    have z1 : 4 + (tickS n).length ≤ 9223372036854775807 := by omega
    simp +contextual (disch := first | (simp only [fs]; done) | omega | (simp only [Knx]; omega) | (apply Nat.le_antisymm <;> simp only [Knx] <;> omega) | fail) only [wpy, fE, reduceLE, reduceLT, reduceLeDiff, UInt8.reduceToNat, ↓reduceIte, reduceEqDiff, reduceAdd, reduceCtorEq, reduceToNat, Tryd.f34, z1]
    exact ⟨(Ext.refl h).push _, by simp [useT]⟩
  · have ha : anewF ⟨k, n, v⟩ = none := by
      unfold anewF
      rw [if_neg (fun q => k5 q.1), if_neg k5, if_neg k6]
    rw [ha]
    simp +contextual (disch := first | (simp only [fs]; done) | omega | (simp only [Knx]; omega) | (apply Nat.le_antisymm <;> simp only [Knx] <;> omega) | fail) only [wpy, fE, reduceLE, reduceLT, reduceLeDiff, UInt8.reduceToNat, ↓reduceIte, reduceEqDiff, reduceAdd, reduceCtorEq, reduceToNat, Tryd.f34, k5, k6]
    exact ⟨(Ext.refl h).push _, by simp⟩
end
end Go.Proofs.YtkibhdbmamfjcaaDoor
set_option linter.unusedSimpArgs false
set_option linter.unusedVariables false
set_option linter.unusedSectionVars false
set_option linter.defProp false
set_option maxRecDepth 10000
namespace Go.Proofs.YtkibhdbmamfjcaaDoor
open Int (reduceLE reduceLT reduceToNat)
open Nat (reduceLeDiff reduceEqDiff reduceAdd)
open Go.Proofs Go.Lx Go.Wx Go.IntWalk
noncomputable section

theorem bool_neq (q : Bool) (a b : Prop) : binV Tryd.prog .neq 4 q (bo a) (bo b) = some (bo (¬ (a ↔ b))) := by
  have e : ∀ x y : Bool, binV Tryd.prog .neq 4 q (.bool x) (.bool y) = some (.bool (x != y)) := by
    intro x y
    cases q <;> cases x <;> cases y <;> kernel_rfl
  unfold bo
  rw [e]
  by_cases ha : a <;> by_cases hb : b <;> simp [ha, hb]
variable {S : Set0} (hS : StdN S)
include hS
theorem anewlaw_spec (s : List Nat) (h : H) (hb : Bytes s) (hs : s.length < 2 ^ 63) : Pure S.cfg 11 [.str s] h fun v _ => v = .bool true := by
  refine into Tryd.f11 _ Tryd.func11 (hS.ownC _ (by decide)) rfl rfl (by kernel_rfl) (by kernel_rfl) ?_
  simp +contextual (disch := first | (simp only [fs]; done) | omega | (simp only [Knx]; omega) | (apply Nat.le_antisymm <;> simp only [Knx] <;> omega) | fail) only [wpy, fE, reduceLE, reduceLT, reduceLeDiff, UInt8.reduceToNat, ↓reduceIte, reduceEqDiff, reduceAdd, reduceCtorEq, reduceToNat, Tryd.f11]
  refine callF_exact (hS.livesC _) ?_
  by_cases la : 2000 < s.length
  · simp +contextual (disch := first | (simp only [fs]; done) | omega | (simp only [Knx]; omega) | (apply Nat.le_antisymm <;> simp only [Knx] <;> omega) | fail) only [wpy, fE, reduceLE, reduceLT, reduceLeDiff, UInt8.reduceToNat, ↓reduceIte, reduceEqDiff, reduceAdd, reduceCtorEq, reduceToNat, Tryd.f11, la]
    exact Ext.refl h
  simp +contextual (disch := first | (simp only [fs]; done) | omega | (simp only [Knx]; omega) | (apply Nat.le_antisymm <;> simp only [Knx] <;> omega) | fail) only [wpy, fE, reduceLE, reduceLT, reduceLeDiff, UInt8.reduceToNat, ↓reduceIte, reduceEqDiff, reduceAdd, reduceCtorEq, reduceToNat, Tryd.f11, la]
  refine callF_pure (of_spec hS.toStdE s _ hb hs) ?_
  rintro v1 h1 hx1 ⟨l, rfl, hA⟩
  obtain ⟨p1, p2⟩ := hA.cell
  have hgood := cls_good hb (by omega)
  have hcl := cls_len hb
  simp +contextual (disch := first | (simp only [fs]; done) | omega | (simp only [Knx]; omega) | (apply Nat.le_antisymm <;> simp only [Knx] <;> omega) | fail) only [wpy, fE, reduceLE, reduceLT, reduceLeDiff, UInt8.reduceToNat, ↓reduceIte, reduceEqDiff, reduceAdd, reduceCtorEq, reduceToNat, Tryd.f11, la, p1, p2]
  refine ⟨.inr hx1.1, ?_⟩
  obtain ⟨h2, hh2⟩ : ∃ h2, h2 = (h1.push (Ob.cells [V.int IntKind.i64 0, V.int IntKind.i64 0] 26 false)).put h1.nx (Ob.cells [V.int IntKind.i64 (faultE s), V.int IntKind.i64 (faultP s)] 26 false) := ⟨_, rfl⟩
  rw [← hh2]
  have hx12 : Ext h1 h2 := by rw [hh2]; exact Ext.new _ _ _
  have hX2 : Ext h h2 := hx1.trans hx12
  have hC : CR h2 l (clsOf s) := (CR.of_acc hA).ext hx12
  clear hh2 hA
  generalize clsOf s = cs at *
  refine run_loop (fun k env h' => ∃ (i : Nat), k = cs.length - i ∧ i ≤ cs.length ∧ env 3 = l ∧ env 5 = .int .i64 i ∧ Ext h2 h') cs.length ⟨0, ?_⟩ ?_
  · simp +contextual (disch := first | (simp only [fs]; done) | omega | (simp only [Knx]; omega) | (apply Nat.le_antisymm <;> simp only [Knx] <;> omega) | fail) only [wpy, fE, reduceLE, reduceLT, reduceLeDiff, UInt8.reduceToNat, ↓reduceIte, reduceEqDiff, reduceAdd, reduceCtorEq, reduceToNat]
    exact ⟨(Nat.sub_zero _).symm, Ext.refl _⟩
  rintro k env h' ⟨i, rfl, hi, e3, e5, hx⟩
  have hC' := hC.ext hx
  have a1 := hC'.len
  have c1 := hC'.cell.1
  have c2 := hC'.cell.2
  by_cases hlt : i < cs.length
  · rcases hC' with ⟨_, q⟩ | ⟨b, m, e, fl, rfl, hbn, hgb⟩
    · rw [q] at hlt; cases hlt
    have w0 := ccells_row hlt
    have w1 : i * 3 + 3 ≤ (ccells cs).length := by rw [ccells_len]; omega
    have hci := hgood cs[i] (List.getElem_mem hlt)
    obtain ⟨c, hc⟩ : ∃ c, c = cs[i] := ⟨_, rfl⟩
    rw [← hc] at w0 hci
    have hcc : c.cells = [.int .i64 c.kind, .str c.name, .str c.value] := rfl
    rw [hcc] at w0
    simp +contextual (disch := first | (simp only [fs]; done) | omega | (simp only [Knx]; omega) | (apply Nat.le_antisymm <;> simp only [Knx] <;> omega) | fail) only [wpy, fE, reduceLE, reduceLT, reduceLeDiff, UInt8.reduceToNat, ↓reduceIte, reduceEqDiff, reduceAdd, reduceCtorEq, reduceToNat, Tryd.f11, e3, e5, a1, c1, c2, hlt, hgb, w0, w1, Nat.zero_add]
    refine callF_pure (anew_spec hS c _ hci) ?_
    rintro v3 h3 hx3 rfl
    have hgb3 : h3.get b = some (Ob.cells (ccells cs) e fl) := by rw [hx3.2 _ hbn]; exact hgb
    have w2 : (ccells cs)[i * 3]? = some (.int .i64 c.kind) := by
      have h1 := congrArg (fun l : List V => l[0]?) w0
      simpa [List.getElem?_take, List.getElem?_drop] using h1
    cases hT : anewF c with
    | none =>
      have hk : ¬ c.kind = 5 ∧ ¬ c.kind = 6 := by
        unfold anewF at hT
        constructor
        · intro q
          by_cases q1 : c.kind = 5 ∧ c.name = namT
          · rw [if_pos q1] at hT; cases hT
          · rw [if_neg q1, if_pos q] at hT; cases hT
        · intro q
          rw [if_neg (fun w => by have := w.1; omega), if_neg (by omega), if_pos q] at hT
          cases hT
      simp +contextual (disch := first | (simp only [fs]; done) | omega | (simp only [Knx]; omega) | (apply Nat.le_antisymm <;> simp only [Knx] <;> omega) | fail) only [wpy, fE, reduceLE, reduceLT, reduceLeDiff, UInt8.reduceToNat, ↓reduceIte, reduceEqDiff, reduceAdd, reduceCtorEq, reduceToNat, Tryd.f11, e3, e5, a1, c1, c2, hlt, hgb3, w0, w1, w2, Nat.zero_add, hk.1, hk.2, bool_neq, Option.isSome_none, Option.getD_none, Bool.false_eq_true, iff_self, not_true_eq_false]
      exact ⟨cs.length - (i + 1), by omega, i + 1, rfl, by omega, rfl, hx.trans hx3⟩
    | some T =>
      obtain ⟨g1, g2, g3, g4, g5⟩ := anew_good hci hT
      have hk : c.kind = 5 ∨ c.kind = 6 := by
        unfold anewF at hT
        by_cases q5 : c.kind = 5
        · exact .inl q5
        · by_cases q6 : c.kind = 6
          · exact .inr q6
          · rw [if_neg (fun q => q5 q.1), if_neg q5, if_neg q6] at hT; cases hT
      simp +contextual (disch := first | (simp only [fs]; done) | omega | (simp only [Knx]; omega) | (apply Nat.le_antisymm <;> simp only [Knx] <;> omega) | fail) only [wpy, fE, reduceLE, reduceLT, reduceLeDiff, UInt8.reduceToNat, ↓reduceIte, reduceEqDiff, reduceAdd, reduceCtorEq, reduceToNat, Tryd.f11, e3, e5, a1, c1, c2, hlt, hgb3, w0, w1, w2, Nat.zero_add, hk, bool_neq, Option.isSome_some, Option.getD_some, iff_self, not_true_eq_false]
      refine callF_exact (pins_spec hS c.kind _) ?_
      have g6 : pinsP c.kind = False := eq_false g5
      rw [g6]
      have hn3 : ¬ b = h3.nx := by have := hx3.1; omega
      simp +contextual (disch := first | (simp only [fs]; done) | omega | (simp only [Knx]; omega) | (apply Nat.le_antisymm <;> simp only [Knx] <;> omega) | fail) only [wpy, fE, reduceLE, reduceLT, reduceLeDiff, UInt8.reduceToNat, ↓reduceIte, reduceEqDiff, reduceAdd, reduceCtorEq, reduceToNat, Tryd.f11, e3, e5, a1, c1, c2, hlt, hgb3, w0, w1, w2, Nat.zero_add, hn3]
      have hX4 : Ext h3 (h3.push (Ob.cells [V.int IntKind.i64 c.kind, V.str c.name, V.str c.value] 45 false)) := (Ext.refl h3).push _
      have hm : CR (h3.push (Ob.cells [V.int IntKind.i64 c.kind, V.str c.name, V.str c.value] 45 false)) (.slice h3.nx 0 1 1) [c] := .inr ⟨h3.nx, 1, 45, false, rfl, Nat.lt_succ_self _, push_eq rfl⟩
      refine callF_pure (isCls_spec hS.toStdE T _ [c] _ g1 (by omega) hm g3 g4 (show (1 : Nat) < 2 ^ 40 by decide)) ?_
      rintro v5 h5 hx5 rfl
      simp +contextual (disch := first | (simp only [fs]; done) | omega | (simp only [Knx]; omega) | (apply Nat.le_antisymm <;> simp only [Knx] <;> omega) | fail) only [wpy, fE, reduceLE, reduceLT, reduceLeDiff, UInt8.reduceToNat, ↓reduceIte, reduceEqDiff, reduceAdd, reduceCtorEq, reduceToNat, Tryd.f11, e3, e5]
      exact ⟨cs.length - (i + 1), by omega, i + 1, rfl, by omega, rfl, hx.trans (hx3.trans (hX4.trans hx5))⟩
  · simp +contextual (disch := first | (simp only [fs]; done) | omega | (simp only [Knx]; omega) | (apply Nat.le_antisymm <;> simp only [Knx] <;> omega) | fail) only [wpy, fE, reduceLE, reduceLT, reduceLeDiff, UInt8.reduceToNat, ↓reduceIte, reduceEqDiff, reduceAdd, reduceCtorEq, reduceToNat, Tryd.f11, e3, e5, a1, c1, c2, hlt]
    exact hX2.trans hx
end
end Go.Proofs.YtkibhdbmamfjcaaDoor
