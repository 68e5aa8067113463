/-
  Several texts of one walk, joined.
-/
import Derived.Test.YtkibhdbmamfjcaaDoorProg
import Derived.Test.YtkibhdbmamfjcaaDoorWxZ
import Derived.Test.YtkibhdbmamfjcaaDoorClL
import Derived.Test.YtkibhdbmamfjcaaDoorLyP
set_option linter.unusedSimpArgs false
set_option linter.unusedVariables false
set_option linter.defProp false
namespace Go.Proofs.YtkibhdbmamfjcaaDoor
open Go.Proofs Go.Lx Go.Wx
noncomputable section
namespace C3

theorem ze26 : zeroL Tryd.prog 26 = some [.int .i64 0, .int .i64 0] := by kernel_rfl
theorem sz26 : szT Tryd.prog 26 = some 2 := by kernel_rfl
theorem ty26 : tyR Tryd.prog 26 = some (2, true) := by kernel_rfl
theorem bu26 : buildV Tryd.prog 26 [] = some (.agg [.int .i64 0, .int .i64 0]) := by kernel_rfl
-- eq on type 26
theorem bs29_11 (v0_0 v1_0 v2_0 v3_0 v4_0 v5_0 v6_0 v7_0 v8_0 v9_0 v10_0 : V) : buildSliceL Tryd.prog 29 11 [(0, [v0_0]), (1, [v1_0]), (2, [v2_0]), (3, [v3_0]), (4, [v4_0]), (5, [v5_0]), (6, [v6_0]), (7, [v7_0]), (8, [v8_0]), (9, [v9_0]), (10, [v10_0])] = some ([v0_0, v1_0, v2_0, v3_0, v4_0, v5_0, v6_0, v7_0, v8_0, v9_0, v10_0], 9) := by kernel_rfl
theorem ia29 (k o n m : Nat) (kd : IntKind) (i : Int) : indexAddrV Tryd.prog 29 (.slice k o n m) (.int kd i) = if 0 ≤ i ∧ i < n then some (.ptr k (o + i.toNat * 1)) else none := indexAddr_slice (e := 9) (by kernel_rfl) (by kernel_rfl) k o n m kd i
theorem ty9 : tyR Tryd.prog 9 = some (1, false) := by kernel_rfl
theorem bu36_0_1 (v0_0 v1_0 : V) : buildV Tryd.prog 36 [(0, [v0_0]), (1, [v1_0])] = some (.agg [v0_0, v1_0, .int .i64 0]) := by kernel_rfl
theorem ze36 : zeroL Tryd.prog 36 = some [.int .i64 0, .str [], .int .i64 0] := by kernel_rfl
theorem sz36 : szT Tryd.prog 36 = some 3 := by kernel_rfl
theorem bs23_0 : buildSliceL Tryd.prog 23 0 [] = some ([], 36) := by kernel_rfl
theorem ap23 : apI Tryd.prog 23 = some (36, 3, 32) := by kernel_rfl
theorem ty36 : tyR Tryd.prog 36 = some (3, true) := by kernel_rfl
theorem bs23_1 (v0_0 v0_1 v0_2 : V) : buildSliceL Tryd.prog 23 1 [(0, [v0_0, v0_1, v0_2])] = some ([v0_0, v0_1, v0_2], 36) := by kernel_rfl
-- eq on type 45
theorem bs49_0 : buildSliceL Tryd.prog 49 0 [] = some ([], 45) := by kernel_rfl
theorem ap49 : apI Tryd.prog 49 = some (45, 3, 40) := by kernel_rfl
theorem ze45 : zeroL Tryd.prog 45 = some [.int .i64 0, .str [], .str []] := by kernel_rfl
theorem sz45 : szT Tryd.prog 45 = some 3 := by kernel_rfl
theorem bu45_0_1_2 (v0_0 v1_0 v2_0 : V) : buildV Tryd.prog 45 [(0, [v0_0]), (1, [v1_0]), (2, [v2_0])] = some (.agg [v0_0, v1_0, v2_0]) := by kernel_rfl
theorem ty45 : tyR Tryd.prog 45 = some (3, true) := by kernel_rfl
theorem bs49_3 (v0_0 v0_1 v0_2 v1_0 v1_1 v1_2 v2_0 v2_1 v2_2 : V) : buildSliceL Tryd.prog 49 3 [(0, [v0_0, v0_1, v0_2]), (1, [v1_0, v1_1, v1_2]), (2, [v2_0, v2_1, v2_2])] = some ([v0_0, v0_1, v0_2, v1_0, v1_1, v1_2, v2_0, v2_1, v2_2], 45) := by kernel_rfl
theorem bu45_0_1 (v0_0 v1_0 : V) : buildV Tryd.prog 45 [(0, [v0_0]), (1, [v1_0])] = some (.agg [v0_0, v1_0, .str []]) := by kernel_rfl
theorem bs49_2 (v0_0 v0_1 v0_2 v1_0 v1_1 v1_2 : V) : buildSliceL Tryd.prog 49 2 [(0, [v0_0, v0_1, v0_2]), (1, [v1_0, v1_1, v1_2])] = some ([v0_0, v0_1, v0_2, v1_0, v1_1, v1_2], 45) := by kernel_rfl
theorem bs49_4 (v0_0 v0_1 v0_2 v1_0 v1_1 v1_2 v2_0 v2_1 v2_2 v3_0 v3_1 v3_2 : V) : buildSliceL Tryd.prog 49 4 [(0, [v0_0, v0_1, v0_2]), (1, [v1_0, v1_1, v1_2]), (2, [v2_0, v2_1, v2_2]), (3, [v3_0, v3_1, v3_2])] = some ([v0_0, v0_1, v0_2, v1_0, v1_1, v1_2, v2_0, v2_1, v2_2, v3_0, v3_1, v3_2], 45) := by kernel_rfl
theorem ia49 (k o n m : Nat) (kd : IntKind) (i : Int) : indexAddrV Tryd.prog 49 (.slice k o n m) (.int kd i) = if 0 ≤ i ∧ i < n then some (.ptr k (o + i.toNat * 3)) else none := indexAddr_slice (e := 45) (by kernel_rfl) (by kernel_rfl) k o n m kd i
theorem fa45_0 (k o : Nat) : fieldAddrV Tryd.prog 45 (.ptr k o) 0 = some (.ptr k (o + 0)) := by kernel_rfl
theorem ty3 : tyR Tryd.prog 3 = some (1, false) := by kernel_rfl
-- eq on type 4
theorem bs49_1 (v0_0 v0_1 v0_2 : V) : buildSliceL Tryd.prog 49 1 [(0, [v0_0, v0_1, v0_2])] = some ([v0_0, v0_1, v0_2], 45) := by kernel_rfl
theorem by41 : byteS Tryd.prog 41 = true := by kernel_rfl
theorem el41 : elemS Tryd.prog 41 = 5 := by kernel_rfl
theorem ia23 (k o n m : Nat) (kd : IntKind) (i : Int) : indexAddrV Tryd.prog 23 (.slice k o n m) (.int kd i) = if 0 ≤ i ∧ i < n then some (.ptr k (o + i.toNat * 3)) else none := indexAddr_slice (e := 36) (by kernel_rfl) (by kernel_rfl) k o n m kd i
theorem fa36_0 (k o : Nat) : fieldAddrV Tryd.prog 36 (.ptr k o) 0 = some (.ptr k (o + 0)) := by kernel_rfl
theorem ia41 (k o n m : Nat) (kd : IntKind) (i : Int) : indexAddrV Tryd.prog 41 (.slice k o n m) (.int kd i) = if 0 ≤ i ∧ i < n then some (.ptr k (o + i.toNat * 1)) else none := indexAddr_slice (e := 5) (by kernel_rfl) (by kernel_rfl) k o n m kd i
theorem ty5 : tyR Tryd.prog 5 = some (1, false) := by kernel_rfl
theorem sz5 : szT Tryd.prog 5 = some 1 := by kernel_rfl
theorem ap41 : apI Tryd.prog 41 = some (5, 1, 1) := by kernel_rfl
theorem fa45_1 (k o : Nat) : fieldAddrV Tryd.prog 45 (.ptr k o) 1 = some (.ptr k (o + 1)) := by kernel_rfl
theorem fa45_2 (k o : Nat) : fieldAddrV Tryd.prog 45 (.ptr k o) 2 = some (.ptr k (o + 2)) := by kernel_rfl
theorem fa36_1 (k o : Nat) : fieldAddrV Tryd.prog 36 (.ptr k o) 1 = some (.ptr k (o + 1)) := by kernel_rfl
theorem bs29_1 (v0_0 : V) : buildSliceL Tryd.prog 29 1 [(0, [v0_0])] = some ([v0_0], 9) := by kernel_rfl
theorem ap29 : apI Tryd.prog 29 = some (9, 1, 16) := by kernel_rfl
noncomputable def factsT := And.intro @Tryd.underlying3 <| And.intro @Tryd.underlying4 <| And.intro @Tryd.underlying9 <| And.intro @Tryd.underlying23 <| And.intro @Tryd.underlying29 <| And.intro @Tryd.underlying41 <| And.intro @Tryd.underlying45 <| And.intro @Tryd.underlying49 <| And.intro @ze26 <| And.intro @sz26 <| And.intro @ty26 <| And.intro @bu26 <| And.intro @bs29_11 <| And.intro @ia29 <| And.intro @ty9 <| And.intro @bu36_0_1 <| And.intro @ze36 <| And.intro @sz36 <| And.intro @bs23_0 <| And.intro @ap23 <| And.intro @ty36 <| And.intro @bs23_1 <| And.intro @bs49_0 <| And.intro @ap49 <| And.intro @ze45 <| And.intro @sz45 <| And.intro @bu45_0_1_2 <| And.intro @ty45 <| And.intro @bs49_3 <| And.intro @bu45_0_1 <| And.intro @bs49_2 <| And.intro @bs49_4 <| And.intro @ia49 <| And.intro @fa45_0 <| And.intro @ty3 <| And.intro @bs49_1 <| And.intro @by41 <| And.intro @el41 <| And.intro @ia23 <| And.intro @fa36_0 <| And.intro @ia41 <| And.intro @ty5 <| And.intro @sz5 <| And.intro @ap41 <| And.intro @fa45_1 <| And.intro @fa45_2 <| And.intro @fa36_1 <| And.intro @bs29_1 <| @ap29

end C3
end
end Go.Proofs.YtkibhdbmamfjcaaDoor
set_option linter.unusedSimpArgs false
set_option linter.unusedVariables false
set_option linter.unusedSectionVars false
set_option linter.defProp false
set_option maxRecDepth 10000
namespace Go.Proofs.YtkibhdbmamfjcaaDoor
open Int (reduceLE reduceLT reduceToNat)
open Nat (reduceLeDiff reduceEqDiff reduceAdd)
open Go.Proofs Go.Lx Go.Wx Go.IntWalk
noncomputable section

noncomputable def factsN := And.intro @factsC @C3.factsT
noncomputable def fs := And.intro @factsN <| And.intro @K3 <| And.intro @isPtrD.eq_1 @isPtrD.eq_2
noncomputable def fE := And.intro @factsN <| And.intro @wpb <| And.intro @cst <| And.intro @wpk <| And.intro @wpl <| And.intro @forall_const.{0} <| And.intro @forall_const.{1} <| And.intro @implies_true.{0} <| And.intro @implies_true.{1} <| And.intro @false_implies @K3
open Go.Lib in
theorem repl_u (x : UInt8) : ∀ s : List UInt8, replaceK [x] [x, x] (count s [x]) s = s.flatMap fun c => if c = x then [x, x] else [c]
  | [] => by
    have h : index [] [x] = -1 := rfl
    rw [count_miss h]
    rfl
  | b :: l => by
    have ih := repl_u x l
    have hx : [x] ≠ [] := by simp
    rw [List.flatMap_cons]
    by_cases hb : b = x
    · have h0 : index (b :: l) [x] = ((0 : Nat) : Int) := by
        rw [index, if_pos (by simp [hb])]
        rfl
      have hc := count_hit hx h0
      rw [show (b :: l).drop (0 + [x].length) = l from rfl] at hc
      rw [hc, Nat.add_comm, replaceK_hit _ _ _ _ 0 h0, show (b :: l).drop (0 + [x].length) = l from rfl, ih, if_pos hb]
      rfl
    · have hp : ¬ ([x].isPrefixOf (b :: l) = true) := by simp; exact fun e => hb e.symm
      rw [if_neg hb]
      by_cases hm : index l [x] = -1
      · have h0 : index (b :: l) [x] = -1 := by rw [index, if_neg hp, if_pos (by simp [hm])]
        rw [count_miss h0]
        rw [count_miss hm] at ih
        rw [← ih]
        rfl
      · obtain ⟨i, hi⟩ : ∃ i : Nat, index l [x] = i := ⟨(index l [x]).toNat, by have := index_ge l [x]; omega⟩
        have h0 : index (b :: l) [x] = ((i + 1 : Nat) : Int) := by
          rw [index, if_neg hp, if_neg (by simpa using hm), hi]
          omega
        have hc := count_hit hx h0
        have hc2 := count_hit hx hi
        have e1 : (b :: l).drop (i + 1 + [x].length) = l.drop (i + [x].length) := by
          rw [Nat.add_right_comm]
          rfl
        rw [e1] at hc
        rw [hc2, Nat.add_comm, replaceK_hit _ _ _ _ i hi] at ih
        rw [hc, Nat.add_comm, replaceK_hit _ _ _ _ (i + 1) h0, e1, ← ih]
        rfl
theorem toN_toU {s : List Nat} (h : Bytes s) : toN (toU s) = s := by
  unfold toN toU
  rw [List.map_map]
  conv => rhs; rw [← List.map_id s]
  apply List.map_congr_left
  intro x hx
  have := h x hx
  simp [UInt8.toNat_ofNat']
  omega
theorem toN_app (a b : List UInt8) : toN (a ++ b) = toN a ++ toN b := List.map_append
theorem repl_one {s : List Nat} (h : Bytes s) {x : Nat} (hx : x < 256) : replF s [x] [x, x] = s.flatMap fun c => if c = x then [x, x] else [c] := by
  have e1 : Go.Lib.replaceAll (toU s) (toU [x]) (toU [x, x]) = (toU s).flatMap fun c => if c = UInt8.ofNat x then [UInt8.ofNat x, UInt8.ofNat x] else [c] := by
    unfold Go.Lib.replaceAll Go.Lib.replace
    rw [if_neg (by simp [toU]), show Go.Lib.replaceNum (toU s) (toU [x]) (-1) = Go.Lib.count (toU s) (toU [x]) by unfold Go.Lib.replaceNum; rw [if_pos (.inl (by decide))]]
    exact repl_u _ _
  rw [replF, e1]
  clear e1
  induction s with
  | nil => rfl
  | cons c s ih =>
    have hc : c < 256 := h c List.mem_cons_self
    have ih := ih fun y hy => h y (List.mem_cons_of_mem _ hy)
    rw [List.flatMap_cons, ← ih]
    rw [show toU (c :: s) = UInt8.ofNat c :: toU s from rfl, List.flatMap_cons, toN_app]
    have hiff : (UInt8.ofNat c = UInt8.ofNat x) ↔ c = x := by
      constructor
      · intro q
        have := congrArg UInt8.toNat q
        simp [UInt8.toNat_ofNat'] at this
        omega
      · rintro rfl; rfl
    have tx : (UInt8.ofNat x).toNat = x := by simp [UInt8.toNat_ofNat']; omega
    have tc : (UInt8.ofNat c).toNat = c := by simp [UInt8.toNat_ofNat']; omega
    by_cases hcx : c = x
    · rw [if_pos (hiff.2 hcx), if_pos hcx]
      simp only [toN, List.map_cons, List.map_nil, tx]
    · rw [if_neg (fun q => hcx (hiff.1 q)), if_neg hcx]
      simp only [toN, List.map_cons, List.map_nil, tc]
theorem bytes_app {a b : List Nat} (ha : Bytes a) (hb : Bytes b) : Bytes (a ++ b) := by
  intro x hx
  rw [List.mem_append] at hx
  rcases hx with hx | hx
  · exact ha x hx
  · exact hb x hx
theorem bytes_repl (a b c : List Nat) : Bytes (replF a b c) := toN_bytes _
def tickF (s : List Nat) : List Nat := [96] ++ replF s [96] [96, 96] ++ [96]
def quoteF (s : List Nat) : List Nat := [39] ++ replF (replF s [92] [92, 92]) [39] [39, 39] ++ [39]
theorem tickF_len (s : List Nat) : (tickF s).length ≤ 3 * s.length + 4 := by
  have := replF_len s [96] [96, 96]
  simp only [tickF, List.length_append, List.length_cons, List.length_nil] at this ⊢
  omega
theorem quoteF_len (s : List Nat) : (quoteF s).length ≤ 9 * s.length + 16 := by
  have h1 := replF_len s [92] [92, 92]
  have h2 := replF_len (replF s [92] [92, 92]) [39] [39, 39]
  simp only [quoteF, List.length_append, List.length_cons, List.length_nil] at h1 h2 ⊢
  omega
theorem bytes_lit {l : List Nat} (h : (l.all fun b => Nat.blt b 256) = true) : Bytes l := fun b hb => blt_iff.1 (List.all_eq_true.1 h b hb)
theorem bytes_tick (s : List Nat) : Bytes (tickF s) := bytes_app (bytes_app (bytes_lit rfl) (bytes_repl _ _ _)) (bytes_lit rfl)
theorem bytes_quote (s : List Nat) : Bytes (quoteF s) := bytes_app (bytes_app (bytes_lit rfl) (bytes_repl _ _ _)) (bytes_lit rfl)
theorem nice_joinM (vs : List V) : Nice (joinM vs) := by
  unfold joinM
  repeat' (first | exact Nice.ret _ | exact Nice.err _ | exact Nice.ld _ _ _ | refine Nice.cond ?_ ?_ | refine Nice.bnd ?_ (fun _ => ?_) | split)
theorem famTs_of : ∀ (ts : List (List Nat)), famTs (ts.map V.str) = some ts
  | [] => rfl
  | t :: ts => by
    show (famTs (ts.map V.str)).map (t :: ·) = _
    rw [famTs_of ts]
    rfl
def Gw (B : Nat) (w : WD) : Prop := Bytes w.text ∧ w.text.length ≤ B
def Gd (B N : Nat) (ws : List WD) : Prop := ws.length ≤ N ∧ ∀ w ∈ ws, Gw B w
structure StdN (S : Set0) : Prop extends StdE S where
  ownN : ∀ f, f ∈ [20, 33, 35, 64] → sums S.exts f = none
  repl : sums S.exts 49 = some (pureM replV)
  join : sums S.exts 65 = some joinM

variable {S : Set0} (hS : StdN S)
include hS
theorem repl_exact (a b c : List Nat) (h : H) (ha : a.length < 2 ^ 30) (hb : 0 < b.length) (hc : c.length < 10) : Exact S.cfg 49 [.str a, .str b, .str c] h (.str (replF a b c)) := by
  refine sum_exact hS.repl ?_
  have h1 : Nat.blt a.length 4294967281 = true := blt_iff.2 (by omega)
  have h2 : Nat.blt 0 b.length = true := blt_iff.2 hb
  have h3 : Nat.ble (a.length + (a.length + 1) * c.length) 140737488355328 = true := ble_iff.2 (by
    have := Nat.mul_le_mul_left (a.length + 1) (Nat.le_of_lt hc)
    omega)
  show (bif Nat.blt a.length 4294967281 && (Nat.blt 0 b.length && Nat.ble (a.length + (a.length + 1) * c.length) 140737488355328) then some (V.str (replF a b c)) else none) = _
  rw [h1, h2, h3]
  rfl
theorem join_exact (l : V) (ts : List (List Nat)) (sep : List Nat) (n0 B : Nat) (h : H) (ha : Wx.Acc n0 h l (ts.map V.str) 9 1) (hn : ts.length ≤ 100000) (hB : ∀ t ∈ ts, t.length ≤ B) (hB2 : B ≤ 100000) (hsep : sep.length < 10) : Exact S.cfg 65 [l, .str sep] h (.str (joinF ts sep)) := by
  rcases ha with ⟨rfl, hw⟩ | ⟨b, k, _, hb2, rfl, _, hg, hk⟩
  · have : ts = [] := List.map_eq_nil_iff.1 hw
    subst this
    exact callW_sum (s := h.st) hS.join (nice_joinM _) rfl LogOk_nil ⟨rfl, rfl⟩
  · rw [List.length_map, Nat.mul_one] at hk
    subst hk
    refine callW_sum (s := ⟨h.heap, h.nx, [.rd b 0 ts.length]⟩) hS.join (nice_joinM _) ?_ ?_ ⟨rfl, rfl⟩
    · have hg' : h.heap.get b = some (.cells (ts.map V.str) 9 true) := hg
      show (bif Nat.ble ts.length 1000000 then bnd (ld b 0 ts.length) fun cs => (match famTs cs with
        | some ts => bif Nat.ble (joinF ts sep).length 140737488355328 then Lx.ret (V.str (joinF ts sep)) else err "join"
        | none => err "join") else err "join") ⟨h.heap, h.nx, []⟩ = _
      rw [ble_iff.2 (by omega), cond_true]
      unfold Lx.bnd Lx.ld
      have hle : Nat.ble (0 + ts.length) (ts.map V.str).length = true := by simp
      have hsub : sub (ts.map V.str) 0 ts.length = ts.map V.str := by rw [sub, List.drop_zero, List.take_of_length_le (by simp)]
      have hj : Nat.ble (joinF ts sep).length 140737488355328 = true := ble_iff.2 (by
        have h1 := joinF_len (sep := sep) hB
        have h2 : ts.length * (B + sep.length) ≤ 100000 * 100010 := Nat.mul_le_mul hn (by omega)
        omega)
      simp only [hg', hle, cond_true, hsub, famTs_of, hj]
      rfl
    · rw [LogOk_cons_rd]
      exact LogOk_nil
theorem tick_spec (s : List Nat) (h : H) (hs : s.length < 2 ^ 20) : Exact S.cfg 64 [.str s] h (.str (tickF s)) := by
  refine into Tryd.f64 _ Tryd.func64 (hS.ownN _ (by decide)) rfl rfl (by kernel_rfl) (by kernel_rfl) ?_
  simp +contextual (disch := first | (simp only [fs]; done) | omega | (simp only [Knx]; omega) | (apply Nat.le_antisymm <;> simp only [Knx] <;> omega) | fail) only [wpy, fE, reduceLE, reduceLT, reduceLeDiff, UInt8.reduceToNat, ↓reduceIte, reduceEqDiff, reduceAdd, reduceCtorEq, reduceToNat, Tryd.f64]
  refine callF_exact (repl_exact hS s [96] [96, 96] _ (by omega) (by decide) (by decide)) ?_
  have h1 := replF_len s [96] [96, 96]
  simp only [List.length_cons, List.length_nil] at h1
  have h2 : (replF s [96] [96, 96]).length < 2 ^ 22 := by omega
  have h3 : 1 + (replF s [96] [96, 96]).length ≤ 9223372036854775807 := by omega
  have h4 : (replF s [96] [96, 96]).length + 1 + 1 ≤ 9223372036854775807 := by omega
  simp +contextual (disch := first | (simp only [fs]; done) | omega | (simp only [Knx]; omega) | (apply Nat.le_antisymm <;> simp only [Knx] <;> omega) | fail) only [wpy, fE, reduceLE, reduceLT, reduceLeDiff, UInt8.reduceToNat, ↓reduceIte, reduceEqDiff, reduceAdd, reduceCtorEq, reduceToNat, Tryd.f64, h3, h4]
  first | done | rfl | exact ⟨rfl, rfl⟩ | trace_state
theorem quote_spec (s : List Nat) (h : H) (hs : s.length < 2 ^ 20) : Exact S.cfg 20 [.str s] h (.str (quoteF s)) := by
  refine into Tryd.f20 _ Tryd.func20 (hS.ownN _ (by decide)) rfl rfl (by kernel_rfl) (by kernel_rfl) ?_
  simp +contextual (disch := first | (simp only [fs]; done) | omega | (simp only [Knx]; omega) | (apply Nat.le_antisymm <;> simp only [Knx] <;> omega) | fail) only [wpy, fE, reduceLE, reduceLT, reduceLeDiff, UInt8.reduceToNat, ↓reduceIte, reduceEqDiff, reduceAdd, reduceCtorEq, reduceToNat, Tryd.f20]
  refine callF_exact (repl_exact hS s [92] [92, 92] _ (by omega) (by decide) (by decide)) ?_
  have h1 := replF_len s [92] [92, 92]
  simp only [List.length_cons, List.length_nil] at h1
  have h2 : (replF s [92] [92, 92]).length < 2 ^ 22 := by omega
  simp +contextual (disch := first | (simp only [fs]; done) | omega | (simp only [Knx]; omega) | (apply Nat.le_antisymm <;> simp only [Knx] <;> omega) | fail) only [wpy, fE, reduceLE, reduceLT, reduceLeDiff, UInt8.reduceToNat, ↓reduceIte, reduceEqDiff, reduceAdd, reduceCtorEq, reduceToNat, Tryd.f20]
  refine callF_exact (repl_exact hS _ [39] [39, 39] _ (by omega) (by decide) (by decide)) ?_
  have h3 := replF_len (replF s [92] [92, 92]) [39] [39, 39]
  simp only [List.length_cons, List.length_nil] at h3
  have h4 : (replF (replF s [92] [92, 92]) [39] [39, 39]).length < 2 ^ 24 := by omega
  have h5 : 1 + (replF (replF s [92] [92, 92]) [39] [39, 39]).length ≤ 9223372036854775807 := by omega
  have h6 : (replF (replF s [92] [92, 92]) [39] [39, 39]).length + 1 + 1 ≤ 9223372036854775807 := by omega
  simp +contextual (disch := first | (simp only [fs]; done) | omega | (simp only [Knx]; omega) | (apply Nat.le_antisymm <;> simp only [Knx] <;> omega) | fail) only [wpy, fE, reduceLE, reduceLT, reduceLeDiff, UInt8.reduceToNat, ↓reduceIte, reduceEqDiff, reduceAdd, reduceCtorEq, reduceToNat, Tryd.f20, h5, h6]
  first | done | rfl | exact ⟨rfl, rfl⟩ | trace_state
def tellF (w : WD) : List Nat := if w.kind = 2 then tickF w.text else if w.kind = 3 then quoteF w.text else if w.kind = 6 then [64] ++ tickF w.text else if w.kind = 7 then [64, 64] ++ w.text else if w.kind = 8 then [63] else w.text
omit hS in
theorem tellF_ok {B : Nat} {w : WD} (h : Gw B w) : Bytes (tellF w) ∧ (tellF w).length ≤ 9 * B + 20 := by
  have h1 := tickF_len w.text
  have h2 := quoteF_len w.text
  have h3 := h.2
  unfold tellF
  split
  · exact ⟨bytes_tick _, by omega⟩
  · split
    · exact ⟨bytes_quote _, by omega⟩
    · split
      · exact ⟨bytes_app (bytes_lit rfl) (bytes_tick _), by rw [List.length_append]; simp; omega⟩
      · split
        · exact ⟨bytes_app (bytes_lit rfl) h.1, by rw [List.length_append]; simp; omega⟩
        · split
          · exact ⟨bytes_lit rfl, by simp⟩
          · exact ⟨h.1, by omega⟩
omit hS in
theorem app_text {env : Env} {s x : Operand} {n0 : Nat} {h : H} {l : V} {ts : List (List Nat)} (t : List Nat) {Ok : Nat → Prop} {K : V → H → Fp → Prop} (hsv : evalE env s = l) (hx : evalE env x = .slice h.nx 0 1 1) (ha : Wx.Acc n0 h l (ts.map V.str) 9 1) (hroom : ts.length < 2 ^ 28) (hOk : ∀ k, n0 ≤ k → Ok k) (hn0 : n0 ≤ h.nx)
    (hK : ∀ v h' L, Wx.Acc n0 h' v ((ts ++ [t]).map V.str) 9 1 → h.nx < h'.nx → (∀ k, k < n0 → h'.get k = h.get k) → K v h' (.lg L)) : opW S.cfg Ok (.call ⟨.builtin .append, #[s, x], #[29, 29]⟩) env (h.push (.cells [.str t] 9 false)) K := by
  refine append_new (sv := l) (n0 := n0) hsv C3.ap29 ⟨.slice 9, by kernel_rfl, rfl⟩ ha hx (n := 1) (by decide) rfl rfl ?_ (by decide) hOk hn0 ?_
  · rw [List.length_map]
    show _ + 1 ≤ _
    omega
  · intro v h' L ha' hn' _ hf' _
    exact hK v h' L (by rw [List.map_append]; exact ha') hn' hf'
set_option maxHeartbeats 2000000 in
theorem plain_spec (B N : Nat) (hN : N ≤ 10000) (hB : B ≤ 10000) (lv : V) (ws : List WD) (h : H) (ha : Wds h lv ws) (hg : Gd B N ws) : Pure S.cfg 35 [lv] h fun v _ => v = .str (joinF (ws.map tellF) [32]) := by
  refine into Tryd.f35 _ Tryd.func35 (hS.ownN _ (by decide)) rfl rfl (by kernel_rfl) (by kernel_rfl) ?_
  have a1 := ha.len
  have hwl := hg.1
  simp +contextual (disch := first | (simp only [fs]; done) | omega | (simp only [Knx]; omega) | (apply Nat.le_antisymm <;> simp only [Knx] <;> omega) | fail) only [wpy, fE, reduceLE, reduceLT, reduceLeDiff, UInt8.reduceToNat, ↓reduceIte, reduceEqDiff, reduceAdd, reduceCtorEq, reduceToNat, Tryd.f35, a1]
  refine run_loop (fun k env h' => ∃ (i : Nat) (l : V), k = ws.length - i ∧ i ≤ ws.length ∧ env 3 = l ∧ env 7 = lv ∧ env 8 = .int .i64 ws.length ∧ env 9 = .int .i64 i ∧ Ext h h' ∧ Wx.Acc h.nx h' l (((ws.take i).map tellF).map V.str) 9 1) ws.length ⟨0, .nilslice, ?_⟩ ?_
  · simp +contextual (disch := first | (simp only [fs]; done) | omega | (simp only [Knx]; omega) | (apply Nat.le_antisymm <;> simp only [Knx] <;> omega) | fail) only [wpy, fE, reduceLE, reduceLT, reduceLeDiff, UInt8.reduceToNat, ↓reduceIte, reduceEqDiff, reduceAdd, reduceCtorEq, reduceToNat]
    exact ⟨by simp, Ext.refl _, .inl ⟨rfl, rfl⟩⟩
  rintro k env h' ⟨i, l, rfl, hi, e3, e7, e8, e9, hx, hl⟩
  have hxn := hx.1
  have hc1 := hl.cell.1
  have hc2 := hl.cell.2
  by_cases hi2 : i < ws.length
  · obtain ⟨b, o, mc, c, e, fl, rfl, hbn, hgb, w0, w1⟩ := (ha.ext hx).get hi2
    rw [← wordAt_lt hi2] at w1
    have hgi : Gw B (wordAt ws i) := by rw [wordAt_lt hi2]; exact hg.2 _ (List.getElem_mem hi2)
    have hti : (wordAt ws i).text.length < 2 ^ 20 := by have := hgi.2; omega
    have w1 : (c.drop (o + i * 3)).take 3 = [.int .i64 (wordAt ws i).kind, .str (wordAt ws i).text, .int .i64 (wordAt ws i).at_] := w1
    have hbn' : ¬ b = h'.nx := by omega
    have hst : (ws.take (i + 1)).map tellF = (ws.take i).map tellF ++ [tellF (wordAt ws i)] := by rw [wordAt_lt hi2, List.take_succ_eq_append_getElem hi2, List.map_append]; rfl
    have hl2 : ∀ o1 o2 : Ob, Wx.Acc h.nx ((h'.push o1).put h'.nx o2) l (((ws.take i).map tellF).map V.str) 9 1 := fun _ _ => hl.ext (Ext.new _ _ _)
    have hroom : ((ws.take i).map tellF).length < 2 ^ 28 := by rw [List.length_map, List.length_take]; omega
    have hend : ∀ hk : H, Ext h' hk → ∀ v h4, Wx.Acc h.nx h4 v (((ws.take i).map tellF ++ [tellF (wordAt ws i)]).map V.str) 9 1 → hk.nx < h4.nx → (∀ k, k < h.nx → h4.get k = hk.get k) → ∃ m', m' < ws.length - i ∧ ∃ (i' : Nat) (l : V), m' = ws.length - i' ∧ i' ≤ ws.length ∧ v = l ∧ i + 1 = i' ∧ Ext h h4 ∧ Wx.Acc h.nx h4 l (((ws.take i').map tellF).map V.str) 9 1 := fun hk hXk v h4 ha4 hn4 hf4 => ⟨_, by omega, i + 1, v, rfl, by omega, rfl, rfl, ⟨by have := hXk.1; omega, fun k hk => by rw [hf4 k hk, hXk.2 k (by omega), hx.2 k hk]⟩, by rw [hst]; exact ha4⟩
    by_cases c2 : (wordAt ws i).kind = 2
    · have ht : tellF (wordAt ws i) = tickF (wordAt ws i).text := by rw [tellF, if_pos c2]
      simp +contextual (disch := first | (simp only [fs]; done) | omega | (simp only [Knx]; omega) | (apply Nat.le_antisymm <;> simp only [Knx] <;> omega) | exact dok (by kernel_rfl)) only [draw_calm, draw_calmA, wpy, fE, reduceLE, reduceLT, reduceLeDiff, UInt8.reduceToNat, ↓reduceIte, reduceEqDiff, reduceAdd, reduceCtorEq, reduceToNat, Tryd.f35, e3, e7, e8, e9, hi2, hgb, hbn', w0, w1, c2]
      refine ⟨.inr hxn, callF_exact (tick_spec hS _ _ hti) ?_⟩
      simp +contextual (disch := first | (simp only [fs]; done) | omega | (simp only [Knx]; omega) | (apply Nat.le_antisymm <;> simp only [Knx] <;> omega) | fail) only [wpy, fE, reduceLE, reduceLT, reduceLeDiff, UInt8.reduceToNat, ↓reduceIte, reduceEqDiff, reduceAdd, reduceCtorEq, reduceToNat, Tryd.f35, e3, e7, e8, e9, hi2, hgb, hbn', w0, w1, c2]
      refine app_text (n0 := h.nx) (l := l) (ts := (ws.take i).map tellF) _ (by simp +contextual (disch := first | (simp only [fs]; done) | omega | (simp only [Knx]; omega) | (apply Nat.le_antisymm <;> simp only [Knx] <;> omega) | fail) only [wpy, fE, reduceLE, reduceLT, reduceLeDiff, UInt8.reduceToNat, ↓reduceIte, reduceEqDiff, reduceAdd, reduceCtorEq, reduceToNat]) (by simp +contextual (disch := first | (simp only [fs]; done) | omega | (simp only [Knx]; omega) | (apply Nat.le_antisymm <;> simp only [Knx] <;> omega) | fail) only [wpy, fE, reduceLE, reduceLT, reduceLeDiff, UInt8.reduceToNat, ↓reduceIte, reduceEqDiff, reduceAdd, reduceCtorEq, reduceToNat]) (hl2 _ _) hroom (fun k hk => by rw [fresh_def]; exact .inl hk) (by show h.nx ≤ h'.nx + 1; omega) ?_
      intro v h4 L ha4 hn4 hf4
      rw [← ht] at ha4
      have hv1 := ha4.cell.1
      have hv2 := ha4.cell.2
      simp +contextual (disch := first | (simp only [fs]; done) | omega | (simp only [Knx]; omega) | (apply Nat.le_antisymm <;> simp only [Knx] <;> omega) | fail) only [wpy, fE, reduceLE, reduceLT, reduceLeDiff, UInt8.reduceToNat, ↓reduceIte, reduceEqDiff, reduceAdd, reduceCtorEq, reduceToNat, Tryd.f35, e3, e7, e8, e9, hi2, hv1, hv2]
      exact hend _ (Ext.new _ _ _) v h4 ha4 hn4 hf4
    by_cases c3 : (wordAt ws i).kind = 3
    · have ht : tellF (wordAt ws i) = quoteF (wordAt ws i).text := by rw [tellF, if_neg c2, if_pos c3]
      simp +contextual (disch := first | (simp only [fs]; done) | omega | (simp only [Knx]; omega) | (apply Nat.le_antisymm <;> simp only [Knx] <;> omega) | exact dok (by kernel_rfl)) only [draw_calm, draw_calmA, wpy, fE, reduceLE, reduceLT, reduceLeDiff, UInt8.reduceToNat, ↓reduceIte, reduceEqDiff, reduceAdd, reduceCtorEq, reduceToNat, Tryd.f35, e3, e7, e8, e9, hi2, hgb, hbn', w0, w1, c2, c3]
      refine ⟨.inr hxn, callF_exact (quote_spec hS _ _ hti) ?_⟩
      simp +contextual (disch := first | (simp only [fs]; done) | omega | (simp only [Knx]; omega) | (apply Nat.le_antisymm <;> simp only [Knx] <;> omega) | fail) only [wpy, fE, reduceLE, reduceLT, reduceLeDiff, UInt8.reduceToNat, ↓reduceIte, reduceEqDiff, reduceAdd, reduceCtorEq, reduceToNat, Tryd.f35, e3, e7, e8, e9, hi2, hgb, hbn', w0, w1, c2]
      refine app_text (n0 := h.nx) (l := l) (ts := (ws.take i).map tellF) _ (by simp +contextual (disch := first | (simp only [fs]; done) | omega | (simp only [Knx]; omega) | (apply Nat.le_antisymm <;> simp only [Knx] <;> omega) | fail) only [wpy, fE, reduceLE, reduceLT, reduceLeDiff, UInt8.reduceToNat, ↓reduceIte, reduceEqDiff, reduceAdd, reduceCtorEq, reduceToNat]) (by simp +contextual (disch := first | (simp only [fs]; done) | omega | (simp only [Knx]; omega) | (apply Nat.le_antisymm <;> simp only [Knx] <;> omega) | fail) only [wpy, fE, reduceLE, reduceLT, reduceLeDiff, UInt8.reduceToNat, ↓reduceIte, reduceEqDiff, reduceAdd, reduceCtorEq, reduceToNat]) (hl2 _ _) hroom (fun k hk => by rw [fresh_def]; exact .inl hk) (by show h.nx ≤ h'.nx + 1; omega) ?_
      intro v h4 L ha4 hn4 hf4
      rw [← ht] at ha4
      have hv1 := ha4.cell.1
      have hv2 := ha4.cell.2
      simp +contextual (disch := first | (simp only [fs]; done) | omega | (simp only [Knx]; omega) | (apply Nat.le_antisymm <;> simp only [Knx] <;> omega) | fail) only [wpy, fE, reduceLE, reduceLT, reduceLeDiff, UInt8.reduceToNat, ↓reduceIte, reduceEqDiff, reduceAdd, reduceCtorEq, reduceToNat, Tryd.f35, e3, e7, e8, e9, hi2, hv1, hv2]
      exact hend _ (Ext.new _ _ _) v h4 ha4 hn4 hf4
    by_cases c6 : (wordAt ws i).kind = 6
    · have ht : tellF (wordAt ws i) = 64 :: tickF (wordAt ws i).text := by rw [tellF, if_neg c2, if_neg c3, if_pos c6]; rfl
      have hb6 := tickF_len (wordAt ws i).text
      have hb7 : 1 + (tickF (wordAt ws i).text).length ≤ 9223372036854775807 := by omega
      simp +contextual (disch := first | (simp only [fs]; done) | omega | (simp only [Knx]; omega) | (apply Nat.le_antisymm <;> simp only [Knx] <;> omega) | exact dok (by kernel_rfl)) only [draw_calm, draw_calmA, wpy, fE, reduceLE, reduceLT, reduceLeDiff, UInt8.reduceToNat, ↓reduceIte, reduceEqDiff, reduceAdd, reduceCtorEq, reduceToNat, Tryd.f35, e3, e7, e8, e9, hi2, hgb, hbn', w0, w1, c2, c3, c6]
      refine ⟨.inr hxn, callF_exact (tick_spec hS _ _ hti) ?_⟩
      simp +contextual (disch := first | (simp only [fs]; done) | omega | (simp only [Knx]; omega) | (apply Nat.le_antisymm <;> simp only [Knx] <;> omega) | fail) only [wpy, fE, reduceLE, reduceLT, reduceLeDiff, UInt8.reduceToNat, ↓reduceIte, reduceEqDiff, reduceAdd, reduceCtorEq, reduceToNat, Tryd.f35, e3, e7, e8, e9, hi2, hgb, hbn', w0, w1, c2, hb7]
      refine app_text (n0 := h.nx) (l := l) (ts := (ws.take i).map tellF) _ (by simp +contextual (disch := first | (simp only [fs]; done) | omega | (simp only [Knx]; omega) | (apply Nat.le_antisymm <;> simp only [Knx] <;> omega) | fail) only [wpy, fE, reduceLE, reduceLT, reduceLeDiff, UInt8.reduceToNat, ↓reduceIte, reduceEqDiff, reduceAdd, reduceCtorEq, reduceToNat]) (by simp +contextual (disch := first | (simp only [fs]; done) | omega | (simp only [Knx]; omega) | (apply Nat.le_antisymm <;> simp only [Knx] <;> omega) | fail) only [wpy, fE, reduceLE, reduceLT, reduceLeDiff, UInt8.reduceToNat, ↓reduceIte, reduceEqDiff, reduceAdd, reduceCtorEq, reduceToNat]) (hl2 _ _) hroom (fun k hk => by rw [fresh_def]; exact .inl hk) (by show h.nx ≤ h'.nx + 1; omega) ?_
      intro v h4 L ha4 hn4 hf4
      rw [← ht] at ha4
      have hv1 := ha4.cell.1
      have hv2 := ha4.cell.2
      simp +contextual (disch := first | (simp only [fs]; done) | omega | (simp only [Knx]; omega) | (apply Nat.le_antisymm <;> simp only [Knx] <;> omega) | fail) only [wpy, fE, reduceLE, reduceLT, reduceLeDiff, UInt8.reduceToNat, ↓reduceIte, reduceEqDiff, reduceAdd, reduceCtorEq, reduceToNat, Tryd.f35, e3, e7, e8, e9, hi2, hv1, hv2]
      exact hend _ (Ext.new _ _ _) v h4 ha4 hn4 hf4
    by_cases c7 : (wordAt ws i).kind = 7
    · have ht : tellF (wordAt ws i) = 64 :: 64 :: (wordAt ws i).text := by rw [tellF, if_neg c2, if_neg c3, if_neg c6, if_pos c7]; rfl
      have hb7 : 2 + (wordAt ws i).text.length ≤ 9223372036854775807 := by omega
      have hb8 : 1 + 1 + (wordAt ws i).text.length ≤ 9223372036854775807 := by omega
      simp +contextual (disch := first | (simp only [fs]; done) | omega | (simp only [Knx]; omega) | (apply Nat.le_antisymm <;> simp only [Knx] <;> omega) | exact dok (by kernel_rfl)) only [draw_calm, draw_calmA, wpy, fE, reduceLE, reduceLT, reduceLeDiff, UInt8.reduceToNat, ↓reduceIte, reduceEqDiff, reduceAdd, reduceCtorEq, reduceToNat, Tryd.f35, e3, e7, e8, e9, hi2, hgb, hbn', w0, w1, c2, c3, c6, c7, hb7, hb8]
      refine ⟨.inr hxn, ?_⟩
      refine app_text (n0 := h.nx) (l := l) (ts := (ws.take i).map tellF) _ (by simp +contextual (disch := first | (simp only [fs]; done) | omega | (simp only [Knx]; omega) | (apply Nat.le_antisymm <;> simp only [Knx] <;> omega) | fail) only [wpy, fE, reduceLE, reduceLT, reduceLeDiff, UInt8.reduceToNat, ↓reduceIte, reduceEqDiff, reduceAdd, reduceCtorEq, reduceToNat]) (by simp +contextual (disch := first | (simp only [fs]; done) | omega | (simp only [Knx]; omega) | (apply Nat.le_antisymm <;> simp only [Knx] <;> omega) | fail) only [wpy, fE, reduceLE, reduceLT, reduceLeDiff, UInt8.reduceToNat, ↓reduceIte, reduceEqDiff, reduceAdd, reduceCtorEq, reduceToNat]) (hl2 _ _) hroom (fun k hk => by rw [fresh_def]; exact .inl hk) (by show h.nx ≤ h'.nx + 1; omega) ?_
      intro v h4 L ha4 hn4 hf4
      rw [← ht] at ha4
      have hv1 := ha4.cell.1
      have hv2 := ha4.cell.2
      simp +contextual (disch := first | (simp only [fs]; done) | omega | (simp only [Knx]; omega) | (apply Nat.le_antisymm <;> simp only [Knx] <;> omega) | fail) only [wpy, fE, reduceLE, reduceLT, reduceLeDiff, UInt8.reduceToNat, ↓reduceIte, reduceEqDiff, reduceAdd, reduceCtorEq, reduceToNat, Tryd.f35, e3, e7, e8, e9, hi2, hv1, hv2]
      exact hend _ (Ext.new _ _ _) v h4 ha4 hn4 hf4
    by_cases c8 : (wordAt ws i).kind = 8
    · have ht : tellF (wordAt ws i) = [63] := by rw [tellF, if_neg c2, if_neg c3, if_neg c6, if_neg c7, if_pos c8]
      simp +contextual (disch := first | (simp only [fs]; done) | omega | (simp only [Knx]; omega) | (apply Nat.le_antisymm <;> simp only [Knx] <;> omega) | exact dok (by kernel_rfl)) only [draw_calm, draw_calmA, wpy, fE, reduceLE, reduceLT, reduceLeDiff, UInt8.reduceToNat, ↓reduceIte, reduceEqDiff, reduceAdd, reduceCtorEq, reduceToNat, Tryd.f35, e3, e7, e8, e9, hi2, hgb, hbn', w0, w1, c2, c3, c6, c7, c8]
      refine ⟨.inr hxn, ?_⟩
      refine app_text (n0 := h.nx) (l := l) (ts := (ws.take i).map tellF) _ (by simp +contextual (disch := first | (simp only [fs]; done) | omega | (simp only [Knx]; omega) | (apply Nat.le_antisymm <;> simp only [Knx] <;> omega) | fail) only [wpy, fE, reduceLE, reduceLT, reduceLeDiff, UInt8.reduceToNat, ↓reduceIte, reduceEqDiff, reduceAdd, reduceCtorEq, reduceToNat]) (by simp +contextual (disch := first | (simp only [fs]; done) | omega | (simp only [Knx]; omega) | (apply Nat.le_antisymm <;> simp only [Knx] <;> omega) | fail) only [wpy, fE, reduceLE, reduceLT, reduceLeDiff, UInt8.reduceToNat, ↓reduceIte, reduceEqDiff, reduceAdd, reduceCtorEq, reduceToNat]) (hl2 _ _) hroom (fun k hk => by rw [fresh_def]; exact .inl hk) (by show h.nx ≤ h'.nx + 1; omega) ?_
      intro v h4 L ha4 hn4 hf4
      rw [← ht] at ha4
      have hv1 := ha4.cell.1
      have hv2 := ha4.cell.2
      simp +contextual (disch := first | (simp only [fs]; done) | omega | (simp only [Knx]; omega) | (apply Nat.le_antisymm <;> simp only [Knx] <;> omega) | fail) only [wpy, fE, reduceLE, reduceLT, reduceLeDiff, UInt8.reduceToNat, ↓reduceIte, reduceEqDiff, reduceAdd, reduceCtorEq, reduceToNat, Tryd.f35, e3, e7, e8, e9, hi2, hv1, hv2]
      exact hend _ (Ext.new _ _ _) v h4 ha4 hn4 hf4
    · have ht : tellF (wordAt ws i) = (wordAt ws i).text := by rw [tellF, if_neg c2, if_neg c3, if_neg c6, if_neg c7, if_neg c8]
      simp +contextual (disch := first | (simp only [fs]; done) | omega | (simp only [Knx]; omega) | (apply Nat.le_antisymm <;> simp only [Knx] <;> omega) | exact dok (by kernel_rfl)) only [draw_calm, draw_calmA, wpy, fE, reduceLE, reduceLT, reduceLeDiff, UInt8.reduceToNat, ↓reduceIte, reduceEqDiff, reduceAdd, reduceCtorEq, reduceToNat, Tryd.f35, e3, e7, e8, e9, hi2, hgb, hbn', w0, w1, c2, c3, c6, c7, c8]
      refine ⟨.inr hxn, ?_⟩
      refine app_text (n0 := h.nx) (l := l) (ts := (ws.take i).map tellF) _ (by simp +contextual (disch := first | (simp only [fs]; done) | omega | (simp only [Knx]; omega) | (apply Nat.le_antisymm <;> simp only [Knx] <;> omega) | fail) only [wpy, fE, reduceLE, reduceLT, reduceLeDiff, UInt8.reduceToNat, ↓reduceIte, reduceEqDiff, reduceAdd, reduceCtorEq, reduceToNat]) (by simp +contextual (disch := first | (simp only [fs]; done) | omega | (simp only [Knx]; omega) | (apply Nat.le_antisymm <;> simp only [Knx] <;> omega) | fail) only [wpy, fE, reduceLE, reduceLT, reduceLeDiff, UInt8.reduceToNat, ↓reduceIte, reduceEqDiff, reduceAdd, reduceCtorEq, reduceToNat]) (hl2 _ _) hroom (fun k hk => by rw [fresh_def]; exact .inl hk) (by show h.nx ≤ h'.nx + 1; omega) ?_
      intro v h4 L ha4 hn4 hf4
      rw [← ht] at ha4
      have hv1 := ha4.cell.1
      have hv2 := ha4.cell.2
      simp +contextual (disch := first | (simp only [fs]; done) | omega | (simp only [Knx]; omega) | (apply Nat.le_antisymm <;> simp only [Knx] <;> omega) | fail) only [wpy, fE, reduceLE, reduceLT, reduceLeDiff, UInt8.reduceToNat, ↓reduceIte, reduceEqDiff, reduceAdd, reduceCtorEq, reduceToNat, Tryd.f35, e3, e7, e8, e9, hi2, hv1, hv2]
      exact hend _ (Ext.new _ _ _) v h4 ha4 hn4 hf4
  · have hle : i = ws.length := by omega
    subst hle
    rw [List.take_length] at hl
    simp +contextual (disch := first | (simp only [fs]; done) | omega | (simp only [Knx]; omega) | (apply Nat.le_antisymm <;> simp only [Knx] <;> omega) | exact dok (by kernel_rfl)) only [draw_calm, draw_calmA, wpy, fE, reduceLE, reduceLT, reduceLeDiff, UInt8.reduceToNat, ↓reduceIte, reduceEqDiff, reduceAdd, reduceCtorEq, reduceToNat, Tryd.f35, e3, e7, e8, e9, hi2]
    refine callF_exact (join_exact hS l (ws.map tellF) [32] h.nx (9 * B + 20) h' hl ?_ ?_ (by omega) (by decide)) ?_
    · rw [List.length_map]; omega
    · intro t ht
      obtain ⟨w, hw, rfl⟩ := List.mem_map.1 ht
      exact (tellF_ok (hg.2 w hw)).2
    simp +contextual (disch := first | (simp only [fs]; done) | omega | (simp only [Knx]; omega) | (apply Nat.le_antisymm <;> simp only [Knx] <;> omega) | exact dok (by kernel_rfl)) only [draw_calm, draw_calmA, wpy, fE, reduceLE, reduceLT, reduceLeDiff, UInt8.reduceToNat, ↓reduceIte, reduceEqDiff, reduceAdd, reduceCtorEq, reduceToNat, Tryd.f35, e3, e7, e8, e9, hi2]
    first | exact hx | exact ⟨hx, rfl⟩ | trace_state
omit hS in
theorem tickF_is {t : List Nat} (h : Bytes t) : tickF t = tickS t := by
  unfold tickF tickS dbl
  rw [repl_one h (by decide)]
  rfl
omit hS in
theorem quoteF_is {t : List Nat} (h : Bytes t) : quoteF t = quoteS t := by
  unfold quoteF quoteS
  rw [repl_one (bytes_repl _ _ _) (by decide), repl_one h (by decide)]
  rfl
omit hS in
theorem tellF_is {w : WD} (h : Bytes w.text) : tellF w = plainW w.kind w.text := by
  unfold tellF plainW
  rw [tickF_is h, quoteF_is h]
  rfl
omit hS in
theorem join_one {t : List Nat} (h : Bytes t) : joinF [t] [32] = t := by
  rw [joinF, List.map_cons, Go.Lib.join_cons]
  simp only [List.map_nil, Go.Lib.joinTail, List.map_nil, List.flatten_nil, List.append_nil]
  exact toN_toU h
theorem plain_one (w : WD) (lv : V) (h : H) (ha : Wds h lv [w]) (hb : Bytes w.text) (hl : w.text.length ≤ 10000) : Pure S.cfg 35 [lv] h fun v _ => v = .str (plainW w.kind w.text) := by
  have q := plain_spec hS 10000 1 (by decide) (Nat.le_refl _) lv [w] h ha ⟨Nat.le_refl _, fun x hx => by rw [List.mem_singleton.1 hx]; exact ⟨hb, hl⟩⟩
  refine callW_mono q (fun _ h => h) fun v h' ⟨x, hv⟩ => ⟨x, ?_⟩
  rw [hv, List.map_cons, List.map_nil, tellF_is hb, join_one (plain_bytes _ hb)]
end
end Go.Proofs.YtkibhdbmamfjcaaDoor
set_option linter.unusedSimpArgs false
set_option linter.unusedVariables false
set_option linter.defProp false
set_option maxRecDepth 10000
namespace Go.Proofs.YtkibhdbmamfjcaaDoor
open Go.Proofs Go.Lx Go.Wx Go.IntWalk
noncomputable section

theorem lex_tlen : ∀ (n : Nat) (s : List Nat) (l : List KT), s.length ≤ n → Bytes s → lex s = some l → ∀ w ∈ l, w.2.length ≤ s.length
  | n, [], l, _, _, h, w, hw => by rw [lex_nil] at h; cases h; cases hw
  | 0, x :: t, l, h, _, _, _, _ => by simp at h
  | n + 1, x :: t, l, hn, hb, h, w, hw => by
    have h0 : x :: t ≠ [] := List.cons_ne_nil _ _
    generalize x :: t = s at *
    have hl : 0 < s.length := List.length_pos_iff.2 h0
    by_cases he : (passF s).2 ≠ 0
    · rw [lex_bad h0 he] at h; cases h
    have he : (passF s).2 = 0 := by omega
    by_cases h2 : 0 < (passF s).1
    · rw [lex_pass h0 he h2] at h
      have := lex_tlen n _ l (by rw [List.length_drop]; omega) (hb.drop _) h w hw
      rw [List.length_drop] at this
      omega
    · by_cases h3 : (wordD s).e ≠ 0
      · rw [lex_fault h0 he h2 h3] at h; cases h
      have h3 : (wordD s).e = 0 := by omega
      have hpos := wordD_pos h3
      rw [lex_word h0 he h2 h3] at h
      cases hx : lex (s.drop (wordD s).n) with
      | none => rw [hx] at h; cases h
      | some l' =>
        rw [hx] at h
        cases h
        rcases List.mem_cons.1 hw with rfl | hw
        · exact (wordD_ok h0 hb).2.1
        · have := lex_tlen n _ l' (by rw [List.length_drop]; omega) (hb.drop _) hx w hw
          rw [List.length_drop] at this
          omega
def caseS (s : List Nat) : List Nat := toldL ((wordsOf s).map WD.kt)
theorem case_plain {s : List Nat} (hb : Bytes s) (hl : s.length ≤ 2000) (hf : fine0 s) : Bytes (caseS s) ∧ (caseS s).length ≤ 34000 ∧ fine0 (caseS s) ∧ clsOf (caseS s) = clsOf s ∧ ∀ w ∈ wordsOf s, Bytes w.text ∧ w.text.length ≤ 2000 ∧ 0 < (plainW w.kind w.text).length := by
  cases hx : lex s with
  | none => exact absurd hf.1 ((words_lex hb (by omega)).2 hx)
  | some l =>
    obtain ⟨_, _, w⟩ := (words_lex hb (by omega)).1 l hx
    have hlen := toldL_len _ s l (Nat.le_refl _) hb hx
    have hby := toldL_bytes (lex_bytes _ s l (Nat.le_refl _) hb hx)
    have htell := lex_tellable _ s l (Nat.le_refl _) hx
    have e : caseS s = toldL l := by unfold caseS; rw [w]
    rw [e]
    obtain ⟨f1, f2, w2⟩ := (words_lex hby (by omega)).1 _ (lex_told l htell)
    refine ⟨hby, by omega, ⟨f1, f2⟩, ?_, fun v hv => ?_⟩
    · unfold clsOf
      exact s_cls (show Same (wordsOf (toldL l)) (wordsOf s) by unfold Same; rw [w, w2]) (rfl : Same [] [])
    · have hm : v.kt ∈ l := by rw [← w]; exact List.mem_map_of_mem hv
      refine ⟨lex_bytes _ s l (Nat.le_refl _) hb hx _ hm, Nat.le_trans (lex_tlen _ s l (Nat.le_refl _) hb hx _ hm) hl, ?_⟩
      have ht := htell _ hm
      have hpos := wordD_pos (s := toldW v.kind v.text) (by rw [show wordD (toldW v.kind v.text) = _ from ht.1])
      rw [show wordD (toldW v.kind v.text) = _ from ht.1] at hpos
      have hpos : 0 < (toldW v.kind v.text).length := hpos
      unfold toldW at hpos
      split at hpos
      · rwa [up_len] at hpos
      · exact hpos
theorem words_bad {s : List Nat} (h : ¬ fine0 s) : wordsOf s = [] := by
  unfold fine0 faultE faultP at h
  unfold wordsOf
  split
  · rfl
  · rename_i hl
    rw [if_neg hl, if_neg hl] at h
    cases hx : allF s with
    | inl ws => rw [hx] at h; exact absurd ⟨rfl, rfl⟩ h
    | inr q => rfl
theorem cls_bad {s : List Nat} (h : ¬ fine0 s) : clsOf s = [] := by
  unfold clsOf
  rw [words_bad h]
  rfl
end
end Go.Proofs.YtkibhdbmamfjcaaDoor
set_option linter.unusedSimpArgs false
set_option linter.unusedVariables false
set_option linter.unusedSectionVars false
set_option linter.defProp false
set_option maxRecDepth 10000
namespace Go.Proofs.YtkibhdbmamfjcaaDoor
open Int (reduceLE reduceLT reduceToNat)
open Nat (reduceLeDiff reduceEqDiff reduceAdd)
open Go.Proofs Go.Lx Go.Wx Go.IntWalk
noncomputable section
def partU (s : List Nat) (i : Nat) : List Nat := upS (s.take i) ++ s.drop i

theorem partU_len (s : List Nat) (i : Nat) (hi : i ≤ s.length) : (partU s i).length = s.length := by simp [partU, upS]; omega
theorem partU_set : ∀ (s : List Nat) (i : Nat), i < s.length → (partU s i).set i (upB (s.getD i 0)) = partU s (i + 1)
  | [], i, h => by simp at h
  | x :: l, 0, h => by simp [partU, upS]
  | x :: l, i + 1, h => by
    have := partU_set l i (by simpa using h)
    simp only [partU, upS, List.take_succ_cons, List.map_cons, List.drop_succ_cons, List.cons_append, List.set_cons_succ, List.getD_cons_succ] at this ⊢
    rw [this]
theorem partU_put (s : List Nat) (i : Nat) (hi : i < s.length) : listPut (bytesV (partU s i)) i [.int .u8 ((upB (s.getD i 0) : Nat) : Int)] = bytesV (partU s (i + 1)) := by
  rw [listPut_one, ← partU_set s i hi]
  unfold bytesV
  rw [List.map_set]
theorem partU_same (s : List Nat) (i : Nat) (hi : i < s.length) (hn : ¬ (97 ≤ s.getD i 0 ∧ s.getD i 0 ≤ 122)) : partU s (i + 1) = partU s i := by
  rw [← partU_set s i hi]
  have hel : (partU s i)[i]? = some (s.getD i 0) := by
    unfold partU
    rw [List.getElem?_append_right (by simp [upS]; omega)]
    simp [upS, Nat.min_eq_left (Nat.le_of_lt hi), List.getD_eq_getElem?_getD, List.getElem?_eq_getElem hi]
  rw [show upB (s.getD i 0) = s.getD i 0 by unfold upB; rw [if_neg hn]]
  apply List.ext_getElem?
  intro j
  rw [List.getElem?_set]
  split
  · rename_i e; subst e
    split
    · rw [hel]
    · rename_i hh
      rw [partU_len s i (by omega)] at hh
      omega
  · rfl

theorem toldL_snoc (l : List KT) (w : KT) : toldL (l ++ [w]) = toldL l ++ (toldW w.1 w.2 ++ gapS) := by
  unfold toldL
  rw [List.flatMap_append, List.flatMap_cons, List.flatMap_nil, List.append_nil]
theorem toldL_take (l : List KT) (i : Nat) : (toldL (l.take i)).length ≤ (toldL l).length := by
  conv => rhs; rw [← List.take_append_drop i l]
  unfold toldL
  rw [List.flatMap_append, List.length_append]
  omega
theorem cvBS_acc {c : Cfg} {Ok : Nat → Prop} {s t e n0 : Nat} {v : V} {h : H} {B : List Nat} {K : V → H → Fp → Prop} (ha : Wx.Acc n0 h v (bytesV B) e 1) (hb : Bytes B) (hK : ∀ L, K (.str B) h (.lg L)) : cvBS c Ok s t v h K := by
  rcases ha with ⟨rfl, hn⟩ | ⟨b, n, _, _, rfl, _, hg, hl⟩
  · have : B = [] := by
      have := congrArg List.length hn
      rw [bytesV_length] at this
      exact List.eq_nil_of_length_eq_zero this
    subst this
    rw [cvBS_nil]
    exact hK _
  · rw [bytesV_length, Nat.mul_one] at hl
    subst hl
    rw [cvBS_slice, hg, rdN_bytes hb, cvBSb_some]
    exact hK _
variable {S : Set0} (hS : StdN S)
include hS
theorem case_spec (s : List Nat) (h : H) (hb : Bytes s) (hs : s.length < 2 ^ 63) : Pure S.cfg 12 [.str s] h fun v _ => v = .bool true := by
  refine into Tryd.f12 _ Tryd.func12 (hS.ownC _ (by decide)) rfl rfl (by kernel_rfl) (by kernel_rfl) ?_
  have b1 := fun q a b c d => agg_neq 26 q a b c d rfl
  have b2 := fun q a b c d => agg_eql 26 q a b c d rfl
  simp +contextual (disch := first | (simp only [fs]; done) | omega | (simp only [Knx]; omega) | (apply Nat.le_antisymm <;> simp only [Knx] <;> omega) | fail) only [wpy, fE, reduceLE, reduceLT, reduceLeDiff, UInt8.reduceToNat, ↓reduceIte, reduceEqDiff, reduceAdd, reduceCtorEq, reduceToNat, Tryd.f12]
  refine callF_exact (hS.livesC _) ?_
  by_cases la : 2000 < s.length
  · simp +contextual (disch := first | (simp only [fs]; done) | omega | (simp only [Knx]; omega) | (apply Nat.le_antisymm <;> simp only [Knx] <;> omega) | fail) only [wpy, fE, reduceLE, reduceLT, reduceLeDiff, UInt8.reduceToNat, ↓reduceIte, reduceEqDiff, reduceAdd, reduceCtorEq, reduceToNat, Tryd.f12, la]
    exact Ext.refl h
  simp +contextual (disch := first | (simp only [fs]; done) | omega | (simp only [Knx]; omega) | (apply Nat.le_antisymm <;> simp only [Knx] <;> omega) | fail) only [wpy, fE, reduceLE, reduceLT, reduceLeDiff, UInt8.reduceToNat, ↓reduceIte, reduceEqDiff, reduceAdd, reduceCtorEq, reduceToNat, Tryd.f12, la]
  refine callF_pure (all_spec hS.toStdF s _ hb hs) ?_
  intro v1 h1 hx1 hv1
  obtain ⟨l, rfl, hl⟩ := allV_form hv1
  obtain ⟨p1, p2⟩ := hl.cell
  by_cases hf : ¬ fine0 s
  · have hf' : ¬ (faultE s = 0 ∧ faultP s = 0) := hf
    simp +contextual (disch := first | (simp only [fs]; done) | omega | (simp only [Knx]; omega) | (apply Nat.le_antisymm <;> simp only [Knx] <;> omega) | fail) only [wpy, fE, reduceLE, reduceLT, reduceLeDiff, UInt8.reduceToNat, ↓reduceIte, reduceEqDiff, reduceAdd, reduceCtorEq, reduceToNat, Tryd.f12, la, p1, p2, b1, hf']
    refine ⟨.inr hx1.1, ?_⟩
    obtain ⟨h2, hh2⟩ : ∃ h2, h2 = (h1.push (Ob.cells [V.int IntKind.i64 0, V.int IntKind.i64 0] 26 false)).put h1.nx (Ob.cells [V.int IntKind.i64 (faultE s), V.int IntKind.i64 (faultP s)] 26 false) := ⟨_, rfl⟩
    rw [← hh2]
    have hx12 : Ext h1 h2 := by rw [hh2]; exact Ext.new _ _ _
    have hn2 : h2.nx = h1.nx + 1 := by rw [hh2]; rfl
    have hg2 : h2.get h1.nx = some (Ob.cells [V.int IntKind.i64 (faultE s), V.int IntKind.i64 (faultP s)] 26 false) := by rw [hh2]; exact put_eq rfl
    clear hh2
    refine callF_pure (of_spec hS.toStdE s _ hb hs) ?_
    rintro v3 h3 hx3 ⟨l3, rfl, hA3⟩
    rw [cls_bad hf] at hA3
    have hg3 : h3.get h1.nx = some (Ob.cells [V.int IntKind.i64 (faultE s), V.int IntKind.i64 (faultP s)] 26 false) := by rw [hx3.2 _ (by omega)]; exact hg2
    have hne : ¬ h1.nx = h3.nx := by have := hx3.1; omega
    obtain rfl : l3 = .nilslice := by
      rcases hA3 with ⟨q, _⟩ | ⟨b, n, _, _, _, hn, _, hk⟩
      · exact q
      · exfalso
        have hk : 0 = n * 3 := hk
        omega
    simp +contextual (disch := first | (simp only [fs]; done) | omega | (simp only [Knx]; omega) | (apply Nat.le_antisymm <;> simp only [Knx] <;> omega) | fail) only [wpy, fE, reduceLE, reduceLT, reduceLeDiff, UInt8.reduceToNat, ↓reduceIte, reduceEqDiff, reduceAdd, reduceCtorEq, reduceToNat, Tryd.f12, p1, p2, b2, hg3, hne]
    have hx3n := hx3.1
    have hx1n := hx1.1
    exact ⟨.inr (by omega), (((hx1.trans hx12).trans hx3).push _).put (by omega) _⟩
  rw [Classical.not_not] at hf
  rw [hf.1, hf.2]
  obtain ⟨hB, hBl, hBf, hBc, hW⟩ := case_plain hb (by omega) hf
  have hwl := (wordsOf_ok hb).2.1
  simp +contextual (disch := first | (simp only [fs]; done) | omega | (simp only [Knx]; omega) | (apply Nat.le_antisymm <;> simp only [Knx] <;> omega) | fail) only [wpy, fE, reduceLE, reduceLT, reduceLeDiff, UInt8.reduceToNat, ↓reduceIte, reduceEqDiff, reduceAdd, reduceCtorEq, reduceToNat, Tryd.f12, la, p1, p2, b1]
  refine ⟨.inr hx1.1, ?_⟩
  obtain ⟨h2, hh2⟩ : ∃ h2, h2 = (h1.push (Ob.cells [V.int IntKind.i64 0, V.int IntKind.i64 0] 26 false)).put h1.nx (Ob.cells [V.int IntKind.i64 0, V.int IntKind.i64 0] 26 false) := ⟨_, rfl⟩
  rw [← hh2]
  have hx12 : Ext h1 h2 := by rw [hh2]; exact Ext.new _ _ _
  have hX2 : Ext h h2 := hx1.trans hx12
  have hwd : Wds h2 l (wordsOf s) := (Wds.of_acc hl).ext hx12
  clear hh2 hl hv1
  have hcase : caseS s = toldL ((wordsOf s).map WD.kt) := rfl
  generalize hws : wordsOf s = ws at *
  refine run_loop (fun k env h' => ∃ (i : Nat) (bv : V), k = ws.length - i ∧ i ≤ ws.length ∧ env 0 = .str s ∧ env 3 = l ∧ env 7 = bv ∧ env 8 = .int .i64 i ∧ Ext h2 h' ∧ Acc h2.nx h' bv (bytesV (toldL ((ws.take i).map WD.kt))) 5 1) ws.length ⟨0, .nilslice, ?_⟩ ?_
  · simp +contextual (disch := first | (simp only [fs]; done) | omega | (simp only [Knx]; omega) | (apply Nat.le_antisymm <;> simp only [Knx] <;> omega) | fail) only [wpy, fE, reduceLE, reduceLT, reduceLeDiff, UInt8.reduceToNat, ↓reduceIte, reduceEqDiff, reduceAdd, reduceCtorEq, reduceToNat]
    exact ⟨(Nat.sub_zero _).symm, Ext.refl _, .inl ⟨rfl, rfl⟩⟩
  rintro k env h' ⟨i, bv, rfl, hi, e0, e3, e7, e8, hx, hA⟩
  have ho1 := hA.cell.1
  have ho2 := hA.cell.2
  have hw' := hwd.ext hx
  have a1 := hw'.len
  by_cases hlt : i < ws.length
  · obtain ⟨b, o, m, c, fl, rfl, hm, hbb, hgb⟩ := hw'.opened (by omega)
    simp +contextual (disch := first | (simp only [fs]; done) | omega | (simp only [Knx]; omega) | (apply Nat.le_antisymm <;> simp only [Knx] <;> omega) | fail) only [wpy, fE, reduceLE, reduceLT, reduceLeDiff, UInt8.reduceToNat, ↓reduceIte, reduceEqDiff, reduceAdd, reduceCtorEq, reduceToNat, Tryd.f12, e0, e3, e7, e8, a1, hlt]
    refine slice_row (e := 36) (sz := 3) (b := b) (o := o) (n := ws.length) (m := m) (l := i) (hh := i + 1) (mm := m) (by kernel_rfl) C2.sz36 (by simp +contextual (disch := first | (simp only [fs]; done) | omega | (simp only [Knx]; omega) | (apply Nat.le_antisymm <;> simp only [Knx] <;> omega) | fail) only [wpy, fE, reduceLE, reduceLT, reduceLeDiff, UInt8.reduceToNat, ↓reduceIte, reduceEqDiff, reduceAdd, reduceCtorEq, reduceToNat]) (by rw [hgb]; rfl) (fun _ => rfl) (by simp +contextual (disch := first | (simp only [fs]; done) | omega | (simp only [Knx]; omega) | (apply Nat.le_antisymm <;> simp only [Knx] <;> omega) | fail) only [wpy, fE, reduceLE, reduceLT, reduceLeDiff, UInt8.reduceToNat, ↓reduceIte, reduceEqDiff, reduceAdd, reduceCtorEq, reduceToNat]; exact bounds_both (by omega) (by omega)) (by omega) ?_
    simp +contextual (disch := first | (simp only [fs]; done) | omega | (simp only [Knx]; omega) | (apply Nat.le_antisymm <;> simp only [Knx] <;> omega) | fail) only [wpy, fE, reduceLE, reduceLT, reduceLeDiff, UInt8.reduceToNat, ↓reduceIte, reduceEqDiff, reduceAdd, reduceCtorEq, reduceToNat, Tryd.f12]
    have hpart := hw'.part i 1 (by omega)
    have hone : (ws.drop i).take 1 = [ws[i]] := by rw [List.drop_eq_getElem_cons hlt]; rfl
    rw [hone] at hpart
    have hwi := hW ws[i] (List.getElem_mem hlt)
    rw [show i + 1 - i = 1 by omega]
    refine callF_pure (plain_one hS ws[i] _ _ hpart hwi.1 (by omega)) ?_
    rintro v h4 hx4 rfl
    obtain ⟨b2', o2', m2', c2, e2, fl2, q, hbn, hgb2, w0, w1⟩ := (hw'.ext hx4).get hlt
    cases q
    have w2 : c2[o + i * 3]? = some (.int .i64 (ws[i]).kind) := by
      have h1 := congrArg (fun l : List V => l[0]?) w1
      simpa [List.getElem?_take, List.getElem?_drop, WD.cells] using h1
    have hP : Bytes (plainW ws[i].kind ws[i].text) := plain_bytes _ hwi.1
    have hPl : (plainW ws[i].kind ws[i].text).length ≤ 34000 := by
      have h1 := told_len ws[i].kind ws[i].text
      unfold toldW at h1
      split at h1
      · rw [up_len] at h1; omega
      · omega
    obtain ⟨T, hT⟩ : ∃ T, T = plainW ws[i].kind ws[i].text := ⟨_, rfl⟩
    rw [← hT] at hP hPl
    rw [← hT]
    have hTn : 0 < T.length := by rw [hT]; exact hwi.2.2
    simp +contextual (disch := first | (simp only [fs]; done) | omega | (simp only [Knx]; omega) | (apply Nat.le_antisymm <;> simp only [Knx] <;> omega) | fail) only [wpy, fE, reduceLE, reduceLT, reduceLeDiff, UInt8.reduceToNat, ↓reduceIte, reduceEqDiff, reduceAdd, reduceCtorEq, reduceToNat, Tryd.f12]
    have hx2n := hx.1
    have hpre := toldL_take (ws.map WD.kt) i
    rw [← hcase, ← List.map_take] at hpre
    have hx4n := hx4.1
    refine run_loop (fun k env' hh => ∃ j : Nat, k = T.length - j ∧ j ≤ T.length ∧ env' 0 = .str s ∧ env' 3 = .slice b o ws.length m ∧ env' 7 = bv ∧ env' 8 = .int .i64 i ∧ env' 9 = .slice h4.nx 0 T.length T.length ∧ env' 10 = .int .i64 j ∧ Ext h4 hh ∧ h4.nx < hh.nx ∧ hh.get h4.nx = some (.cells (bytesV (partU T j)) 5 true) ∧ (ws[i].kind ≠ 1 → j = 0)) T.length ⟨0, ?_⟩ ?_
    · simp +contextual (disch := first | (simp only [fs]; done) | omega | (simp only [Knx]; omega) | (apply Nat.le_antisymm <;> simp only [Knx] <;> omega) | fail) only [wpy, fE, reduceLE, reduceLT, reduceLeDiff, UInt8.reduceToNat, ↓reduceIte, reduceEqDiff, reduceAdd, reduceCtorEq, reduceToNat, e0, e3, e7, e8]
      exact ⟨by omega, (Ext.refl h4).push _, by omega, by simp [partU, upS]⟩
    rintro k2 env2 hh ⟨j, rfl, hj, f0, f3, f7, f8, f9, f10, hxh, hhn, hgt, hkj⟩
    have hgb3 : hh.get b = some (Ob.cells c2 e2 fl2) := by rw [hxh.2 _ hbn]; exact hgb2
    by_cases hjl : j < T.length
    · have hel : (partU T j)[j]? = some (T.getD j 0) := by
        unfold partU
        rw [List.getElem?_append_right (by simp [upS]; omega)]
        simp [upS, Nat.min_eq_left hj, List.getD_eq_getElem?_getD, List.getElem?_eq_getElem hjl]
      by_cases hk1 : ws[i].kind = 1
      · simp +contextual (disch := first | (simp only [fs]; done) | omega | (simp only [Knx]; omega) | (apply Nat.le_antisymm <;> simp only [Knx] <;> omega) | fail) only [wpy, fE, reduceLE, reduceLT, reduceLeDiff, UInt8.reduceToNat, ↓reduceIte, reduceEqDiff, reduceAdd, reduceCtorEq, reduceToNat, Tryd.f12, f0, f3, f7, f8, f9, f10, hjl, hlt, hgb3, w2, hk1, hgt, hel]
        refine ⟨fun hr => ⟨⟨by rw [partU_len T j hj]; omega, .inr (by have := hX2.1; omega)⟩, T.length - (j + 1), by omega, j + 1, rfl, by omega, rfl, hxh.put (Nat.le_refl _) _, hhn, ?_⟩, fun hr => ⟨T.length - (j + 1), by omega, j + 1, rfl, by omega, rfl, hxh, hhn, ?_⟩⟩
        · have hw : IntKind.u8.wrap ((T.getD j 0 : Nat) - 32) = ((upB (T.getD j 0) : Nat) : Int) := by
            rw [u8_in _ (by omega)]
            unfold upB
            rw [if_pos hr]
            omega
          rw [hw, partU_put T j hjl]
          exact ⟨rfl, fun q => absurd rfl q⟩
        · rw [partU_same T j hjl hr]
          exact ⟨rfl, fun q => absurd rfl q⟩
      · have hj0 := hkj hk1
        simp +contextual (disch := first | (simp only [fs]; done) | omega | (simp only [Knx]; omega) | (apply Nat.le_antisymm <;> simp only [Knx] <;> omega) | fail) only [wpy, fE, reduceLE, reduceLT, reduceLeDiff, UInt8.reduceToNat, ↓reduceIte, reduceEqDiff, reduceAdd, reduceCtorEq, reduceToNat, Tryd.f12, f0, f3, f7, f8, f9, f10, hjl, hlt, hgb3, w2, hk1, hgt, hel]
        have hU : partU T j = toldW ws[i].kind ws[i].text := by
          subst hj0; unfold toldW; rw [if_neg hk1, hT]; simp [partU, upS]
        rw [hU] at hgt
        have hUl : (toldW ws[i].kind ws[i].text).length = T.length := by rw [← hU]; exact partU_len T j hj
        refine append_accV (sv := bv) (n0 := h2.nx) (cells := bytesV (toldL ((ws.take i).map WD.kt))) (new := bytesV (toldW ws[i].kind ws[i].text)) (b2 := h4.nx) (o2 := 0) (n := T.length) (m := T.length) ?_ C3.ap41 ⟨.slice 5, by kernel_rfl, rfl⟩ (hA.ext (hx4.trans hxh)) ?_ hTn ?_ ?_ (bytesV_cell _) ?_ (by decide) (fun k hk => by rw [fresh_def]; exact .inl (by have := hX2.1; omega)) ?_ (by have := hxh.1; omega)
        · simp +contextual (disch := first | (simp only [fs]; done) | omega | (simp only [Knx]; omega) | (apply Nat.le_antisymm <;> simp only [Knx] <;> omega) | fail) only [wpy, fE, reduceLE, reduceLT, reduceLeDiff, UInt8.reduceToNat, ↓reduceIte, reduceEqDiff, reduceAdd, reduceCtorEq, reduceToNat, f7]
        · simp +contextual (disch := first | (simp only [fs]; done) | omega | (simp only [Knx]; omega) | (apply Nat.le_antisymm <;> simp only [Knx] <;> omega) | fail) only [wpy, fE, reduceLE, reduceLT, reduceLeDiff, UInt8.reduceToNat, ↓reduceIte, reduceEqDiff, reduceAdd, reduceCtorEq, reduceToNat, f9]
        · rw [hgt]; exact rdC_all (by rw [bytesV_length, hUl, Nat.mul_one])
        · rw [bytesV_length, hUl, Nat.mul_one]
        · rw [bytesV_length, bytesV_length, hUl]; omega
        intro v5 h5 L hA5 hst hL
        simp +contextual (disch := first | (simp only [fs]; done) | omega | (simp only [Knx]; omega) | (apply Nat.le_antisymm <;> simp only [Knx] <;> omega) | fail) only [wpy, fE, reduceLE, reduceLT, reduceLeDiff, UInt8.reduceToNat, ↓reduceIte, reduceEqDiff, reduceAdd, reduceCtorEq, reduceToNat, Tryd.f12]
        rw [← bytesV_append] at hA5
        have hX5 : Ext h2 h5 := StaysBut.ext (n0 := 0) (hx.trans (hx4.trans hxh)) hst (hA.ext (hx4.trans hxh))
        refine append_strV (sv := v5) (n0 := h2.nx) (bs := gapS) ?_ C3.ap41 ⟨.string, by kernel_rfl, rfl⟩ hA5 ?_ (by decide) ?_ (fun k hk => by rw [fresh_def]; exact .inl (by have := hX2.1; omega)) ?_ hX5.1
        · simp +contextual (disch := first | (simp only [fs]; done) | omega | (simp only [Knx]; omega) | (apply Nat.le_antisymm <;> simp only [Knx] <;> omega) | fail) only [wpy, fE, reduceLE, reduceLT, reduceLeDiff, UInt8.reduceToNat, ↓reduceIte, reduceEqDiff, reduceAdd, reduceCtorEq, reduceToNat]
        · simp +contextual (disch := first | (simp only [fs]; done) | omega | (simp only [Knx]; omega) | (apply Nat.le_antisymm <;> simp only [Knx] <;> omega) | fail) only [wpy, fE, reduceLE, reduceLT, reduceLeDiff, UInt8.reduceToNat, ↓reduceIte, reduceEqDiff, reduceAdd, reduceCtorEq, reduceToNat]; rfl
        · rw [bytesV_length, List.length_append, hUl]; show _ + 9 ≤ _; omega
        intro v6 h6 L6 hA6 hst6 hL6
        rw [← bytesV_append, List.append_assoc] at hA6
        have hX6 : Ext h2 h6 := StaysBut.ext (n0 := 0) hX5 hst6 hA5
        simp +contextual (disch := first | (simp only [fs]; done) | omega | (simp only [Knx]; omega) | (apply Nat.le_antisymm <;> simp only [Knx] <;> omega) | fail) only [wpy, fE, reduceLE, reduceLT, reduceLeDiff, UInt8.reduceToNat, ↓reduceIte, reduceEqDiff, reduceAdd, reduceCtorEq, reduceToNat, Tryd.f12, f0, f3, f7, f8]
        refine ⟨ws.length - (i + 1), by omega, i + 1, v6, rfl, by omega, rfl, rfl, hX6, ?_⟩
        rw [List.take_succ_eq_append_getElem hlt, List.map_append, List.map_cons, List.map_nil, toldL_snoc]
        exact hA6
    · simp +contextual (disch := first | (simp only [fs]; done) | omega | (simp only [Knx]; omega) | (apply Nat.le_antisymm <;> simp only [Knx] <;> omega) | fail) only [wpy, fE, reduceLE, reduceLT, reduceLeDiff, UInt8.reduceToNat, ↓reduceIte, reduceEqDiff, reduceAdd, reduceCtorEq, reduceToNat, Tryd.f12, f0, f3, f7, f8, f9, f10, hjl, hgt]
      have hU : partU T j = toldW ws[i].kind ws[i].text := by
        by_cases hk1 : ws[i].kind = 1
        · have : j = T.length := by omega
          subst this
          unfold toldW
          rw [if_pos hk1, ← hT]
          simp [partU, upS]
        · have := hkj hk1
          omega
      rw [hU] at hgt
      have hUl : (toldW ws[i].kind ws[i].text).length = T.length := by rw [← hU]; exact partU_len T j hj
      refine append_accV (sv := bv) (n0 := h2.nx) (cells := bytesV (toldL ((ws.take i).map WD.kt))) (new := bytesV (toldW ws[i].kind ws[i].text)) (b2 := h4.nx) (o2 := 0) (n := T.length) (m := T.length) ?_ C3.ap41 ⟨.slice 5, by kernel_rfl, rfl⟩ (hA.ext (hx4.trans hxh)) ?_ hTn ?_ ?_ (bytesV_cell _) ?_ (by decide) (fun k hk => by rw [fresh_def]; exact .inl (by have := hX2.1; omega)) ?_ (by have := hxh.1; omega)
      · simp +contextual (disch := first | (simp only [fs]; done) | omega | (simp only [Knx]; omega) | (apply Nat.le_antisymm <;> simp only [Knx] <;> omega) | fail) only [wpy, fE, reduceLE, reduceLT, reduceLeDiff, UInt8.reduceToNat, ↓reduceIte, reduceEqDiff, reduceAdd, reduceCtorEq, reduceToNat, f7]
      · simp +contextual (disch := first | (simp only [fs]; done) | omega | (simp only [Knx]; omega) | (apply Nat.le_antisymm <;> simp only [Knx] <;> omega) | fail) only [wpy, fE, reduceLE, reduceLT, reduceLeDiff, UInt8.reduceToNat, ↓reduceIte, reduceEqDiff, reduceAdd, reduceCtorEq, reduceToNat, f9]
      · rw [hgt]; exact rdC_all (by rw [bytesV_length, hUl, Nat.mul_one])
      · rw [bytesV_length, hUl, Nat.mul_one]
      · rw [bytesV_length, bytesV_length, hUl]; omega
      intro v5 h5 L hA5 hst hL
      simp +contextual (disch := first | (simp only [fs]; done) | omega | (simp only [Knx]; omega) | (apply Nat.le_antisymm <;> simp only [Knx] <;> omega) | fail) only [wpy, fE, reduceLE, reduceLT, reduceLeDiff, UInt8.reduceToNat, ↓reduceIte, reduceEqDiff, reduceAdd, reduceCtorEq, reduceToNat, Tryd.f12]
      rw [← bytesV_append] at hA5
      have hX5 : Ext h2 h5 := StaysBut.ext (n0 := 0) (hx.trans (hx4.trans hxh)) hst (hA.ext (hx4.trans hxh))
      refine append_strV (sv := v5) (n0 := h2.nx) (bs := gapS) ?_ C3.ap41 ⟨.string, by kernel_rfl, rfl⟩ hA5 ?_ (by decide) ?_ (fun k hk => by rw [fresh_def]; exact .inl (by have := hX2.1; omega)) ?_ hX5.1
      · simp +contextual (disch := first | (simp only [fs]; done) | omega | (simp only [Knx]; omega) | (apply Nat.le_antisymm <;> simp only [Knx] <;> omega) | fail) only [wpy, fE, reduceLE, reduceLT, reduceLeDiff, UInt8.reduceToNat, ↓reduceIte, reduceEqDiff, reduceAdd, reduceCtorEq, reduceToNat]
      · simp +contextual (disch := first | (simp only [fs]; done) | omega | (simp only [Knx]; omega) | (apply Nat.le_antisymm <;> simp only [Knx] <;> omega) | fail) only [wpy, fE, reduceLE, reduceLT, reduceLeDiff, UInt8.reduceToNat, ↓reduceIte, reduceEqDiff, reduceAdd, reduceCtorEq, reduceToNat]; rfl
      · rw [bytesV_length, List.length_append, hUl]; show _ + 9 ≤ _; omega
      intro v6 h6 L6 hA6 hst6 hL6
      rw [← bytesV_append, List.append_assoc] at hA6
      have hX6 : Ext h2 h6 := StaysBut.ext (n0 := 0) hX5 hst6 hA5
      simp +contextual (disch := first | (simp only [fs]; done) | omega | (simp only [Knx]; omega) | (apply Nat.le_antisymm <;> simp only [Knx] <;> omega) | fail) only [wpy, fE, reduceLE, reduceLT, reduceLeDiff, UInt8.reduceToNat, ↓reduceIte, reduceEqDiff, reduceAdd, reduceCtorEq, reduceToNat, Tryd.f12, f0, f3, f7, f8]
      refine ⟨ws.length - (i + 1), by omega, i + 1, v6, rfl, by omega, rfl, rfl, hX6, ?_⟩
      rw [List.take_succ_eq_append_getElem hlt, List.map_append, List.map_cons, List.map_nil, toldL_snoc]
      exact hA6
  · have hie : i = ws.length := by omega
    subst hie
    rw [List.take_length, ← hcase] at hA
    have hx2n := hx.1
    have hX2n := hX2.1
    simp +contextual (disch := first | (simp only [fs]; done) | omega | (simp only [Knx]; omega) | (apply Nat.le_antisymm <;> simp only [Knx] <;> omega) | fail) only [wpy, fE, reduceLE, reduceLT, reduceLeDiff, UInt8.reduceToNat, ↓reduceIte, reduceEqDiff, reduceAdd, reduceCtorEq, reduceToNat, Tryd.f12, e0, e3, e7, e8, a1, hlt]
    refine callF_pure (of_spec hS.toStdE s _ hb hs) ?_
    rintro v3 h3 hx3 ⟨l3, rfl, hA3⟩
    have hx3n := hx3.1
    obtain ⟨q1, q2⟩ := hA3.cell
    rw [hf.1, hf.2]
    simp +contextual (disch := first | (simp only [fs]; done) | omega | (simp only [Knx]; omega) | (apply Nat.le_antisymm <;> simp only [Knx] <;> omega) | fail) only [wpy, fE, reduceLE, reduceLT, reduceLeDiff, UInt8.reduceToNat, ↓reduceIte, reduceEqDiff, reduceAdd, reduceCtorEq, reduceToNat, Tryd.f12, q1, q2]
    refine ⟨.inr (by omega), ?_⟩
    obtain ⟨h4, hh4⟩ : ∃ h4, h4 = (h3.push (Ob.cells [V.int IntKind.i64 0, V.int IntKind.i64 0] 26 false)).put h3.nx (Ob.cells [V.int IntKind.i64 0, V.int IntKind.i64 0] 26 false) := ⟨_, rfl⟩
    rw [← hh4]
    have hn4 : h4.nx = h3.nx + 1 := by rw [hh4]; rfl
    have hx34 : Ext h3 h4 := by rw [hh4]; exact Ext.new _ _ _
    have hg4 : h4.get h3.nx = some (Ob.cells [V.int IntKind.i64 0, V.int IntKind.i64 0] 26 false) := by rw [hh4]; exact put_eq rfl
    clear hh4
    refine cvBS_acc (e7.symm ▸ (hA.ext (hx3.trans hx34))) hB fun L => ?_
    simp +contextual (disch := first | (simp only [fs]; done) | omega | (simp only [Knx]; omega) | (apply Nat.le_antisymm <;> simp only [Knx] <;> omega) | fail) only [wpy, fE, reduceLE, reduceLT, reduceLeDiff, UInt8.reduceToNat, ↓reduceIte, reduceEqDiff, reduceAdd, reduceCtorEq, reduceToNat, Tryd.f12]
    refine callF_pure (of_spec hS.toStdE (caseS s) _ hB (by omega)) ?_
    rintro v5 h5 hx5 ⟨l5, rfl, hA5⟩
    have hx5n := hx5.1
    obtain ⟨q3, q4⟩ := hA5.cell
    rw [hBf.1, hBf.2]
    rw [hBc] at hA5
    have hg5 : h5.get h3.nx = some (Ob.cells [V.int IntKind.i64 0, V.int IntKind.i64 0] 26 false) := by rw [hx5.2 _ (by omega)]; exact hg4
    have hne : ¬ h3.nx = h5.nx := by omega
    simp +contextual (disch := first | (simp only [fs]; done) | omega | (simp only [Knx]; omega) | (apply Nat.le_antisymm <;> simp only [Knx] <;> omega) | fail) only [wpy, fE, reduceLE, reduceLT, reduceLeDiff, UInt8.reduceToNat, ↓reduceIte, reduceEqDiff, reduceAdd, reduceCtorEq, reduceToNat, Tryd.f12, q1, q2, q3, q4, b2, hg5, hne]
    refine ⟨.inr (by omega), ?_⟩
    have hx56 : Ext h5 ((h5.push (Ob.cells [V.int IntKind.i64 0, V.int IntKind.i64 0] 26 false)).put h5.nx (Ob.cells [V.int IntKind.i64 0, V.int IntKind.i64 0] 26 false)) := Ext.new _ _ _
    have hC3 : CR h5 l3 (clsOf s) := (CR.of_acc hA3).ext (hx34.trans hx5)
    have hC5 : CR h5 l5 (clsOf s) := CR.of_acc hA5
    have hcl := cls_len hb
    refine callF_pure (sameCls_spec hS.toStdE _ l3 l5 (clsOf s) (hC3.ext hx56) (hC5.ext hx56) (by omega)) ?_
    rintro v h7 hx7 rfl
    simp +contextual (disch := first | (simp only [fs]; done) | omega | (simp only [Knx]; omega) | (apply Nat.le_antisymm <;> simp only [Knx] <;> omega) | fail) only [wpy, fE, reduceLE, reduceLT, reduceLeDiff, UInt8.reduceToNat, ↓reduceIte, reduceEqDiff, reduceAdd, reduceCtorEq, reduceToNat, Tryd.f12]
    exact hX2.trans (hx.trans (hx3.trans (hx34.trans (hx5.trans (hx56.trans hx7)))))
end
end Go.Proofs.YtkibhdbmamfjcaaDoor
