/-
  Several texts of one walk, joined.
-/
import Derived.Test.YtfdfjifbhahekaaGreatDoorProg
import Derived.Test.YtfdfjifbhahekaaGreatDoorWxZ
import Derived.Test.YtfdfjifbhahekaaGreatDoorLyN
/-
  Facts of types and shapes of the program of this seat, for the rules.
-/
set_option linter.unusedSimpArgs false
set_option linter.unusedVariables false
set_option linter.defProp false
namespace Go.Proofs.YtfdfjifbhahekaaGreatDoor
open Go.Proofs Go.Lx Go.Wx
noncomputable section

theorem fa25_1 (k o : Nat) : fieldAddrV Tryz.prog 25 (.ptr k o) 1 = some (.ptr k (o + 1)) := by kernel_rfl
theorem ty23 : tyR Tryz.prog 23 = some (1, false) := by kernel_rfl
theorem ty25 : tyR Tryz.prog 25 = some (3, true) := by kernel_rfl
theorem fa25_2 (k o : Nat) : fieldAddrV Tryz.prog 25 (.ptr k o) 2 = some (.ptr k (o + 2)) := by kernel_rfl
theorem ty3 : tyR Tryz.prog 3 = some (1, false) := by kernel_rfl
theorem ia23 (k o n m : Nat) (kd : IntKind) (i : Int) : indexAddrV Tryz.prog 23 (.slice k o n m) (.int kd i) = if 0 ≤ i ∧ i < n then some (.ptr k (o + i.toNat * 1)) else none := indexAddr_slice (e := 9) (by kernel_rfl) (by kernel_rfl) k o n m kd i
theorem ty9 : tyR Tryz.prog 9 = some (1, false) := by kernel_rfl
theorem by44 : byteS Tryz.prog 44 = true := by kernel_rfl
theorem el44 : elemS Tryz.prog 44 = 5 := by kernel_rfl
theorem ia44 (k o n m : Nat) (kd : IntKind) (i : Int) : indexAddrV Tryz.prog 44 (.slice k o n m) (.int kd i) = if 0 ≤ i ∧ i < n then some (.ptr k (o + i.toNat * 1)) else none := indexAddr_slice (e := 5) (by kernel_rfl) (by kernel_rfl) k o n m kd i
theorem ty5 : tyR Tryz.prog 5 = some (1, false) := by kernel_rfl
noncomputable def factsT := And.intro @Tryz.underlying3 <| And.intro @Tryz.underlying4 <| And.intro @Tryz.underlying5 <| And.intro @Tryz.underlying9 <| And.intro @Tryz.underlying22 <| And.intro @Tryz.underlying23 <| And.intro @Tryz.underlying25 <| And.intro @Tryz.underlying27 <| And.intro @Tryz.underlying44 <| And.intro @Tryz.underlying251 <| And.intro @fa25_1 <| And.intro @ty23 <| And.intro @ty25 <| And.intro @fa25_2 <| And.intro @ty3 <| And.intro @ia23 <| And.intro @ty9 <| And.intro @by44 <| And.intro @el44 <| And.intro @ia44 <| @ty5

end
end Go.Proofs.YtfdfjifbhahekaaGreatDoor

/-
  The machine's setting for this seat; lists looked into, numbers mixed, whatever they are.
-/
set_option linter.unusedSimpArgs false
set_option linter.unusedVariables false
set_option linter.defProp false
set_option maxRecDepth 10000
namespace Go.Proofs.YtfdfjifbhahekaaGreatDoor
open Go.Proofs Go.Lx Go.Wx Go.IntWalk
noncomputable section

/-- the setting: what stands in for functions -/
structure Set0 where
  exts : List (FuncId × (List V → M V))
noncomputable def Set0.cfg (S : Set0) : Cfg := { P := Tryz.prog, lf := 0, gl := .leaf, sum := sums S.exts }
/-- these functions are gone into -/
structure Std (S : Set0) : Prop where
  own : ∀ f, f ∈ [7, 8, 9, 10, 20, 21, 37, 38] → sums S.exts f = none
/-- and these, where they do not stand in -/
structure StdK (S : Set0) : Prop extends Std S where
  ownK : ∀ f, f ∈ [5, 6] → sums S.exts f = none
theorem cfgP (S : Set0) : S.cfg.P = Tryz.prog := rfl
theorem cfgS (S : Set0) (f : FuncId) : S.cfg.sum f = sums S.exts f := rfl
noncomputable def facts := And.intro @cfgP <| @factsT


def Bytes (l : List Nat) : Prop := ∀ b ∈ l, b < 256
theorem u64_nat {n : Nat} (h : n < 2 ^ 64) : IntKind.u64.wrap (n : Int) = n := by
  unfold IntKind.wrap
  simp [IntKind.signed, IntKind.bits]
  omega
theorem getD_at {s : List Nat} {i : Nat} (h : i < s.length) : s.getD i 0 = s[i] := by rw [List.getD_eq_getElem?_getD, List.getElem?_eq_getElem h]; rfl
/-- two numbers mixed -/
def mix1 (z : Int) (k : Int) (m : Int) : Int := IntKind.u64.wrap (iXor .u64 z (iShr .u64 z k) * m)
def mixF (x y : Int) : Int :=
  let z := mix1 (mix1 (iXor .u64 x (IntKind.u64.wrap (y + 11400714819323198485))) 30 13787848793156543929) 27 10723151780598845931
  iXor .u64 z (iShr .u64 z 31)
/-- a number and a text mixed -/
def textF (x : Int) (s : List Nat) : Int := s.foldl (fun a b => mixF a (b : Nat)) (mixF x (s.length : Nat))
theorem foldl_take {x : Int} {s : List Nat} {i : Nat} (hi : i < s.length) : (s.take (i + 1)).foldl (fun a b => mixF a (b : Nat)) x = mixF ((s.take i).foldl (fun a b => mixF a (b : Nat)) x) (s[i] : Nat) := by
  rw [List.take_succ_eq_append_getElem hi, List.foldl_append]
  rfl

section
variable {c : Cfg} {Ok : Nat → Prop} {env : Env} {h : H} {K : V → H → Fp → Prop}
theorem gOp_true {op : Op} : gOp c Ok True op env h K = opW c Ok op env h K := by simp [gOp]
theorem gOp_false {op : Op} : gOp c Ok False op env h K = K undefV h (.lg []) := by simp [gOp]
end
variable {S : Set0} (hS : Std S)
include hS
theorem mix_spec (x y : Int) (h : H) : Exact S.cfg 7 [.int .u64 x, .int .u64 y] h (.int .u64 (mixF x y)) := by
  refine into Tryz.f7 _ Tryz.func7 (hS.own _ (by decide)) rfl rfl (by kernel_rfl) (by kernel_rfl) ?_
  simp +contextual (disch := first | (simp only [facts, clsL, clsS, clsC, isPtrD]; done) | omega | (simp only [push_nx, put_nx, del_nx]; omega) | (refine Nat.le_antisymm ?_ ?_ <;> simp only [push_nx, put_nx, del_nx] <;> omega) | fail) only [wpy, facts, wpb, cst, wpk, wpl, forall_const, implies_true, false_implies, Int.reduceLE, Int.reduceLT, Nat.reduceLeDiff, UInt8.reduceToNat, ↓reduceIte, Nat.reduceEqDiff, Nat.reduceAdd, reduceCtorEq, Int.reduceToNat, clsL, clsS, clsC, Tryz.f7]
  first | exact ⟨rfl, rfl⟩ | rfl
theorem rmix_spec (x y : Int) (h : H) : Exact S.cfg 8 [.int .u64 x, .int .u64 y] h (.int .u64 (mixF x y)) := by
  refine into Tryz.f8 _ Tryz.func8 (hS.own _ (by decide)) rfl rfl (by kernel_rfl) (by kernel_rfl) ?_
  simp +contextual (disch := first | (simp only [facts, clsL, clsS, clsC, isPtrD]; done) | omega | (simp only [push_nx, put_nx, del_nx]; omega) | (refine Nat.le_antisymm ?_ ?_ <;> simp only [push_nx, put_nx, del_nx] <;> omega) | fail) only [wpy, facts, wpb, cst, wpk, wpl, forall_const, implies_true, false_implies, Int.reduceLE, Int.reduceLT, Nat.reduceLeDiff, UInt8.reduceToNat, ↓reduceIte, Nat.reduceEqDiff, Nat.reduceAdd, reduceCtorEq, Int.reduceToNat, clsL, clsS, clsC, Tryz.f8]
  first | exact ⟨rfl, rfl⟩ | rfl
theorem mixt_spec (x : Int) (s : List Nat) (h : H) (hb : Bytes s) (hs : s.length < 2 ^ 62) : Exact S.cfg 9 [.int .u64 x, .str s] h (.int .u64 (textF x s)) := by
  refine into Tryz.f9 _ Tryz.func9 (hS.own _ (by decide)) rfl rfl (by kernel_rfl) (by kernel_rfl) ?_
  simp +contextual (disch := first | (simp only [facts, clsL, clsS, clsC, isPtrD]; done) | omega | (simp only [push_nx, put_nx, del_nx]; omega) | (refine Nat.le_antisymm ?_ ?_ <;> simp only [push_nx, put_nx, del_nx] <;> omega) | fail) only [wpy, facts, wpb, cst, wpk, wpl, forall_const, implies_true, false_implies, Int.reduceLE, Int.reduceLT, Nat.reduceLeDiff, UInt8.reduceToNat, ↓reduceIte, Nat.reduceEqDiff, Nat.reduceAdd, reduceCtorEq, Int.reduceToNat, clsL, clsS, clsC, Tryz.f9]
  refine callF_exact (mix_spec hS _ _ _) ?_
  simp +contextual (disch := first | (simp only [facts, clsL, clsS, clsC, isPtrD]; done) | omega | (simp only [push_nx, put_nx, del_nx]; omega) | (refine Nat.le_antisymm ?_ ?_ <;> simp only [push_nx, put_nx, del_nx] <;> omega) | fail) only [wpy, facts, wpb, cst, wpk, wpl, forall_const, implies_true, false_implies, Int.reduceLE, Int.reduceLT, Nat.reduceLeDiff, UInt8.reduceToNat, ↓reduceIte, Nat.reduceEqDiff, Nat.reduceAdd, reduceCtorEq, Int.reduceToNat, clsL, clsS, clsC, Tryz.f9]
  refine run_loop (fun k env h' => ∃ i : Nat, k = s.length - i ∧ i ≤ s.length ∧ env 0 = .int .u64 ((s.take i).foldl (fun a b => mixF a (b : Nat)) (mixF x (s.length : Nat))) ∧ env 1 = .str s ∧ env 12 = .int .i64 s.length ∧ env 13 = .int .i64 i ∧ h' = h) s.length ⟨0, ?_⟩ ?_
  · simp +contextual (disch := first | (simp only [facts, clsL, clsS, clsC, isPtrD]; done) | omega | (simp only [push_nx, put_nx, del_nx]; omega) | (refine Nat.le_antisymm ?_ ?_ <;> simp only [push_nx, put_nx, del_nx] <;> omega) | fail) only [wpy, facts, wpb, cst, wpk, wpl, forall_const, implies_true, false_implies, Int.reduceLE, Int.reduceLT, Nat.reduceLeDiff, UInt8.reduceToNat, ↓reduceIte, Nat.reduceEqDiff, Nat.reduceAdd, reduceCtorEq, Int.reduceToNat, clsL, clsS, clsC, u64_nat (show s.length < 2 ^ 64 by omega)]
    simp
  rintro k env h' ⟨i, rfl, hi, e0, e1, e12, e13, rfl⟩
  by_cases hi2 : i < s.length
  · have hg : s[i]? = some s[i] := List.getElem?_eq_getElem hi2
    have hlt : s[i] < 256 := hb _ (List.getElem_mem hi2)
    simp +contextual (disch := first | (simp only [facts, clsL, clsS, clsC, isPtrD]; done) | omega | (simp only [push_nx, put_nx, del_nx]; omega) | (refine Nat.le_antisymm ?_ ?_ <;> simp only [push_nx, put_nx, del_nx] <;> omega) | fail) only [wpy, facts, wpb, cst, wpk, wpl, forall_const, implies_true, false_implies, Int.reduceLE, Int.reduceLT, Nat.reduceLeDiff, UInt8.reduceToNat, ↓reduceIte, Nat.reduceEqDiff, Nat.reduceAdd, reduceCtorEq, Int.reduceToNat, clsL, clsS, clsC, Tryz.f9, e0, e1, e12, e13, hi2, hg]
    refine callF_exact (mix_spec hS _ _ _) ?_
    simp +contextual (disch := first | (simp only [facts, clsL, clsS, clsC, isPtrD]; done) | omega | (simp only [push_nx, put_nx, del_nx]; omega) | (refine Nat.le_antisymm ?_ ?_ <;> simp only [push_nx, put_nx, del_nx] <;> omega) | fail) only [wpy, facts, wpb, cst, wpk, wpl, forall_const, implies_true, false_implies, Int.reduceLE, Int.reduceLT, Nat.reduceLeDiff, UInt8.reduceToNat, ↓reduceIte, Nat.reduceEqDiff, Nat.reduceAdd, reduceCtorEq, Int.reduceToNat, clsL, clsS, clsC, Tryz.f9, e0, e1, e12, e13, hi2, hg]
    refine ⟨_, ?_, i + 1, rfl, by omega, ?_⟩
    · omega
    · rw [foldl_take hi2, getD_at hi2, u64_nat (show s[i] < 2 ^ 64 by omega)]
      exact ⟨rfl, rfl⟩
  · simp +contextual (disch := first | (simp only [facts, clsL, clsS, clsC, isPtrD]; done) | omega | (simp only [push_nx, put_nx, del_nx]; omega) | (refine Nat.le_antisymm ?_ ?_ <;> simp only [push_nx, put_nx, del_nx] <;> omega) | fail) only [wpy, facts, wpb, cst, wpk, wpl, forall_const, implies_true, false_implies, Int.reduceLE, Int.reduceLT, Nat.reduceLeDiff, UInt8.reduceToNat, ↓reduceIte, Nat.reduceEqDiff, Nat.reduceAdd, reduceCtorEq, Int.reduceToNat, clsL, clsS, clsC, Tryz.f9, e0, e1, e12, e13, hi2]
    rw [List.take_of_length_le (by omega)]
    rfl
theorem rmixt_spec (x : Int) (s : List Nat) (h : H) (hb : Bytes s) (hs : s.length < 2 ^ 62) : Exact S.cfg 10 [.int .u64 x, .str s] h (.int .u64 (textF x s)) := by
  refine into Tryz.f10 _ Tryz.func10 (hS.own _ (by decide)) rfl rfl (by kernel_rfl) (by kernel_rfl) ?_
  simp +contextual (disch := first | (simp only [facts, clsL, clsS, clsC, isPtrD]; done) | omega | (simp only [push_nx, put_nx, del_nx]; omega) | (refine Nat.le_antisymm ?_ ?_ <;> simp only [push_nx, put_nx, del_nx] <;> omega) | fail) only [wpy, facts, wpb, cst, wpk, wpl, forall_const, implies_true, false_implies, Int.reduceLE, Int.reduceLT, Nat.reduceLeDiff, UInt8.reduceToNat, ↓reduceIte, Nat.reduceEqDiff, Nat.reduceAdd, reduceCtorEq, Int.reduceToNat, clsL, clsS, clsC, Tryz.f10]
  refine callF_exact (rmix_spec hS _ _ _) ?_
  simp +contextual (disch := first | (simp only [facts, clsL, clsS, clsC, isPtrD]; done) | omega | (simp only [push_nx, put_nx, del_nx]; omega) | (refine Nat.le_antisymm ?_ ?_ <;> simp only [push_nx, put_nx, del_nx] <;> omega) | fail) only [wpy, facts, wpb, cst, wpk, wpl, forall_const, implies_true, false_implies, Int.reduceLE, Int.reduceLT, Nat.reduceLeDiff, UInt8.reduceToNat, ↓reduceIte, Nat.reduceEqDiff, Nat.reduceAdd, reduceCtorEq, Int.reduceToNat, clsL, clsS, clsC, Tryz.f10]
  refine run_loop (fun k env h' => ∃ i : Nat, k = s.length - i ∧ i ≤ s.length ∧ env 0 = .int .u64 ((s.take i).foldl (fun a b => mixF a (b : Nat)) (mixF x (s.length : Nat))) ∧ env 1 = .str s ∧ env 5 = .int .i64 i ∧ h' = h) s.length ⟨0, ?_⟩ ?_
  · simp +contextual (disch := first | (simp only [facts, clsL, clsS, clsC, isPtrD]; done) | omega | (simp only [push_nx, put_nx, del_nx]; omega) | (refine Nat.le_antisymm ?_ ?_ <;> simp only [push_nx, put_nx, del_nx] <;> omega) | fail) only [wpy, facts, wpb, cst, wpk, wpl, forall_const, implies_true, false_implies, Int.reduceLE, Int.reduceLT, Nat.reduceLeDiff, UInt8.reduceToNat, ↓reduceIte, Nat.reduceEqDiff, Nat.reduceAdd, reduceCtorEq, Int.reduceToNat, clsL, clsS, clsC, u64_nat (show s.length < 2 ^ 64 by omega)]
    simp
  rintro k env h' ⟨i, rfl, hi, e0, e1, e5, rfl⟩
  by_cases hi2 : i < s.length
  · have hg : s[i]? = some s[i] := List.getElem?_eq_getElem hi2
    have hlt : s[i] < 256 := hb _ (List.getElem_mem hi2)
    simp +contextual (disch := first | (simp only [facts, clsL, clsS, clsC, isPtrD]; done) | omega | (simp only [push_nx, put_nx, del_nx]; omega) | (refine Nat.le_antisymm ?_ ?_ <;> simp only [push_nx, put_nx, del_nx] <;> omega) | fail) only [wpy, facts, wpb, cst, wpk, wpl, forall_const, implies_true, false_implies, Int.reduceLE, Int.reduceLT, Nat.reduceLeDiff, UInt8.reduceToNat, ↓reduceIte, Nat.reduceEqDiff, Nat.reduceAdd, reduceCtorEq, Int.reduceToNat, clsL, clsS, clsC, Tryz.f10, e0, e1, e5, hi2, hg]
    refine callF_exact (rmix_spec hS _ _ _) ?_
    simp +contextual (disch := first | (simp only [facts, clsL, clsS, clsC, isPtrD]; done) | omega | (simp only [push_nx, put_nx, del_nx]; omega) | (refine Nat.le_antisymm ?_ ?_ <;> simp only [push_nx, put_nx, del_nx] <;> omega) | fail) only [wpy, facts, wpb, cst, wpk, wpl, forall_const, implies_true, false_implies, Int.reduceLE, Int.reduceLT, Nat.reduceLeDiff, UInt8.reduceToNat, ↓reduceIte, Nat.reduceEqDiff, Nat.reduceAdd, reduceCtorEq, Int.reduceToNat, clsL, clsS, clsC, Tryz.f10, e0, e1, e5, hi2, hg]
    refine ⟨_, ?_, i + 1, rfl, by omega, ?_⟩
    · omega
    · rw [foldl_take hi2, getD_at hi2, u64_nat (show s[i] < 2 ^ 64 by omega)]
      exact ⟨rfl, rfl⟩
  · simp +contextual (disch := first | (simp only [facts, clsL, clsS, clsC, isPtrD]; done) | omega | (simp only [push_nx, put_nx, del_nx]; omega) | (refine Nat.le_antisymm ?_ ?_ <;> simp only [push_nx, put_nx, del_nx] <;> omega) | fail) only [wpy, facts, wpb, cst, wpk, wpl, forall_const, implies_true, false_implies, Int.reduceLE, Int.reduceLT, Nat.reduceLeDiff, UInt8.reduceToNat, ↓reduceIte, Nat.reduceEqDiff, Nat.reduceAdd, reduceCtorEq, Int.reduceToNat, clsL, clsS, clsC, Tryz.f10, e0, e1, e5, hi2]
    rw [List.take_of_length_le (by omega)]
    rfl
/-- where a byte is, or nowhere -/
theorem idxB_spec (s : List Nat) (b n m : Nat) (e : TypeId) (fl : Bool) (h : H) (hn : n = s.length) (hs : s.length < 2 ^ 40) (hg : h.get b = some (.cells (bytesV s) e fl)) : callW S.cfg nil1 37 [.slice b 0 n m, .int .u8 0] h fun v h' => h' = h ∧ ∃ k : Int, v = .int .i64 k ∧ (0 ≤ k ↔ 0 ∈ s) := by
  subst hn
  refine into Tryz.f37 _ Tryz.func37 (hS.own _ (by decide)) rfl rfl (by kernel_rfl) (by kernel_rfl) ?_
  simp +contextual (disch := first | (simp only [facts, clsL, clsS, clsC, isPtrD]; done) | omega | (simp only [push_nx, put_nx, del_nx]; omega) | (refine Nat.le_antisymm ?_ ?_ <;> simp only [push_nx, put_nx, del_nx] <;> omega) | fail) only [wpy, facts, wpb, cst, wpk, wpl, forall_const, implies_true, false_implies, Int.reduceLE, Int.reduceLT, Nat.reduceLeDiff, UInt8.reduceToNat, ↓reduceIte, Nat.reduceEqDiff, Nat.reduceAdd, reduceCtorEq, Int.reduceToNat, clsL, clsS, clsC, Tryz.f37]
  refine run_loop (fun k env h' => ∃ i : Nat, k = s.length - i ∧ i ≤ s.length ∧ env 0 = .slice b 0 s.length m ∧ env 1 = .int .u8 0 ∧ env 7 = .int .i64 s.length ∧ env 8 = .int .i64 i ∧ h' = h ∧ 0 ∉ s.take i) s.length ⟨0, ?_⟩ ?_
  · simp +contextual (disch := first | (simp only [facts, clsL, clsS, clsC, isPtrD]; done) | omega | (simp only [push_nx, put_nx, del_nx]; omega) | (refine Nat.le_antisymm ?_ ?_ <;> simp only [push_nx, put_nx, del_nx] <;> omega) | fail) only [wpy, facts, wpb, cst, wpk, wpl, forall_const, implies_true, false_implies, Int.reduceLE, Int.reduceLT, Nat.reduceLeDiff, UInt8.reduceToNat, ↓reduceIte, Nat.reduceEqDiff, Nat.reduceAdd, reduceCtorEq, Int.reduceToNat, clsL, clsS, clsC]
    simp
  rintro k env h' ⟨i, rfl, hi, e0, e1, e7, e8, rfl, hno⟩
  by_cases hi2 : i < s.length
  · have hgi : (bytesV s)[i]? = some (.int .u8 (s[i] : Nat)) := by simp [bytesV, List.getElem?_map, List.getElem?_eq_getElem hi2]
    by_cases h0 : s[i] = 0
    · rw [h0] at hgi
      have hin : 0 ∈ s := by rw [← h0]; exact List.getElem_mem hi2
      simp +contextual (disch := first | (simp only [facts, clsL, clsS, clsC, isPtrD]; done) | omega | (simp only [push_nx, put_nx, del_nx]; omega) | (refine Nat.le_antisymm ?_ ?_ <;> simp only [push_nx, put_nx, del_nx] <;> omega) | fail) only [wpy, facts, wpb, cst, wpk, wpl, forall_const, implies_true, false_implies, Int.reduceLE, Int.reduceLT, Nat.reduceLeDiff, UInt8.reduceToNat, ↓reduceIte, Nat.reduceEqDiff, Nat.reduceAdd, reduceCtorEq, Int.reduceToNat, clsL, clsS, clsC, Tryz.f37, e0, e1, e7, e8, hi2, hg, hgi]
      exact ⟨_, rfl, by simp [hin]⟩
    · have h0' : ¬ (0 : Int) = (s[i] : Nat) := by omega
      simp +contextual (disch := first | (simp only [facts, clsL, clsS, clsC, isPtrD]; done) | omega | (simp only [push_nx, put_nx, del_nx]; omega) | (refine Nat.le_antisymm ?_ ?_ <;> simp only [push_nx, put_nx, del_nx] <;> omega) | fail) only [wpy, facts, wpb, cst, wpk, wpl, forall_const, implies_true, false_implies, Int.reduceLE, Int.reduceLT, Nat.reduceLeDiff, UInt8.reduceToNat, ↓reduceIte, Nat.reduceEqDiff, Nat.reduceAdd, reduceCtorEq, Int.reduceToNat, clsL, clsS, clsC, Tryz.f37, e0, e1, e7, e8, hi2, hg, hgi, h0, h0']
      refine ⟨_, ?_, i + 1, rfl, by omega, rfl, ?_⟩
      · omega
      rw [List.take_succ_eq_append_getElem hi2, List.mem_append]
      rintro (q | q)
      · exact hno q
      · rw [List.mem_singleton] at q
        exact h0 q.symm
  · simp +contextual (disch := first | (simp only [facts, clsL, clsS, clsC, isPtrD]; done) | omega | (simp only [push_nx, put_nx, del_nx]; omega) | (refine Nat.le_antisymm ?_ ?_ <;> simp only [push_nx, put_nx, del_nx] <;> omega) | fail) only [wpy, facts, wpb, cst, wpk, wpl, forall_const, implies_true, false_implies, Int.reduceLE, Int.reduceLT, Nat.reduceLeDiff, UInt8.reduceToNat, ↓reduceIte, Nat.reduceEqDiff, Nat.reduceAdd, reduceCtorEq, Int.reduceToNat, clsL, clsS, clsC, Tryz.f37, e0, e1, e7, e8, hi2]
    rw [List.take_of_length_le (by omega)] at hno
    exact ⟨_, rfl, by simp [hno]⟩
theorem conB_spec (s : List Nat) (b n m : Nat) (e : TypeId) (fl : Bool) (h : H) (hn : n = s.length) (hs : s.length < 2 ^ 40) (hg : h.get b = some (.cells (bytesV s) e fl)) : Exact S.cfg 20 [.slice b 0 n m, .int .u8 0] h (bo (0 ∈ s)) := by
  refine into Tryz.f20 _ Tryz.func20 (hS.own _ (by decide)) rfl rfl (by kernel_rfl) (by kernel_rfl) ?_
  simp +contextual (disch := first | (simp only [facts, clsL, clsS, clsC, isPtrD]; done) | omega | (simp only [push_nx, put_nx, del_nx]; omega) | (refine Nat.le_antisymm ?_ ?_ <;> simp only [push_nx, put_nx, del_nx] <;> omega) | fail) only [wpy, facts, wpb, cst, wpk, wpl, forall_const, implies_true, false_implies, Int.reduceLE, Int.reduceLT, Nat.reduceLeDiff, UInt8.reduceToNat, ↓reduceIte, Nat.reduceEqDiff, Nat.reduceAdd, reduceCtorEq, Int.reduceToNat, clsL, clsS, clsC, Tryz.f20]
  refine callF_of (idxB_spec hS s b n m e fl h hn hs hg) (fun k q => q.elim) ?_
  rintro v h1 ⟨rfl, k, rfl, hk⟩
  simp +contextual (disch := first | (simp only [facts, clsL, clsS, clsC, isPtrD]; done) | omega | (simp only [push_nx, put_nx, del_nx]; omega) | (refine Nat.le_antisymm ?_ ?_ <;> simp only [push_nx, put_nx, del_nx] <;> omega) | fail) only [wpy, facts, wpb, cst, wpk, wpl, forall_const, implies_true, false_implies, Int.reduceLE, Int.reduceLT, Nat.reduceLeDiff, UInt8.reduceToNat, ↓reduceIte, Nat.reduceEqDiff, Nat.reduceAdd, reduceCtorEq, Int.reduceToNat, clsL, clsS, clsC, Tryz.f20]
  first | exact ⟨congrArg bo (propext hk), rfl⟩ | exact congrArg bo (propext hk)
/-- where a text is among those that came in, or nowhere -/
theorem idxS_spec (ts : List (List Nat)) (t : List Nat) (b n m : Nat) (h : H) (hn : n ≤ ts.length) (hs : ts.length < 2 ^ 40) (hg : h.get b = some (.ro (ts.map V.str))) : callW S.cfg nil1 38 [.slice b 0 n m, .str t] h fun v h' => h' = h ∧ ∃ k : Int, v = .int .i64 k ∧ (0 ≤ k ↔ t ∈ ts.take n) := by
  refine into Tryz.f38 _ Tryz.func38 (hS.own _ (by decide)) rfl rfl (by kernel_rfl) (by kernel_rfl) ?_
  simp +contextual (disch := first | (simp only [facts, clsL, clsS, clsC, isPtrD]; done) | omega | (simp only [push_nx, put_nx, del_nx]; omega) | (refine Nat.le_antisymm ?_ ?_ <;> simp only [push_nx, put_nx, del_nx] <;> omega) | fail) only [wpy, facts, wpb, cst, wpk, wpl, forall_const, implies_true, false_implies, Int.reduceLE, Int.reduceLT, Nat.reduceLeDiff, UInt8.reduceToNat, ↓reduceIte, Nat.reduceEqDiff, Nat.reduceAdd, reduceCtorEq, Int.reduceToNat, clsL, clsS, clsC, Tryz.f38]
  refine run_loop (fun k env h' => ∃ i : Nat, k = n - i ∧ i ≤ n ∧ env 0 = .slice b 0 n m ∧ env 1 = .str t ∧ env 7 = .int .i64 n ∧ env 8 = .int .i64 i ∧ h' = h ∧ t ∉ ts.take i) n ⟨0, ?_⟩ ?_
  · simp +contextual (disch := first | (simp only [facts, clsL, clsS, clsC, isPtrD]; done) | omega | (simp only [push_nx, put_nx, del_nx]; omega) | (refine Nat.le_antisymm ?_ ?_ <;> simp only [push_nx, put_nx, del_nx] <;> omega) | fail) only [wpy, facts, wpb, cst, wpk, wpl, forall_const, implies_true, false_implies, Int.reduceLE, Int.reduceLT, Nat.reduceLeDiff, UInt8.reduceToNat, ↓reduceIte, Nat.reduceEqDiff, Nat.reduceAdd, reduceCtorEq, Int.reduceToNat, clsL, clsS, clsC]
    simp
  rintro k env h' ⟨i, rfl, hi, e0, e1, e7, e8, rfl, hno⟩
  by_cases hi2 : i < n
  · have hi3 : i < ts.length := by omega
    have hgi : (ts.map V.str)[i]? = some (.str ts[i]) := by rw [List.getElem?_map, List.getElem?_eq_getElem hi3]; rfl
    by_cases h0 : t = ts[i]
    · have hin : t ∈ ts.take n := by
        rw [h0]
        exact List.mem_take_iff_getElem.2 ⟨i, by omega, rfl⟩
      simp +contextual (disch := first | (simp only [facts, clsL, clsS, clsC, isPtrD]; done) | omega | (simp only [push_nx, put_nx, del_nx]; omega) | (refine Nat.le_antisymm ?_ ?_ <;> simp only [push_nx, put_nx, del_nx] <;> omega) | fail) only [wpy, facts, wpb, cst, wpk, wpl, forall_const, implies_true, false_implies, Int.reduceLE, Int.reduceLT, Nat.reduceLeDiff, UInt8.reduceToNat, ↓reduceIte, Nat.reduceEqDiff, Nat.reduceAdd, reduceCtorEq, Int.reduceToNat, clsL, clsS, clsC, Tryz.f38, e0, e1, e7, e8, hi2, hg, hgi, h0]
      rw [← h0]
      exact ⟨_, rfl, by simp [hin]⟩
    · simp +contextual (disch := first | (simp only [facts, clsL, clsS, clsC, isPtrD]; done) | omega | (simp only [push_nx, put_nx, del_nx]; omega) | (refine Nat.le_antisymm ?_ ?_ <;> simp only [push_nx, put_nx, del_nx] <;> omega) | fail) only [wpy, facts, wpb, cst, wpk, wpl, forall_const, implies_true, false_implies, Int.reduceLE, Int.reduceLT, Nat.reduceLeDiff, UInt8.reduceToNat, ↓reduceIte, Nat.reduceEqDiff, Nat.reduceAdd, reduceCtorEq, Int.reduceToNat, clsL, clsS, clsC, Tryz.f38, e0, e1, e7, e8, hi2, hg, hgi, h0]
      refine ⟨_, ?_, i + 1, rfl, by omega, rfl, ?_⟩
      · omega
      rw [List.take_succ_eq_append_getElem hi3, List.mem_append]
      rintro (q | q)
      · exact hno q
      · rw [List.mem_singleton] at q
        exact h0 q
  · simp +contextual (disch := first | (simp only [facts, clsL, clsS, clsC, isPtrD]; done) | omega | (simp only [push_nx, put_nx, del_nx]; omega) | (refine Nat.le_antisymm ?_ ?_ <;> simp only [push_nx, put_nx, del_nx] <;> omega) | fail) only [wpy, facts, wpb, cst, wpk, wpl, forall_const, implies_true, false_implies, Int.reduceLE, Int.reduceLT, Nat.reduceLeDiff, UInt8.reduceToNat, ↓reduceIte, Nat.reduceEqDiff, Nat.reduceAdd, reduceCtorEq, Int.reduceToNat, clsL, clsS, clsC, Tryz.f38, e0, e1, e7, e8, hi2]
    obtain rfl : i = n := by omega
    exact ⟨_, rfl, by simp [hno]⟩
theorem conS_spec (ts : List (List Nat)) (t : List Nat) (b n m : Nat) (h : H) (hn : n ≤ ts.length) (hs : ts.length < 2 ^ 40) (hg : h.get b = some (.ro (ts.map V.str))) : Exact S.cfg 21 [.slice b 0 n m, .str t] h (bo (t ∈ ts.take n)) := by
  refine into Tryz.f21 _ Tryz.func21 (hS.own _ (by decide)) rfl rfl (by kernel_rfl) (by kernel_rfl) ?_
  simp +contextual (disch := first | (simp only [facts, clsL, clsS, clsC, isPtrD]; done) | omega | (simp only [push_nx, put_nx, del_nx]; omega) | (refine Nat.le_antisymm ?_ ?_ <;> simp only [push_nx, put_nx, del_nx] <;> omega) | fail) only [wpy, facts, wpb, cst, wpk, wpl, forall_const, implies_true, false_implies, Int.reduceLE, Int.reduceLT, Nat.reduceLeDiff, UInt8.reduceToNat, ↓reduceIte, Nat.reduceEqDiff, Nat.reduceAdd, reduceCtorEq, Int.reduceToNat, clsL, clsS, clsC, Tryz.f21]
  refine callF_of (idxS_spec hS ts t b n m h hn hs hg) (fun k q => q.elim) ?_
  rintro v h1 ⟨rfl, k, rfl, hk⟩
  simp +contextual (disch := first | (simp only [facts, clsL, clsS, clsC, isPtrD]; done) | omega | (simp only [push_nx, put_nx, del_nx]; omega) | (refine Nat.le_antisymm ?_ ?_ <;> simp only [push_nx, put_nx, del_nx] <;> omega) | fail) only [wpy, facts, wpb, cst, wpk, wpl, forall_const, implies_true, false_implies, Int.reduceLE, Int.reduceLT, Nat.reduceLeDiff, UInt8.reduceToNat, ↓reduceIte, Nat.reduceEqDiff, Nat.reduceAdd, reduceCtorEq, Int.reduceToNat, clsL, clsS, clsC, Tryz.f21]
  first | exact ⟨congrArg bo (propext hk), rfl⟩ | exact congrArg bo (propext hk)
end
end Go.Proofs.YtfdfjifbhahekaaGreatDoor

/-
  Families checked, by the program and by the document's answer, whatever they are.
-/
set_option linter.unusedSimpArgs false
set_option linter.unusedVariables false
set_option linter.defProp false
set_option maxRecDepth 10000
namespace Go.Proofs.YtfdfjifbhahekaaGreatDoor
open Go.Proofs Go.Lx Go.Wx Go.IntWalk
noncomputable section

/-- may the i-th schema be? -/
def goodS (ts : List (List Nat)) (i : Nat) : Prop := ∃ h : i < ts.length, ts[i] ≠ [] ∧ ts[i].length ≤ 64 ∧ 0 ∉ ts[i] ∧ ts[i] ∉ ts.take i
/-- may the numbers be? -/
def headS (ts : List (List Nat)) (r : Int) : Prop := 1 ≤ ts.length ∧ ts.length ≤ 16 ∧ 0 ≤ r ∧ r ≤ 8
def okS (ts : List (List Nat)) (r : Int) : Prop := headS ts r ∧ ∀ i, i < ts.length → goodS ts i
noncomputable def famF (ts : List (List Nat)) (r : Int) : Int := @ite Int (okS ts r) (Classical.propDecidable _) 0 2
/-- schemas that came in -/
def Fam (h : H) (lv : V) (ts : List (List Nat)) : Prop := (lv = .nilslice ∧ ts = []) ∨ ∃ b m, lv = .slice b 0 ts.length m ∧ ts.length ≤ m ∧ b < h.nx ∧ h.get b = some (.ro (ts.map V.str))
theorem Fam.len {h : H} {lv : V} {ts : List (List Nat)} (hf : Fam h lv ts) : lenO (some (.slice 9)) lv = some (.int .i64 ts.length) := by
  rcases hf with ⟨rfl, rfl⟩ | ⟨b, m, rfl, _⟩ <;> rfl
theorem Fam.cell {h : H} {lv : V} {ts : List (List Nat)} (hf : Fam h lv ts) : lv.isCell = true ∧ lv.cells = [lv] := by
  rcases hf with ⟨rfl, _⟩ | ⟨b, m, rfl, _⟩ <;> exact ⟨rfl, rfl⟩
theorem Fam.ext {h h' : H} {lv : V} {ts : List (List Nat)} (hf : Fam h lv ts) (hx : Ext h h') : Fam h' lv ts := by
  rcases hf with h1 | ⟨b, m, h1, h2, h3, h4⟩
  · exact .inl h1
  · exact .inr ⟨b, m, h1, h2, Nat.lt_of_lt_of_le h3 hx.1, by rw [hx.2 b h3]; exact h4⟩
theorem Fam.at {h : H} {lv : V} {ts : List (List Nat)} (hf : Fam h lv ts) {i : Nat} (hi : i < ts.length) : ∃ b m, lv = .slice b 0 ts.length m ∧ ts.length ≤ m ∧ b < h.nx ∧ h.get b = some (.ro (ts.map V.str)) ∧ (ts.map V.str)[i]? = some (.str ts[i]) := by
  rcases hf with ⟨_, rfl⟩ | ⟨b, m, h1, h2, h3, h4⟩
  · cases hi
  · exact ⟨b, m, h1, h2, h3, h4, by rw [List.getElem?_map, List.getElem?_eq_getElem hi]; rfl⟩


theorem famF_yes {ts : List (List Nat)} {r : Int} (h : okS ts r) : famF ts r = 0 := by unfold famF; rw [if_pos h]
theorem famF_no {ts : List (List Nat)} {r : Int} (h : ¬ okS ts r) : famF ts r = 2 := by unfold famF; rw [if_neg h]
/-- the schemas ahead of a place may be, and the numbers -/
def upS (ts : List (List Nat)) (r : Int) (i : Nat) : Prop := headS ts r ∧ ∀ j, j < i → goodS ts j
theorem upS_zero {ts : List (List Nat)} {r : Int} : upS ts r 0 ↔ headS ts r := ⟨fun h => h.1, fun h => ⟨h, fun j hj => absurd hj (by omega)⟩⟩
theorem upS_succ {ts : List (List Nat)} {r : Int} {i : Nat} : upS ts r (i + 1) ↔ upS ts r i ∧ goodS ts i := by
  constructor
  · intro h
    exact ⟨⟨h.1, fun j hj => h.2 j (by omega)⟩, h.2 i (by omega)⟩
  · rintro ⟨h1, h2⟩
    refine ⟨h1.1, fun j hj => ?_⟩
    by_cases e : j = i
    · rw [e]; exact h2
    · exact h1.2 j (by omega)
theorem upS_all {ts : List (List Nat)} {r : Int} : upS ts r ts.length ↔ okS ts r := Iff.rfl

variable {S : Set0} (hS : StdK S)
include hS
set_option maxHeartbeats 1000000 in
theorem check_spec (a r : Int) (lv : V) (ts : List (List Nat)) (h : H) (hf : Fam h lv ts) (hl : ts.length ≤ 1000) : Pure S.cfg 5 [.agg [.int .u64 a, lv, .int .i64 r]] h fun v _ => v = .int .i64 (famF ts r) := by
  refine into Tryz.f5 _ Tryz.func5 (hS.ownK _ (by decide)) rfl rfl (by kernel_rfl) (by kernel_rfl) ?_
  have a1 := hf.len
  obtain ⟨c1, c2⟩ := hf.cell
  simp +contextual (disch := first | (simp only [facts, clsL, clsS, clsC, isPtrD]; done) | omega | (simp only [push_nx, put_nx, del_nx]; omega) | (refine Nat.le_antisymm ?_ ?_ <;> simp only [push_nx, put_nx, del_nx] <;> omega) | fail) only [wpy, facts, wpb, cst, wpk, wpl, forall_const, implies_true, false_implies, Int.reduceLE, Int.reduceLT, Nat.reduceLeDiff, UInt8.reduceToNat, ↓reduceIte, Nat.reduceEqDiff, Nat.reduceAdd, reduceCtorEq, Int.reduceToNat, clsL, clsS, clsC, Tryz.f5, a1, c1, c2]
  refine run_loop (fun k env h' => ∃ i : Nat, k = ts.length - i ∧ i ≤ ts.length ∧ env 1 = .ptr h.nx 0 ∧ env 3 = bo (upS ts r i) ∧ env 27 = lv ∧ env 28 = .int .i64 ts.length ∧ env 29 = .int .i64 i ∧ Ext h h' ∧ h.nx + 1 ≤ h'.nx ∧ h'.get h.nx = some (.cells [.int .u64 a, lv, .int .i64 r] 25 false)) ts.length ⟨0, ?_⟩ ?_
  · simp +contextual (disch := first | (simp only [facts, clsL, clsS, clsC, isPtrD]; done) | omega | (simp only [push_nx, put_nx, del_nx]; omega) | (refine Nat.le_antisymm ?_ ?_ <;> simp only [push_nx, put_nx, del_nx] <;> omega) | fail) only [wpy, facts, wpb, cst, wpk, wpl, forall_const, implies_true, false_implies, Int.reduceLE, Int.reduceLT, Nat.reduceLeDiff, UInt8.reduceToNat, ↓reduceIte, Nat.reduceEqDiff, Nat.reduceAdd, reduceCtorEq, Int.reduceToNat, clsL, clsS, clsC]
    refine ⟨by simp, ?_, (Ext.refl h).push _⟩
    congr 1
    rw [eq_iff_iff, upS_zero]
    unfold headS
    omega
  rintro k env h' ⟨i, rfl, hi, e1, e3, e27, e28, e29, hx, hn, hg⟩
  have hnb : ¬ h.nx = h'.nx := by omega
  by_cases hi2 : i < ts.length
  · obtain ⟨b, m, rfl, hm, hb, hgb, hgi⟩ := hf.at hi2
    have hgb' : h'.get b = some (.ro (ts.map V.str)) := by rw [hx.2 b hb]; exact hgb
    have hbn : ¬ b = h'.nx := by have := hx.1; omega
    have hbn' : ¬ b = h.nx := by omega
    by_cases hP : upS ts r i
    · rw [eq_true hP] at e3
      by_cases hq0 : ts[i] = []
      · have hng : ¬ upS ts r (i + 1) := fun q => (upS_succ.1 q).2.2.1 hq0
        simp +contextual (disch := first | (simp only [facts, clsL, clsS, clsC, isPtrD]; done) | omega | (simp only [push_nx, put_nx, del_nx]; omega) | (refine Nat.le_antisymm ?_ ?_ <;> simp only [push_nx, put_nx, del_nx] <;> omega) | fail) only [wpy, facts, wpb, cst, wpk, wpl, forall_const, implies_true, false_implies, Int.reduceLE, Int.reduceLT, Nat.reduceLeDiff, UInt8.reduceToNat, ↓reduceIte, Nat.reduceEqDiff, Nat.reduceAdd, reduceCtorEq, Int.reduceToNat, clsL, clsS, clsC, Tryz.f5, gOp_true, gOp_false, e1, e3, e27, e28, e29, hg, hgb', hgi, hi2, hnb, hq0]
        refine ⟨_, ?_, i + 1, rfl, by omega, ?_, rfl, hx, hn⟩
        · omega
        · rw [eq_false hng]
      · by_cases hq1 : ts[i].length ≤ 64
        · simp +contextual (disch := first | (simp only [facts, clsL, clsS, clsC, isPtrD]; done) | omega | (simp only [push_nx, put_nx, del_nx]; omega) | (refine Nat.le_antisymm ?_ ?_ <;> simp only [push_nx, put_nx, del_nx] <;> omega) | fail) only [wpy, facts, wpb, cst, wpk, wpl, forall_const, implies_true, false_implies, Int.reduceLE, Int.reduceLT, Nat.reduceLeDiff, UInt8.reduceToNat, ↓reduceIte, Nat.reduceEqDiff, Nat.reduceAdd, reduceCtorEq, Int.reduceToNat, clsL, clsS, clsC, Tryz.f5, gOp_true, gOp_false, e1, e3, e27, e28, e29, hg, hgb', hgi, hi2, hnb, hq0, hq1]
          refine callF_exact (conB_spec hS.toStd ts[i] _ _ _ _ _ _ rfl (by omega) (push_eq rfl)) ?_
          by_cases hq2 : 0 ∈ ts[i]
          · have hng : ¬ upS ts r (i + 1) := fun q => (upS_succ.1 q).2.2.2.2.1 hq2
            simp +contextual (disch := first | (simp only [facts, clsL, clsS, clsC, isPtrD]; done) | omega | (simp only [push_nx, put_nx, del_nx]; omega) | (refine Nat.le_antisymm ?_ ?_ <;> simp only [push_nx, put_nx, del_nx] <;> omega) | fail) only [wpy, facts, wpb, cst, wpk, wpl, forall_const, implies_true, false_implies, Int.reduceLE, Int.reduceLT, Nat.reduceLeDiff, UInt8.reduceToNat, ↓reduceIte, Nat.reduceEqDiff, Nat.reduceAdd, reduceCtorEq, Int.reduceToNat, clsL, clsS, clsC, Tryz.f5, gOp_true, gOp_false, e1, e3, e27, e28, e29, hg, hgb', hgi, hi2, hnb, hq0, hq1, hq2]
            refine ⟨_, ?_, i + 1, rfl, by omega, ?_, rfl, hx.push _, by omega⟩
            · omega
            · rw [eq_false hng]
          · simp +contextual (disch := first | (simp only [facts, clsL, clsS, clsC, isPtrD]; done) | omega | (simp only [push_nx, put_nx, del_nx]; omega) | (refine Nat.le_antisymm ?_ ?_ <;> simp only [push_nx, put_nx, del_nx] <;> omega) | fail) only [wpy, facts, wpb, cst, wpk, wpl, forall_const, implies_true, false_implies, Int.reduceLE, Int.reduceLT, Nat.reduceLeDiff, UInt8.reduceToNat, ↓reduceIte, Nat.reduceEqDiff, Nat.reduceAdd, reduceCtorEq, Int.reduceToNat, clsL, clsS, clsC, Tryz.f5, gOp_true, gOp_false, e1, e3, e27, e28, e29, hg, hgb', hgi, hi2, hnb, hbn, hq0, hq1, hq2]
            refine slice_row (e := 9) (kc := ts.length) (e' := 0) (fl := false) (sz := 1) (b := b) (o := 0) (n := ts.length) (m := m) (l := 0) (hh := i) (mm := m) (by kernel_rfl) (by kernel_rfl) ?_ ?_ (fun q => by cases q) ?_ (by omega) ?_
            · simp +contextual (disch := first | (simp only [facts, clsL, clsS, clsC, isPtrD]; done) | omega | (simp only [push_nx, put_nx, del_nx]; omega) | (refine Nat.le_antisymm ?_ ?_ <;> simp only [push_nx, put_nx, del_nx] <;> omega) | fail) only [wpy, facts, wpb, cst, wpk, wpl, forall_const, implies_true, false_implies, Int.reduceLE, Int.reduceLT, Nat.reduceLeDiff, UInt8.reduceToNat, ↓reduceIte, Nat.reduceEqDiff, Nat.reduceAdd, reduceCtorEq, Int.reduceToNat, clsL, clsS, clsC, e1, e27, hg]
            · rw [push_ne hbn, hgb']
              first | rfl | simp [blkSO, blkS]
            · simp +contextual (disch := first | (simp only [facts, clsL, clsS, clsC, isPtrD]; done) | omega | (simp only [push_nx, put_nx, del_nx]; omega) | (refine Nat.le_antisymm ?_ ?_ <;> simp only [push_nx, put_nx, del_nx] <;> omega) | fail) only [wpy, facts, wpb, cst, wpk, wpl, forall_const, implies_true, false_implies, Int.reduceLE, Int.reduceLT, Nat.reduceLeDiff, UInt8.reduceToNat, ↓reduceIte, Nat.reduceEqDiff, Nat.reduceAdd, reduceCtorEq, Int.reduceToNat, clsL, clsS, clsC, e29]
              exact bounds_hi (by omega)
            simp +contextual (disch := first | (simp only [facts, clsL, clsS, clsC, isPtrD]; done) | omega | (simp only [push_nx, put_nx, del_nx]; omega) | (refine Nat.le_antisymm ?_ ?_ <;> simp only [push_nx, put_nx, del_nx] <;> omega) | fail) only [wpy, facts, wpb, cst, wpk, wpl, forall_const, implies_true, false_implies, Int.reduceLE, Int.reduceLT, Nat.reduceLeDiff, UInt8.reduceToNat, ↓reduceIte, Nat.reduceEqDiff, Nat.reduceAdd, reduceCtorEq, Int.reduceToNat, clsL, clsS, clsC, Tryz.f5, gOp_true, gOp_false, e1, e3, e27, e28, e29, hg, hgb', hgi, hi2, hnb, hbn, hq0, hq1, hq2]
            refine callF_exact (conS_spec hS.toStd ts ts[i] b i m _ (by omega) (by omega) ?_) ?_
            · rw [push_ne hbn]; exact hgb'
            simp +contextual (disch := first | (simp only [facts, clsL, clsS, clsC, isPtrD]; done) | omega | (simp only [push_nx, put_nx, del_nx]; omega) | (refine Nat.le_antisymm ?_ ?_ <;> simp only [push_nx, put_nx, del_nx] <;> omega) | fail) only [wpy, facts, wpb, cst, wpk, wpl, forall_const, implies_true, false_implies, Int.reduceLE, Int.reduceLT, Nat.reduceLeDiff, UInt8.reduceToNat, ↓reduceIte, Nat.reduceEqDiff, Nat.reduceAdd, reduceCtorEq, Int.reduceToNat, clsL, clsS, clsC, Tryz.f5, gOp_true, gOp_false, e1, e3, e27, e28, e29, hg, hgb', hgi, hi2, hnb, hbn, hq0, hq1, hq2]
            refine ⟨_, ?_, i + 1, rfl, by omega, ?_, rfl, hx.push _, by omega⟩
            · omega
            · have : upS ts r (i + 1) ↔ ts[i] ∉ ts.take i := by
                rw [upS_succ]
                exact ⟨fun q => q.2.2.2.2.2, fun q => ⟨hP, hi2, hq0, hq1, hq2, q⟩⟩
              rw [propext this]
        · have hng : ¬ upS ts r (i + 1) := fun q => hq1 (upS_succ.1 q).2.2.2.1
          simp +contextual (disch := first | (simp only [facts, clsL, clsS, clsC, isPtrD]; done) | omega | (simp only [push_nx, put_nx, del_nx]; omega) | (refine Nat.le_antisymm ?_ ?_ <;> simp only [push_nx, put_nx, del_nx] <;> omega) | fail) only [wpy, facts, wpb, cst, wpk, wpl, forall_const, implies_true, false_implies, Int.reduceLE, Int.reduceLT, Nat.reduceLeDiff, UInt8.reduceToNat, ↓reduceIte, Nat.reduceEqDiff, Nat.reduceAdd, reduceCtorEq, Int.reduceToNat, clsL, clsS, clsC, Tryz.f5, gOp_true, gOp_false, e1, e3, e27, e28, e29, hg, hgb', hgi, hi2, hnb, hq0, hq1]
          refine ⟨_, ?_, i + 1, rfl, by omega, ?_, rfl, hx, hn⟩
          · omega
          · rw [eq_false hng]
    · have hng : ¬ upS ts r (i + 1) := fun q => hP (upS_succ.1 q).1
      rw [eq_false hP] at e3
      simp +contextual (disch := first | (simp only [facts, clsL, clsS, clsC, isPtrD]; done) | omega | (simp only [push_nx, put_nx, del_nx]; omega) | (refine Nat.le_antisymm ?_ ?_ <;> simp only [push_nx, put_nx, del_nx] <;> omega) | fail) only [wpy, facts, wpb, cst, wpk, wpl, forall_const, implies_true, false_implies, Int.reduceLE, Int.reduceLT, Nat.reduceLeDiff, UInt8.reduceToNat, ↓reduceIte, Nat.reduceEqDiff, Nat.reduceAdd, reduceCtorEq, Int.reduceToNat, clsL, clsS, clsC, Tryz.f5, gOp_true, gOp_false, e1, e3, e27, e28, e29, hg, hgb', hgi, hi2, hnb]
      refine ⟨_, ?_, i + 1, rfl, by omega, ?_, rfl, hx, hn⟩
      · omega
      · rw [eq_false hng]
  · obtain rfl : i = ts.length := by omega
    by_cases hP : upS ts r ts.length
    · rw [eq_true hP] at e3
      simp +contextual (disch := first | (simp only [facts, clsL, clsS, clsC, isPtrD]; done) | omega | (simp only [push_nx, put_nx, del_nx]; omega) | (refine Nat.le_antisymm ?_ ?_ <;> simp only [push_nx, put_nx, del_nx] <;> omega) | fail) only [wpy, facts, wpb, cst, wpk, wpl, forall_const, implies_true, false_implies, Int.reduceLE, Int.reduceLT, Nat.reduceLeDiff, UInt8.reduceToNat, ↓reduceIte, Nat.reduceEqDiff, Nat.reduceAdd, reduceCtorEq, Int.reduceToNat, clsL, clsS, clsC, Tryz.f5, gOp_true, gOp_false, e1, e3, e27, e28, e29, hi2]
      rw [famF_yes (upS_all.1 hP)]
      exact ⟨hx, rfl⟩
    · rw [eq_false hP] at e3
      simp +contextual (disch := first | (simp only [facts, clsL, clsS, clsC, isPtrD]; done) | omega | (simp only [push_nx, put_nx, del_nx]; omega) | (refine Nat.le_antisymm ?_ ?_ <;> simp only [push_nx, put_nx, del_nx] <;> omega) | fail) only [wpy, facts, wpb, cst, wpk, wpl, forall_const, implies_true, false_implies, Int.reduceLE, Int.reduceLT, Nat.reduceLeDiff, UInt8.reduceToNat, ↓reduceIte, Nat.reduceEqDiff, Nat.reduceAdd, reduceCtorEq, Int.reduceToNat, clsL, clsS, clsC, Tryz.f5, gOp_true, gOp_false, e1, e3, e27, e28, e29, hi2]
      rw [famF_no fun q => hP (upS_all.2 q)]
      exact ⟨hx, rfl⟩
set_option maxHeartbeats 1000000 in
theorem rcheck_spec (a r : Int) (lv : V) (ts : List (List Nat)) (h : H) (hf : Fam h lv ts) (hl : ts.length ≤ 1000) : Pure S.cfg 6 [.agg [.int .u64 a, lv, .int .i64 r]] h fun v _ => v = .int .i64 (famF ts r) := by
  refine into Tryz.f6 _ Tryz.func6 (hS.ownK _ (by decide)) rfl rfl (by kernel_rfl) (by kernel_rfl) ?_
  have a1 := hf.len
  obtain ⟨c1, c2⟩ := hf.cell
  simp +contextual (disch := first | (simp only [facts, clsL, clsS, clsC, isPtrD]; done) | omega | (simp only [push_nx, put_nx, del_nx]; omega) | (refine Nat.le_antisymm ?_ ?_ <;> simp only [push_nx, put_nx, del_nx] <;> omega) | fail) only [wpy, facts, wpb, cst, wpk, wpl, forall_const, implies_true, false_implies, Int.reduceLE, Int.reduceLT, Nat.reduceLeDiff, UInt8.reduceToNat, ↓reduceIte, Nat.reduceEqDiff, Nat.reduceAdd, reduceCtorEq, Int.reduceToNat, clsL, clsS, clsC, Tryz.f6, a1, c1, c2]
  refine ⟨fun q => ?_, fun q => ?_⟩
  · rw [famF_no]
    · exact ⟨(Ext.refl h).push _, rfl⟩
    · intro w
      have := w.1
      unfold headS at this
      omega
  have hhd : headS ts r := by unfold headS; omega
  have hgx : (h.push (Ob.cells [.int .u64 a, lv, .int .i64 r] 25 false)).get h.nx = some (Ob.cells [.int .u64 a, lv, .int .i64 r] 25 false) := push_eq rfl
  refine run_loop (fun k env h' => ∃ i : Nat, k = ts.length - i ∧ i ≤ ts.length ∧ env 1 = .ptr h.nx 0 ∧ env 3 = .int .i64 i ∧ h' = h.push (.cells [.int .u64 a, lv, .int .i64 r] 25 false) ∧ ∀ j, j < i → goodS ts j) ts.length ⟨0, ?_⟩ ?_
  · simp +contextual (disch := first | (simp only [facts, clsL, clsS, clsC, isPtrD]; done) | omega | (simp only [push_nx, put_nx, del_nx]; omega) | (refine Nat.le_antisymm ?_ ?_ <;> simp only [push_nx, put_nx, del_nx] <;> omega) | fail) only [wpy, facts, wpb, cst, wpk, wpl, forall_const, implies_true, false_implies, Int.reduceLE, Int.reduceLT, Nat.reduceLeDiff, UInt8.reduceToNat, ↓reduceIte, Nat.reduceEqDiff, Nat.reduceAdd, reduceCtorEq, Int.reduceToNat, clsL, clsS, clsC]
    exact ⟨by simp, fun j hj => absurd hj (by omega)⟩
  rintro k env h' ⟨i, rfl, hi, e1, e3, rfl, hgood⟩
  by_cases hi2 : i < ts.length
  · obtain ⟨b, m, rfl, hm, hb, hgb, hgi⟩ := hf.at hi2
    have hbn : ¬ b = h.nx := by omega
    have hgb' : (h.push (Ob.cells [.int .u64 a, .slice b 0 ts.length m, .int .i64 r] 25 false)).get b = some (.ro (ts.map V.str)) := by rw [push_ne hbn]; exact hgb
    by_cases hq : ts[i] = [] ∨ 64 < ts[i].length
    · have hng : ¬ okS ts r := fun q => by
        obtain ⟨_, g1, g2, _⟩ := q.2 i hi2
        rcases hq with hq | hq
        · exact g1 hq
        · omega
      rw [famF_no hng]
      simp +contextual (disch := first | (simp only [facts, clsL, clsS, clsC, isPtrD]; done) | omega | (simp only [push_nx, put_nx, del_nx]; omega) | (refine Nat.le_antisymm ?_ ?_ <;> simp only [push_nx, put_nx, del_nx] <;> omega) | fail) only [wpy, facts, wpb, cst, wpk, wpl, forall_const, implies_true, false_implies, Int.reduceLE, Int.reduceLT, Nat.reduceLeDiff, UInt8.reduceToNat, ↓reduceIte, Nat.reduceEqDiff, Nat.reduceAdd, reduceCtorEq, Int.reduceToNat, clsL, clsS, clsC, Tryz.f6, gOp_true, gOp_false, e1, e3, hgb', hgx, hgi, hi2, hbn]
      exact ⟨fun _ => (Ext.refl _).push _, fun w => absurd hq w⟩
    · have hq0 : ¬ ts[i] = [] := fun q => hq (.inl q)
      have hq1 : ts[i].length ≤ 64 := by omega
      have hq1' : ¬ 64 < ts[i].length := by omega
      simp +contextual (disch := first | (simp only [facts, clsL, clsS, clsC, isPtrD]; done) | omega | (simp only [push_nx, put_nx, del_nx]; omega) | (refine Nat.le_antisymm ?_ ?_ <;> simp only [push_nx, put_nx, del_nx] <;> omega) | fail) only [wpy, facts, wpb, cst, wpk, wpl, forall_const, implies_true, false_implies, Int.reduceLE, Int.reduceLT, Nat.reduceLeDiff, UInt8.reduceToNat, ↓reduceIte, Nat.reduceEqDiff, Nat.reduceAdd, reduceCtorEq, Int.reduceToNat, clsL, clsS, clsC, Tryz.f6, gOp_true, gOp_false, e1, e3, hgb', hgx, hgi, hi2, hbn, hq0, hq1, hq1']
      refine run_loop (fun k env h' => ∃ j : Nat, k = ts[i].length - j ∧ j ≤ ts[i].length ∧ env 1 = .ptr h.nx 0 ∧ env 3 = .int .i64 i ∧ env 4 = .str ts[i] ∧ env 5 = .int .i64 j ∧ h' = h.push (.cells [.int .u64 a, .slice b 0 ts.length m, .int .i64 r] 25 false) ∧ 0 ∉ ts[i].take j) ts[i].length ⟨0, ?_⟩ ?_
      · simp +contextual (disch := first | (simp only [facts, clsL, clsS, clsC, isPtrD]; done) | omega | (simp only [push_nx, put_nx, del_nx]; omega) | (refine Nat.le_antisymm ?_ ?_ <;> simp only [push_nx, put_nx, del_nx] <;> omega) | fail) only [wpy, facts, wpb, cst, wpk, wpl, forall_const, implies_true, false_implies, Int.reduceLE, Int.reduceLT, Nat.reduceLeDiff, UInt8.reduceToNat, ↓reduceIte, Nat.reduceEqDiff, Nat.reduceAdd, reduceCtorEq, Int.reduceToNat, clsL, clsS, clsC]
        exact ⟨by simp, e1, e3, by simp⟩
      rintro k env h' ⟨j, rfl, hj, e1, e3, e4, e5, rfl, hno⟩
      by_cases hj2 : j < ts[i].length
      · have hgj : ts[i][j]? = some ts[i][j] := List.getElem?_eq_getElem hj2
        by_cases hz : ts[i][j] = 0
        · have hng : ¬ okS ts r := fun q => by
            obtain ⟨_, _, _, g3, _⟩ := q.2 i hi2
            exact g3 (hz ▸ List.getElem_mem hj2)
          rw [famF_no hng]
          simp +contextual (disch := first | (simp only [facts, clsL, clsS, clsC, isPtrD]; done) | omega | (simp only [push_nx, put_nx, del_nx]; omega) | (refine Nat.le_antisymm ?_ ?_ <;> simp only [push_nx, put_nx, del_nx] <;> omega) | fail) only [wpy, facts, wpb, cst, wpk, wpl, forall_const, implies_true, false_implies, Int.reduceLE, Int.reduceLT, Nat.reduceLeDiff, UInt8.reduceToNat, ↓reduceIte, Nat.reduceEqDiff, Nat.reduceAdd, reduceCtorEq, Int.reduceToNat, clsL, clsS, clsC, Tryz.f6, gOp_true, gOp_false, e1, e3, e4, e5, hgb', hgx, hgj, hj2, hz]
          exact ⟨fun _ => (Ext.refl _).push _, fun w => absurd (by rw [getD_at hj2]; exact hz) w⟩
        · simp +contextual (disch := first | (simp only [facts, clsL, clsS, clsC, isPtrD]; done) | omega | (simp only [push_nx, put_nx, del_nx]; omega) | (refine Nat.le_antisymm ?_ ?_ <;> simp only [push_nx, put_nx, del_nx] <;> omega) | fail) only [wpy, facts, wpb, cst, wpk, wpl, forall_const, implies_true, false_implies, Int.reduceLE, Int.reduceLT, Nat.reduceLeDiff, UInt8.reduceToNat, ↓reduceIte, Nat.reduceEqDiff, Nat.reduceAdd, reduceCtorEq, Int.reduceToNat, clsL, clsS, clsC, Tryz.f6, gOp_true, gOp_false, e1, e3, e4, e5, hgb', hgx, hgj, hj2, hz]
          refine ⟨fun w => absurd (by rw [← getD_at hj2]; exact w) hz, fun _ => ⟨_, ?_, j + 1, rfl, by omega, rfl, ?_⟩⟩
          · omega
          rw [List.take_succ_eq_append_getElem hj2, List.mem_append]
          rintro (q | q)
          · exact hno q
          · rw [List.mem_singleton] at q
            exact hz q.symm
      · rw [List.take_of_length_le (by omega)] at hno
        simp +contextual (disch := first | (simp only [facts, clsL, clsS, clsC, isPtrD]; done) | omega | (simp only [push_nx, put_nx, del_nx]; omega) | (refine Nat.le_antisymm ?_ ?_ <;> simp only [push_nx, put_nx, del_nx] <;> omega) | fail) only [wpy, facts, wpb, cst, wpk, wpl, forall_const, implies_true, false_implies, Int.reduceLE, Int.reduceLT, Nat.reduceLeDiff, UInt8.reduceToNat, ↓reduceIte, Nat.reduceEqDiff, Nat.reduceAdd, reduceCtorEq, Int.reduceToNat, clsL, clsS, clsC, Tryz.f6, gOp_true, gOp_false, e1, e3, e4, e5, hgb', hgx, hj2]
        refine run_loop (fun k env h' => ∃ j : Nat, k = i - j ∧ j ≤ i ∧ env 1 = .ptr h.nx 0 ∧ env 3 = .int .i64 i ∧ env 4 = .str ts[i] ∧ env 6 = .int .i64 j ∧ h' = h.push (.cells [.int .u64 a, .slice b 0 ts.length m, .int .i64 r] 25 false) ∧ ts[i] ∉ ts.take j) i ⟨0, ?_⟩ ?_
        · simp +contextual (disch := first | (simp only [facts, clsL, clsS, clsC, isPtrD]; done) | omega | (simp only [push_nx, put_nx, del_nx]; omega) | (refine Nat.le_antisymm ?_ ?_ <;> simp only [push_nx, put_nx, del_nx] <;> omega) | fail) only [wpy, facts, wpb, cst, wpk, wpl, forall_const, implies_true, false_implies, Int.reduceLE, Int.reduceLT, Nat.reduceLeDiff, UInt8.reduceToNat, ↓reduceIte, Nat.reduceEqDiff, Nat.reduceAdd, reduceCtorEq, Int.reduceToNat, clsL, clsS, clsC]
          exact ⟨by simp, e1, e3, e4, by simp⟩
        rintro k env h' ⟨j, rfl, hj, e1, e3, e4, e6, rfl, hno2⟩
        by_cases hj2 : j < i
        · have hj3 : j < ts.length := by omega
          have hgj : (ts.map V.str)[j]? = some (.str ts[j]) := by rw [List.getElem?_map, List.getElem?_eq_getElem hj3]; rfl
          by_cases hz : ts[j] = ts[i]
          · have hng : ¬ okS ts r := fun q => by
              obtain ⟨_, _, _, _, g4⟩ := q.2 i hi2
              exact g4 (List.mem_take_iff_getElem.2 ⟨j, by omega, hz⟩)
            rw [famF_no hng]
            simp +contextual (disch := first | (simp only [facts, clsL, clsS, clsC, isPtrD]; done) | omega | (simp only [push_nx, put_nx, del_nx]; omega) | (refine Nat.le_antisymm ?_ ?_ <;> simp only [push_nx, put_nx, del_nx] <;> omega) | fail) only [wpy, facts, wpb, cst, wpk, wpl, forall_const, implies_true, false_implies, Int.reduceLE, Int.reduceLT, Nat.reduceLeDiff, UInt8.reduceToNat, ↓reduceIte, Nat.reduceEqDiff, Nat.reduceAdd, reduceCtorEq, Int.reduceToNat, clsL, clsS, clsC, Tryz.f6, gOp_true, gOp_false, e1, e3, e4, e6, hgb', hgx, hgj, hj2, hj3, hz]
            exact (Ext.refl _).push _
          · simp +contextual (disch := first | (simp only [facts, clsL, clsS, clsC, isPtrD]; done) | omega | (simp only [push_nx, put_nx, del_nx]; omega) | (refine Nat.le_antisymm ?_ ?_ <;> simp only [push_nx, put_nx, del_nx] <;> omega) | fail) only [wpy, facts, wpb, cst, wpk, wpl, forall_const, implies_true, false_implies, Int.reduceLE, Int.reduceLT, Nat.reduceLeDiff, UInt8.reduceToNat, ↓reduceIte, Nat.reduceEqDiff, Nat.reduceAdd, reduceCtorEq, Int.reduceToNat, clsL, clsS, clsC, Tryz.f6, gOp_true, gOp_false, e1, e3, e4, e6, hgb', hgx, hgj, hj2, hj3, hz]
            refine ⟨_, ?_, j + 1, rfl, by omega, rfl, ?_⟩
            · omega
            rw [List.take_succ_eq_append_getElem hj3, List.mem_append]
            rintro (q | q)
            · exact hno2 q
            · rw [List.mem_singleton] at q
              exact hz q.symm
        · obtain rfl : j = i := by omega
          simp +contextual (disch := first | (simp only [facts, clsL, clsS, clsC, isPtrD]; done) | omega | (simp only [push_nx, put_nx, del_nx]; omega) | (refine Nat.le_antisymm ?_ ?_ <;> simp only [push_nx, put_nx, del_nx] <;> omega) | fail) only [wpy, facts, wpb, cst, wpk, wpl, forall_const, implies_true, false_implies, Int.reduceLE, Int.reduceLT, Nat.reduceLeDiff, UInt8.reduceToNat, ↓reduceIte, Nat.reduceEqDiff, Nat.reduceAdd, reduceCtorEq, Int.reduceToNat, clsL, clsS, clsC, Tryz.f6, gOp_true, gOp_false, e1, e3, e4, e6, hgb', hgx, hj2]
          refine ⟨_, ?_, j + 1, rfl, by omega, rfl, fun k hk => ?_⟩
          · omega
          by_cases hkj : k < j
          · exact hgood k hkj
          · obtain rfl : k = j := by omega
            exact ⟨hi2, hq0, hq1, hno, hno2⟩
  · obtain rfl : i = ts.length := by omega
    simp +contextual (disch := first | (simp only [facts, clsL, clsS, clsC, isPtrD]; done) | omega | (simp only [push_nx, put_nx, del_nx]; omega) | (refine Nat.le_antisymm ?_ ?_ <;> simp only [push_nx, put_nx, del_nx] <;> omega) | fail) only [wpy, facts, wpb, cst, wpk, wpl, forall_const, implies_true, false_implies, Int.reduceLE, Int.reduceLT, Nat.reduceLeDiff, UInt8.reduceToNat, ↓reduceIte, Nat.reduceEqDiff, Nat.reduceAdd, reduceCtorEq, Int.reduceToNat, clsL, clsS, clsC, Tryz.f6, gOp_true, gOp_false, e1, e3, a1, hgx, hi2]
    rw [famF_yes ⟨hhd, hgood⟩]
    exact ⟨(Ext.refl _).push _, rfl⟩
end
end Go.Proofs.YtfdfjifbhahekaaGreatDoor

/-
  MachinePure: the law, walked.
-/
set_option linter.unusedSimpArgs false
set_option linter.unusedVariables false
set_option linter.defProp false
set_option maxRecDepth 10000
namespace Go.Proofs.YtfdfjifbhahekaaGreatDoor
open Go.Proofs Go.Lx Go.Wx Go.IntWalk
noncomputable section

theorem nice_famM (F : List (List Nat) → Int → Int) (vs : List V) : Nice (famM F vs) := by
  unfold famM
  repeat' (first | exact Nice.ret _ | exact Nice.err _ | exact Nice.ld _ _ _ | refine Nice.cond ?_ ?_ | refine Nice.bnd ?_ (fun _ => ?_) | split)
theorem famTs_of : ∀ (ts : List (List Nat)), famTs (ts.map V.str) = some ts
  | [] => rfl
  | t :: ts => by
    show (famTs (ts.map V.str)).map (t :: ·) = _
    rw [famTs_of ts]
    rfl
/-- the setting of the law -/
structure StdP (S : Set0) : Prop extends Std S where
  ownP : sums S.exts 3 = none
  chk : sums S.exts 5 = some (famM famF)
  rchk : sums S.exts 6 = some (famM famF)
  lives : ∀ h : H, Exact S.cfg 4 [] h (.bool true)
theorem fam_exact {S : Set0} {f : FuncId} (hs : sums S.exts f = some (famM famF)) (a r : Int) (lv : V) (ts : List (List Nat)) (h : H) (hf : Fam h lv ts) (hl : ts.length ≤ 1000) : Exact S.cfg f [.agg [.int .u64 a, lv, .int .i64 r]] h (.int .i64 (famF ts r)) := by
  rcases hf with ⟨rfl, rfl⟩ | ⟨b, m, rfl, hm, hb, hg⟩
  · exact callW_sum (s := h.st) hs (nice_famM _ _) rfl LogOk_nil ⟨rfl, rfl⟩
  · refine callW_sum (s := ⟨h.heap, h.nx, [.rd b 0 ts.length]⟩) hs (nice_famM _ _) ?_ ?_ ⟨rfl, rfl⟩
    · have hg' : h.heap.get b = some (.ro (ts.map V.str)) := hg
      show (bif Nat.ble ts.length 1000 then bnd (ld b 0 ts.length) fun cs => (match famTs cs with
        | some ts => Lx.ret (V.int .i64 (famF ts r))
        | none => err "fam") else err "fam") ⟨h.heap, h.nx, []⟩ = _
      rw [ble_iff.2 hl, cond_true]
      unfold Lx.bnd Lx.ld
      have hle : Nat.ble (0 + ts.length) (ts.map V.str).length = true := by simp
      have hsub : sub (ts.map V.str) 0 ts.length = ts.map V.str := by
        rw [sub, List.drop_zero, List.take_of_length_le (by simp)]
      simp only [hg', hle, cond_true, hsub, famTs_of]
      rfl
    · rw [LogOk_cons_rd]
      exact LogOk_nil

variable {S : Set0} (hS : StdP S)
include hS
set_option maxHeartbeats 1000000 in
theorem law_spec (a x y r : Int) (s : List Nat) (lv : V) (ts : List (List Nat)) (h : H) (hf : Fam h lv ts) (hb : Bytes s) (hs : s.length < 2 ^ 63) (hlt : ts.length < 2 ^ 63) : Pure S.cfg 3 [.agg [.int .u64 a, lv, .int .i64 r], .int .u64 x, .int .u64 y, .str s] h fun v _ => v = .bool true := by
  refine into Tryz.f3 _ Tryz.func3 hS.ownP rfl rfl (by kernel_rfl) (by kernel_rfl) ?_
  have a1 := hf.len
  obtain ⟨c1, c2⟩ := hf.cell
  simp +contextual (disch := first | (simp only [facts, clsL, clsS, clsC, isPtrD]; done) | omega | (simp only [push_nx, put_nx, del_nx]; omega) | (refine Nat.le_antisymm ?_ ?_ <;> simp only [push_nx, put_nx, del_nx] <;> omega) | fail) only [wpy, facts, wpb, cst, wpk, wpl, forall_const, implies_true, false_implies, Int.reduceLE, Int.reduceLT, Nat.reduceLeDiff, UInt8.reduceToNat, ↓reduceIte, Nat.reduceEqDiff, Nat.reduceAdd, reduceCtorEq, Int.reduceToNat, clsL, clsS, clsC, Tryz.f3, c1, c2]
  refine callF_exact (hS.lives _) ?_
  have hX := (Ext.refl h).push (Ob.cells [.int .u64 a, lv, .int .i64 r] 25 false)
  have hgx : (h.push (Ob.cells [.int .u64 a, lv, .int .i64 r] 25 false)).get h.nx = some (Ob.cells [.int .u64 a, lv, .int .i64 r] 25 false) := push_eq rfl
  by_cases hl : 100 < ts.length
  · simp +contextual (disch := first | (simp only [facts, clsL, clsS, clsC, isPtrD]; done) | omega | (simp only [push_nx, put_nx, del_nx]; omega) | (refine Nat.le_antisymm ?_ ?_ <;> simp only [push_nx, put_nx, del_nx] <;> omega) | fail) only [wpy, facts, wpb, cst, wpk, wpl, forall_const, implies_true, false_implies, Int.reduceLE, Int.reduceLT, Nat.reduceLeDiff, UInt8.reduceToNat, ↓reduceIte, Nat.reduceEqDiff, Nat.reduceAdd, reduceCtorEq, Int.reduceToNat, clsL, clsS, clsC, Tryz.f3, a1, c1, c2, hgx, hl]
    exact hX
  by_cases hl2 : 3000 < s.length
  · simp +contextual (disch := first | (simp only [facts, clsL, clsS, clsC, isPtrD]; done) | omega | (simp only [push_nx, put_nx, del_nx]; omega) | (refine Nat.le_antisymm ?_ ?_ <;> simp only [push_nx, put_nx, del_nx] <;> omega) | fail) only [wpy, facts, wpb, cst, wpk, wpl, forall_const, implies_true, false_implies, Int.reduceLE, Int.reduceLT, Nat.reduceLeDiff, UInt8.reduceToNat, ↓reduceIte, Nat.reduceEqDiff, Nat.reduceAdd, reduceCtorEq, Int.reduceToNat, clsL, clsS, clsC, Tryz.f3, a1, c1, c2, hgx, hl, hl2]
    exact hX
  simp +contextual (disch := first | (simp only [facts, clsL, clsS, clsC, isPtrD]; done) | omega | (simp only [push_nx, put_nx, del_nx]; omega) | (refine Nat.le_antisymm ?_ ?_ <;> simp only [push_nx, put_nx, del_nx] <;> omega) | fail) only [wpy, facts, wpb, cst, wpk, wpl, forall_const, implies_true, false_implies, Int.reduceLE, Int.reduceLT, Nat.reduceLeDiff, UInt8.reduceToNat, ↓reduceIte, Nat.reduceEqDiff, Nat.reduceAdd, reduceCtorEq, Int.reduceToNat, clsL, clsS, clsC, Tryz.f3, a1, c1, c2, hgx, hl, hl2]
  refine draw_by [(0, 2), (0, 3), (1, 2), (1, 3), (8, 11), (17, 20)] (by kernel_rfl) ?_
  simp +contextual (disch := first | (simp only [facts, clsL, clsS, clsC, isPtrD]; done) | omega | (simp only [push_nx, put_nx, del_nx]; omega) | (refine Nat.le_antisymm ?_ ?_ <;> simp only [push_nx, put_nx, del_nx] <;> omega) | fail) only [wpy, facts, wpb, cst, wpk, wpl, forall_const, implies_true, false_implies, Int.reduceLE, Int.reduceLT, Nat.reduceLeDiff, UInt8.reduceToNat, ↓reduceIte, Nat.reduceEqDiff, Nat.reduceAdd, reduceCtorEq, Int.reduceToNat, clsL, clsS, clsC, Tryz.f3, a1, c1, c2, hgx]
  refine callF_exact (fam_exact hS.chk a r lv ts _ (hf.ext hX) (by omega)) ?_
  simp +contextual (disch := first | (simp only [facts, clsL, clsS, clsC, isPtrD]; done) | omega | (simp only [push_nx, put_nx, del_nx]; omega) | (refine Nat.le_antisymm ?_ ?_ <;> simp only [push_nx, put_nx, del_nx] <;> omega) | fail) only [wpy, facts, wpb, cst, wpk, wpl, forall_const, implies_true, false_implies, Int.reduceLE, Int.reduceLT, Nat.reduceLeDiff, UInt8.reduceToNat, ↓reduceIte, Nat.reduceEqDiff, Nat.reduceAdd, reduceCtorEq, Int.reduceToNat, clsL, clsS, clsC, Tryz.f3, a1, c1, c2, hgx]
  refine callF_exact (fam_exact hS.rchk a r lv ts _ (hf.ext hX) (by omega)) ?_
  simp +contextual (disch := first | (simp only [facts, clsL, clsS, clsC, isPtrD]; done) | omega | (simp only [push_nx, put_nx, del_nx]; omega) | (refine Nat.le_antisymm ?_ ?_ <;> simp only [push_nx, put_nx, del_nx] <;> omega) | fail) only [wpy, facts, wpb, cst, wpk, wpl, forall_const, implies_true, false_implies, Int.reduceLE, Int.reduceLT, Nat.reduceLeDiff, UInt8.reduceToNat, ↓reduceIte, Nat.reduceEqDiff, Nat.reduceAdd, reduceCtorEq, Int.reduceToNat, clsL, clsS, clsC, Tryz.f3, a1, c1, c2, hgx]
  refine callF_exact (mix_spec hS.toStd x y _) ?_
  simp +contextual (disch := first | (simp only [facts, clsL, clsS, clsC, isPtrD]; done) | omega | (simp only [push_nx, put_nx, del_nx]; omega) | (refine Nat.le_antisymm ?_ ?_ <;> simp only [push_nx, put_nx, del_nx] <;> omega) | fail) only [wpy, facts, wpb, cst, wpk, wpl, forall_const, implies_true, false_implies, Int.reduceLE, Int.reduceLT, Nat.reduceLeDiff, UInt8.reduceToNat, ↓reduceIte, Nat.reduceEqDiff, Nat.reduceAdd, reduceCtorEq, Int.reduceToNat, clsL, clsS, clsC, Tryz.f3, a1, c1, c2, hgx]
  refine callF_exact (rmix_spec hS.toStd x y _) ?_
  simp +contextual (disch := first | (simp only [facts, clsL, clsS, clsC, isPtrD]; done) | omega | (simp only [push_nx, put_nx, del_nx]; omega) | (refine Nat.le_antisymm ?_ ?_ <;> simp only [push_nx, put_nx, del_nx] <;> omega) | fail) only [wpy, facts, wpb, cst, wpk, wpl, forall_const, implies_true, false_implies, Int.reduceLE, Int.reduceLT, Nat.reduceLeDiff, UInt8.reduceToNat, ↓reduceIte, Nat.reduceEqDiff, Nat.reduceAdd, reduceCtorEq, Int.reduceToNat, clsL, clsS, clsC, Tryz.f3, a1, c1, c2, hgx]
  refine callF_exact (mixt_spec hS.toStd x s _ hb (by omega)) ?_
  simp +contextual (disch := first | (simp only [facts, clsL, clsS, clsC, isPtrD]; done) | omega | (simp only [push_nx, put_nx, del_nx]; omega) | (refine Nat.le_antisymm ?_ ?_ <;> simp only [push_nx, put_nx, del_nx] <;> omega) | fail) only [wpy, facts, wpb, cst, wpk, wpl, forall_const, implies_true, false_implies, Int.reduceLE, Int.reduceLT, Nat.reduceLeDiff, UInt8.reduceToNat, ↓reduceIte, Nat.reduceEqDiff, Nat.reduceAdd, reduceCtorEq, Int.reduceToNat, clsL, clsS, clsC, Tryz.f3, a1, c1, c2, hgx]
  refine callF_exact (rmixt_spec hS.toStd x s _ hb (by omega)) ?_
  simp +contextual (disch := first | (simp only [facts, clsL, clsS, clsC, isPtrD]; done) | omega | (simp only [push_nx, put_nx, del_nx]; omega) | (refine Nat.le_antisymm ?_ ?_ <;> simp only [push_nx, put_nx, del_nx] <;> omega) | fail) only [wpy, facts, wpb, cst, wpk, wpl, forall_const, implies_true, false_implies, Int.reduceLE, Int.reduceLT, Nat.reduceLeDiff, UInt8.reduceToNat, ↓reduceIte, Nat.reduceEqDiff, Nat.reduceAdd, reduceCtorEq, Int.reduceToNat, clsL, clsS, clsC, Tryz.f3, a1, c1, c2, hgx]
  have hL : ldL (some (3, true)) (V.ptr h.nx 0) = [.rd h.nx 0 3] := rfl
  rw [hL]
  refine ⟨fun q hq => ?_, hX⟩
  simp only [List.mem_cons, List.not_mem_nil, or_false] at hq
  have k1 : fpApart (.lg [.rd h.nx 0 3]) (.lg [.rd h.nx 0 3]) := apart_w fun x hx y hy hw => by
    rw [List.mem_singleton.1 hx, List.mem_singleton.1 hy] at hw
    rcases hw with hw | hw <;> cases hw
  have k2 : fpApart (.lg [.rd h.nx 0 3]) (.cl (h.nx + 1) (h.nx + 1) nil1) := fun x hx => by
    rw [List.mem_singleton.1 hx]
    exact ⟨rfl, .inr (Nat.lt_succ_self _), id⟩
  have k3 : fpApart (.cl (h.nx + 1) (h.nx + 1) nil1) (.lg [.rd h.nx 0 3]) := fun x hx => by
    rw [List.mem_singleton.1 hx]
    exact .inr ⟨rfl, Nat.lt_succ_self _, id⟩
  have k4 : fpApart (.cl (h.nx + 1) (h.nx + 1) nil1) (.cl (h.nx + 1) (h.nx + 1) nil1) := ⟨Nat.le_refl _, fun _ => id, Nat.le_refl _, fun _ => id⟩
  rcases hq with rfl | rfl | rfl | rfl | rfl | rfl
  · exact pair_one rfl rfl k1
  · exact pair_one rfl rfl k2
  · exact pair_one rfl rfl k3
  · exact pair_one rfl rfl k4
  · exact pair_one rfl rfl k4
  · exact pair_one rfl rfl k4
end
end Go.Proofs.YtfdfjifbhahekaaGreatDoor
