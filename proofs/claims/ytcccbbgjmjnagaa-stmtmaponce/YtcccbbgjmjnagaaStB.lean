/-
  Several texts of one walk, joined.
-/
import Derived.Test.YtcccbbgjmjnagaaStA
import Derived.Test.YtcccbbgjmjnagaaRows
import Derived.Test.YtcccbbgjmjnagaaLyR
import Derived.Test.YtcccbbgjmjnagaaLyU
import Derived.Test.YtcccbbgjmjnagaaLyG
set_option linter.unusedSimpArgs false
set_option linter.unusedVariables false
set_option linter.unusedSectionVars false
set_option linter.defProp false
set_option maxRecDepth 10000
set_option maxHeartbeats 1000000
namespace Go.Proofs.Ytcccbbgjmjnagaa
open Go.Proofs Go.Lx Go.Wx Go.IntWalk
noncomputable section
structure Oi (p : PL) (G : List ST) : Prop where
  pin : ∀ s ∈ p.l, s.pins → s.conn ≠ 0
  pos : ∀ s ∈ p.l, s.conn ≠ 0 → 0 < s.conn ∧ s.back ≠ 0
  giv : ∀ s ∈ p.l, s.conn ≠ 0 → ∃ g ∈ G, g.conn = s.conn ∧ g.back = s.back
  apart : p.l.Pairwise fun s t => s.conn ≠ 0 → ¬ (s.conn = t.conn ∧ s.back = t.back)
def ApI (D : MD) (l : List ST) (lv : V) (h0 : H) (m : Nat) (env : Env) (h' : H) : Prop := ∃ j : Nat, m = l.length - j ∧ j ≤ l.length ∧ env 0 = .ptr D.b 0 ∧ env 3 = lv ∧ env 4 = bo (∃ s ∈ l.take j, s.pins) ∧ env 5 = .int .i64 j ∧ Ext h0 h'
def ApJ (D : MD) (l : List ST) (lv : V) (h0 : H) (j b : Nat) (q : Prop) (m : Nat) (env : Env) (h' : H) : Prop := ∃ k : Nat, m = j - k ∧ k ≤ j ∧ env 0 = .ptr D.b 0 ∧ env 3 = lv ∧ env 4 = bo q ∧ env 5 = .int .i64 j ∧ env 6 = .ptr b 0 ∧ env 7 = .int .i64 k ∧ h' = h0
theorem pins_take {l : List ST} {j : Nat} (hj : j < l.length) : (∃ s ∈ l.take (j + 1), s.pins) ↔ ((∃ s ∈ l.take j, s.pins) ∨ l[j].long) ∨ l[j].cur := by
  rw [List.take_succ_eq_append_getElem hj]
  constructor
  · rintro ⟨s, hs, hp⟩
    rcases List.mem_append.1 hs with q | q
    · exact .inl (.inl ⟨s, q, hp⟩)
    · rw [List.mem_singleton.1 q] at hp
      exact hp.elim (fun w => .inl (.inr w)) .inr
  · rintro ((⟨s, hs, hp⟩ | w) | w)
    · exact ⟨s, List.mem_append_left _ hs, hp⟩
    · exact ⟨_, List.mem_append_right _ (List.mem_singleton.2 rfl), .inl w⟩
    · exact ⟨_, List.mem_append_right _ (List.mem_singleton.2 rfl), .inr w⟩
variable {S : Set0} (hS : StdP S)
include hS
theorem apart_spec {D : MD} {P : MS} {h : H} (r : PR D P h) {G : List ST} (I : Oi P.pl G) : Pure S.cfg 19 [.ptr D.b 0] h fun v _ => v = bo True := by
  refine into Try.f19 _ Try.func19 (hS.ownP _ (by decide)) rfl rfl (by kernel_rfl) (by kernel_rfl) ?_
  simp +contextual (disch := first | (simp only [facts, clsL, clsS, clsC, isPtrD]; done) | omega | (simp only [push_nx, put_nx, del_nx]; omega) | (refine Nat.le_antisymm ?_ ?_ <;> simp only [push_nx, put_nx, del_nx] <;> omega) | fail) only [wpy, facts, wpb, cst, wpk, wpl, forall_const, implies_true, false_implies, Int.reduceLE, Int.reduceLT, Nat.reduceLeDiff, UInt8.reduceToNat, ↓reduceIte, Nat.reduceEqDiff, Nat.reduceAdd, reduceCtorEq, Int.reduceToNat, clsL, clsS, clsC, Try.f19]
  refine callF_pure (all_spec hS r) ?_
  intro lv h1 hx1 hL
  have hlen := lst_len8 (e := 31) hL
  have hf := r.few
  have hnl : P.pl.l.length = P.es.length := List.length_map ..
  obtain ⟨l, hl⟩ : ∃ l, l = P.pl.l := ⟨_, rfl⟩
  rw [← hl] at hL hlen hnl
  simp +contextual (disch := first | (simp only [facts, clsL, clsS, clsC, isPtrD]; done) | omega | (simp only [push_nx, put_nx, del_nx]; omega) | (refine Nat.le_antisymm ?_ ?_ <;> simp only [push_nx, put_nx, del_nx] <;> omega) | fail) only [wpy, facts, wpb, cst, wpk, wpl, forall_const, implies_true, false_implies, Int.reduceLE, Int.reduceLT, Nat.reduceLeDiff, UInt8.reduceToNat, ↓reduceIte, Nat.reduceEqDiff, Nat.reduceAdd, reduceCtorEq, Int.reduceToNat, clsL, clsS, clsC, Try.f19]
  refine run_loop (ApI D l lv h1) l.length ⟨0, (Nat.sub_zero _).symm, Nat.zero_le _, by simp +contextual (disch := first | (simp only [facts, clsL, clsS, clsC, isPtrD]; done) | omega | (simp only [push_nx, put_nx, del_nx]; omega) | (refine Nat.le_antisymm ?_ ?_ <;> simp only [push_nx, put_nx, del_nx] <;> omega) | fail) only [wpy, facts, wpb, cst, wpk, wpl, forall_const, implies_true, false_implies, Int.reduceLE, Int.reduceLT, Nat.reduceLeDiff, UInt8.reduceToNat, ↓reduceIte, Nat.reduceEqDiff, Nat.reduceAdd, reduceCtorEq, Int.reduceToNat, clsL, clsS, clsC], by simp +contextual (disch := first | (simp only [facts, clsL, clsS, clsC, isPtrD]; done) | omega | (simp only [push_nx, put_nx, del_nx]; omega) | (refine Nat.le_antisymm ?_ ?_ <;> simp only [push_nx, put_nx, del_nx] <;> omega) | fail) only [wpy, facts, wpb, cst, wpk, wpl, forall_const, implies_true, false_implies, Int.reduceLE, Int.reduceLT, Nat.reduceLeDiff, UInt8.reduceToNat, ↓reduceIte, Nat.reduceEqDiff, Nat.reduceAdd, reduceCtorEq, Int.reduceToNat, clsL, clsS, clsC], by simp +contextual (disch := first | (simp only [facts, clsL, clsS, clsC, isPtrD]; done) | omega | (simp only [push_nx, put_nx, del_nx]; omega) | (refine Nat.le_antisymm ?_ ?_ <;> simp only [push_nx, put_nx, del_nx] <;> omega) | fail) only [wpy, facts, wpb, cst, wpk, wpl, forall_const, implies_true, false_implies, Int.reduceLE, Int.reduceLT, Nat.reduceLeDiff, UInt8.reduceToNat, ↓reduceIte, Nat.reduceEqDiff, Nat.reduceAdd, reduceCtorEq, Int.reduceToNat, clsL, clsS, clsC]; exact congrArg bo (propext ⟨fun q => q.elim, fun ⟨s, hs, _⟩ => by cases hs⟩), by simp +contextual (disch := first | (simp only [facts, clsL, clsS, clsC, isPtrD]; done) | omega | (simp only [push_nx, put_nx, del_nx]; omega) | (refine Nat.le_antisymm ?_ ?_ <;> simp only [push_nx, put_nx, del_nx] <;> omega) | fail) only [wpy, facts, wpb, cst, wpk, wpl, forall_const, implies_true, false_implies, Int.reduceLE, Int.reduceLT, Nat.reduceLeDiff, UInt8.reduceToNat, ↓reduceIte, Nat.reduceEqDiff, Nat.reduceAdd, reduceCtorEq, Int.reduceToNat, clsL, clsS, clsC], Ext.refl _⟩ ?_
  rintro m env h2 ⟨j, rfl, hj, e0, e3, e4, e5, hx2⟩
  have hx02 := hx1.trans hx2
  by_cases hlt : j < l.length
  · obtain ⟨kb, rfl, kb0, kb1, hkb⟩ := lst_row8 hL (by omega)
    have x1 := stc_at hlt
    have x0 : j * 8 + 8 ≤ (stc l).length := by rw [stc_len]; omega
    have hkb2 : h2.get kb = some (.cells (stc l) 31 true) := by rw [hx2.2 _ kb1]; exact hkb
    unfold ST.cells at x1
    simp +contextual (disch := first | (simp only [facts, clsL, clsS, clsC, isPtrD]; done) | omega | (simp only [push_nx, put_nx, del_nx]; omega) | (refine Nat.le_antisymm ?_ ?_ <;> simp only [push_nx, put_nx, del_nx] <;> omega) | fail) only [wpy, facts, wpb, cst, wpk, wpl, forall_const, implies_true, false_implies, Int.reduceLE, Int.reduceLT, Nat.reduceLeDiff, UInt8.reduceToNat, ↓reduceIte, Nat.reduceEqDiff, Nat.reduceAdd, reduceCtorEq, Int.reduceToNat, clsL, clsS, clsC, Try.f19, e0, e3, e4, e5, hlen, hlt, hkb2, x0, x1]
    have hmem : l[j] ∈ P.pl.l := by rw [← hl]; exact List.getElem_mem hlt
    have hn2 := hx02.1
    have hpin : ¬ ((l[j].long ∨ l[j].cur) ∧ l[j].conn = 0) := fun q => I.pin _ hmem q.1 q.2
    refine ⟨.inr (by omega), fun q => absurd q hpin, fun _ => ?_⟩
    generalize hhA : (H.put (H.push h2 _) _ _) = hA
    have hxA : Ext h2 hA := by rw [← hhA]; exact ((Ext.refl h2).push _).put (Nat.le_refl _) _
    have hgA : hA.get h2.nx = some (.cells [.int .u32 l[j].id, .str l[j].text, .int .u16 l[j].pa, .int .u16 l[j].co, .int .i64 l[j].conn, .int .u32 l[j].back, bo l[j].long, bo l[j].cur] 31 false) := by rw [← hhA]; exact put_eq rfl
    clear hhA
    have hkbA : hA.get kb = some (.cells (stc l) 31 true) := by rw [hxA.2 _ (by have := hx2.1; omega)]; exact hkb2
    have hxhA := hx02.trans hxA
    refine run_loop (ApJ D l (.slice kb 0 l.length l.length) hA j h2.nx (∃ s ∈ l.take (j + 1), s.pins)) j ⟨0, (Nat.sub_zero _).symm, Nat.zero_le _, by simp +contextual (disch := first | (simp only [facts, clsL, clsS, clsC, isPtrD]; done) | omega | (simp only [push_nx, put_nx, del_nx]; omega) | (refine Nat.le_antisymm ?_ ?_ <;> simp only [push_nx, put_nx, del_nx] <;> omega) | fail) only [wpy, facts, wpb, cst, wpk, wpl, forall_const, implies_true, false_implies, Int.reduceLE, Int.reduceLT, Nat.reduceLeDiff, UInt8.reduceToNat, ↓reduceIte, Nat.reduceEqDiff, Nat.reduceAdd, reduceCtorEq, Int.reduceToNat, clsL, clsS, clsC, e0], by simp +contextual (disch := first | (simp only [facts, clsL, clsS, clsC, isPtrD]; done) | omega | (simp only [push_nx, put_nx, del_nx]; omega) | (refine Nat.le_antisymm ?_ ?_ <;> simp only [push_nx, put_nx, del_nx] <;> omega) | fail) only [wpy, facts, wpb, cst, wpk, wpl, forall_const, implies_true, false_implies, Int.reduceLE, Int.reduceLT, Nat.reduceLeDiff, UInt8.reduceToNat, ↓reduceIte, Nat.reduceEqDiff, Nat.reduceAdd, reduceCtorEq, Int.reduceToNat, clsL, clsS, clsC, e3], by simp +contextual (disch := first | (simp only [facts, clsL, clsS, clsC, isPtrD]; done) | omega | (simp only [push_nx, put_nx, del_nx]; omega) | (refine Nat.le_antisymm ?_ ?_ <;> simp only [push_nx, put_nx, del_nx] <;> omega) | fail) only [wpy, facts, wpb, cst, wpk, wpl, forall_const, implies_true, false_implies, Int.reduceLE, Int.reduceLT, Nat.reduceLeDiff, UInt8.reduceToNat, ↓reduceIte, Nat.reduceEqDiff, Nat.reduceAdd, reduceCtorEq, Int.reduceToNat, clsL, clsS, clsC]; exact congrArg bo (propext (pins_take hlt).symm), by simp +contextual (disch := first | (simp only [facts, clsL, clsS, clsC, isPtrD]; done) | omega | (simp only [push_nx, put_nx, del_nx]; omega) | (refine Nat.le_antisymm ?_ ?_ <;> simp only [push_nx, put_nx, del_nx] <;> omega) | fail) only [wpy, facts, wpb, cst, wpk, wpl, forall_const, implies_true, false_implies, Int.reduceLE, Int.reduceLT, Nat.reduceLeDiff, UInt8.reduceToNat, ↓reduceIte, Nat.reduceEqDiff, Nat.reduceAdd, reduceCtorEq, Int.reduceToNat, clsL, clsS, clsC, e5], by simp +contextual (disch := first | (simp only [facts, clsL, clsS, clsC, isPtrD]; done) | omega | (simp only [push_nx, put_nx, del_nx]; omega) | (refine Nat.le_antisymm ?_ ?_ <;> simp only [push_nx, put_nx, del_nx] <;> omega) | fail) only [wpy, facts, wpb, cst, wpk, wpl, forall_const, implies_true, false_implies, Int.reduceLE, Int.reduceLT, Nat.reduceLeDiff, UInt8.reduceToNat, ↓reduceIte, Nat.reduceEqDiff, Nat.reduceAdd, reduceCtorEq, Int.reduceToNat, clsL, clsS, clsC], by simp +contextual (disch := first | (simp only [facts, clsL, clsS, clsC, isPtrD]; done) | omega | (simp only [push_nx, put_nx, del_nx]; omega) | (refine Nat.le_antisymm ?_ ?_ <;> simp only [push_nx, put_nx, del_nx] <;> omega) | fail) only [wpy, facts, wpb, cst, wpk, wpl, forall_const, implies_true, false_implies, Int.reduceLE, Int.reduceLT, Nat.reduceLeDiff, UInt8.reduceToNat, ↓reduceIte, Nat.reduceEqDiff, Nat.reduceAdd, reduceCtorEq, Int.reduceToNat, clsL, clsS, clsC], rfl⟩ ?_
    rintro m env h3 ⟨k, rfl, hk, e0, e3, e4, e5, e6, e7, rfl⟩
    have hwj : IntKind.i64.wrap ((j : Int) + 1) = ((j + 1 : Nat) : Int) := by rw [i64_in _ (by omega)]; omega
    have hwk : IntKind.i64.wrap ((k : Int) + 1) = ((k + 1 : Nat) : Int) := by rw [i64_in _ (by omega)]; omega
    by_cases hkj : k < j
    · have hkl : k < l.length := by omega
      obtain ⟨y0, y1, y4, y5, y6, y7⟩ := eight_at (stc_at hkl)
      have hri : l[k].id < l[j].id := by
        have q := List.pairwise_iff_getElem.1 r.rise k j (by rw [List.length_map]; omega) (by rw [List.length_map]; omega) hkj
        rw [List.getElem_map, List.getElem_map] at q
        subst hl
        simpa [MS.pl] using q
      have hle : ¬ l[j].id ≤ l[k].id := by omega
      have hap := List.pairwise_iff_getElem.1 I.apart k j (by rw [← hl]; omega) (by rw [← hl]; omega) hkj
      have hap' : l[k].conn ≠ 0 → ¬ (l[k].conn = l[j].conn ∧ l[k].back = l[j].back) := by subst hl; exact hap
      have hnot : ¬ (¬ l[j].conn = 0 ∧ l[j].conn = l[k].conn ∧ l[j].back = l[k].back) := fun q => hap' (by rw [← q.2.1]; exact q.1) ⟨q.2.1.symm, q.2.2.symm⟩
      have nxt : ∀ (env' : Env), env' 0 = .ptr D.b 0 → env' 3 = .slice kb 0 l.length l.length → env' 4 = bo (∃ s ∈ l.take (j + 1), s.pins) → env' 5 = .int .i64 j → env' 6 = .ptr h2.nx 0 → env' 7 = .int .i64 (k + 1 : Nat) → ∃ m', m' < j - k ∧ ApJ D l (.slice kb 0 l.length l.length) h3 j h2.nx (∃ s ∈ l.take (j + 1), s.pins) m' env' h3 := fun env' q0 q3 q4 q5 q6 q7 => ⟨j - (k + 1), by omega, k + 1, rfl, hkj, q0, q3, q4, q5, q6, q7, rfl⟩
      simp +contextual (disch := first | (simp only [facts, clsL, clsS, clsC, isPtrD]; done) | omega | (simp only [push_nx, put_nx, del_nx]; omega) | (refine Nat.le_antisymm ?_ ?_ <;> simp only [push_nx, put_nx, del_nx] <;> omega) | fail) only [wpy, facts, wpb, cst, wpk, wpl, forall_const, implies_true, false_implies, Int.reduceLE, Int.reduceLT, Nat.reduceLeDiff, UInt8.reduceToNat, ↓reduceIte, Nat.reduceEqDiff, Nat.reduceAdd, reduceCtorEq, Int.reduceToNat, clsL, clsS, clsC, Try.f19, e0, e3, e4, e5, e6, e7, hkj, hkl]
      refine draw_by [] (by kernel_rfl) ?_
      by_cases hz : l[j].conn = 0
      · rw [hz] at hgA
        simp +contextual (disch := first | (simp only [facts, clsL, clsS, clsC, isPtrD]; done) | omega | (simp only [push_nx, put_nx, del_nx]; omega) | (refine Nat.le_antisymm ?_ ?_ <;> simp only [push_nx, put_nx, del_nx] <;> omega) | fail) only [wpy, facts, wpb, cst, wpk, wpl, forall_const, implies_true, false_implies, Int.reduceLE, Int.reduceLT, Nat.reduceLeDiff, UInt8.reduceToNat, ↓reduceIte, Nat.reduceEqDiff, Nat.reduceAdd, reduceCtorEq, Int.reduceToNat, clsL, clsS, clsC, Try.f19, e0, e3, e4, e5, e6, e7, hkj, hkl, hgA, hkbA, y0, y4, y5, hle, hz]
        exact ⟨fun p hp => (by cases hp), nxt _ (by simp +contextual (disch := first | (simp only [facts, clsL, clsS, clsC, isPtrD]; done) | omega | (simp only [push_nx, put_nx, del_nx]; omega) | (refine Nat.le_antisymm ?_ ?_ <;> simp only [push_nx, put_nx, del_nx] <;> omega) | fail) only [wpy, facts, wpb, cst, wpk, wpl, forall_const, implies_true, false_implies, Int.reduceLE, Int.reduceLT, Nat.reduceLeDiff, UInt8.reduceToNat, ↓reduceIte, Nat.reduceEqDiff, Nat.reduceAdd, reduceCtorEq, Int.reduceToNat, clsL, clsS, clsC, e0]) (by simp +contextual (disch := first | (simp only [facts, clsL, clsS, clsC, isPtrD]; done) | omega | (simp only [push_nx, put_nx, del_nx]; omega) | (refine Nat.le_antisymm ?_ ?_ <;> simp only [push_nx, put_nx, del_nx] <;> omega) | fail) only [wpy, facts, wpb, cst, wpk, wpl, forall_const, implies_true, false_implies, Int.reduceLE, Int.reduceLT, Nat.reduceLeDiff, UInt8.reduceToNat, ↓reduceIte, Nat.reduceEqDiff, Nat.reduceAdd, reduceCtorEq, Int.reduceToNat, clsL, clsS, clsC, e3]) (by simp +contextual (disch := first | (simp only [facts, clsL, clsS, clsC, isPtrD]; done) | omega | (simp only [push_nx, put_nx, del_nx]; omega) | (refine Nat.le_antisymm ?_ ?_ <;> simp only [push_nx, put_nx, del_nx] <;> omega) | fail) only [wpy, facts, wpb, cst, wpk, wpl, forall_const, implies_true, false_implies, Int.reduceLE, Int.reduceLT, Nat.reduceLeDiff, UInt8.reduceToNat, ↓reduceIte, Nat.reduceEqDiff, Nat.reduceAdd, reduceCtorEq, Int.reduceToNat, clsL, clsS, clsC, e4]) (by simp +contextual (disch := first | (simp only [facts, clsL, clsS, clsC, isPtrD]; done) | omega | (simp only [push_nx, put_nx, del_nx]; omega) | (refine Nat.le_antisymm ?_ ?_ <;> simp only [push_nx, put_nx, del_nx] <;> omega) | fail) only [wpy, facts, wpb, cst, wpk, wpl, forall_const, implies_true, false_implies, Int.reduceLE, Int.reduceLT, Nat.reduceLeDiff, UInt8.reduceToNat, ↓reduceIte, Nat.reduceEqDiff, Nat.reduceAdd, reduceCtorEq, Int.reduceToNat, clsL, clsS, clsC, e5]) (by simp +contextual (disch := first | (simp only [facts, clsL, clsS, clsC, isPtrD]; done) | omega | (simp only [push_nx, put_nx, del_nx]; omega) | (refine Nat.le_antisymm ?_ ?_ <;> simp only [push_nx, put_nx, del_nx] <;> omega) | fail) only [wpy, facts, wpb, cst, wpk, wpl, forall_const, implies_true, false_implies, Int.reduceLE, Int.reduceLT, Nat.reduceLeDiff, UInt8.reduceToNat, ↓reduceIte, Nat.reduceEqDiff, Nat.reduceAdd, reduceCtorEq, Int.reduceToNat, clsL, clsS, clsC, e6]) (by simp +contextual (disch := first | (simp only [facts, clsL, clsS, clsC, isPtrD]; done) | omega | (simp only [push_nx, put_nx, del_nx]; omega) | (refine Nat.le_antisymm ?_ ?_ <;> simp only [push_nx, put_nx, del_nx] <;> omega) | fail) only [wpy, facts, wpb, cst, wpk, wpl, forall_const, implies_true, false_implies, Int.reduceLE, Int.reduceLT, Nat.reduceLeDiff, UInt8.reduceToNat, ↓reduceIte, Nat.reduceEqDiff, Nat.reduceAdd, reduceCtorEq, Int.reduceToNat, clsL, clsS, clsC, e7, hwk])⟩
      by_cases hc : l[j].conn = l[k].conn
      · have hb : ¬ l[j].back = l[k].back := fun q => hnot ⟨hz, hc, q⟩
        rw [← hc] at y4
        simp +contextual (disch := first | (simp only [facts, clsL, clsS, clsC, isPtrD]; done) | omega | (simp only [push_nx, put_nx, del_nx]; omega) | (refine Nat.le_antisymm ?_ ?_ <;> simp only [push_nx, put_nx, del_nx] <;> omega) | fail) only [wpy, facts, wpb, cst, wpk, wpl, forall_const, implies_true, false_implies, Int.reduceLE, Int.reduceLT, Nat.reduceLeDiff, UInt8.reduceToNat, ↓reduceIte, Nat.reduceEqDiff, Nat.reduceAdd, reduceCtorEq, Int.reduceToNat, clsL, clsS, clsC, Try.f19, e0, e3, e4, e5, e6, e7, hkj, hkl, hgA, hkbA, y0, y4, y5, hle, hz, hb]
        exact ⟨fun p hp => (by cases hp), nxt _ (by simp +contextual (disch := first | (simp only [facts, clsL, clsS, clsC, isPtrD]; done) | omega | (simp only [push_nx, put_nx, del_nx]; omega) | (refine Nat.le_antisymm ?_ ?_ <;> simp only [push_nx, put_nx, del_nx] <;> omega) | fail) only [wpy, facts, wpb, cst, wpk, wpl, forall_const, implies_true, false_implies, Int.reduceLE, Int.reduceLT, Nat.reduceLeDiff, UInt8.reduceToNat, ↓reduceIte, Nat.reduceEqDiff, Nat.reduceAdd, reduceCtorEq, Int.reduceToNat, clsL, clsS, clsC, e0]) (by simp +contextual (disch := first | (simp only [facts, clsL, clsS, clsC, isPtrD]; done) | omega | (simp only [push_nx, put_nx, del_nx]; omega) | (refine Nat.le_antisymm ?_ ?_ <;> simp only [push_nx, put_nx, del_nx] <;> omega) | fail) only [wpy, facts, wpb, cst, wpk, wpl, forall_const, implies_true, false_implies, Int.reduceLE, Int.reduceLT, Nat.reduceLeDiff, UInt8.reduceToNat, ↓reduceIte, Nat.reduceEqDiff, Nat.reduceAdd, reduceCtorEq, Int.reduceToNat, clsL, clsS, clsC, e3]) (by simp +contextual (disch := first | (simp only [facts, clsL, clsS, clsC, isPtrD]; done) | omega | (simp only [push_nx, put_nx, del_nx]; omega) | (refine Nat.le_antisymm ?_ ?_ <;> simp only [push_nx, put_nx, del_nx] <;> omega) | fail) only [wpy, facts, wpb, cst, wpk, wpl, forall_const, implies_true, false_implies, Int.reduceLE, Int.reduceLT, Nat.reduceLeDiff, UInt8.reduceToNat, ↓reduceIte, Nat.reduceEqDiff, Nat.reduceAdd, reduceCtorEq, Int.reduceToNat, clsL, clsS, clsC, e4]) (by simp +contextual (disch := first | (simp only [facts, clsL, clsS, clsC, isPtrD]; done) | omega | (simp only [push_nx, put_nx, del_nx]; omega) | (refine Nat.le_antisymm ?_ ?_ <;> simp only [push_nx, put_nx, del_nx] <;> omega) | fail) only [wpy, facts, wpb, cst, wpk, wpl, forall_const, implies_true, false_implies, Int.reduceLE, Int.reduceLT, Nat.reduceLeDiff, UInt8.reduceToNat, ↓reduceIte, Nat.reduceEqDiff, Nat.reduceAdd, reduceCtorEq, Int.reduceToNat, clsL, clsS, clsC, e5]) (by simp +contextual (disch := first | (simp only [facts, clsL, clsS, clsC, isPtrD]; done) | omega | (simp only [push_nx, put_nx, del_nx]; omega) | (refine Nat.le_antisymm ?_ ?_ <;> simp only [push_nx, put_nx, del_nx] <;> omega) | fail) only [wpy, facts, wpb, cst, wpk, wpl, forall_const, implies_true, false_implies, Int.reduceLE, Int.reduceLT, Nat.reduceLeDiff, UInt8.reduceToNat, ↓reduceIte, Nat.reduceEqDiff, Nat.reduceAdd, reduceCtorEq, Int.reduceToNat, clsL, clsS, clsC, e6]) (by simp +contextual (disch := first | (simp only [facts, clsL, clsS, clsC, isPtrD]; done) | omega | (simp only [push_nx, put_nx, del_nx]; omega) | (refine Nat.le_antisymm ?_ ?_ <;> simp only [push_nx, put_nx, del_nx] <;> omega) | fail) only [wpy, facts, wpb, cst, wpk, wpl, forall_const, implies_true, false_implies, Int.reduceLE, Int.reduceLT, Nat.reduceLeDiff, UInt8.reduceToNat, ↓reduceIte, Nat.reduceEqDiff, Nat.reduceAdd, reduceCtorEq, Int.reduceToNat, clsL, clsS, clsC, e7, hwk])⟩
      · simp +contextual (disch := first | (simp only [facts, clsL, clsS, clsC, isPtrD]; done) | omega | (simp only [push_nx, put_nx, del_nx]; omega) | (refine Nat.le_antisymm ?_ ?_ <;> simp only [push_nx, put_nx, del_nx] <;> omega) | fail) only [wpy, facts, wpb, cst, wpk, wpl, forall_const, implies_true, false_implies, Int.reduceLE, Int.reduceLT, Nat.reduceLeDiff, UInt8.reduceToNat, ↓reduceIte, Nat.reduceEqDiff, Nat.reduceAdd, reduceCtorEq, Int.reduceToNat, clsL, clsS, clsC, Try.f19, e0, e3, e4, e5, e6, e7, hkj, hkl, hgA, hkbA, y0, y4, y5, hle, hz, hc]
        exact ⟨fun p hp => (by cases hp), nxt _ (by simp +contextual (disch := first | (simp only [facts, clsL, clsS, clsC, isPtrD]; done) | omega | (simp only [push_nx, put_nx, del_nx]; omega) | (refine Nat.le_antisymm ?_ ?_ <;> simp only [push_nx, put_nx, del_nx] <;> omega) | fail) only [wpy, facts, wpb, cst, wpk, wpl, forall_const, implies_true, false_implies, Int.reduceLE, Int.reduceLT, Nat.reduceLeDiff, UInt8.reduceToNat, ↓reduceIte, Nat.reduceEqDiff, Nat.reduceAdd, reduceCtorEq, Int.reduceToNat, clsL, clsS, clsC, e0]) (by simp +contextual (disch := first | (simp only [facts, clsL, clsS, clsC, isPtrD]; done) | omega | (simp only [push_nx, put_nx, del_nx]; omega) | (refine Nat.le_antisymm ?_ ?_ <;> simp only [push_nx, put_nx, del_nx] <;> omega) | fail) only [wpy, facts, wpb, cst, wpk, wpl, forall_const, implies_true, false_implies, Int.reduceLE, Int.reduceLT, Nat.reduceLeDiff, UInt8.reduceToNat, ↓reduceIte, Nat.reduceEqDiff, Nat.reduceAdd, reduceCtorEq, Int.reduceToNat, clsL, clsS, clsC, e3]) (by simp +contextual (disch := first | (simp only [facts, clsL, clsS, clsC, isPtrD]; done) | omega | (simp only [push_nx, put_nx, del_nx]; omega) | (refine Nat.le_antisymm ?_ ?_ <;> simp only [push_nx, put_nx, del_nx] <;> omega) | fail) only [wpy, facts, wpb, cst, wpk, wpl, forall_const, implies_true, false_implies, Int.reduceLE, Int.reduceLT, Nat.reduceLeDiff, UInt8.reduceToNat, ↓reduceIte, Nat.reduceEqDiff, Nat.reduceAdd, reduceCtorEq, Int.reduceToNat, clsL, clsS, clsC, e4]) (by simp +contextual (disch := first | (simp only [facts, clsL, clsS, clsC, isPtrD]; done) | omega | (simp only [push_nx, put_nx, del_nx]; omega) | (refine Nat.le_antisymm ?_ ?_ <;> simp only [push_nx, put_nx, del_nx] <;> omega) | fail) only [wpy, facts, wpb, cst, wpk, wpl, forall_const, implies_true, false_implies, Int.reduceLE, Int.reduceLT, Nat.reduceLeDiff, UInt8.reduceToNat, ↓reduceIte, Nat.reduceEqDiff, Nat.reduceAdd, reduceCtorEq, Int.reduceToNat, clsL, clsS, clsC, e5]) (by simp +contextual (disch := first | (simp only [facts, clsL, clsS, clsC, isPtrD]; done) | omega | (simp only [push_nx, put_nx, del_nx]; omega) | (refine Nat.le_antisymm ?_ ?_ <;> simp only [push_nx, put_nx, del_nx] <;> omega) | fail) only [wpy, facts, wpb, cst, wpk, wpl, forall_const, implies_true, false_implies, Int.reduceLE, Int.reduceLT, Nat.reduceLeDiff, UInt8.reduceToNat, ↓reduceIte, Nat.reduceEqDiff, Nat.reduceAdd, reduceCtorEq, Int.reduceToNat, clsL, clsS, clsC, e6]) (by simp +contextual (disch := first | (simp only [facts, clsL, clsS, clsC, isPtrD]; done) | omega | (simp only [push_nx, put_nx, del_nx]; omega) | (refine Nat.le_antisymm ?_ ?_ <;> simp only [push_nx, put_nx, del_nx] <;> omega) | fail) only [wpy, facts, wpb, cst, wpk, wpl, forall_const, implies_true, false_implies, Int.reduceLE, Int.reduceLT, Nat.reduceLeDiff, UInt8.reduceToNat, ↓reduceIte, Nat.reduceEqDiff, Nat.reduceAdd, reduceCtorEq, Int.reduceToNat, clsL, clsS, clsC, e7, hwk])⟩
    · have hke : k = j := by omega
      subst hke
      have hsj : P.es[k].s = l[k] := by subst hl; simp [MS.pl]
      by_cases hz : l[k].conn = 0
      · simp +contextual (disch := first | (simp only [facts, clsL, clsS, clsC, isPtrD]; done) | omega | (simp only [push_nx, put_nx, del_nx]; omega) | (refine Nat.le_antisymm ?_ ?_ <;> simp only [push_nx, put_nx, del_nx] <;> omega) | fail) only [wpy, facts, wpb, cst, wpk, wpl, forall_const, implies_true, false_implies, Int.reduceLE, Int.reduceLT, Nat.reduceLeDiff, UInt8.reduceToNat, ↓reduceIte, Nat.reduceEqDiff, Nat.reduceAdd, reduceCtorEq, Int.reduceToNat, clsL, clsS, clsC, Try.f19, e0, e3, e4, e5, e6, e7, hkj, hgA, hz]
        exact ⟨l.length - (k + 1), by omega, k + 1, rfl, hlt, by simp +contextual (disch := first | (simp only [facts, clsL, clsS, clsC, isPtrD]; done) | omega | (simp only [push_nx, put_nx, del_nx]; omega) | (refine Nat.le_antisymm ?_ ?_ <;> simp only [push_nx, put_nx, del_nx] <;> omega) | fail) only [wpy, facts, wpb, cst, wpk, wpl, forall_const, implies_true, false_implies, Int.reduceLE, Int.reduceLT, Nat.reduceLeDiff, UInt8.reduceToNat, ↓reduceIte, Nat.reduceEqDiff, Nat.reduceAdd, reduceCtorEq, Int.reduceToNat, clsL, clsS, clsC, e0], by simp +contextual (disch := first | (simp only [facts, clsL, clsS, clsC, isPtrD]; done) | omega | (simp only [push_nx, put_nx, del_nx]; omega) | (refine Nat.le_antisymm ?_ ?_ <;> simp only [push_nx, put_nx, del_nx] <;> omega) | fail) only [wpy, facts, wpb, cst, wpk, wpl, forall_const, implies_true, false_implies, Int.reduceLE, Int.reduceLT, Nat.reduceLeDiff, UInt8.reduceToNat, ↓reduceIte, Nat.reduceEqDiff, Nat.reduceAdd, reduceCtorEq, Int.reduceToNat, clsL, clsS, clsC, e3], by simp +contextual (disch := first | (simp only [facts, clsL, clsS, clsC, isPtrD]; done) | omega | (simp only [push_nx, put_nx, del_nx]; omega) | (refine Nat.le_antisymm ?_ ?_ <;> simp only [push_nx, put_nx, del_nx] <;> omega) | fail) only [wpy, facts, wpb, cst, wpk, wpl, forall_const, implies_true, false_implies, Int.reduceLE, Int.reduceLT, Nat.reduceLeDiff, UInt8.reduceToNat, ↓reduceIte, Nat.reduceEqDiff, Nat.reduceAdd, reduceCtorEq, Int.reduceToNat, clsL, clsS, clsC, e4], by simp +contextual (disch := first | (simp only [facts, clsL, clsS, clsC, isPtrD]; done) | omega | (simp only [push_nx, put_nx, del_nx]; omega) | (refine Nat.le_antisymm ?_ ?_ <;> simp only [push_nx, put_nx, del_nx] <;> omega) | fail) only [wpy, facts, wpb, cst, wpk, wpl, forall_const, implies_true, false_implies, Int.reduceLE, Int.reduceLT, Nat.reduceLeDiff, UInt8.reduceToNat, ↓reduceIte, Nat.reduceEqDiff, Nat.reduceAdd, reduceCtorEq, Int.reduceToNat, clsL, clsS, clsC], hx2.trans hxA⟩
      · have hon : onS P.es[k].s l[k].conn = .tuple [.int .u32 l[k].back, bo True, .int .i64 0] := by
          unfold onS
          rw [hsj, if_neg (by have := (I.pos _ hmem hz).1; omega), if_pos rfl]
        simp +contextual (disch := first | (simp only [facts, clsL, clsS, clsC, isPtrD]; done) | omega | (simp only [push_nx, put_nx, del_nx]; omega) | (refine Nat.le_antisymm ?_ ?_ <;> simp only [push_nx, put_nx, del_nx] <;> omega) | fail) only [wpy, facts, wpb, cst, wpk, wpl, forall_const, implies_true, false_implies, Int.reduceLE, Int.reduceLT, Nat.reduceLeDiff, UInt8.reduceToNat, ↓reduceIte, Nat.reduceEqDiff, Nat.reduceAdd, reduceCtorEq, Int.reduceToNat, clsL, clsS, clsC, Try.f19, e0, e3, e4, e5, e6, e7, hkj, hgA, hz]
        refine callF_exact (on_hit_spec hS (r.ext hxhA) (j := k) (by omega) (by rw [hsj]) l[k].conn) ?_
        rw [hon]
        simp +contextual (disch := first | (simp only [facts, clsL, clsS, clsC, isPtrD]; done) | omega | (simp only [push_nx, put_nx, del_nx]; omega) | (refine Nat.le_antisymm ?_ ?_ <;> simp only [push_nx, put_nx, del_nx] <;> omega) | fail) only [wpy, facts, wpb, cst, wpk, wpl, forall_const, implies_true, false_implies, Int.reduceLE, Int.reduceLT, Nat.reduceLeDiff, UInt8.reduceToNat, ↓reduceIte, Nat.reduceEqDiff, Nat.reduceAdd, reduceCtorEq, Int.reduceToNat, clsL, clsS, clsC, Try.f19, e0, e3, e4, e5, e6, e7, hgA]
        exact ⟨l.length - (k + 1), by omega, k + 1, rfl, hlt, by simp +contextual (disch := first | (simp only [facts, clsL, clsS, clsC, isPtrD]; done) | omega | (simp only [push_nx, put_nx, del_nx]; omega) | (refine Nat.le_antisymm ?_ ?_ <;> simp only [push_nx, put_nx, del_nx] <;> omega) | fail) only [wpy, facts, wpb, cst, wpk, wpl, forall_const, implies_true, false_implies, Int.reduceLE, Int.reduceLT, Nat.reduceLeDiff, UInt8.reduceToNat, ↓reduceIte, Nat.reduceEqDiff, Nat.reduceAdd, reduceCtorEq, Int.reduceToNat, clsL, clsS, clsC, e0], by simp +contextual (disch := first | (simp only [facts, clsL, clsS, clsC, isPtrD]; done) | omega | (simp only [push_nx, put_nx, del_nx]; omega) | (refine Nat.le_antisymm ?_ ?_ <;> simp only [push_nx, put_nx, del_nx] <;> omega) | fail) only [wpy, facts, wpb, cst, wpk, wpl, forall_const, implies_true, false_implies, Int.reduceLE, Int.reduceLT, Nat.reduceLeDiff, UInt8.reduceToNat, ↓reduceIte, Nat.reduceEqDiff, Nat.reduceAdd, reduceCtorEq, Int.reduceToNat, clsL, clsS, clsC, e3], by simp +contextual (disch := first | (simp only [facts, clsL, clsS, clsC, isPtrD]; done) | omega | (simp only [push_nx, put_nx, del_nx]; omega) | (refine Nat.le_antisymm ?_ ?_ <;> simp only [push_nx, put_nx, del_nx] <;> omega) | fail) only [wpy, facts, wpb, cst, wpk, wpl, forall_const, implies_true, false_implies, Int.reduceLE, Int.reduceLT, Nat.reduceLeDiff, UInt8.reduceToNat, ↓reduceIte, Nat.reduceEqDiff, Nat.reduceAdd, reduceCtorEq, Int.reduceToNat, clsL, clsS, clsC, e4], by simp +contextual (disch := first | (simp only [facts, clsL, clsS, clsC, isPtrD]; done) | omega | (simp only [push_nx, put_nx, del_nx]; omega) | (refine Nat.le_antisymm ?_ ?_ <;> simp only [push_nx, put_nx, del_nx] <;> omega) | fail) only [wpy, facts, wpb, cst, wpk, wpl, forall_const, implies_true, false_implies, Int.reduceLE, Int.reduceLT, Nat.reduceLeDiff, UInt8.reduceToNat, ↓reduceIte, Nat.reduceEqDiff, Nat.reduceAdd, reduceCtorEq, Int.reduceToNat, clsL, clsS, clsC], hx2.trans hxA⟩
  · have hje : j = l.length := by omega
    subst hje
    rw [List.take_length] at e4
    simp +contextual (disch := first | (simp only [facts, clsL, clsS, clsC, isPtrD]; done) | omega | (simp only [push_nx, put_nx, del_nx]; omega) | (refine Nat.le_antisymm ?_ ?_ <;> simp only [push_nx, put_nx, del_nx] <;> omega) | fail) only [wpy, facts, wpb, cst, wpk, wpl, forall_const, implies_true, false_implies, Int.reduceLE, Int.reduceLT, Nat.reduceLeDiff, UInt8.reduceToNat, ↓reduceIte, Nat.reduceEqDiff, Nat.reduceAdd, reduceCtorEq, Int.reduceToNat, clsL, clsS, clsC, Try.f19, e0, e3, e4, e5, hlen, hlt]
    refine callF_pure (allpins_spec hS (r.ext hx02)) ?_
    rintro v h3 hx3 rfl
    simp +contextual (disch := first | (simp only [facts, clsL, clsS, clsC, isPtrD]; done) | omega | (simp only [push_nx, put_nx, del_nx]; omega) | (refine Nat.le_antisymm ?_ ?_ <;> simp only [push_nx, put_nx, del_nx] <;> omega) | fail) only [wpy, facts, wpb, cst, wpk, wpl, forall_const, implies_true, false_implies, Int.reduceLE, Int.reduceLT, Nat.reduceLeDiff, UInt8.reduceToNat, ↓reduceIte, Nat.reduceEqDiff, Nat.reduceAdd, reduceCtorEq, Int.reduceToNat, clsL, clsS, clsC, Try.f19, e0, e3, e4, e5, eql4]
    exact ⟨hx02.trans hx3, congrArg bo (propext ⟨fun _ => trivial, fun _ => by rw [hl]; exact Iff.rfl⟩)⟩
end
noncomputable section
theorem Oi.sub {p : PL} {G : List ST} (I : Oi p G) {l : List ST} (hs : l.Sublist p.l) (n : Int) : Oi ⟨n, l⟩ G :=
  ⟨fun s h => I.pin s (hs.subset h), fun s h => I.pos s (hs.subset h), fun s h => I.giv s (hs.subset h), I.apart.sublist hs⟩
theorem Oi.add {p : PL} {G : List ST} (I : Oi p G) {s : ST} (ht : ¬ takenP G s.conn s.back) (he : addE p s = 0) : Oi (addP p s) (G ++ [s]) := by
  have hok : ¬ (s.conn < 0 ∨ ¬ (s.conn = 0 ↔ s.back = 0)) := fun q => by unfold addE at he; rw [if_pos q] at he; cases he
  have hc : ¬ s.conn < 0 := fun q => hok (.inl q)
  have hb : s.conn = 0 ↔ s.back = 0 := Classical.not_not.1 fun q => hok (.inr q)
  have e : addP p s = ⟨p.last + 1, p.l ++ [addS p s]⟩ := by unfold addP; rw [if_pos he]
  rw [e]
  have hm : ∀ t, t ∈ p.l ++ [addS p s] → t ∈ p.l ∨ t = addS p s := fun t h => by simpa using h
  refine ⟨fun t h hp => ?_, fun t h hz => ?_, fun t h hz => ?_, ?_⟩
  · rcases hm t h with q | rfl
    · exact I.pin t q hp
    · exact hp.elim (fun q => q.elim) fun q => q.elim
  · rcases hm t h with q | rfl
    · exact I.pos t q hz
    · have hz' : s.conn ≠ 0 := hz
      exact ⟨by show 0 < s.conn; omega, fun q => hz' (hb.2 q)⟩
  · rcases hm t h with q | rfl
    · obtain ⟨g, hg, h2⟩ := I.giv t q hz
      exact ⟨g, List.mem_append_left _ hg, h2⟩
    · exact ⟨s, List.mem_append_right _ (List.mem_singleton.2 rfl), rfl, rfl⟩
  · refine List.pairwise_append.2 ⟨I.apart, List.pairwise_singleton _ _, fun a ha b hb2 hz hq => ?_⟩
    rw [List.mem_singleton.1 hb2] at hq
    obtain ⟨g, hg, h1, h2⟩ := I.giv a ha hz
    refine ht ⟨fun q => ?_, g, hg, h1.trans hq.1, h2.trans hq.2⟩
    exact hz (hq.1.trans (hb.2 q))
theorem Oi.set {p : PL} {G : List ST} (I : Oi p G) {j : Nat} (hj : j < p.l.length) {s : ST} (h1 : s.pins → s.conn ≠ 0) (h2 : s.conn = p.l[j].conn) (h3 : s.back = p.l[j].back) : Oi { p with l := p.l.set j s } G := by
  have hmem : p.l[j] ∈ p.l := List.getElem_mem hj
  have e : (p.l.set j s).map (fun t => (t.conn, t.back)) = p.l.map fun t => (t.conn, t.back) := map_set_same _ hj (by simp only [h2, h3])
  refine ⟨fun t h hp => ?_, fun t h hz => ?_, fun t h hz => ?_, ?_⟩
  · rcases List.mem_or_eq_of_mem_set h with q | rfl
    · exact I.pin t q hp
    · exact h1 hp
  · rcases List.mem_or_eq_of_mem_set h with q | rfl
    · exact I.pos t q hz
    · rw [h2] at hz ⊢; rw [h3]; exact I.pos _ hmem hz
  · rcases List.mem_or_eq_of_mem_set h with q | rfl
    · exact I.giv t q hz
    · rw [h2] at hz ⊢; rw [h3]; exact I.giv _ hmem hz
  · have q : (p.l.map fun t => (t.conn, t.back)).Pairwise fun a b : Int × Int => a.1 ≠ 0 → ¬ (a.1 = b.1 ∧ a.2 = b.2) := List.pairwise_map.2 I.apart
    rw [← e] at q
    exact List.pairwise_map.1 q
theorem Oi.bind {p : PL} {G : List ST} (I : Oi p G) {j : Nat} (hj : j < p.l.length) {conn back : Int} {g : ST} (hg : g.conn = conn ∧ g.back = back) (ht : ¬ takenP G conn back) (he : bindE p.l[j] conn back = 0) : Oi { p with l := p.l.set j (bindS p.l[j] conn back) } (G ++ [g]) := by
  have hok : ¬ (conn < 1 ∨ back = 0) := fun q => by unfold bindE at he; rw [if_pos q] at he; cases he
  have hc : 0 < conn := by have : ¬ conn < 1 := fun q => hok (.inl q); omega
  have hb : back ≠ 0 := fun q => hok (.inr q)
  have hp : ¬ p.l[j].pins := fun q => by unfold bindE at he; rw [if_neg hok, if_pos q] at he; cases he
  have e : bindS p.l[j] conn back = { p.l[j] with conn := conn, back := back } := by unfold bindS; rw [if_pos he]
  rw [e]
  have hno : ∀ t ∈ p.l, t.conn ≠ 0 → ¬ (t.conn = conn ∧ t.back = back) := fun t h hz hq => by
    obtain ⟨g0, hg0, q1, q2⟩ := I.giv t h hz
    exact ht ⟨hb, g0, hg0, q1.trans hq.1, q2.trans hq.2⟩
  refine ⟨fun t h hp2 => ?_, fun t h hz => ?_, fun t h hz => ?_, ?_⟩
  · rcases List.mem_or_eq_of_mem_set h with q | rfl
    · exact I.pin t q hp2
    · exact (hp hp2).elim
  · rcases List.mem_or_eq_of_mem_set h with q | rfl
    · exact I.pos t q hz
    · exact ⟨hc, hb⟩
  · rcases List.mem_or_eq_of_mem_set h with q | rfl
    · obtain ⟨g0, hg0, h2⟩ := I.giv t q hz
      exact ⟨g0, List.mem_append_left _ hg0, h2⟩
    · exact ⟨g, List.mem_append_right _ (List.mem_singleton.2 rfl), hg⟩
  · refine List.pairwise_iff_getElem.2 fun a b ha hb2 hab hz hq => ?_
    have ha' : a < p.l.length := by simpa using ha
    have hb' : b < p.l.length := by simpa using hb2
    by_cases haj : j = a
    · subst haj
      have hbj : j ≠ b := by omega
      simp only [List.getElem_set_self, List.getElem_set_ne hbj] at hq hz
      have hz2 : p.l[b].conn ≠ 0 := fun w => by
        have h1 : conn = p.l[b].conn := hq.1
        omega
      exact hno _ (List.getElem_mem hb') hz2 ⟨hq.1.symm, hq.2.symm⟩
    · by_cases hbj : j = b
      · subst hbj
        simp only [List.getElem_set_self, List.getElem_set_ne haj] at hq hz
        exact hno _ (List.getElem_mem ha') hz hq
      · simp only [List.getElem_set_ne haj, List.getElem_set_ne hbj] at hq hz
        exact List.pairwise_iff_getElem.1 I.apart a b ha' hb' hab hz hq
theorem Oi.more {p : PL} {G : List ST} (I : Oi p G) (g : ST) : Oi p (G ++ [g]) :=
  ⟨I.pin, I.pos, fun s h hz => by obtain ⟨g0, h0, h1⟩ := I.giv s h hz; exact ⟨g0, List.mem_append_left _ h0, h1⟩, I.apart⟩
theorem unbR_cases (conn : Int) (s : ST) : unbR conn s = s ∨ unbR conn s = unbS s := by unfold unbR; split <;> simp
theorem Oi.unb {p : PL} {G : List ST} (I : Oi p G) (conn : Int) : Oi ⟨p.last, p.l.map (unbR conn)⟩ G := by
  have key : ∀ t, t ∈ p.l.map (unbR conn) → ∃ s ∈ p.l, t = unbR conn s := fun t h => by
    obtain ⟨s, hs, rfl⟩ := List.mem_map.1 h
    exact ⟨s, hs, rfl⟩
  have zero : ∀ s : ST, (unbS s).conn = 0 := fun _ => rfl
  have nop : ∀ s : ST, ¬ (unbS s).pins := fun s q => q.elim (fun w => w) fun w => w
  refine ⟨fun t h hp => ?_, fun t h hz => ?_, fun t h hz => ?_, ?_⟩
  · obtain ⟨s, hs, rfl⟩ := key t h
    rcases unbR_cases conn s with q | q
    · rw [q] at hp ⊢; exact I.pin s hs hp
    · rw [q] at hp; exact (nop s hp).elim
  · obtain ⟨s, hs, rfl⟩ := key t h
    rcases unbR_cases conn s with q | q
    · rw [q] at hz ⊢; exact I.pos s hs hz
    · rw [q] at hz; exact (hz (zero s)).elim
  · obtain ⟨s, hs, rfl⟩ := key t h
    rcases unbR_cases conn s with q | q
    · rw [q] at hz ⊢; exact I.giv s hs hz
    · rw [q] at hz; exact (hz (zero s)).elim
  · refine List.pairwise_map.2 (I.apart.imp fun {a b} hab hz hq => ?_)
    rcases unbR_cases conn a with q | q
    · rw [q] at hz hq
      rcases unbR_cases conn b with w | w
      · rw [w] at hq; exact hab hz hq
      · rw [w, zero b] at hq; exact hz hq.1
    · rw [q] at hz; exact hz (zero a)
structure Bd (T : Int) (P : MS) : Prop where
  lo : 0 ≤ P.last
  hi : P.last ≤ T
  ids : ∀ e ∈ P.es, e.s.id ≤ P.last
  few : P.es.length ≤ 256
theorem Bd.of_pl {T : Int} {P : MS} (h1 : 0 ≤ P.pl.last) (h2 : P.pl.last ≤ T) (h3 : ∀ s ∈ P.pl.l, s.id ≤ P.pl.last) (h4 : P.pl.l.length ≤ 256) : Bd T P :=
  ⟨h1, h2, fun e he => h3 e.s (List.mem_map.2 ⟨e, he, rfl⟩), by have : P.pl.l.length = P.es.length := List.length_map ..; omega⟩
theorem id_cases (P : MS) (id : Int) : (∃ j, ∃ hj : j < P.es.length, P.es[j].s.id = id) ∨ ∀ e ∈ P.es, e.s.id ≠ id := by
  rcases Classical.em (∃ e ∈ P.es, e.s.id = id) with ⟨e, he, q⟩ | h
  · obtain ⟨j, hj, rfl⟩ := List.mem_iff_getElem.1 he
    exact .inl ⟨j, hj, q⟩
  · exact .inr fun e he q => h ⟨e, he, q⟩
theorem PR.not33 {D : MD} {P : MS} {h : H} (r : PR D P h) {k : Nat} (hk : (∃ c, h.get k = some (.cells c 33 false)) ∨ (∃ c, h.get k = some (.ro c)) ∨ ∃ c, h.get k = some (.cells c 31 true)) : ¬ owns D P k := fun q => by
  rcases q with rfl | rfl | ⟨e, he, rfl⟩
  · rcases hk with ⟨c, g⟩ | ⟨c, g⟩ | ⟨c, g⟩ <;> (rw [r.obj] at g; simp at g)
  · rcases hk with ⟨c, g⟩ | ⟨c, g⟩ | ⟨c, g⟩ <;> (rw [r.map] at g; simp at g)
  · rcases hk with ⟨c, g⟩ | ⟨c, g⟩ | ⟨c, g⟩ <;> (rw [r.ent e he] at g; simp at g)
theorem lst_step {n0 : Nat} {h h1 : H} {gv : V} {G : List ST} {D D1 : MD} {P P1 : MS} (hL : Lst n0 h gv (stc G) 31 8) (r : PR D P h) (st : Stp D P h D1 P1 h1) (hn0 : ∀ k, owns D P k → n0 ≤ k) : Lst n0 h1 gv (stc G) 31 8 := by
  refine Lst.keep hL st.nx fun k o n m q => ?_
  have hn := stc_len G
  rcases hL with (⟨h0, _⟩ | ⟨b, n', _, h2, h3, _, h5, _⟩) | ⟨hw, b, _, h2, h3, h5⟩
  · rw [h0] at q; cases q
  · rw [h3] at q; cases q; exact st.same _ h2 (r.not33 (.inr (.inr ⟨_, h5⟩)))
  · rw [h3] at q; cases q
    refine st.same _ h2 fun w => ?_
    rcases w with rfl | rfl | ⟨e, he, rfl⟩
    · rw [r.obj] at h5; simp at h5
    · rw [r.map] at h5; simp at h5
    · rw [r.ent e he] at h5; unfold ST.cells at h5; simp at h5
end
noncomputable section
structure Rd (al : List ACT) (h0 : H) (i : Nat) (D : MD) (P : MS) (gv : V) (G : List ST) (h' : H) : Prop where
  pr : PR D P h'
  bd : Bd (i : Int) P
  gl : G.length ≤ i
  oi : Oi P.pl G
  gs : Lst h0.nx h' gv (stc G) 31 8
  own : ∀ k, owns D P k → h0.nx ≤ k
  ext : Ext h0 h'
def OnI (al : List ACT) (lv : V) (h0 : H) (m : Nat) (env : Env) (h' : H) : Prop :=
  ∃ (i : Nat) (D : MD) (P : MS) (gv : V) (G : List ST), m = al.length - i ∧ i ≤ al.length ∧ env 0 = lv ∧ env 3 = .ptr D.b 0 ∧ env 4 = .int .u32 P.last ∧ env 5 = gv ∧ env 6 = .int .i64 i ∧ Rd al h0 i D P gv G h'
theorem Rd.step {al : List ACT} {h0 h h1 : H} {i : Nat} {D D1 : MD} {P P1 : MS} {gv : V} {G : List ST} (x : Rd al h0 i D P gv G h) (st : Stp D P h D1 P1 h1) (bd : Bd ((i + 1 : Nat) : Int) P1) (oi : Oi P1.pl G) : Rd al h0 (i + 1) D1 P1 gv G h1 where
  pr := st.pr
  bd := bd
  gl := Nat.le_succ_of_le x.gl
  oi := oi
  gs := lst_step x.gs x.pr st x.own
  own := fun k q => by
    rcases st.own k q with w | w
    · exact x.own k w
    · have := x.ext.1; omega
  ext := ⟨Nat.le_trans x.ext.1 st.nx, fun k hk => by
    rw [st.same k (Nat.lt_of_lt_of_le hk x.ext.1) fun w => by have := x.own k w; omega]
    exact x.ext.2 k hk⟩
theorem Rd.grow {al : List ACT} {h0 h h1 : H} {i : Nat} {D : MD} {P : MS} {gv : V} {G : List ST} (x : Rd al h0 i D P gv G h) (hx : Ext h h1) : Rd al h0 i D P gv G h1 :=
  ⟨x.pr.ext hx, x.bd, x.gl, x.oi, x.gs.ext hx, x.own, x.ext.trans hx⟩
theorem Bd.up {i : Nat} {P : MS} (b : Bd (i : Int) P) : Bd ((i + 1 : Nat) : Int) P := ⟨b.lo, by have := b.hi; omega, b.ids, b.few⟩
theorem Bd.setj {i : Nat} {P : MS} (b : Bd (i : Int) P) {j : Nat} (hj : j < P.es.length) {s : ST} (hid : s.id = P.es[j].s.id) : Bd ((i + 1 : Nat) : Int) (P.set j P.es[j] s) :=
  ⟨b.lo, by have := b.hi; show P.last ≤ _; omega, fun e he => by
    rcases MS.set_mem hj he with rfl | q
    · show s.id ≤ P.last
      rw [hid]; exact b.ids _ (List.getElem_mem hj)
    · exact b.ids e q, by show (P.es.set _ _).length ≤ _; rw [List.length_set]; exact b.few⟩
theorem gv_not {n0 : Nat} {h : H} {gv : V} {G : List ST} {D : MD} {P : MS} (hL : Lst n0 h gv (stc G) 31 8) (r : PR D P h) {k o n m : Nat} (q : gv = .slice k o n m) : n0 ≤ k ∧ k < h.nx ∧ ¬ owns D P k := by
  have hn := stc_len G
  rcases hL with (⟨h0, _⟩ | ⟨b, n', h1, h2, h3, _, h5, _⟩) | ⟨hw, b, h1, h2, h3, h5⟩
  · rw [h0] at q; cases q
  · rw [h3] at q; cases q; exact ⟨h1, h2, r.not33 (.inr (.inr ⟨_, h5⟩))⟩
  · rw [h3] at q; cases q
    refine ⟨h1, h2, fun w => ?_⟩
    rcases w with rfl | rfl | ⟨e, he, rfl⟩
    · rw [r.obj] at h5; simp at h5
    · rw [r.map] at h5; simp at h5
    · rw [r.ent e he] at h5; unfold ST.cells at h5; simp at h5
theorem Rd.app {al : List ACT} {h0 h hA h5 : H} {i : Nat} {D : MD} {P : MS} {gv v : V} {G : List ST} {g : ST} (r : PR D P h) (bd : Bd ((i + 1 : Nat) : Int) P) (gs : Lst h0.nx h gv (stc G) 31 8) (own : ∀ k, owns D P k → h0.nx ≤ k) (ext : Ext h0 h) (hx : Ext h hA) (oi : Oi P.pl (G ++ [g])) (hg : G.length ≤ i) (hn : hA.nx ≤ h5.nx) (hk : ∀ k, k < hA.nx → (∀ o n m, gv ≠ .slice k o n m) → h5.get k = hA.get k) (ha : Acc hA.nx h5 v (stc G ++ g.cells) 31 8) : Rd al h0 (i + 1) D P v (G ++ [g]) h5 where
  pr := (r.ext hx).keep hn fun k q => hk k (owns_lt (r.ext hx) q) fun o n m w => (gv_not gs r w).2.2 q
  bd := bd
  gl := by rw [List.length_append]; show G.length + 1 ≤ _; omega
  oi := oi
  gs := .inl (by rw [stc_app, stc_one]; exact ha.mono (by have := ext.1; have := hx.1; omega))
  own := own
  ext := ⟨by have := ext.1; have := hx.1; omega, fun k hk0 => by
    have h1 := ext.1
    have h2 := hx.1
    rw [hk k (by omega) fun o n m w => by have := (gv_not gs r w).1; omega, hx.2 k (by omega)]
    exact ext.2 k hk0⟩
theorem Rd.ext3 {al : List ACT} {h0 h h1 : H} {i : Nat} {D D1 : MD} {P P1 : MS} {gv : V} {G : List ST} (x : Rd al h0 i D P gv G h) (st : Stp D P h D1 P1 h1) : (∀ k, owns D1 P1 k → h0.nx ≤ k) ∧ Ext h0 h1 ∧ Lst h0.nx h1 gv (stc G) 31 8 := by
  have y := x.step st
  refine ⟨fun k q => ?_, ⟨Nat.le_trans x.ext.1 st.nx, fun k hk => ?_⟩, lst_step x.gs x.pr st x.own⟩
  · rcases st.own k q with w | w
    · exact x.own k w
    · have := x.ext.1; omega
  · rw [st.same k (Nat.lt_of_lt_of_le hk x.ext.1) fun w => by have := x.own k w; omega]
    exact x.ext.2 k hk
theorem bindS_id (s : ST) (c b : Int) : (bindS s c b).id = s.id := by unfold bindS; split <;> rfl
theorem longS_id (s : ST) (on : Prop) : (longS s on).id = s.id := by unfold longS; split <;> rfl
theorem curS_id (s : ST) (on : Prop) : (curS s on).id = s.id := by unfold curS; split <;> rfl
theorem longS_oi {s : ST} (hs : s.pins → s.conn ≠ 0) (on : Prop) : ((longS s on).pins → (longS s on).conn ≠ 0) ∧ (longS s on).conn = s.conn ∧ (longS s on).back = s.back := by
  unfold longS
  split
  · rename_i he
    have hn : ¬ (on ∧ s.conn = 0) := fun q => by unfold holdE at he; rw [if_pos q] at he; cases he
    exact ⟨fun q => q.elim (fun w z => hn ⟨w, z⟩) fun w => hs (.inr w), rfl, rfl⟩
  · exact ⟨hs, rfl, rfl⟩
theorem curS_oi {s : ST} (hs : s.pins → s.conn ≠ 0) (on : Prop) : ((curS s on).pins → (curS s on).conn ≠ 0) ∧ (curS s on).conn = s.conn ∧ (curS s on).back = s.back := by
  unfold curS
  split
  · rename_i he
    have hn : ¬ (on ∧ s.conn = 0) := fun q => by unfold holdE at he; rw [if_pos q] at he; cases he
    exact ⟨fun q => q.elim (fun w => hs (.inl w)) fun w z => hn ⟨w, z⟩, rfl, rfl⟩
  · exact ⟨hs, rfl, rfl⟩
theorem pl_get {P : MS} {j : Nat} (hj : j < P.es.length) (hj' : j < P.pl.l.length) : P.pl.l[j] = P.es[j].s := by simp [MS.pl]
theorem bind0 {s : ST} {c b : Int} (h : bindE s c b ≠ 0) : bindS s c b = s := by unfold bindS; rw [if_neg h]
theorem set_self (P : MS) {j : Nat} (hj : j < P.es.length) : P.set j P.es[j] P.es[j].s = P := by show (⟨P.last, P.es.set j P.es[j]⟩ : MS) = P; rw [List.set_getElem_self]
variable {S : Set0} (hS : StdQ S)
include hS
theorem once_law (al : List ACT) (lv : V) (h : H) (ha : ARow h lv al) (hl : al.length < 2 ^ 63) : Pure S.cfg 3 [lv] h fun v _ => v = .bool true := by
  have hS' := hS.toStdP
  refine into Try.f3 _ Try.func3 (hS.ownP _ (by decide)) rfl rfl (by kernel_rfl) (by kernel_rfl) ?_
  simp +contextual (disch := first | (simp only [facts, clsL, clsS, clsC, isPtrD]; done) | omega | (simp only [push_nx, put_nx, del_nx]; omega) | (refine Nat.le_antisymm ?_ ?_ <;> simp only [push_nx, put_nx, del_nx] <;> omega) | fail) only [wpy, facts, wpb, cst, wpk, wpl, forall_const, implies_true, false_implies, Int.reduceLE, Int.reduceLT, Nat.reduceLeDiff, UInt8.reduceToNat, ↓reduceIte, Nat.reduceEqDiff, Nat.reduceAdd, reduceCtorEq, Int.reduceToNat, clsL, clsS, clsC, Try.f3]
  refine callF_exact (hS.lives h) ?_
  simp +contextual (disch := first | (simp only [facts, clsL, clsS, clsC, isPtrD]; done) | omega | (simp only [push_nx, put_nx, del_nx]; omega) | (refine Nat.le_antisymm ?_ ?_ <;> simp only [push_nx, put_nx, del_nx] <;> omega) | fail) only [wpy, facts, wpb, cst, wpk, wpl, forall_const, implies_true, false_implies, Int.reduceLE, Int.reduceLT, Nat.reduceLeDiff, UInt8.reduceToNat, ↓reduceIte, Nat.reduceEqDiff, Nat.reduceAdd, reduceCtorEq, Int.reduceToNat, clsL, clsS, clsC, Try.f3]
  refine callF_exact (small_spec hS' ha hl) ?_
  by_cases hnsm : ¬ smallP al
  · simp +contextual (disch := first | (simp only [facts, clsL, clsS, clsC, isPtrD]; done) | omega | (simp only [push_nx, put_nx, del_nx]; omega) | (refine Nat.le_antisymm ?_ ?_ <;> simp only [push_nx, put_nx, del_nx] <;> omega) | fail) only [wpy, facts, wpb, cst, wpk, wpl, forall_const, implies_true, false_implies, Int.reduceLE, Int.reduceLT, Nat.reduceLeDiff, UInt8.reduceToNat, ↓reduceIte, Nat.reduceEqDiff, Nat.reduceAdd, reduceCtorEq, Int.reduceToNat, clsL, clsS, clsC, Try.f3, hnsm]
    exact Ext.refl h
  have hsm : smallP al := Classical.not_not.1 hnsm
  simp +contextual (disch := first | (simp only [facts, clsL, clsS, clsC, isPtrD]; done) | omega | (simp only [push_nx, put_nx, del_nx]; omega) | (refine Nat.le_antisymm ?_ ?_ <;> simp only [push_nx, put_nx, del_nx] <;> omega) | fail) only [wpy, facts, wpb, cst, wpk, wpl, forall_const, implies_true, false_implies, Int.reduceLE, Int.reduceLT, Nat.reduceLeDiff, UInt8.reduceToNat, ↓reduceIte, Nat.reduceEqDiff, Nat.reduceAdd, reduceCtorEq, Int.reduceToNat, clsL, clsS, clsC, Try.f3, hsm]
  refine callF_of (new_spec hS' h) (fun _ q => q.elim) ?_
  rintro v h1 ⟨D0, rfl, r0, hx1, hd1, hd2⟩
  have hlen1 := (ha.ext hx1).len
  simp +contextual (disch := first | (simp only [facts, clsL, clsS, clsC, isPtrD]; done) | omega | (simp only [push_nx, put_nx, del_nx]; omega) | (refine Nat.le_antisymm ?_ ?_ <;> simp only [push_nx, put_nx, del_nx] <;> omega) | fail) only [wpy, facts, wpb, cst, wpk, wpl, forall_const, implies_true, false_implies, Int.reduceLE, Int.reduceLT, Nat.reduceLeDiff, UInt8.reduceToNat, ↓reduceIte, Nat.reduceEqDiff, Nat.reduceAdd, reduceCtorEq, Int.reduceToNat, clsL, clsS, clsC, Try.f3]
  have hR0 : Rd al h 0 D0 ⟨0, []⟩ .nilslice [] h1 := ⟨r0, ⟨Int.le_refl _, Int.le_refl _, fun e he => (by cases he), Nat.zero_le _⟩, Nat.le_refl _, ⟨fun s hs => (by cases hs), fun s hs => (by cases hs), fun s hs => (by cases hs), List.Pairwise.nil⟩, .inl (.inl ⟨rfl, rfl⟩), fun k q => (by
    rcases q with rfl | rfl | ⟨e, he, _⟩
    · exact hd1
    · exact hd2
    · cases he), hx1⟩
  refine run_loop (OnI al lv h) al.length ⟨0, D0, ⟨0, []⟩, .nilslice, [], (Nat.sub_zero _).symm, Nat.zero_le _, by simp +contextual (disch := first | (simp only [facts, clsL, clsS, clsC, isPtrD]; done) | omega | (simp only [push_nx, put_nx, del_nx]; omega) | (refine Nat.le_antisymm ?_ ?_ <;> simp only [push_nx, put_nx, del_nx] <;> omega) | fail) only [wpy, facts, wpb, cst, wpk, wpl, forall_const, implies_true, false_implies, Int.reduceLE, Int.reduceLT, Nat.reduceLeDiff, UInt8.reduceToNat, ↓reduceIte, Nat.reduceEqDiff, Nat.reduceAdd, reduceCtorEq, Int.reduceToNat, clsL, clsS, clsC], by simp +contextual (disch := first | (simp only [facts, clsL, clsS, clsC, isPtrD]; done) | omega | (simp only [push_nx, put_nx, del_nx]; omega) | (refine Nat.le_antisymm ?_ ?_ <;> simp only [push_nx, put_nx, del_nx] <;> omega) | fail) only [wpy, facts, wpb, cst, wpk, wpl, forall_const, implies_true, false_implies, Int.reduceLE, Int.reduceLT, Nat.reduceLeDiff, UInt8.reduceToNat, ↓reduceIte, Nat.reduceEqDiff, Nat.reduceAdd, reduceCtorEq, Int.reduceToNat, clsL, clsS, clsC], by simp +contextual (disch := first | (simp only [facts, clsL, clsS, clsC, isPtrD]; done) | omega | (simp only [push_nx, put_nx, del_nx]; omega) | (refine Nat.le_antisymm ?_ ?_ <;> simp only [push_nx, put_nx, del_nx] <;> omega) | fail) only [wpy, facts, wpb, cst, wpk, wpl, forall_const, implies_true, false_implies, Int.reduceLE, Int.reduceLT, Nat.reduceLeDiff, UInt8.reduceToNat, ↓reduceIte, Nat.reduceEqDiff, Nat.reduceAdd, reduceCtorEq, Int.reduceToNat, clsL, clsS, clsC], by simp +contextual (disch := first | (simp only [facts, clsL, clsS, clsC, isPtrD]; done) | omega | (simp only [push_nx, put_nx, del_nx]; omega) | (refine Nat.le_antisymm ?_ ?_ <;> simp only [push_nx, put_nx, del_nx] <;> omega) | fail) only [wpy, facts, wpb, cst, wpk, wpl, forall_const, implies_true, false_implies, Int.reduceLE, Int.reduceLT, Nat.reduceLeDiff, UInt8.reduceToNat, ↓reduceIte, Nat.reduceEqDiff, Nat.reduceAdd, reduceCtorEq, Int.reduceToNat, clsL, clsS, clsC], by simp +contextual (disch := first | (simp only [facts, clsL, clsS, clsC, isPtrD]; done) | omega | (simp only [push_nx, put_nx, del_nx]; omega) | (refine Nat.le_antisymm ?_ ?_ <;> simp only [push_nx, put_nx, del_nx] <;> omega) | fail) only [wpy, facts, wpb, cst, wpk, wpl, forall_const, implies_true, false_implies, Int.reduceLE, Int.reduceLT, Nat.reduceLeDiff, UInt8.reduceToNat, ↓reduceIte, Nat.reduceEqDiff, Nat.reduceAdd, reduceCtorEq, Int.reduceToNat, clsL, clsS, clsC], hR0⟩ ?_
  rintro m env h2 ⟨i, D, P, gv, G, rfl, hi, e0, e3, e4, e5, e6, x⟩
  have ha2 := ha.ext x.ext
  have hlen2 := ha2.len
  have hm600 := hsm.2
  by_cases hlt : i < al.length
  · obtain ⟨rb, rm, rfl, hrb, hrg⟩ := ha2.opened (by omega)
    have hal := acells_len al
    have x0 : i * 13 + 13 ≤ (acells al).length := by omega
    have x1 := acells_at hlt
    have htx := hsm.1 _ (List.getElem_mem hlt)
    obtain ⟨a, haa⟩ : ∃ a, a = al[i] := ⟨_, rfl⟩
    rw [← haa] at x1 htx
    unfold ACT.cells at x1
    have hwi : IntKind.i64.wrap ((i : Int) + 1) = ((i + 1 : Nat) : Int) := by rw [i64_in _ (by omega)]; omega
    simp +contextual (disch := first | (simp only [facts, clsL, clsS, clsC, isPtrD]; done) | omega | (simp only [push_nx, put_nx, del_nx]; omega) | (refine Nat.le_antisymm ?_ ?_ <;> simp only [push_nx, put_nx, del_nx] <;> omega) | fail) only [wpy, facts, wpb, cst, wpk, wpl, forall_const, implies_true, false_implies, Int.reduceLE, Int.reduceLT, Nat.reduceLeDiff, UInt8.reduceToNat, ↓reduceIte, Nat.reduceEqDiff, Nat.reduceAdd, reduceCtorEq, Int.reduceToNat, clsL, clsS, clsC, Try.f3, e0, e3, e4, e5, e6, hlen2, hlt, hrg, x0, x1]
    have hn2 := x.ext.1
    refine ⟨.inr (by omega), ?_⟩
    generalize hhA : (H.put (H.push h2 _) _ _) = hA
    have hxA : Ext h2 hA := by rw [← hhA]; exact ((Ext.refl h2).push _).put (Nat.le_refl _) _
    have hnA : hA.nx = h2.nx + 1 := by rw [← hhA]; rfl
    have hgA : hA.get h2.nx = some (.cells [.int .i64 a.kd, .int .u32 a.s.id, .str a.s.text, .int .u16 a.s.pa, .int .u16 a.s.co, .int .i64 a.s.conn, .int .u32 a.s.back, bo a.s.long, bo a.s.cur, .int .u32 a.id, .int .i64 a.n, .int .u32 a.back, bo a.on] 33 false) := by rw [← hhA]; exact put_eq rfl
    clear hhA
    have xA := x.grow hxA
    have xS := xA.step (Stp.refl xA.pr) xA.bd.up xA.oi
    have hglen := x.gl
    have hstay : ∀ {D1 P1 h3}, Stp D P hA D1 P1 h3 → h3.get h2.nx = hA.get h2.nx := fun st => st.same _ (by omega) (xA.pr.not33 (.inl ⟨_, hgA⟩))
    have hO : ∀ k, owns D P k → fresh h.nx nil1 k := fun k q => by rw [fresh_def]; exact .inl (xA.own k q)
    have nxt : ∀ (env' : Env) (h' : H) (D' : MD) (P' : MS) (gv' : V) (G' : List ST), env' 0 = .slice rb 0 al.length rm → env' 3 = .ptr D'.b 0 → env' 4 = .int .u32 P'.last → env' 5 = gv' → env' 6 = .int .i64 (i + 1 : Nat) → Rd al h (i + 1) D' P' gv' G' h' → ∃ m', m' < al.length - i ∧ OnI al (.slice rb 0 al.length rm) h m' env' h' := fun env' h' D' P' gv' G' q0 q3 q4 q5 q6 q => ⟨al.length - (i + 1), by omega, i + 1, D', P', gv', G', rfl, hlt, q0, q3, q4, q5, q6, q⟩
    refine callF_exact (pick_spec hS' a.kd hA) ?_
    have hk9 : 0 ≤ a.kd % 9 ∧ a.kd % 9 < 9 := ⟨Int.emod_nonneg _ (by decide), Int.emod_lt_of_pos _ (by decide)⟩
    obtain ⟨kk, hkk⟩ : ∃ kk, kk = a.kd % 9 := ⟨_, rfl⟩
    rw [← hkk] at hk9 ⊢
    have hlp : P.pl.l.length = P.es.length := List.length_map ..
    have hmj : ∀ {j : Nat} (hj : j < P.es.length), P.es[j].s ∈ P.pl.l := fun hj => List.mem_map.2 ⟨_, List.getElem_mem hj, rfl⟩
    by_cases k0 : kk = 0
    · simp +contextual (disch := first | (simp only [facts, clsL, clsS, clsC, isPtrD]; done) | omega | (simp only [push_nx, put_nx, del_nx]; omega) | (refine Nat.le_antisymm ?_ ?_ <;> simp only [push_nx, put_nx, del_nx] <;> omega) | fail) only [wpy, facts, wpb, cst, wpk, wpl, forall_const, implies_true, false_implies, Int.reduceLE, Int.reduceLT, Nat.reduceLeDiff, UInt8.reduceToNat, ↓reduceIte, Nat.reduceEqDiff, Nat.reduceAdd, reduceCtorEq, Int.reduceToNat, clsL, clsS, clsC, Try.f3, hgA, e5, k0, Int.reduceEq]
      refine callF_exact (taken_spec hS' xA.gs (by omega) a.s.conn a.s.back) ?_
      by_cases htk : takenP G a.s.conn a.s.back
      · simp +contextual (disch := first | (simp only [facts, clsL, clsS, clsC, isPtrD]; done) | omega | (simp only [push_nx, put_nx, del_nx]; omega) | (refine Nat.le_antisymm ?_ ?_ <;> simp only [push_nx, put_nx, del_nx] <;> omega) | fail) only [wpy, facts, wpb, cst, wpk, wpl, forall_const, implies_true, false_implies, Int.reduceLE, Int.reduceLT, Nat.reduceLeDiff, UInt8.reduceToNat, ↓reduceIte, Nat.reduceEqDiff, Nat.reduceAdd, reduceCtorEq, Int.reduceToNat, clsL, clsS, clsC, Try.f3, htk, e6]
        exact nxt _ _ D P gv G (by simp +contextual (disch := first | (simp only [facts, clsL, clsS, clsC, isPtrD]; done) | omega | (simp only [push_nx, put_nx, del_nx]; omega) | (refine Nat.le_antisymm ?_ ?_ <;> simp only [push_nx, put_nx, del_nx] <;> omega) | fail) only [wpy, facts, wpb, cst, wpk, wpl, forall_const, implies_true, false_implies, Int.reduceLE, Int.reduceLT, Nat.reduceLeDiff, UInt8.reduceToNat, ↓reduceIte, Nat.reduceEqDiff, Nat.reduceAdd, reduceCtorEq, Int.reduceToNat, clsL, clsS, clsC, e0]) (by simp +contextual (disch := first | (simp only [facts, clsL, clsS, clsC, isPtrD]; done) | omega | (simp only [push_nx, put_nx, del_nx]; omega) | (refine Nat.le_antisymm ?_ ?_ <;> simp only [push_nx, put_nx, del_nx] <;> omega) | fail) only [wpy, facts, wpb, cst, wpk, wpl, forall_const, implies_true, false_implies, Int.reduceLE, Int.reduceLT, Nat.reduceLeDiff, UInt8.reduceToNat, ↓reduceIte, Nat.reduceEqDiff, Nat.reduceAdd, reduceCtorEq, Int.reduceToNat, clsL, clsS, clsC, e3]) (by simp +contextual (disch := first | (simp only [facts, clsL, clsS, clsC, isPtrD]; done) | omega | (simp only [push_nx, put_nx, del_nx]; omega) | (refine Nat.le_antisymm ?_ ?_ <;> simp only [push_nx, put_nx, del_nx] <;> omega) | fail) only [wpy, facts, wpb, cst, wpk, wpl, forall_const, implies_true, false_implies, Int.reduceLE, Int.reduceLT, Nat.reduceLeDiff, UInt8.reduceToNat, ↓reduceIte, Nat.reduceEqDiff, Nat.reduceAdd, reduceCtorEq, Int.reduceToNat, clsL, clsS, clsC, e4]) (by simp +contextual (disch := first | (simp only [facts, clsL, clsS, clsC, isPtrD]; done) | omega | (simp only [push_nx, put_nx, del_nx]; omega) | (refine Nat.le_antisymm ?_ ?_ <;> simp only [push_nx, put_nx, del_nx] <;> omega) | fail) only [wpy, facts, wpb, cst, wpk, wpl, forall_const, implies_true, false_implies, Int.reduceLE, Int.reduceLT, Nat.reduceLeDiff, UInt8.reduceToNat, ↓reduceIte, Nat.reduceEqDiff, Nat.reduceAdd, reduceCtorEq, Int.reduceToNat, clsL, clsS, clsC, e5]) (by simp +contextual (disch := first | (simp only [facts, clsL, clsS, clsC, isPtrD]; done) | omega | (simp only [push_nx, put_nx, del_nx]; omega) | (refine Nat.le_antisymm ?_ ?_ <;> simp only [push_nx, put_nx, del_nx] <;> omega) | fail) only [wpy, facts, wpb, cst, wpk, wpl, forall_const, implies_true, false_implies, Int.reduceLE, Int.reduceLT, Nat.reduceLeDiff, UInt8.reduceToNat, ↓reduceIte, Nat.reduceEqDiff, Nat.reduceAdd, reduceCtorEq, Int.reduceToNat, clsL, clsS, clsC, hwi]) xS
      simp +contextual (disch := first | (simp only [facts, clsL, clsS, clsC, isPtrD]; done) | omega | (simp only [push_nx, put_nx, del_nx]; omega) | (refine Nat.le_antisymm ?_ ?_ <;> simp only [push_nx, put_nx, del_nx] <;> omega) | fail) only [wpy, facts, wpb, cst, wpk, wpl, forall_const, implies_true, false_implies, Int.reduceLE, Int.reduceLT, Nat.reduceLeDiff, UInt8.reduceToNat, ↓reduceIte, Nat.reduceEqDiff, Nat.reduceAdd, reduceCtorEq, Int.reduceToNat, clsL, clsS, clsC, Try.f3, htk, e3, hgA]
      refine callF_of (add_spec hS' xA.pr a.s htx xA.bd.lo (by have := xA.bd.hi; omega) xA.bd.ids xA.bd.few) hO ?_
      rintro v h3 ⟨rfl, D1, P1, st, hpl⟩
      have hg3 := hstay st
      rw [hgA] at hg3
      by_cases hE : addE P.pl a.s = 0
      · have eV : addV P.pl a.s = .tuple [.int .u32 (P.last + 1), .int .i64 0] := by unfold addV; rw [if_pos hE, hE]; rfl
        have eP : addP P.pl a.s = ⟨P.last + 1, P.pl.l ++ [addS P.pl a.s]⟩ := by unfold addP; rw [if_pos hE]; rfl
        have hle : ¬ P.last + 1 ≤ P.last := by omega
        rw [eV]
        simp +contextual (disch := first | (simp only [facts, clsL, clsS, clsC, isPtrD]; done) | omega | (simp only [push_nx, put_nx, del_nx]; omega) | (refine Nat.le_antisymm ?_ ?_ <;> simp only [push_nx, put_nx, del_nx] <;> omega) | fail) only [wpy, facts, wpb, cst, wpk, wpl, forall_const, implies_true, false_implies, Int.reduceLE, Int.reduceLT, Nat.reduceLeDiff, UInt8.reduceToNat, ↓reduceIte, Nat.reduceEqDiff, Nat.reduceAdd, reduceCtorEq, Int.reduceToNat, clsL, clsS, clsC, Try.f3, hle, e4, e5, hg3, List.drop_succ_cons, List.drop_zero, List.take_succ_cons, List.take_zero]
        generalize hhB : H.push h3 _ = hB
        have hxB : Ext h3 hB := by rw [← hhB]; exact (Ext.refl h3).push _
        have hnB : hB.nx = h3.nx + 1 := by rw [← hhB]; rfl
        have hgB : hB.get h3.nx = some (.cells a.s.cells 31 false) := by rw [← hhB]; exact push_eq rfl
        clear hhB
        have oi1 := xA.oi.add htk hE
        rw [← hpl] at oi1
        have bd1 : Bd ((i + 1 : Nat) : Int) P1 := by
          have hlo := xA.bd.lo
          have hhi := xA.bd.hi
          have hfull : ¬ 256 ≤ P.pl.l.length := fun q => by
            unfold addE at hE
            split at hE
            · cases hE
            · first
                | exact absurd hE (by decide)
                | (rw [if_pos q] at hE; exact absurd hE (by decide))
          have hlen : P.pl.l.length = P.es.length := List.length_map ..
          rw [eP] at hpl
          refine Bd.of_pl ?_ ?_ ?_ ?_
          · rw [hpl]; show 0 ≤ P.last + 1; omega
          · rw [hpl]; show P.last + 1 ≤ _; omega
          · rw [hpl]; intro s hs
            rcases List.mem_append.1 hs with q | q
            · obtain ⟨e, he, rfl⟩ := List.mem_map.1 q
              have := xA.bd.ids e he
              show e.s.id ≤ P.last + 1; omega
            · rw [List.mem_singleton.1 q]; exact Int.le_refl _
          · rw [hpl]; show (P.pl.l ++ [addS P.pl a.s]).length ≤ 256
            rw [List.length_append]; show P.pl.l.length + 1 ≤ 256; omega
        have eL : P1.last = P.last + 1 := by rw [eP] at hpl; exact congrArg PL.last hpl
        obtain ⟨hO3, hx03, hgs3⟩ := xA.ext3 st
        refine append_fresh (n0 := h.nx) (sv := gv) (cells := stc G) (new := a.s.cells) ?_ (b2 := h3.nx) (o2 := 0) (n := 1) (m := 1) ?_ ap28 ⟨.slice 31, by kernel_rfl, rfl⟩ (hgs3.ext hxB) (by decide) (by rw [hgB]; exact rdC_all rfl) rfl rfl ?_ (by decide) (fun k ⟨o, n, m, q⟩ => by
          rw [fresh_def]
          exact .inl (Lst.lt hgs3 q).1) (by have := hx03.1; omega) ?_
        · simp +contextual (disch := first | (simp only [facts, clsL, clsS, clsC, isPtrD]; done) | omega | (simp only [push_nx, put_nx, del_nx]; omega) | (refine Nat.le_antisymm ?_ ?_ <;> simp only [push_nx, put_nx, del_nx] <;> omega) | fail) only [wpy, facts, wpb, cst, wpk, wpl, forall_const, implies_true, false_implies, Int.reduceLE, Int.reduceLT, Nat.reduceLeDiff, UInt8.reduceToNat, ↓reduceIte, Nat.reduceEqDiff, Nat.reduceAdd, reduceCtorEq, Int.reduceToNat, clsL, clsS, clsC, e5]
        · simp +contextual (disch := first | (simp only [facts, clsL, clsS, clsC, isPtrD]; done) | omega | (simp only [push_nx, put_nx, del_nx]; omega) | (refine Nat.le_antisymm ?_ ?_ <;> simp only [push_nx, put_nx, del_nx] <;> omega) | fail) only [wpy, facts, wpb, cst, wpk, wpl, forall_const, implies_true, false_implies, Int.reduceLE, Int.reduceLT, Nat.reduceLeDiff, UInt8.reduceToNat, ↓reduceIte, Nat.reduceEqDiff, Nat.reduceAdd, reduceCtorEq, Int.reduceToNat, clsL, clsS, clsC]
        · rw [stc_len]; show G.length * 8 + 8 ≤ _; omega
        intro v5 h5 L ha5 hx5 hk5 hL5
        simp +contextual (disch := first | (simp only [facts, clsL, clsS, clsC, isPtrD]; done) | omega | (simp only [push_nx, put_nx, del_nx]; omega) | (refine Nat.le_antisymm ?_ ?_ <;> simp only [push_nx, put_nx, del_nx] <;> omega) | fail) only [wpy, facts, wpb, cst, wpk, wpl, forall_const, implies_true, false_implies, Int.reduceLE, Int.reduceLT, Nat.reduceLeDiff, UInt8.reduceToNat, ↓reduceIte, Nat.reduceEqDiff, Nat.reduceAdd, reduceCtorEq, Int.reduceToNat, clsL, clsS, clsC, Try.f3, e6]
        exact nxt _ _ D1 P1 v5 (G ++ [a.s]) (by simp +contextual (disch := first | (simp only [facts, clsL, clsS, clsC, isPtrD]; done) | omega | (simp only [push_nx, put_nx, del_nx]; omega) | (refine Nat.le_antisymm ?_ ?_ <;> simp only [push_nx, put_nx, del_nx] <;> omega) | fail) only [wpy, facts, wpb, cst, wpk, wpl, forall_const, implies_true, false_implies, Int.reduceLE, Int.reduceLT, Nat.reduceLeDiff, UInt8.reduceToNat, ↓reduceIte, Nat.reduceEqDiff, Nat.reduceAdd, reduceCtorEq, Int.reduceToNat, clsL, clsS, clsC, e0]) (by simp +contextual (disch := first | (simp only [facts, clsL, clsS, clsC, isPtrD]; done) | omega | (simp only [push_nx, put_nx, del_nx]; omega) | (refine Nat.le_antisymm ?_ ?_ <;> simp only [push_nx, put_nx, del_nx] <;> omega) | fail) only [wpy, facts, wpb, cst, wpk, wpl, forall_const, implies_true, false_implies, Int.reduceLE, Int.reduceLT, Nat.reduceLeDiff, UInt8.reduceToNat, ↓reduceIte, Nat.reduceEqDiff, Nat.reduceAdd, reduceCtorEq, Int.reduceToNat, clsL, clsS, clsC, e3, st.b]) (by simp +contextual (disch := first | (simp only [facts, clsL, clsS, clsC, isPtrD]; done) | omega | (simp only [push_nx, put_nx, del_nx]; omega) | (refine Nat.le_antisymm ?_ ?_ <;> simp only [push_nx, put_nx, del_nx] <;> omega) | fail) only [wpy, facts, wpb, cst, wpk, wpl, forall_const, implies_true, false_implies, Int.reduceLE, Int.reduceLT, Nat.reduceLeDiff, UInt8.reduceToNat, ↓reduceIte, Nat.reduceEqDiff, Nat.reduceAdd, reduceCtorEq, Int.reduceToNat, clsL, clsS, clsC, eL]) (by simp +contextual (disch := first | (simp only [facts, clsL, clsS, clsC, isPtrD]; done) | omega | (simp only [push_nx, put_nx, del_nx]; omega) | (refine Nat.le_antisymm ?_ ?_ <;> simp only [push_nx, put_nx, del_nx] <;> omega) | fail) only [wpy, facts, wpb, cst, wpk, wpl, forall_const, implies_true, false_implies, Int.reduceLE, Int.reduceLT, Nat.reduceLeDiff, UInt8.reduceToNat, ↓reduceIte, Nat.reduceEqDiff, Nat.reduceAdd, reduceCtorEq, Int.reduceToNat, clsL, clsS, clsC]) (by simp +contextual (disch := first | (simp only [facts, clsL, clsS, clsC, isPtrD]; done) | omega | (simp only [push_nx, put_nx, del_nx]; omega) | (refine Nat.le_antisymm ?_ ?_ <;> simp only [push_nx, put_nx, del_nx] <;> omega) | fail) only [wpy, facts, wpb, cst, wpk, wpl, forall_const, implies_true, false_implies, Int.reduceLE, Int.reduceLT, Nat.reduceLeDiff, UInt8.reduceToNat, ↓reduceIte, Nat.reduceEqDiff, Nat.reduceAdd, reduceCtorEq, Int.reduceToNat, clsL, clsS, clsC, hwi]) (Rd.app st.pr bd1 hgs3 hO3 hx03 hxB oi1 hglen hx5 hk5 ha5)
      · have eV : addV P.pl a.s = .tuple [.int .u32 0, .int .i64 (addE P.pl a.s)] := by unfold addV; rw [if_neg hE]
        have eP : addP P.pl a.s = P.pl := by unfold addP; rw [if_neg hE]
        rw [eP] at hpl
        have eL : P1.last = P.last := congrArg PL.last hpl
        rw [eV]
        simp +contextual (disch := first | (simp only [facts, clsL, clsS, clsC, isPtrD]; done) | omega | (simp only [push_nx, put_nx, del_nx]; omega) | (refine Nat.le_antisymm ?_ ?_ <;> simp only [push_nx, put_nx, del_nx] <;> omega) | fail) only [wpy, facts, wpb, cst, wpk, wpl, forall_const, implies_true, false_implies, Int.reduceLE, Int.reduceLT, Nat.reduceLeDiff, UInt8.reduceToNat, ↓reduceIte, Nat.reduceEqDiff, Nat.reduceAdd, reduceCtorEq, Int.reduceToNat, clsL, clsS, clsC, Try.f3, hE, e6]
        refine nxt _ _ D1 P1 gv G (by simp +contextual (disch := first | (simp only [facts, clsL, clsS, clsC, isPtrD]; done) | omega | (simp only [push_nx, put_nx, del_nx]; omega) | (refine Nat.le_antisymm ?_ ?_ <;> simp only [push_nx, put_nx, del_nx] <;> omega) | fail) only [wpy, facts, wpb, cst, wpk, wpl, forall_const, implies_true, false_implies, Int.reduceLE, Int.reduceLT, Nat.reduceLeDiff, UInt8.reduceToNat, ↓reduceIte, Nat.reduceEqDiff, Nat.reduceAdd, reduceCtorEq, Int.reduceToNat, clsL, clsS, clsC, e0]) (by simp +contextual (disch := first | (simp only [facts, clsL, clsS, clsC, isPtrD]; done) | omega | (simp only [push_nx, put_nx, del_nx]; omega) | (refine Nat.le_antisymm ?_ ?_ <;> simp only [push_nx, put_nx, del_nx] <;> omega) | fail) only [wpy, facts, wpb, cst, wpk, wpl, forall_const, implies_true, false_implies, Int.reduceLE, Int.reduceLT, Nat.reduceLeDiff, UInt8.reduceToNat, ↓reduceIte, Nat.reduceEqDiff, Nat.reduceAdd, reduceCtorEq, Int.reduceToNat, clsL, clsS, clsC, e3, st.b]) (by simp +contextual (disch := first | (simp only [facts, clsL, clsS, clsC, isPtrD]; done) | omega | (simp only [push_nx, put_nx, del_nx]; omega) | (refine Nat.le_antisymm ?_ ?_ <;> simp only [push_nx, put_nx, del_nx] <;> omega) | fail) only [wpy, facts, wpb, cst, wpk, wpl, forall_const, implies_true, false_implies, Int.reduceLE, Int.reduceLT, Nat.reduceLeDiff, UInt8.reduceToNat, ↓reduceIte, Nat.reduceEqDiff, Nat.reduceAdd, reduceCtorEq, Int.reduceToNat, clsL, clsS, clsC, e4, eL]) (by simp +contextual (disch := first | (simp only [facts, clsL, clsS, clsC, isPtrD]; done) | omega | (simp only [push_nx, put_nx, del_nx]; omega) | (refine Nat.le_antisymm ?_ ?_ <;> simp only [push_nx, put_nx, del_nx] <;> omega) | fail) only [wpy, facts, wpb, cst, wpk, wpl, forall_const, implies_true, false_implies, Int.reduceLE, Int.reduceLT, Nat.reduceLeDiff, UInt8.reduceToNat, ↓reduceIte, Nat.reduceEqDiff, Nat.reduceAdd, reduceCtorEq, Int.reduceToNat, clsL, clsS, clsC, e5]) (by simp +contextual (disch := first | (simp only [facts, clsL, clsS, clsC, isPtrD]; done) | omega | (simp only [push_nx, put_nx, del_nx]; omega) | (refine Nat.le_antisymm ?_ ?_ <;> simp only [push_nx, put_nx, del_nx] <;> omega) | fail) only [wpy, facts, wpb, cst, wpk, wpl, forall_const, implies_true, false_implies, Int.reduceLE, Int.reduceLT, Nat.reduceLeDiff, UInt8.reduceToNat, ↓reduceIte, Nat.reduceEqDiff, Nat.reduceAdd, reduceCtorEq, Int.reduceToNat, clsL, clsS, clsC, hwi]) (xA.step st (Bd.of_pl ?_ ?_ ?_ ?_) (by rw [hpl]; exact xA.oi))
        · rw [hpl]; exact xA.bd.lo
        · rw [hpl]; have := xA.bd.hi; show P.last ≤ _; omega
        · rw [hpl]; intro s hs
          obtain ⟨e, he, rfl⟩ := List.mem_map.1 hs
          exact xA.bd.ids e he
        · rw [hpl]; show (P.es.map EN.s).length ≤ _; rw [List.length_map]; exact xA.bd.few
    by_cases k3 : kk = 3
    · simp +contextual (disch := first | (simp only [facts, clsL, clsS, clsC, isPtrD]; done) | omega | (simp only [push_nx, put_nx, del_nx]; omega) | (refine Nat.le_antisymm ?_ ?_ <;> simp only [push_nx, put_nx, del_nx] <;> omega) | fail) only [wpy, facts, wpb, cst, wpk, wpl, forall_const, implies_true, false_implies, Int.reduceLE, Int.reduceLT, Nat.reduceLeDiff, UInt8.reduceToNat, ↓reduceIte, Nat.reduceEqDiff, Nat.reduceAdd, reduceCtorEq, Int.reduceToNat, clsL, clsS, clsC, Try.f3, hgA, e5, k3, Int.reduceEq]
      refine callF_exact (taken_spec hS' xA.gs (by omega) a.n a.back) ?_
      by_cases htk : takenP G a.n a.back
      · simp +contextual (disch := first | (simp only [facts, clsL, clsS, clsC, isPtrD]; done) | omega | (simp only [push_nx, put_nx, del_nx]; omega) | (refine Nat.le_antisymm ?_ ?_ <;> simp only [push_nx, put_nx, del_nx] <;> omega) | fail) only [wpy, facts, wpb, cst, wpk, wpl, forall_const, implies_true, false_implies, Int.reduceLE, Int.reduceLT, Nat.reduceLeDiff, UInt8.reduceToNat, ↓reduceIte, Nat.reduceEqDiff, Nat.reduceAdd, reduceCtorEq, Int.reduceToNat, clsL, clsS, clsC, Try.f3, htk, e6]
        exact nxt _ _ D P gv G (by simp +contextual (disch := first | (simp only [facts, clsL, clsS, clsC, isPtrD]; done) | omega | (simp only [push_nx, put_nx, del_nx]; omega) | (refine Nat.le_antisymm ?_ ?_ <;> simp only [push_nx, put_nx, del_nx] <;> omega) | fail) only [wpy, facts, wpb, cst, wpk, wpl, forall_const, implies_true, false_implies, Int.reduceLE, Int.reduceLT, Nat.reduceLeDiff, UInt8.reduceToNat, ↓reduceIte, Nat.reduceEqDiff, Nat.reduceAdd, reduceCtorEq, Int.reduceToNat, clsL, clsS, clsC, e0]) (by simp +contextual (disch := first | (simp only [facts, clsL, clsS, clsC, isPtrD]; done) | omega | (simp only [push_nx, put_nx, del_nx]; omega) | (refine Nat.le_antisymm ?_ ?_ <;> simp only [push_nx, put_nx, del_nx] <;> omega) | fail) only [wpy, facts, wpb, cst, wpk, wpl, forall_const, implies_true, false_implies, Int.reduceLE, Int.reduceLT, Nat.reduceLeDiff, UInt8.reduceToNat, ↓reduceIte, Nat.reduceEqDiff, Nat.reduceAdd, reduceCtorEq, Int.reduceToNat, clsL, clsS, clsC, e3]) (by simp +contextual (disch := first | (simp only [facts, clsL, clsS, clsC, isPtrD]; done) | omega | (simp only [push_nx, put_nx, del_nx]; omega) | (refine Nat.le_antisymm ?_ ?_ <;> simp only [push_nx, put_nx, del_nx] <;> omega) | fail) only [wpy, facts, wpb, cst, wpk, wpl, forall_const, implies_true, false_implies, Int.reduceLE, Int.reduceLT, Nat.reduceLeDiff, UInt8.reduceToNat, ↓reduceIte, Nat.reduceEqDiff, Nat.reduceAdd, reduceCtorEq, Int.reduceToNat, clsL, clsS, clsC, e4]) (by simp +contextual (disch := first | (simp only [facts, clsL, clsS, clsC, isPtrD]; done) | omega | (simp only [push_nx, put_nx, del_nx]; omega) | (refine Nat.le_antisymm ?_ ?_ <;> simp only [push_nx, put_nx, del_nx] <;> omega) | fail) only [wpy, facts, wpb, cst, wpk, wpl, forall_const, implies_true, false_implies, Int.reduceLE, Int.reduceLT, Nat.reduceLeDiff, UInt8.reduceToNat, ↓reduceIte, Nat.reduceEqDiff, Nat.reduceAdd, reduceCtorEq, Int.reduceToNat, clsL, clsS, clsC, e5]) (by simp +contextual (disch := first | (simp only [facts, clsL, clsS, clsC, isPtrD]; done) | omega | (simp only [push_nx, put_nx, del_nx]; omega) | (refine Nat.le_antisymm ?_ ?_ <;> simp only [push_nx, put_nx, del_nx] <;> omega) | fail) only [wpy, facts, wpb, cst, wpk, wpl, forall_const, implies_true, false_implies, Int.reduceLE, Int.reduceLT, Nat.reduceLeDiff, UInt8.reduceToNat, ↓reduceIte, Nat.reduceEqDiff, Nat.reduceAdd, reduceCtorEq, Int.reduceToNat, clsL, clsS, clsC, hwi]) xS
      simp +contextual (disch := first | (simp only [facts, clsL, clsS, clsC, isPtrD]; done) | omega | (simp only [push_nx, put_nx, del_nx]; omega) | (refine Nat.le_antisymm ?_ ?_ <;> simp only [push_nx, put_nx, del_nx] <;> omega) | fail) only [wpy, facts, wpb, cst, wpk, wpl, forall_const, implies_true, false_implies, Int.reduceLE, Int.reduceLT, Nat.reduceLeDiff, UInt8.reduceToNat, ↓reduceIte, Nat.reduceEqDiff, Nat.reduceAdd, reduceCtorEq, Int.reduceToNat, clsL, clsS, clsC, Try.f3, htk, e3, hgA]
      rcases id_cases P a.id with ⟨j, hj, hid⟩ | hno
      · have hj' : j < P.pl.l.length := by rw [hlp]; exact hj
        refine callF_of (bind_hit_spec hS' xA.pr hj hid a.n a.back) hO ?_
        rintro v h3 ⟨rfl, st⟩
        have hg3 := hstay st
        rw [hgA] at hg3
        by_cases hE : bindE P.es[j].s a.n a.back = 0
        · have bd1 := xA.bd.setj hj (s := bindS P.es[j].s a.n a.back) (bindS_id _ _ _)
          obtain ⟨g, hg⟩ : ∃ g : ST, g = ⟨0, [], 0, 0, a.n, a.back, False, False⟩ := ⟨_, rfl⟩
          have oi1 : Oi (P.set j P.es[j] (bindS P.es[j].s a.n a.back)).pl (G ++ [g]) := by
            rw [MS.set_pl _ hj, ← pl_get hj hj']
            exact xA.oi.bind hj' (by rw [hg]; exact ⟨rfl, rfl⟩) htk (by rw [pl_get hj hj']; exact hE)
          have hgc : g.cells = [.int .u32 0, .str [], .int .u16 0, .int .u16 0, .int .i64 a.n, .int .u32 a.back, bo False, bo False] := by rw [hg]; rfl
          clear hg
          obtain ⟨hO3, hx03, hgs3⟩ := xA.ext3 st
          simp +contextual (disch := first | (simp only [facts, clsL, clsS, clsC, isPtrD]; done) | omega | (simp only [push_nx, put_nx, del_nx]; omega) | (refine Nat.le_antisymm ?_ ?_ <;> simp only [push_nx, put_nx, del_nx] <;> omega) | fail) only [wpy, facts, wpb, cst, wpk, wpl, forall_const, implies_true, false_implies, Int.reduceLE, Int.reduceLT, Nat.reduceLeDiff, UInt8.reduceToNat, ↓reduceIte, Nat.reduceEqDiff, Nat.reduceAdd, reduceCtorEq, Int.reduceToNat, clsL, clsS, clsC, Try.f3, hE, e5, hg3]
          generalize hhB : H.push h3 _ = hB
          have hxB : Ext h3 hB := by rw [← hhB]; exact (Ext.refl h3).push _
          have hnB : hB.nx = h3.nx + 1 := by rw [← hhB]; rfl
          have hgB : hB.get h3.nx = some (.cells g.cells 31 false) := by rw [← hhB, hgc]; exact push_eq rfl
          clear hhB
          refine append_fresh (n0 := h.nx) (sv := gv) (cells := stc G) (new := g.cells) ?_ (b2 := h3.nx) (o2 := 0) (n := 1) (m := 1) ?_ ap28 ⟨.slice 31, by kernel_rfl, rfl⟩ (hgs3.ext hxB) (by decide) (by rw [hgB]; exact rdC_all rfl) rfl rfl ?_ (by decide) (fun k ⟨o, n, m, q⟩ => by
            rw [fresh_def]
            exact .inl (Lst.lt hgs3 q).1) (by have := hx03.1; omega) ?_
          · simp +contextual (disch := first | (simp only [facts, clsL, clsS, clsC, isPtrD]; done) | omega | (simp only [push_nx, put_nx, del_nx]; omega) | (refine Nat.le_antisymm ?_ ?_ <;> simp only [push_nx, put_nx, del_nx] <;> omega) | fail) only [wpy, facts, wpb, cst, wpk, wpl, forall_const, implies_true, false_implies, Int.reduceLE, Int.reduceLT, Nat.reduceLeDiff, UInt8.reduceToNat, ↓reduceIte, Nat.reduceEqDiff, Nat.reduceAdd, reduceCtorEq, Int.reduceToNat, clsL, clsS, clsC, e5]
          · simp +contextual (disch := first | (simp only [facts, clsL, clsS, clsC, isPtrD]; done) | omega | (simp only [push_nx, put_nx, del_nx]; omega) | (refine Nat.le_antisymm ?_ ?_ <;> simp only [push_nx, put_nx, del_nx] <;> omega) | fail) only [wpy, facts, wpb, cst, wpk, wpl, forall_const, implies_true, false_implies, Int.reduceLE, Int.reduceLT, Nat.reduceLeDiff, UInt8.reduceToNat, ↓reduceIte, Nat.reduceEqDiff, Nat.reduceAdd, reduceCtorEq, Int.reduceToNat, clsL, clsS, clsC]
          · rw [stc_len]; show G.length * 8 + 8 ≤ _; omega
          intro v5 h5 L ha5 hx5 hk5 hL5
          simp +contextual (disch := first | (simp only [facts, clsL, clsS, clsC, isPtrD]; done) | omega | (simp only [push_nx, put_nx, del_nx]; omega) | (refine Nat.le_antisymm ?_ ?_ <;> simp only [push_nx, put_nx, del_nx] <;> omega) | fail) only [wpy, facts, wpb, cst, wpk, wpl, forall_const, implies_true, false_implies, Int.reduceLE, Int.reduceLT, Nat.reduceLeDiff, UInt8.reduceToNat, ↓reduceIte, Nat.reduceEqDiff, Nat.reduceAdd, reduceCtorEq, Int.reduceToNat, clsL, clsS, clsC, Try.f3, e6]
          exact nxt _ _ D _ v5 (G ++ [g]) (by simp +contextual (disch := first | (simp only [facts, clsL, clsS, clsC, isPtrD]; done) | omega | (simp only [push_nx, put_nx, del_nx]; omega) | (refine Nat.le_antisymm ?_ ?_ <;> simp only [push_nx, put_nx, del_nx] <;> omega) | fail) only [wpy, facts, wpb, cst, wpk, wpl, forall_const, implies_true, false_implies, Int.reduceLE, Int.reduceLT, Nat.reduceLeDiff, UInt8.reduceToNat, ↓reduceIte, Nat.reduceEqDiff, Nat.reduceAdd, reduceCtorEq, Int.reduceToNat, clsL, clsS, clsC, e0]) (by simp +contextual (disch := first | (simp only [facts, clsL, clsS, clsC, isPtrD]; done) | omega | (simp only [push_nx, put_nx, del_nx]; omega) | (refine Nat.le_antisymm ?_ ?_ <;> simp only [push_nx, put_nx, del_nx] <;> omega) | fail) only [wpy, facts, wpb, cst, wpk, wpl, forall_const, implies_true, false_implies, Int.reduceLE, Int.reduceLT, Nat.reduceLeDiff, UInt8.reduceToNat, ↓reduceIte, Nat.reduceEqDiff, Nat.reduceAdd, reduceCtorEq, Int.reduceToNat, clsL, clsS, clsC, e3]) (by simp +contextual (disch := first | (simp only [facts, clsL, clsS, clsC, isPtrD]; done) | omega | (simp only [push_nx, put_nx, del_nx]; omega) | (refine Nat.le_antisymm ?_ ?_ <;> simp only [push_nx, put_nx, del_nx] <;> omega) | fail) only [wpy, facts, wpb, cst, wpk, wpl, forall_const, implies_true, false_implies, Int.reduceLE, Int.reduceLT, Nat.reduceLeDiff, UInt8.reduceToNat, ↓reduceIte, Nat.reduceEqDiff, Nat.reduceAdd, reduceCtorEq, Int.reduceToNat, clsL, clsS, clsC, e4]; rfl) (by simp +contextual (disch := first | (simp only [facts, clsL, clsS, clsC, isPtrD]; done) | omega | (simp only [push_nx, put_nx, del_nx]; omega) | (refine Nat.le_antisymm ?_ ?_ <;> simp only [push_nx, put_nx, del_nx] <;> omega) | fail) only [wpy, facts, wpb, cst, wpk, wpl, forall_const, implies_true, false_implies, Int.reduceLE, Int.reduceLT, Nat.reduceLeDiff, UInt8.reduceToNat, ↓reduceIte, Nat.reduceEqDiff, Nat.reduceAdd, reduceCtorEq, Int.reduceToNat, clsL, clsS, clsC]) (by simp +contextual (disch := first | (simp only [facts, clsL, clsS, clsC, isPtrD]; done) | omega | (simp only [push_nx, put_nx, del_nx]; omega) | (refine Nat.le_antisymm ?_ ?_ <;> simp only [push_nx, put_nx, del_nx] <;> omega) | fail) only [wpy, facts, wpb, cst, wpk, wpl, forall_const, implies_true, false_implies, Int.reduceLE, Int.reduceLT, Nat.reduceLeDiff, UInt8.reduceToNat, ↓reduceIte, Nat.reduceEqDiff, Nat.reduceAdd, reduceCtorEq, Int.reduceToNat, clsL, clsS, clsC, hwi]) (Rd.app st.pr bd1 hgs3 hO3 hx03 hxB oi1 hglen hx5 hk5 ha5)
        · rw [bind0 hE, set_self P hj] at st
          simp +contextual (disch := first | (simp only [facts, clsL, clsS, clsC, isPtrD]; done) | omega | (simp only [push_nx, put_nx, del_nx]; omega) | (refine Nat.le_antisymm ?_ ?_ <;> simp only [push_nx, put_nx, del_nx] <;> omega) | fail) only [wpy, facts, wpb, cst, wpk, wpl, forall_const, implies_true, false_implies, Int.reduceLE, Int.reduceLT, Nat.reduceLeDiff, UInt8.reduceToNat, ↓reduceIte, Nat.reduceEqDiff, Nat.reduceAdd, reduceCtorEq, Int.reduceToNat, clsL, clsS, clsC, Try.f3, hE, e6]
          exact nxt _ _ D P gv G (by simp +contextual (disch := first | (simp only [facts, clsL, clsS, clsC, isPtrD]; done) | omega | (simp only [push_nx, put_nx, del_nx]; omega) | (refine Nat.le_antisymm ?_ ?_ <;> simp only [push_nx, put_nx, del_nx] <;> omega) | fail) only [wpy, facts, wpb, cst, wpk, wpl, forall_const, implies_true, false_implies, Int.reduceLE, Int.reduceLT, Nat.reduceLeDiff, UInt8.reduceToNat, ↓reduceIte, Nat.reduceEqDiff, Nat.reduceAdd, reduceCtorEq, Int.reduceToNat, clsL, clsS, clsC, e0]) (by simp +contextual (disch := first | (simp only [facts, clsL, clsS, clsC, isPtrD]; done) | omega | (simp only [push_nx, put_nx, del_nx]; omega) | (refine Nat.le_antisymm ?_ ?_ <;> simp only [push_nx, put_nx, del_nx] <;> omega) | fail) only [wpy, facts, wpb, cst, wpk, wpl, forall_const, implies_true, false_implies, Int.reduceLE, Int.reduceLT, Nat.reduceLeDiff, UInt8.reduceToNat, ↓reduceIte, Nat.reduceEqDiff, Nat.reduceAdd, reduceCtorEq, Int.reduceToNat, clsL, clsS, clsC, e3]) (by simp +contextual (disch := first | (simp only [facts, clsL, clsS, clsC, isPtrD]; done) | omega | (simp only [push_nx, put_nx, del_nx]; omega) | (refine Nat.le_antisymm ?_ ?_ <;> simp only [push_nx, put_nx, del_nx] <;> omega) | fail) only [wpy, facts, wpb, cst, wpk, wpl, forall_const, implies_true, false_implies, Int.reduceLE, Int.reduceLT, Nat.reduceLeDiff, UInt8.reduceToNat, ↓reduceIte, Nat.reduceEqDiff, Nat.reduceAdd, reduceCtorEq, Int.reduceToNat, clsL, clsS, clsC, e4]) (by simp +contextual (disch := first | (simp only [facts, clsL, clsS, clsC, isPtrD]; done) | omega | (simp only [push_nx, put_nx, del_nx]; omega) | (refine Nat.le_antisymm ?_ ?_ <;> simp only [push_nx, put_nx, del_nx] <;> omega) | fail) only [wpy, facts, wpb, cst, wpk, wpl, forall_const, implies_true, false_implies, Int.reduceLE, Int.reduceLT, Nat.reduceLeDiff, UInt8.reduceToNat, ↓reduceIte, Nat.reduceEqDiff, Nat.reduceAdd, reduceCtorEq, Int.reduceToNat, clsL, clsS, clsC, e5]) (by simp +contextual (disch := first | (simp only [facts, clsL, clsS, clsC, isPtrD]; done) | omega | (simp only [push_nx, put_nx, del_nx]; omega) | (refine Nat.le_antisymm ?_ ?_ <;> simp only [push_nx, put_nx, del_nx] <;> omega) | fail) only [wpy, facts, wpb, cst, wpk, wpl, forall_const, implies_true, false_implies, Int.reduceLE, Int.reduceLT, Nat.reduceLeDiff, UInt8.reduceToNat, ↓reduceIte, Nat.reduceEqDiff, Nat.reduceAdd, reduceCtorEq, Int.reduceToNat, clsL, clsS, clsC, hwi]) (xA.step st xA.bd.up xA.oi)
      · refine callF_exact (bind_miss_spec hS' xA.pr hno a.n a.back) ?_
        simp +contextual (disch := first | (simp only [facts, clsL, clsS, clsC, isPtrD]; done) | omega | (simp only [push_nx, put_nx, del_nx]; omega) | (refine Nat.le_antisymm ?_ ?_ <;> simp only [push_nx, put_nx, del_nx] <;> omega) | fail) only [wpy, facts, wpb, cst, wpk, wpl, forall_const, implies_true, false_implies, Int.reduceLE, Int.reduceLT, Nat.reduceLeDiff, UInt8.reduceToNat, ↓reduceIte, Nat.reduceEqDiff, Nat.reduceAdd, reduceCtorEq, Int.reduceToNat, clsL, clsS, clsC, Try.f3, e6, n250]
        exact nxt _ _ D P gv G (by simp +contextual (disch := first | (simp only [facts, clsL, clsS, clsC, isPtrD]; done) | omega | (simp only [push_nx, put_nx, del_nx]; omega) | (refine Nat.le_antisymm ?_ ?_ <;> simp only [push_nx, put_nx, del_nx] <;> omega) | fail) only [wpy, facts, wpb, cst, wpk, wpl, forall_const, implies_true, false_implies, Int.reduceLE, Int.reduceLT, Nat.reduceLeDiff, UInt8.reduceToNat, ↓reduceIte, Nat.reduceEqDiff, Nat.reduceAdd, reduceCtorEq, Int.reduceToNat, clsL, clsS, clsC, e0]) (by simp +contextual (disch := first | (simp only [facts, clsL, clsS, clsC, isPtrD]; done) | omega | (simp only [push_nx, put_nx, del_nx]; omega) | (refine Nat.le_antisymm ?_ ?_ <;> simp only [push_nx, put_nx, del_nx] <;> omega) | fail) only [wpy, facts, wpb, cst, wpk, wpl, forall_const, implies_true, false_implies, Int.reduceLE, Int.reduceLT, Nat.reduceLeDiff, UInt8.reduceToNat, ↓reduceIte, Nat.reduceEqDiff, Nat.reduceAdd, reduceCtorEq, Int.reduceToNat, clsL, clsS, clsC, e3]) (by simp +contextual (disch := first | (simp only [facts, clsL, clsS, clsC, isPtrD]; done) | omega | (simp only [push_nx, put_nx, del_nx]; omega) | (refine Nat.le_antisymm ?_ ?_ <;> simp only [push_nx, put_nx, del_nx] <;> omega) | fail) only [wpy, facts, wpb, cst, wpk, wpl, forall_const, implies_true, false_implies, Int.reduceLE, Int.reduceLT, Nat.reduceLeDiff, UInt8.reduceToNat, ↓reduceIte, Nat.reduceEqDiff, Nat.reduceAdd, reduceCtorEq, Int.reduceToNat, clsL, clsS, clsC, e4]) (by simp +contextual (disch := first | (simp only [facts, clsL, clsS, clsC, isPtrD]; done) | omega | (simp only [push_nx, put_nx, del_nx]; omega) | (refine Nat.le_antisymm ?_ ?_ <;> simp only [push_nx, put_nx, del_nx] <;> omega) | fail) only [wpy, facts, wpb, cst, wpk, wpl, forall_const, implies_true, false_implies, Int.reduceLE, Int.reduceLT, Nat.reduceLeDiff, UInt8.reduceToNat, ↓reduceIte, Nat.reduceEqDiff, Nat.reduceAdd, reduceCtorEq, Int.reduceToNat, clsL, clsS, clsC, e5]) (by simp +contextual (disch := first | (simp only [facts, clsL, clsS, clsC, isPtrD]; done) | omega | (simp only [push_nx, put_nx, del_nx]; omega) | (refine Nat.le_antisymm ?_ ?_ <;> simp only [push_nx, put_nx, del_nx] <;> omega) | fail) only [wpy, facts, wpb, cst, wpk, wpl, forall_const, implies_true, false_implies, Int.reduceLE, Int.reduceLT, Nat.reduceLeDiff, UInt8.reduceToNat, ↓reduceIte, Nat.reduceEqDiff, Nat.reduceAdd, reduceCtorEq, Int.reduceToNat, clsL, clsS, clsC, hwi]) xS
    by_cases k4 : kk = 4
    · simp +contextual (disch := first | (simp only [facts, clsL, clsS, clsC, isPtrD]; done) | omega | (simp only [push_nx, put_nx, del_nx]; omega) | (refine Nat.le_antisymm ?_ ?_ <;> simp only [push_nx, put_nx, del_nx] <;> omega) | fail) only [wpy, facts, wpb, cst, wpk, wpl, forall_const, implies_true, false_implies, Int.reduceLE, Int.reduceLT, Nat.reduceLeDiff, UInt8.reduceToNat, ↓reduceIte, Nat.reduceEqDiff, Nat.reduceAdd, reduceCtorEq, Int.reduceToNat, clsL, clsS, clsC, Try.f3, hgA, e3, k4, Int.reduceEq]
      rcases id_cases P a.id with ⟨j, hj, hid⟩ | hno
      · have hj' : j < P.pl.l.length := by rw [hlp]; exact hj
        refine callF_of (long_hit_spec hS' xA.pr hj hid a.on) hO ?_
        rintro v h3 ⟨rfl, st⟩
        simp +contextual (disch := first | (simp only [facts, clsL, clsS, clsC, isPtrD]; done) | omega | (simp only [push_nx, put_nx, del_nx]; omega) | (refine Nat.le_antisymm ?_ ?_ <;> simp only [push_nx, put_nx, del_nx] <;> omega) | fail) only [wpy, facts, wpb, cst, wpk, wpl, forall_const, implies_true, false_implies, Int.reduceLE, Int.reduceLT, Nat.reduceLeDiff, UInt8.reduceToNat, ↓reduceIte, Nat.reduceEqDiff, Nat.reduceAdd, reduceCtorEq, Int.reduceToNat, clsL, clsS, clsC, Try.f3, e6]
        have hq := longS_oi (s := P.es[j].s) (fun w => xA.oi.pin _ (hmj hj) w) a.on
        exact nxt _ _ D _ gv G (by simp +contextual (disch := first | (simp only [facts, clsL, clsS, clsC, isPtrD]; done) | omega | (simp only [push_nx, put_nx, del_nx]; omega) | (refine Nat.le_antisymm ?_ ?_ <;> simp only [push_nx, put_nx, del_nx] <;> omega) | fail) only [wpy, facts, wpb, cst, wpk, wpl, forall_const, implies_true, false_implies, Int.reduceLE, Int.reduceLT, Nat.reduceLeDiff, UInt8.reduceToNat, ↓reduceIte, Nat.reduceEqDiff, Nat.reduceAdd, reduceCtorEq, Int.reduceToNat, clsL, clsS, clsC, e0]) (by simp +contextual (disch := first | (simp only [facts, clsL, clsS, clsC, isPtrD]; done) | omega | (simp only [push_nx, put_nx, del_nx]; omega) | (refine Nat.le_antisymm ?_ ?_ <;> simp only [push_nx, put_nx, del_nx] <;> omega) | fail) only [wpy, facts, wpb, cst, wpk, wpl, forall_const, implies_true, false_implies, Int.reduceLE, Int.reduceLT, Nat.reduceLeDiff, UInt8.reduceToNat, ↓reduceIte, Nat.reduceEqDiff, Nat.reduceAdd, reduceCtorEq, Int.reduceToNat, clsL, clsS, clsC, e3]) (by simp +contextual (disch := first | (simp only [facts, clsL, clsS, clsC, isPtrD]; done) | omega | (simp only [push_nx, put_nx, del_nx]; omega) | (refine Nat.le_antisymm ?_ ?_ <;> simp only [push_nx, put_nx, del_nx] <;> omega) | fail) only [wpy, facts, wpb, cst, wpk, wpl, forall_const, implies_true, false_implies, Int.reduceLE, Int.reduceLT, Nat.reduceLeDiff, UInt8.reduceToNat, ↓reduceIte, Nat.reduceEqDiff, Nat.reduceAdd, reduceCtorEq, Int.reduceToNat, clsL, clsS, clsC, e4]; rfl) (by simp +contextual (disch := first | (simp only [facts, clsL, clsS, clsC, isPtrD]; done) | omega | (simp only [push_nx, put_nx, del_nx]; omega) | (refine Nat.le_antisymm ?_ ?_ <;> simp only [push_nx, put_nx, del_nx] <;> omega) | fail) only [wpy, facts, wpb, cst, wpk, wpl, forall_const, implies_true, false_implies, Int.reduceLE, Int.reduceLT, Nat.reduceLeDiff, UInt8.reduceToNat, ↓reduceIte, Nat.reduceEqDiff, Nat.reduceAdd, reduceCtorEq, Int.reduceToNat, clsL, clsS, clsC, e5]) (by simp +contextual (disch := first | (simp only [facts, clsL, clsS, clsC, isPtrD]; done) | omega | (simp only [push_nx, put_nx, del_nx]; omega) | (refine Nat.le_antisymm ?_ ?_ <;> simp only [push_nx, put_nx, del_nx] <;> omega) | fail) only [wpy, facts, wpb, cst, wpk, wpl, forall_const, implies_true, false_implies, Int.reduceLE, Int.reduceLT, Nat.reduceLeDiff, UInt8.reduceToNat, ↓reduceIte, Nat.reduceEqDiff, Nat.reduceAdd, reduceCtorEq, Int.reduceToNat, clsL, clsS, clsC, hwi]) (xA.step st (xA.bd.setj hj (longS_id _ _)) (by rw [MS.set_pl _ hj]; exact xA.oi.set hj' hq.1 (by rw [pl_get hj hj']; exact hq.2.1) (by rw [pl_get hj hj']; exact hq.2.2)))
      · refine callF_exact (long_miss_spec hS' xA.pr hno a.on) ?_
        simp +contextual (disch := first | (simp only [facts, clsL, clsS, clsC, isPtrD]; done) | omega | (simp only [push_nx, put_nx, del_nx]; omega) | (refine Nat.le_antisymm ?_ ?_ <;> simp only [push_nx, put_nx, del_nx] <;> omega) | fail) only [wpy, facts, wpb, cst, wpk, wpl, forall_const, implies_true, false_implies, Int.reduceLE, Int.reduceLT, Nat.reduceLeDiff, UInt8.reduceToNat, ↓reduceIte, Nat.reduceEqDiff, Nat.reduceAdd, reduceCtorEq, Int.reduceToNat, clsL, clsS, clsC, Try.f3, e6]
        exact nxt _ _ D P gv G (by simp +contextual (disch := first | (simp only [facts, clsL, clsS, clsC, isPtrD]; done) | omega | (simp only [push_nx, put_nx, del_nx]; omega) | (refine Nat.le_antisymm ?_ ?_ <;> simp only [push_nx, put_nx, del_nx] <;> omega) | fail) only [wpy, facts, wpb, cst, wpk, wpl, forall_const, implies_true, false_implies, Int.reduceLE, Int.reduceLT, Nat.reduceLeDiff, UInt8.reduceToNat, ↓reduceIte, Nat.reduceEqDiff, Nat.reduceAdd, reduceCtorEq, Int.reduceToNat, clsL, clsS, clsC, e0]) (by simp +contextual (disch := first | (simp only [facts, clsL, clsS, clsC, isPtrD]; done) | omega | (simp only [push_nx, put_nx, del_nx]; omega) | (refine Nat.le_antisymm ?_ ?_ <;> simp only [push_nx, put_nx, del_nx] <;> omega) | fail) only [wpy, facts, wpb, cst, wpk, wpl, forall_const, implies_true, false_implies, Int.reduceLE, Int.reduceLT, Nat.reduceLeDiff, UInt8.reduceToNat, ↓reduceIte, Nat.reduceEqDiff, Nat.reduceAdd, reduceCtorEq, Int.reduceToNat, clsL, clsS, clsC, e3]) (by simp +contextual (disch := first | (simp only [facts, clsL, clsS, clsC, isPtrD]; done) | omega | (simp only [push_nx, put_nx, del_nx]; omega) | (refine Nat.le_antisymm ?_ ?_ <;> simp only [push_nx, put_nx, del_nx] <;> omega) | fail) only [wpy, facts, wpb, cst, wpk, wpl, forall_const, implies_true, false_implies, Int.reduceLE, Int.reduceLT, Nat.reduceLeDiff, UInt8.reduceToNat, ↓reduceIte, Nat.reduceEqDiff, Nat.reduceAdd, reduceCtorEq, Int.reduceToNat, clsL, clsS, clsC, e4]) (by simp +contextual (disch := first | (simp only [facts, clsL, clsS, clsC, isPtrD]; done) | omega | (simp only [push_nx, put_nx, del_nx]; omega) | (refine Nat.le_antisymm ?_ ?_ <;> simp only [push_nx, put_nx, del_nx] <;> omega) | fail) only [wpy, facts, wpb, cst, wpk, wpl, forall_const, implies_true, false_implies, Int.reduceLE, Int.reduceLT, Nat.reduceLeDiff, UInt8.reduceToNat, ↓reduceIte, Nat.reduceEqDiff, Nat.reduceAdd, reduceCtorEq, Int.reduceToNat, clsL, clsS, clsC, e5]) (by simp +contextual (disch := first | (simp only [facts, clsL, clsS, clsC, isPtrD]; done) | omega | (simp only [push_nx, put_nx, del_nx]; omega) | (refine Nat.le_antisymm ?_ ?_ <;> simp only [push_nx, put_nx, del_nx] <;> omega) | fail) only [wpy, facts, wpb, cst, wpk, wpl, forall_const, implies_true, false_implies, Int.reduceLE, Int.reduceLT, Nat.reduceLeDiff, UInt8.reduceToNat, ↓reduceIte, Nat.reduceEqDiff, Nat.reduceAdd, reduceCtorEq, Int.reduceToNat, clsL, clsS, clsC, hwi]) xS
    by_cases k5 : kk = 5
    · simp +contextual (disch := first | (simp only [facts, clsL, clsS, clsC, isPtrD]; done) | omega | (simp only [push_nx, put_nx, del_nx]; omega) | (refine Nat.le_antisymm ?_ ?_ <;> simp only [push_nx, put_nx, del_nx] <;> omega) | fail) only [wpy, facts, wpb, cst, wpk, wpl, forall_const, implies_true, false_implies, Int.reduceLE, Int.reduceLT, Nat.reduceLeDiff, UInt8.reduceToNat, ↓reduceIte, Nat.reduceEqDiff, Nat.reduceAdd, reduceCtorEq, Int.reduceToNat, clsL, clsS, clsC, Try.f3, hgA, e3, k5, Int.reduceEq]
      rcases id_cases P a.id with ⟨j, hj, hid⟩ | hno
      · have hj' : j < P.pl.l.length := by rw [hlp]; exact hj
        refine callF_of (cursor_hit_spec hS' xA.pr hj hid a.on) hO ?_
        rintro v h3 ⟨rfl, st⟩
        simp +contextual (disch := first | (simp only [facts, clsL, clsS, clsC, isPtrD]; done) | omega | (simp only [push_nx, put_nx, del_nx]; omega) | (refine Nat.le_antisymm ?_ ?_ <;> simp only [push_nx, put_nx, del_nx] <;> omega) | fail) only [wpy, facts, wpb, cst, wpk, wpl, forall_const, implies_true, false_implies, Int.reduceLE, Int.reduceLT, Nat.reduceLeDiff, UInt8.reduceToNat, ↓reduceIte, Nat.reduceEqDiff, Nat.reduceAdd, reduceCtorEq, Int.reduceToNat, clsL, clsS, clsC, Try.f3, e6]
        have hq := curS_oi (s := P.es[j].s) (fun w => xA.oi.pin _ (hmj hj) w) a.on
        exact nxt _ _ D _ gv G (by simp +contextual (disch := first | (simp only [facts, clsL, clsS, clsC, isPtrD]; done) | omega | (simp only [push_nx, put_nx, del_nx]; omega) | (refine Nat.le_antisymm ?_ ?_ <;> simp only [push_nx, put_nx, del_nx] <;> omega) | fail) only [wpy, facts, wpb, cst, wpk, wpl, forall_const, implies_true, false_implies, Int.reduceLE, Int.reduceLT, Nat.reduceLeDiff, UInt8.reduceToNat, ↓reduceIte, Nat.reduceEqDiff, Nat.reduceAdd, reduceCtorEq, Int.reduceToNat, clsL, clsS, clsC, e0]) (by simp +contextual (disch := first | (simp only [facts, clsL, clsS, clsC, isPtrD]; done) | omega | (simp only [push_nx, put_nx, del_nx]; omega) | (refine Nat.le_antisymm ?_ ?_ <;> simp only [push_nx, put_nx, del_nx] <;> omega) | fail) only [wpy, facts, wpb, cst, wpk, wpl, forall_const, implies_true, false_implies, Int.reduceLE, Int.reduceLT, Nat.reduceLeDiff, UInt8.reduceToNat, ↓reduceIte, Nat.reduceEqDiff, Nat.reduceAdd, reduceCtorEq, Int.reduceToNat, clsL, clsS, clsC, e3]) (by simp +contextual (disch := first | (simp only [facts, clsL, clsS, clsC, isPtrD]; done) | omega | (simp only [push_nx, put_nx, del_nx]; omega) | (refine Nat.le_antisymm ?_ ?_ <;> simp only [push_nx, put_nx, del_nx] <;> omega) | fail) only [wpy, facts, wpb, cst, wpk, wpl, forall_const, implies_true, false_implies, Int.reduceLE, Int.reduceLT, Nat.reduceLeDiff, UInt8.reduceToNat, ↓reduceIte, Nat.reduceEqDiff, Nat.reduceAdd, reduceCtorEq, Int.reduceToNat, clsL, clsS, clsC, e4]; rfl) (by simp +contextual (disch := first | (simp only [facts, clsL, clsS, clsC, isPtrD]; done) | omega | (simp only [push_nx, put_nx, del_nx]; omega) | (refine Nat.le_antisymm ?_ ?_ <;> simp only [push_nx, put_nx, del_nx] <;> omega) | fail) only [wpy, facts, wpb, cst, wpk, wpl, forall_const, implies_true, false_implies, Int.reduceLE, Int.reduceLT, Nat.reduceLeDiff, UInt8.reduceToNat, ↓reduceIte, Nat.reduceEqDiff, Nat.reduceAdd, reduceCtorEq, Int.reduceToNat, clsL, clsS, clsC, e5]) (by simp +contextual (disch := first | (simp only [facts, clsL, clsS, clsC, isPtrD]; done) | omega | (simp only [push_nx, put_nx, del_nx]; omega) | (refine Nat.le_antisymm ?_ ?_ <;> simp only [push_nx, put_nx, del_nx] <;> omega) | fail) only [wpy, facts, wpb, cst, wpk, wpl, forall_const, implies_true, false_implies, Int.reduceLE, Int.reduceLT, Nat.reduceLeDiff, UInt8.reduceToNat, ↓reduceIte, Nat.reduceEqDiff, Nat.reduceAdd, reduceCtorEq, Int.reduceToNat, clsL, clsS, clsC, hwi]) (xA.step st (xA.bd.setj hj (curS_id _ _)) (by rw [MS.set_pl _ hj]; exact xA.oi.set hj' hq.1 (by rw [pl_get hj hj']; exact hq.2.1) (by rw [pl_get hj hj']; exact hq.2.2)))
      · refine callF_exact (cursor_miss_spec hS' xA.pr hno a.on) ?_
        simp +contextual (disch := first | (simp only [facts, clsL, clsS, clsC, isPtrD]; done) | omega | (simp only [push_nx, put_nx, del_nx]; omega) | (refine Nat.le_antisymm ?_ ?_ <;> simp only [push_nx, put_nx, del_nx] <;> omega) | fail) only [wpy, facts, wpb, cst, wpk, wpl, forall_const, implies_true, false_implies, Int.reduceLE, Int.reduceLT, Nat.reduceLeDiff, UInt8.reduceToNat, ↓reduceIte, Nat.reduceEqDiff, Nat.reduceAdd, reduceCtorEq, Int.reduceToNat, clsL, clsS, clsC, Try.f3, e6]
        exact nxt _ _ D P gv G (by simp +contextual (disch := first | (simp only [facts, clsL, clsS, clsC, isPtrD]; done) | omega | (simp only [push_nx, put_nx, del_nx]; omega) | (refine Nat.le_antisymm ?_ ?_ <;> simp only [push_nx, put_nx, del_nx] <;> omega) | fail) only [wpy, facts, wpb, cst, wpk, wpl, forall_const, implies_true, false_implies, Int.reduceLE, Int.reduceLT, Nat.reduceLeDiff, UInt8.reduceToNat, ↓reduceIte, Nat.reduceEqDiff, Nat.reduceAdd, reduceCtorEq, Int.reduceToNat, clsL, clsS, clsC, e0]) (by simp +contextual (disch := first | (simp only [facts, clsL, clsS, clsC, isPtrD]; done) | omega | (simp only [push_nx, put_nx, del_nx]; omega) | (refine Nat.le_antisymm ?_ ?_ <;> simp only [push_nx, put_nx, del_nx] <;> omega) | fail) only [wpy, facts, wpb, cst, wpk, wpl, forall_const, implies_true, false_implies, Int.reduceLE, Int.reduceLT, Nat.reduceLeDiff, UInt8.reduceToNat, ↓reduceIte, Nat.reduceEqDiff, Nat.reduceAdd, reduceCtorEq, Int.reduceToNat, clsL, clsS, clsC, e3]) (by simp +contextual (disch := first | (simp only [facts, clsL, clsS, clsC, isPtrD]; done) | omega | (simp only [push_nx, put_nx, del_nx]; omega) | (refine Nat.le_antisymm ?_ ?_ <;> simp only [push_nx, put_nx, del_nx] <;> omega) | fail) only [wpy, facts, wpb, cst, wpk, wpl, forall_const, implies_true, false_implies, Int.reduceLE, Int.reduceLT, Nat.reduceLeDiff, UInt8.reduceToNat, ↓reduceIte, Nat.reduceEqDiff, Nat.reduceAdd, reduceCtorEq, Int.reduceToNat, clsL, clsS, clsC, e4]) (by simp +contextual (disch := first | (simp only [facts, clsL, clsS, clsC, isPtrD]; done) | omega | (simp only [push_nx, put_nx, del_nx]; omega) | (refine Nat.le_antisymm ?_ ?_ <;> simp only [push_nx, put_nx, del_nx] <;> omega) | fail) only [wpy, facts, wpb, cst, wpk, wpl, forall_const, implies_true, false_implies, Int.reduceLE, Int.reduceLT, Nat.reduceLeDiff, UInt8.reduceToNat, ↓reduceIte, Nat.reduceEqDiff, Nat.reduceAdd, reduceCtorEq, Int.reduceToNat, clsL, clsS, clsC, e5]) (by simp +contextual (disch := first | (simp only [facts, clsL, clsS, clsC, isPtrD]; done) | omega | (simp only [push_nx, put_nx, del_nx]; omega) | (refine Nat.le_antisymm ?_ ?_ <;> simp only [push_nx, put_nx, del_nx] <;> omega) | fail) only [wpy, facts, wpb, cst, wpk, wpl, forall_const, implies_true, false_implies, Int.reduceLE, Int.reduceLT, Nat.reduceLeDiff, UInt8.reduceToNat, ↓reduceIte, Nat.reduceEqDiff, Nat.reduceAdd, reduceCtorEq, Int.reduceToNat, clsL, clsS, clsC, hwi]) xS
    by_cases k6 : kk = 6
    · simp +contextual (disch := first | (simp only [facts, clsL, clsS, clsC, isPtrD]; done) | omega | (simp only [push_nx, put_nx, del_nx]; omega) | (refine Nat.le_antisymm ?_ ?_ <;> simp only [push_nx, put_nx, del_nx] <;> omega) | fail) only [wpy, facts, wpb, cst, wpk, wpl, forall_const, implies_true, false_implies, Int.reduceLE, Int.reduceLT, Nat.reduceLeDiff, UInt8.reduceToNat, ↓reduceIte, Nat.reduceEqDiff, Nat.reduceAdd, reduceCtorEq, Int.reduceToNat, clsL, clsS, clsC, Try.f3, hgA, e3, k6, Int.reduceEq]
      rcases id_cases P a.id with ⟨j, hj, hid⟩ | hno
      · refine callF_of (close_hit_spec hS' xA.pr hj hid) hO ?_
        rintro v h3 ⟨rfl, st⟩
        simp +contextual (disch := first | (simp only [facts, clsL, clsS, clsC, isPtrD]; done) | omega | (simp only [push_nx, put_nx, del_nx]; omega) | (refine Nat.le_antisymm ?_ ?_ <;> simp only [push_nx, put_nx, del_nx] <;> omega) | fail) only [wpy, facts, wpb, cst, wpk, wpl, forall_const, implies_true, false_implies, Int.reduceLE, Int.reduceLT, Nat.reduceLeDiff, UInt8.reduceToNat, ↓reduceIte, Nat.reduceEqDiff, Nat.reduceAdd, reduceCtorEq, Int.reduceToNat, clsL, clsS, clsC, Try.f3, e6]
        have hsub := List.eraseIdx_sublist P.es j
        exact nxt _ _ D ⟨P.last, P.es.eraseIdx j⟩ gv G (by simp +contextual (disch := first | (simp only [facts, clsL, clsS, clsC, isPtrD]; done) | omega | (simp only [push_nx, put_nx, del_nx]; omega) | (refine Nat.le_antisymm ?_ ?_ <;> simp only [push_nx, put_nx, del_nx] <;> omega) | fail) only [wpy, facts, wpb, cst, wpk, wpl, forall_const, implies_true, false_implies, Int.reduceLE, Int.reduceLT, Nat.reduceLeDiff, UInt8.reduceToNat, ↓reduceIte, Nat.reduceEqDiff, Nat.reduceAdd, reduceCtorEq, Int.reduceToNat, clsL, clsS, clsC, e0]) (by simp +contextual (disch := first | (simp only [facts, clsL, clsS, clsC, isPtrD]; done) | omega | (simp only [push_nx, put_nx, del_nx]; omega) | (refine Nat.le_antisymm ?_ ?_ <;> simp only [push_nx, put_nx, del_nx] <;> omega) | fail) only [wpy, facts, wpb, cst, wpk, wpl, forall_const, implies_true, false_implies, Int.reduceLE, Int.reduceLT, Nat.reduceLeDiff, UInt8.reduceToNat, ↓reduceIte, Nat.reduceEqDiff, Nat.reduceAdd, reduceCtorEq, Int.reduceToNat, clsL, clsS, clsC, e3]) (by simp +contextual (disch := first | (simp only [facts, clsL, clsS, clsC, isPtrD]; done) | omega | (simp only [push_nx, put_nx, del_nx]; omega) | (refine Nat.le_antisymm ?_ ?_ <;> simp only [push_nx, put_nx, del_nx] <;> omega) | fail) only [wpy, facts, wpb, cst, wpk, wpl, forall_const, implies_true, false_implies, Int.reduceLE, Int.reduceLT, Nat.reduceLeDiff, UInt8.reduceToNat, ↓reduceIte, Nat.reduceEqDiff, Nat.reduceAdd, reduceCtorEq, Int.reduceToNat, clsL, clsS, clsC, e4]) (by simp +contextual (disch := first | (simp only [facts, clsL, clsS, clsC, isPtrD]; done) | omega | (simp only [push_nx, put_nx, del_nx]; omega) | (refine Nat.le_antisymm ?_ ?_ <;> simp only [push_nx, put_nx, del_nx] <;> omega) | fail) only [wpy, facts, wpb, cst, wpk, wpl, forall_const, implies_true, false_implies, Int.reduceLE, Int.reduceLT, Nat.reduceLeDiff, UInt8.reduceToNat, ↓reduceIte, Nat.reduceEqDiff, Nat.reduceAdd, reduceCtorEq, Int.reduceToNat, clsL, clsS, clsC, e5]) (by simp +contextual (disch := first | (simp only [facts, clsL, clsS, clsC, isPtrD]; done) | omega | (simp only [push_nx, put_nx, del_nx]; omega) | (refine Nat.le_antisymm ?_ ?_ <;> simp only [push_nx, put_nx, del_nx] <;> omega) | fail) only [wpy, facts, wpb, cst, wpk, wpl, forall_const, implies_true, false_implies, Int.reduceLE, Int.reduceLT, Nat.reduceLeDiff, UInt8.reduceToNat, ↓reduceIte, Nat.reduceEqDiff, Nat.reduceAdd, reduceCtorEq, Int.reduceToNat, clsL, clsS, clsC, hwi]) (xA.step st ⟨xA.bd.lo, (xA.bd.up).hi, fun e he => xA.bd.ids e (hsub.subset he), Nat.le_trans hsub.length_le xA.bd.few⟩ (xA.oi.sub (hsub.map EN.s) _))
      · refine callF_exact (close_miss_spec hS' xA.pr hno) ?_
        simp +contextual (disch := first | (simp only [facts, clsL, clsS, clsC, isPtrD]; done) | omega | (simp only [push_nx, put_nx, del_nx]; omega) | (refine Nat.le_antisymm ?_ ?_ <;> simp only [push_nx, put_nx, del_nx] <;> omega) | fail) only [wpy, facts, wpb, cst, wpk, wpl, forall_const, implies_true, false_implies, Int.reduceLE, Int.reduceLT, Nat.reduceLeDiff, UInt8.reduceToNat, ↓reduceIte, Nat.reduceEqDiff, Nat.reduceAdd, reduceCtorEq, Int.reduceToNat, clsL, clsS, clsC, Try.f3, e6]
        exact nxt _ _ D P gv G (by simp +contextual (disch := first | (simp only [facts, clsL, clsS, clsC, isPtrD]; done) | omega | (simp only [push_nx, put_nx, del_nx]; omega) | (refine Nat.le_antisymm ?_ ?_ <;> simp only [push_nx, put_nx, del_nx] <;> omega) | fail) only [wpy, facts, wpb, cst, wpk, wpl, forall_const, implies_true, false_implies, Int.reduceLE, Int.reduceLT, Nat.reduceLeDiff, UInt8.reduceToNat, ↓reduceIte, Nat.reduceEqDiff, Nat.reduceAdd, reduceCtorEq, Int.reduceToNat, clsL, clsS, clsC, e0]) (by simp +contextual (disch := first | (simp only [facts, clsL, clsS, clsC, isPtrD]; done) | omega | (simp only [push_nx, put_nx, del_nx]; omega) | (refine Nat.le_antisymm ?_ ?_ <;> simp only [push_nx, put_nx, del_nx] <;> omega) | fail) only [wpy, facts, wpb, cst, wpk, wpl, forall_const, implies_true, false_implies, Int.reduceLE, Int.reduceLT, Nat.reduceLeDiff, UInt8.reduceToNat, ↓reduceIte, Nat.reduceEqDiff, Nat.reduceAdd, reduceCtorEq, Int.reduceToNat, clsL, clsS, clsC, e3]) (by simp +contextual (disch := first | (simp only [facts, clsL, clsS, clsC, isPtrD]; done) | omega | (simp only [push_nx, put_nx, del_nx]; omega) | (refine Nat.le_antisymm ?_ ?_ <;> simp only [push_nx, put_nx, del_nx] <;> omega) | fail) only [wpy, facts, wpb, cst, wpk, wpl, forall_const, implies_true, false_implies, Int.reduceLE, Int.reduceLT, Nat.reduceLeDiff, UInt8.reduceToNat, ↓reduceIte, Nat.reduceEqDiff, Nat.reduceAdd, reduceCtorEq, Int.reduceToNat, clsL, clsS, clsC, e4]) (by simp +contextual (disch := first | (simp only [facts, clsL, clsS, clsC, isPtrD]; done) | omega | (simp only [push_nx, put_nx, del_nx]; omega) | (refine Nat.le_antisymm ?_ ?_ <;> simp only [push_nx, put_nx, del_nx] <;> omega) | fail) only [wpy, facts, wpb, cst, wpk, wpl, forall_const, implies_true, false_implies, Int.reduceLE, Int.reduceLT, Nat.reduceLeDiff, UInt8.reduceToNat, ↓reduceIte, Nat.reduceEqDiff, Nat.reduceAdd, reduceCtorEq, Int.reduceToNat, clsL, clsS, clsC, e5]) (by simp +contextual (disch := first | (simp only [facts, clsL, clsS, clsC, isPtrD]; done) | omega | (simp only [push_nx, put_nx, del_nx]; omega) | (refine Nat.le_antisymm ?_ ?_ <;> simp only [push_nx, put_nx, del_nx] <;> omega) | fail) only [wpy, facts, wpb, cst, wpk, wpl, forall_const, implies_true, false_implies, Int.reduceLE, Int.reduceLT, Nat.reduceLeDiff, UInt8.reduceToNat, ↓reduceIte, Nat.reduceEqDiff, Nat.reduceAdd, reduceCtorEq, Int.reduceToNat, clsL, clsS, clsC, hwi]) xS
    by_cases k7 : kk = 7
    · simp +contextual (disch := first | (simp only [facts, clsL, clsS, clsC, isPtrD]; done) | omega | (simp only [push_nx, put_nx, del_nx]; omega) | (refine Nat.le_antisymm ?_ ?_ <;> simp only [push_nx, put_nx, del_nx] <;> omega) | fail) only [wpy, facts, wpb, cst, wpk, wpl, forall_const, implies_true, false_implies, Int.reduceLE, Int.reduceLT, Nat.reduceLeDiff, UInt8.reduceToNat, ↓reduceIte, Nat.reduceEqDiff, Nat.reduceAdd, reduceCtorEq, Int.reduceToNat, clsL, clsS, clsC, Try.f3, hgA, e3, k7, Int.reduceEq]
      refine callF_of (unbind_spec hS xA.pr a.n) hO ?_
      rintro v h3 st
      simp +contextual (disch := first | (simp only [facts, clsL, clsS, clsC, isPtrD]; done) | omega | (simp only [push_nx, put_nx, del_nx]; omega) | (refine Nat.le_antisymm ?_ ?_ <;> simp only [push_nx, put_nx, del_nx] <;> omega) | fail) only [wpy, facts, wpb, cst, wpk, wpl, forall_const, implies_true, false_implies, Int.reduceLE, Int.reduceLT, Nat.reduceLeDiff, UInt8.reduceToNat, ↓reduceIte, Nat.reduceEqDiff, Nat.reduceAdd, reduceCtorEq, Int.reduceToNat, clsL, clsS, clsC, Try.f3, e6]
      refine nxt _ _ D (P.unb a.n) gv G (by simp +contextual (disch := first | (simp only [facts, clsL, clsS, clsC, isPtrD]; done) | omega | (simp only [push_nx, put_nx, del_nx]; omega) | (refine Nat.le_antisymm ?_ ?_ <;> simp only [push_nx, put_nx, del_nx] <;> omega) | fail) only [wpy, facts, wpb, cst, wpk, wpl, forall_const, implies_true, false_implies, Int.reduceLE, Int.reduceLT, Nat.reduceLeDiff, UInt8.reduceToNat, ↓reduceIte, Nat.reduceEqDiff, Nat.reduceAdd, reduceCtorEq, Int.reduceToNat, clsL, clsS, clsC, e0]) (by simp +contextual (disch := first | (simp only [facts, clsL, clsS, clsC, isPtrD]; done) | omega | (simp only [push_nx, put_nx, del_nx]; omega) | (refine Nat.le_antisymm ?_ ?_ <;> simp only [push_nx, put_nx, del_nx] <;> omega) | fail) only [wpy, facts, wpb, cst, wpk, wpl, forall_const, implies_true, false_implies, Int.reduceLE, Int.reduceLT, Nat.reduceLeDiff, UInt8.reduceToNat, ↓reduceIte, Nat.reduceEqDiff, Nat.reduceAdd, reduceCtorEq, Int.reduceToNat, clsL, clsS, clsC, e3]) (by simp +contextual (disch := first | (simp only [facts, clsL, clsS, clsC, isPtrD]; done) | omega | (simp only [push_nx, put_nx, del_nx]; omega) | (refine Nat.le_antisymm ?_ ?_ <;> simp only [push_nx, put_nx, del_nx] <;> omega) | fail) only [wpy, facts, wpb, cst, wpk, wpl, forall_const, implies_true, false_implies, Int.reduceLE, Int.reduceLT, Nat.reduceLeDiff, UInt8.reduceToNat, ↓reduceIte, Nat.reduceEqDiff, Nat.reduceAdd, reduceCtorEq, Int.reduceToNat, clsL, clsS, clsC, e4]; rfl) (by simp +contextual (disch := first | (simp only [facts, clsL, clsS, clsC, isPtrD]; done) | omega | (simp only [push_nx, put_nx, del_nx]; omega) | (refine Nat.le_antisymm ?_ ?_ <;> simp only [push_nx, put_nx, del_nx] <;> omega) | fail) only [wpy, facts, wpb, cst, wpk, wpl, forall_const, implies_true, false_implies, Int.reduceLE, Int.reduceLT, Nat.reduceLeDiff, UInt8.reduceToNat, ↓reduceIte, Nat.reduceEqDiff, Nat.reduceAdd, reduceCtorEq, Int.reduceToNat, clsL, clsS, clsC, e5]) (by simp +contextual (disch := first | (simp only [facts, clsL, clsS, clsC, isPtrD]; done) | omega | (simp only [push_nx, put_nx, del_nx]; omega) | (refine Nat.le_antisymm ?_ ?_ <;> simp only [push_nx, put_nx, del_nx] <;> omega) | fail) only [wpy, facts, wpb, cst, wpk, wpl, forall_const, implies_true, false_implies, Int.reduceLE, Int.reduceLT, Nat.reduceLeDiff, UInt8.reduceToNat, ↓reduceIte, Nat.reduceEqDiff, Nat.reduceAdd, reduceCtorEq, Int.reduceToNat, clsL, clsS, clsC, hwi]) (xA.step st ⟨xA.bd.lo, (xA.bd.up).hi, fun e he => ?_, ?_⟩ (by rw [unb_pl hS]; exact xA.oi.unb a.n))
      · obtain ⟨e0, h0, rfl⟩ := List.mem_map.1 he
        show (unbR a.n e0.s).id ≤ P.last
        rw [unbR_id]; exact xA.bd.ids e0 h0
      · show (P.es.map _).length ≤ 256
        rw [List.length_map]; exact xA.bd.few
    by_cases k8 : kk = 8
    · simp +contextual (disch := first | (simp only [facts, clsL, clsS, clsC, isPtrD]; done) | omega | (simp only [push_nx, put_nx, del_nx]; omega) | (refine Nat.le_antisymm ?_ ?_ <;> simp only [push_nx, put_nx, del_nx] <;> omega) | fail) only [wpy, facts, wpb, cst, wpk, wpl, forall_const, implies_true, false_implies, Int.reduceLE, Int.reduceLT, Nat.reduceLeDiff, UInt8.reduceToNat, ↓reduceIte, Nat.reduceEqDiff, Nat.reduceAdd, reduceCtorEq, Int.reduceToNat, clsL, clsS, clsC, Try.f3, hgA, e3, k8, Int.reduceEq]
      refine callF_of (clear_spec hS' xA.pr) hO ?_
      rintro v h3 st
      simp +contextual (disch := first | (simp only [facts, clsL, clsS, clsC, isPtrD]; done) | omega | (simp only [push_nx, put_nx, del_nx]; omega) | (refine Nat.le_antisymm ?_ ?_ <;> simp only [push_nx, put_nx, del_nx] <;> omega) | fail) only [wpy, facts, wpb, cst, wpk, wpl, forall_const, implies_true, false_implies, Int.reduceLE, Int.reduceLT, Nat.reduceLeDiff, UInt8.reduceToNat, ↓reduceIte, Nat.reduceEqDiff, Nat.reduceAdd, reduceCtorEq, Int.reduceToNat, clsL, clsS, clsC, Try.f3, e6]
      exact nxt _ _ D ⟨P.last, []⟩ gv G (by simp +contextual (disch := first | (simp only [facts, clsL, clsS, clsC, isPtrD]; done) | omega | (simp only [push_nx, put_nx, del_nx]; omega) | (refine Nat.le_antisymm ?_ ?_ <;> simp only [push_nx, put_nx, del_nx] <;> omega) | fail) only [wpy, facts, wpb, cst, wpk, wpl, forall_const, implies_true, false_implies, Int.reduceLE, Int.reduceLT, Nat.reduceLeDiff, UInt8.reduceToNat, ↓reduceIte, Nat.reduceEqDiff, Nat.reduceAdd, reduceCtorEq, Int.reduceToNat, clsL, clsS, clsC, e0]) (by simp +contextual (disch := first | (simp only [facts, clsL, clsS, clsC, isPtrD]; done) | omega | (simp only [push_nx, put_nx, del_nx]; omega) | (refine Nat.le_antisymm ?_ ?_ <;> simp only [push_nx, put_nx, del_nx] <;> omega) | fail) only [wpy, facts, wpb, cst, wpk, wpl, forall_const, implies_true, false_implies, Int.reduceLE, Int.reduceLT, Nat.reduceLeDiff, UInt8.reduceToNat, ↓reduceIte, Nat.reduceEqDiff, Nat.reduceAdd, reduceCtorEq, Int.reduceToNat, clsL, clsS, clsC, e3]) (by simp +contextual (disch := first | (simp only [facts, clsL, clsS, clsC, isPtrD]; done) | omega | (simp only [push_nx, put_nx, del_nx]; omega) | (refine Nat.le_antisymm ?_ ?_ <;> simp only [push_nx, put_nx, del_nx] <;> omega) | fail) only [wpy, facts, wpb, cst, wpk, wpl, forall_const, implies_true, false_implies, Int.reduceLE, Int.reduceLT, Nat.reduceLeDiff, UInt8.reduceToNat, ↓reduceIte, Nat.reduceEqDiff, Nat.reduceAdd, reduceCtorEq, Int.reduceToNat, clsL, clsS, clsC, e4]) (by simp +contextual (disch := first | (simp only [facts, clsL, clsS, clsC, isPtrD]; done) | omega | (simp only [push_nx, put_nx, del_nx]; omega) | (refine Nat.le_antisymm ?_ ?_ <;> simp only [push_nx, put_nx, del_nx] <;> omega) | fail) only [wpy, facts, wpb, cst, wpk, wpl, forall_const, implies_true, false_implies, Int.reduceLE, Int.reduceLT, Nat.reduceLeDiff, UInt8.reduceToNat, ↓reduceIte, Nat.reduceEqDiff, Nat.reduceAdd, reduceCtorEq, Int.reduceToNat, clsL, clsS, clsC, e5]) (by simp +contextual (disch := first | (simp only [facts, clsL, clsS, clsC, isPtrD]; done) | omega | (simp only [push_nx, put_nx, del_nx]; omega) | (refine Nat.le_antisymm ?_ ?_ <;> simp only [push_nx, put_nx, del_nx] <;> omega) | fail) only [wpy, facts, wpb, cst, wpk, wpl, forall_const, implies_true, false_implies, Int.reduceLE, Int.reduceLT, Nat.reduceLeDiff, UInt8.reduceToNat, ↓reduceIte, Nat.reduceEqDiff, Nat.reduceAdd, reduceCtorEq, Int.reduceToNat, clsL, clsS, clsC, hwi]) (xA.step st ⟨xA.bd.lo, (xA.bd.up).hi, fun e he => (by cases he), Nat.zero_le _⟩ (xA.oi.sub (List.nil_sublist _) _))
    · simp +contextual (disch := first | (simp only [facts, clsL, clsS, clsC, isPtrD]; done) | omega | (simp only [push_nx, put_nx, del_nx]; omega) | (refine Nat.le_antisymm ?_ ?_ <;> simp only [push_nx, put_nx, del_nx] <;> omega) | fail) only [wpy, facts, wpb, cst, wpk, wpl, forall_const, implies_true, false_implies, Int.reduceLE, Int.reduceLT, Nat.reduceLeDiff, UInt8.reduceToNat, ↓reduceIte, Nat.reduceEqDiff, Nat.reduceAdd, reduceCtorEq, Int.reduceToNat, clsL, clsS, clsC, Try.f3, k0, k3, k4, k5, k6, k7, k8, Int.reduceEq, e6]
      exact nxt _ _ D P gv G (by simp +contextual (disch := first | (simp only [facts, clsL, clsS, clsC, isPtrD]; done) | omega | (simp only [push_nx, put_nx, del_nx]; omega) | (refine Nat.le_antisymm ?_ ?_ <;> simp only [push_nx, put_nx, del_nx] <;> omega) | fail) only [wpy, facts, wpb, cst, wpk, wpl, forall_const, implies_true, false_implies, Int.reduceLE, Int.reduceLT, Nat.reduceLeDiff, UInt8.reduceToNat, ↓reduceIte, Nat.reduceEqDiff, Nat.reduceAdd, reduceCtorEq, Int.reduceToNat, clsL, clsS, clsC, e0]) (by simp +contextual (disch := first | (simp only [facts, clsL, clsS, clsC, isPtrD]; done) | omega | (simp only [push_nx, put_nx, del_nx]; omega) | (refine Nat.le_antisymm ?_ ?_ <;> simp only [push_nx, put_nx, del_nx] <;> omega) | fail) only [wpy, facts, wpb, cst, wpk, wpl, forall_const, implies_true, false_implies, Int.reduceLE, Int.reduceLT, Nat.reduceLeDiff, UInt8.reduceToNat, ↓reduceIte, Nat.reduceEqDiff, Nat.reduceAdd, reduceCtorEq, Int.reduceToNat, clsL, clsS, clsC, e3]) (by simp +contextual (disch := first | (simp only [facts, clsL, clsS, clsC, isPtrD]; done) | omega | (simp only [push_nx, put_nx, del_nx]; omega) | (refine Nat.le_antisymm ?_ ?_ <;> simp only [push_nx, put_nx, del_nx] <;> omega) | fail) only [wpy, facts, wpb, cst, wpk, wpl, forall_const, implies_true, false_implies, Int.reduceLE, Int.reduceLT, Nat.reduceLeDiff, UInt8.reduceToNat, ↓reduceIte, Nat.reduceEqDiff, Nat.reduceAdd, reduceCtorEq, Int.reduceToNat, clsL, clsS, clsC, e4]) (by simp +contextual (disch := first | (simp only [facts, clsL, clsS, clsC, isPtrD]; done) | omega | (simp only [push_nx, put_nx, del_nx]; omega) | (refine Nat.le_antisymm ?_ ?_ <;> simp only [push_nx, put_nx, del_nx] <;> omega) | fail) only [wpy, facts, wpb, cst, wpk, wpl, forall_const, implies_true, false_implies, Int.reduceLE, Int.reduceLT, Nat.reduceLeDiff, UInt8.reduceToNat, ↓reduceIte, Nat.reduceEqDiff, Nat.reduceAdd, reduceCtorEq, Int.reduceToNat, clsL, clsS, clsC, e5]) (by simp +contextual (disch := first | (simp only [facts, clsL, clsS, clsC, isPtrD]; done) | omega | (simp only [push_nx, put_nx, del_nx]; omega) | (refine Nat.le_antisymm ?_ ?_ <;> simp only [push_nx, put_nx, del_nx] <;> omega) | fail) only [wpy, facts, wpb, cst, wpk, wpl, forall_const, implies_true, false_implies, Int.reduceLE, Int.reduceLT, Nat.reduceLeDiff, UInt8.reduceToNat, ↓reduceIte, Nat.reduceEqDiff, Nat.reduceAdd, reduceCtorEq, Int.reduceToNat, clsL, clsS, clsC, hwi]) xS
  · simp +contextual (disch := first | (simp only [facts, clsL, clsS, clsC, isPtrD]; done) | omega | (simp only [push_nx, put_nx, del_nx]; omega) | (refine Nat.le_antisymm ?_ ?_ <;> simp only [push_nx, put_nx, del_nx] <;> omega) | fail) only [wpy, facts, wpb, cst, wpk, wpl, forall_const, implies_true, false_implies, Int.reduceLE, Int.reduceLT, Nat.reduceLeDiff, UInt8.reduceToNat, ↓reduceIte, Nat.reduceEqDiff, Nat.reduceAdd, reduceCtorEq, Int.reduceToNat, clsL, clsS, clsC, Try.f3, e0, e3, e4, e5, e6, hlen2, hlt]
    refine callF_pure (apart_spec hS' x.pr x.oi) ?_
    rintro v h3 hx3 rfl
    simp +contextual (disch := first | (simp only [facts, clsL, clsS, clsC, isPtrD]; done) | omega | (simp only [push_nx, put_nx, del_nx]; omega) | (refine Nat.le_antisymm ?_ ?_ <;> simp only [push_nx, put_nx, del_nx] <;> omega) | fail) only [wpy, facts, wpb, cst, wpk, wpl, forall_const, implies_true, false_implies, Int.reduceLE, Int.reduceLT, Nat.reduceLeDiff, UInt8.reduceToNat, ↓reduceIte, Nat.reduceEqDiff, Nat.reduceAdd, reduceCtorEq, Int.reduceToNat, clsL, clsS, clsC, Try.f3]
    exact x.ext.trans hx3
end
end Go.Proofs.Ytcccbbgjmjnagaa
set_option maxRecDepth 100000
namespace Go.Proofs.Ytcccbbgjmjnagaa.glue
open Go.Proofs Go.Shelf Go.ChangeShapes Go.WideShapes Go.ChangeAt Go.RowKit Go.Lx
theorem own : ownKnob Try.prog.godebug = none := by kernel_rfl
theorem laidOut : laidOutB Try.prog = true := by kernel_rfl
theorem mixed : Try.prog.follows .mixedOrders = true := Checked.mixed Try.checked
noncomputable def ρ : Go.Shelf.Ren := ⟨fun n => match n with | 6 => 42 | 8 => 48 | 9 => 49 | 10 => 50 | 11 => 51 | _ => 0, fun n => match n with | 0 => 0 | 3 => 58 | 4 => 4 | 23 => 53 | 24 => 66 | 26 => 27 | 28 => 69 | 33 => 76 | _ => 0, fun n => n⟩
theorem lay : KeyLay Try.prog ρ .u32 4 where
  mixed := mixed
  f6 := ⟨ "slices.Sorted[uint32]", by kernel_rfl, by kernel_rfl⟩
  f8 := ⟨ "slices.Collect[uint32]", by kernel_rfl, by kernel_rfl⟩
  f10 := ⟨ "maps.Keys[map[uint32]*sluicegate/api.Stmt,uint32,*sluicegate/api.Stmt]$1", by kernel_rfl, by kernel_rfl⟩
  f11 := ⟨ "slices.AppendSeq[[]uint32,uint32]", by kernel_rfl, by kernel_rfl⟩
  t0 := by kernel_rfl
  a0 := fun w => by kernel_rfl
  z0 := fun w => by kernel_rfl
  v0 := fun w => by kernel_rfl
  t4 := by kernel_rfl
  a4 := fun w => by kernel_rfl
  z4 := fun w => by kernel_rfl
  v4 := fun w => by kernel_rfl
  t23 := by kernel_rfl
  a23 := fun w => by kernel_rfl
  z23 := fun w => by kernel_rfl
  v23 := fun w => by kernel_rfl
  t24 := by kernel_rfl
  a24 := fun w => by kernel_rfl
  z24 := fun w => by kernel_rfl
  v24 := fun w => by kernel_rfl
  t26 := by kernel_rfl
  a26 := fun w => by kernel_rfl
  z26 := fun w => by kernel_rfl
  v26 := fun w => by kernel_rfl
  t28 := by kernel_rfl
  a28 := fun w => by kernel_rfl
  z28 := fun w => by kernel_rfl
  v28 := fun w => by kernel_rfl
  t33 := by kernel_rfl
  a33 := fun w => by kernel_rfl
  z33 := fun w => by kernel_rfl
  v33 := fun w => by kernel_rfl
  i26 := by kernel_rfl
noncomputable section
noncomputable def base : Set0 := { exts := [] }
theorem base_ok (lf : Nat) : SumOk (base.cfg.at lf) := sumOk_none _ rfl
theorem baseS : StdS base where
  ownS := fun _ _ => rfl
theorem e9 : Go.Proofs.Enters Try.prog (ρ.f 9) := Go.Proofs.enters_of Try.func49 (by kernel_rfl) (by first | rfl | kernel_rfl)
theorem e6 : Go.Proofs.Enters Try.prog (ρ.f 6) := Go.Proofs.enters_of Try.func42 (by kernel_rfl) (by first | rfl | kernel_rfl)
theorem eL : Go.Proofs.Enters Try.prog 7 := Go.Proofs.enters_of Try.func7 (by kernel_rfl) (by first | rfl | kernel_rfl)
noncomputable def cfg0 : Cfg := { P := Try.prog, lf := 100000, gl := .leaf, sum := fun _ => none }
noncomputable def cfg1 : Cfg := { P := Try.prog, lf := 100000, gl := .leaf, sum := sums [(42, sortedM cfg0 41 50 49 .u32 27)] }
theorem cfg1_ok : SumOk cfg1 := by
  refine sumOk_list _ [(42, sortedM cfg0 41 50 49 .u32 27)] rfl ?_
  intro p hp
  rw [List.mem_singleton] at hp
  subst hp
  exact extSum_sorted cfg0 mixed (sumOk_none _ rfl) rfl lay rfl (by kernel_rfl) e9 e6 (by decide) (n := 40) (by kernel_rfl) .leaf
theorem livesRun : yes (callM cfg1 100 7 [] st0) = true := by kernel_rfl
noncomputable def st : Set0 := { exts := [(42, sortedMG (base.cfg.at 100000) 41 50 49 .u32 27), (7, constTrue), (17, unbM)] }
theorem st_ok (lf : Nat) : SumOk (st.cfg.at lf) := by
  refine sumOk_list _ [(42, sortedMG (base.cfg.at 100000) 41 50 49 .u32 27), (7, constTrue), (17, unbM)] rfl ?_
  intro p hp
  rcases List.mem_cons.1 hp with rfl | hp
  · exact extSum_sortedG (base.cfg.at 100000) mixed (base_ok 100000) rfl lay rfl (by kernel_rfl) e9 e6 (by decide) (n := 40) (by kernel_rfl) (sorts baseS) (fun lf => base_ok lf) .leaf
  rcases List.mem_cons.1 hp with rfl | hp
  · exact extSum_true cfg1 mixed cfg1_ok livesRun rfl eL rfl
  rw [List.mem_singleton] at hp
  subst hp
  exact extSum_unb
open Go.Wx in
theorem std : StdQ st where
  ownS := by
    repeat (refine List.forall_mem_cons.2 ⟨rfl, ?_⟩)
    intro f hf
    cases hf
  ownP := by
    repeat (refine List.forall_mem_cons.2 ⟨rfl, ?_⟩)
    intro f hf
    cases hf
  srt := ⟨_, _, rfl⟩
  unb := rfl
  lives := fun h => callW_sum (s := h.st) (g := constTrue) rfl (Nice.ret _) rfl LogOk_nil ⟨rfl, rfl⟩
open Go.Wx in
theorem wf_row (c : List V) : WF (T.leaf.set 0 (some (Ob.ro c))) 1 := by
  intro k hk
  rw [T.get_set] at hk
  split at hk
  · omega
  · exact absurd rfl hk
theorem und22 : Try.prog.underlying 22 = some (.slice 33) := by kernel_rfl
theorem und3 : Try.prog.underlying 3 = some (.int .i64) := by kernel_rfl
theorem und27 : Try.prog.underlying 27 = some (.int .u32) := by kernel_rfl
theorem und29 : Try.prog.underlying 29 = some (.int .u16) := by kernel_rfl
theorem und9 : Try.prog.underlying 9 = some .string := by kernel_rfl
theorem und4 : Try.prog.underlying 4 = some .bool := by kernel_rfl
theorem cells33 : Try.prog.cellsOf 33 = 13 := by kernel_rfl
theorem cells31 : Try.prog.cellsOf 31 = 8 := by kernel_rfl
theorem cells3 : Try.prog.cellsOf 3 = 1 := by kernel_rfl
theorem cells27 : Try.prog.cellsOf 27 = 1 := by kernel_rfl
theorem cells29 : Try.prog.cellsOf 29 = 1 := by kernel_rfl
theorem cells9 : Try.prog.cellsOf 9 = 1 := by kernel_rfl
theorem cells4 : Try.prog.cellsOf 4 = 1 := by kernel_rfl
noncomputable def fieldsAre (d : Option TypeDesc) (ts : List (TypeId × Nat)) : Bool := match d with
  | some (.struct fs) => fs.toList.map (fun f => (f.type, f.offset)) == ts
  | _ => false
theorem fields33 : fieldsAre (Try.prog.underlying 33) [(3, 0), (31, 1), (27, 9), (3, 10), (27, 11), (4, 12)] = true := by kernel_rfl
theorem fields31 : fieldsAre (Try.prog.underlying 31) [(27, 0), (9, 1), (29, 2), (29, 3), (3, 4), (27, 5), (4, 6), (4, 7)] = true := by kernel_rfl
theorem fieldsAre_ok {d : Option TypeDesc} {ts : List (TypeId × Nat)} (h : fieldsAre d ts = true) : ∃ fs, d = some (.struct fs) ∧ ∀ p ∈ ts, ∃ f ∈ fs.toList, f.type = p.1 ∧ f.offset = p.2 := by
  unfold fieldsAre at h
  cases d with
  | none => cases h
  | some d =>
    cases d <;> try (cases h; done)
    rename_i fs
    refine ⟨fs, rfl, fun p hp => ?_⟩
    have := eq_of_beq h
    rw [← this] at hp
    obtain ⟨f, hf, e⟩ := List.mem_map.1 hp
    exact ⟨f, hf, by rw [← e], by rw [← e]⟩
section
variable {H : Type} {enc : TypeId × Value → H} {w : World} {spare : Nat → Bool} {held : Bool}
def isAct (cs : List Value) : Prop := ∃ (kd id pa co conn back id2 n back2 : Int) (tx : ByteArray) (lg cu on : Bool), cs = [.int .i64 kd, .int .u32 id, .string tx, .int .u16 pa, .int .u16 co, .int .i64 conn, .int .u32 back, .bool lg, .bool cu, .int .u32 id2, .int .i64 n, .int .u32 back2, .bool on]
theorem act_cells {fuel : Nat} {cs : List Value} {x : DataW H × List MemPlace} (h : DataW.trod enc Try.prog w 0 spare held fuel 33 cs = some x) : isAct cs := by
  obtain ⟨fs, hu, hf⟩ := fieldsAre_ok fields33
  obtain ⟨fs2, hu2, hf2⟩ := fieldsAre_ok fields31
  have hl := trod_struct_len hu h
  rw [cells33] at hl
  have top : ∀ t o n, Try.prog.cellsOf t = n → ((t, o) : TypeId × Nat) ∈ [((3, 0) : TypeId × Nat), (31, 1), (27, 9), (3, 10), (27, 11), (4, 12)] → ∃ fu y, DataW.trod enc Try.prog w 0 spare held fu t ((cs.drop o).take n) = some y := fun t o n hn ho => by
    obtain ⟨f, hm, e1, e2⟩ := hf _ ho
    obtain ⟨y, hy⟩ := trod_field' hu hm h
    rw [e1, e2] at hy
    simp only [hn] at hy
    exact ⟨_, y, hy⟩
  obtain ⟨fu, ys, hys⟩ := top 31 1 8 cells31 (by simp)
  have sub : ∀ t o, Try.prog.cellsOf t = 1 → ((t, o) : TypeId × Nat) ∈ [((27, 0) : TypeId × Nat), (9, 1), (29, 2), (29, 3), (3, 4), (27, 5), (4, 6), (4, 7)] → ∃ fu y, DataW.trod enc Try.prog w 0 spare held fu t ((((cs.drop 1).take 8).drop o).take 1) = some y := fun t o hn ho => by
    obtain ⟨f, hm, e1, e2⟩ := hf2 _ ho
    obtain ⟨y, hy⟩ := trod_field' hu2 hm hys
    rw [e1, e2] at hy
    simp only [hn] at hy
    exact ⟨_, y, hy⟩
  match cs, hl with
  | [c0, c1, c2, c3, c4, c5, c6, c7, c8, c9, c10, c11, c12], _ =>
    obtain ⟨_, _, h0⟩ := top 3 0 1 cells3 (by simp)
    obtain ⟨kd, e0, _⟩ := trod_int und3 h0
    obtain ⟨_, _, h1⟩ := sub 27 0 cells27 (by simp)
    obtain ⟨id, e1, _⟩ := trod_int und27 h1
    obtain ⟨_, _, h2⟩ := sub 9 1 cells9 (by simp)
    obtain ⟨tx, e2⟩ := trod_str und9 h2
    obtain ⟨_, _, h3⟩ := sub 29 2 cells29 (by simp)
    obtain ⟨pa, e3, _⟩ := trod_int und29 h3
    obtain ⟨_, _, h4⟩ := sub 29 3 cells29 (by simp)
    obtain ⟨co, e4, _⟩ := trod_int und29 h4
    obtain ⟨_, _, h5⟩ := sub 3 4 cells3 (by simp)
    obtain ⟨conn, e5, _⟩ := trod_int und3 h5
    obtain ⟨_, _, h6⟩ := sub 27 5 cells27 (by simp)
    obtain ⟨back, e6, _⟩ := trod_int und27 h6
    obtain ⟨_, _, h7⟩ := sub 4 6 cells4 (by simp)
    obtain ⟨lg, e7⟩ := trod_bool und4 h7
    obtain ⟨_, _, h8⟩ := sub 4 7 cells4 (by simp)
    obtain ⟨cu, e8⟩ := trod_bool und4 h8
    obtain ⟨_, _, h9⟩ := top 27 9 1 cells27 (by simp)
    obtain ⟨id2, e9, _⟩ := trod_int und27 h9
    obtain ⟨_, _, h10⟩ := top 3 10 1 cells3 (by simp)
    obtain ⟨n, e10, _⟩ := trod_int und3 h10
    obtain ⟨_, _, h11⟩ := top 27 11 1 cells27 (by simp)
    obtain ⟨back2, e11, _⟩ := trod_int und27 h11
    obtain ⟨_, _, h12⟩ := top 4 12 1 cells4 (by simp)
    obtain ⟨on, e12⟩ := trod_bool und4 h12
    simp only [List.drop_succ_cons, List.drop_zero, List.take_succ_cons, List.take_zero, List.cons.injEq, and_true] at e0 e1 e2 e3 e4 e5 e6 e7 e8 e9 e10 e11 e12
    exact ⟨kd, id, pa, co, conn, back, id2, n, back2, tx, lg, cu, on, by rw [e0, e1, e2, e3, e4, e5, e6, e7, e8, e9, e10, e11, e12]⟩
end
theorem acts_of : ∀ (rows : List (List Value)), (∀ r ∈ rows, r.length = 13 ∧ isAct r) → ∃ al : List ACT, al.length = rows.length ∧ ∀ (i : Nat) (v : V), (acells al)[i]? = some v → ∃ r, rows.flatten[i]? = some r ∧ ∀ μ ν, VRel μ ν v r
  | [], _ => ⟨[], rfl, fun i v h => by simp [acells] at h⟩
  | r :: rows, h => by
    obtain ⟨al, h1, h2⟩ := acts_of rows fun r hr => h r (.tail _ hr)
    obtain ⟨_, kd, id, pa, co, conn, back, id2, n, back2, tx, lg, cu, on, e⟩ := h r (.head _)
    refine ⟨⟨kd, ⟨id, toNats tx, pa, co, conn, back, lg = true, cu = true⟩, id2, n, back2, on = true⟩ :: al, by simp [h1], fun i v hi => ?_⟩
    subst e
    have e1 : acells (⟨kd, ⟨id, toNats tx, pa, co, conn, back, lg = true, cu = true⟩, id2, n, back2, on = true⟩ :: al) = [.int .i64 kd, .int .u32 id, .str (toNats tx), .int .u16 pa, .int .u16 co, .int .i64 conn, .int .u32 back, Go.Wx.bo (lg = true), Go.Wx.bo (cu = true), .int .u32 id2, .int .i64 n, .int .u32 back2, Go.Wx.bo (on = true)] ++ acells al := rfl
    rw [e1, ← Go.Wx.bo_bool, ← Go.Wx.bo_bool, ← Go.Wx.bo_bool] at hi
    have e2 : ([Value.int .i64 kd, .int .u32 id, .string tx, .int .u16 pa, .int .u16 co, .int .i64 conn, .int .u32 back, .bool lg, .bool cu, .int .u32 id2, .int .i64 n, .int .u32 back2, .bool on] :: rows).flatten = [Value.int .i64 kd, .int .u32 id, .string tx, .int .u16 pa, .int .u16 co, .int .i64 conn, .int .u32 back, .bool lg, .bool cu, .int .u32 id2, .int .i64 n, .int .u32 back2, .bool on] ++ rows.flatten := rfl
    rw [e2]
    match i with
    | 0 => cases hi; exact ⟨_, rfl, fun μ ν => .int _ _⟩
    | 1 => cases hi; exact ⟨_, rfl, fun μ ν => .int _ _⟩
    | 2 => cases hi; exact ⟨_, rfl, fun μ ν => .str _⟩
    | 3 => cases hi; exact ⟨_, rfl, fun μ ν => .int _ _⟩
    | 4 => cases hi; exact ⟨_, rfl, fun μ ν => .int _ _⟩
    | 5 => cases hi; exact ⟨_, rfl, fun μ ν => .int _ _⟩
    | 6 => cases hi; exact ⟨_, rfl, fun μ ν => .int _ _⟩
    | 7 => cases hi; exact ⟨_, rfl, fun μ ν => .bool _⟩
    | 8 => cases hi; exact ⟨_, rfl, fun μ ν => .bool _⟩
    | 9 => cases hi; exact ⟨_, rfl, fun μ ν => .int _ _⟩
    | 10 => cases hi; exact ⟨_, rfl, fun μ ν => .int _ _⟩
    | 11 => cases hi; exact ⟨_, rfl, fun μ ν => .int _ _⟩
    | 12 => cases hi; exact ⟨_, rfl, fun μ ν => .bool _⟩
    | i + 13 => exact h2 i v hi
theorem slice_arg {W : World} {base : Nat} {v : Value} (h : Value.okWide Try.prog W .any base 22 v) : v = .slice none 0 0 ∨ ∃ a len cap, v = .slice (some a) len cap ∧ len ≤ cap ∧ cap < 2 ^ 63 ∧ a.spot = none ∧ ∃ q, W.shape? a.block = some q := by
  unfold Value.okWide at h
  rw [und22] at h
  unfold Cell.okWide Cell.ok at h
  rw [und22] at h
  cases v <;> simp only [] at h <;> try (exact h.elim)
  rename_i ao len cap
  cases ao with
  | none =>
    left
    cases len <;> cases cap <;> first | rfl | exact h.elim
  | some a =>
    obtain ⟨w1, w2, _, w3, row, cells, w4, _⟩ := h
    exact .inr ⟨a, len, cap, rfl, w1, by have : IntKind.i64.max = 9223372036854775807 := rfl; omega, w3, _, w4⟩
open Go.Wx in
theorem walk {f : FuncId} (hsu : st.cfg.sum f = none) (hlaw : ∀ (al : List ACT) (lv : V) (h : H), ARow h lv al → al.length < 2 ^ 63 → Pure st.cfg f [lv] h fun v _ => v = .bool true) {H : Type} {enc : TypeId × Value → H} {spare : Nat → Bool} {held : Bool} {W : World} {base : Nat} {v1 : Value} {d1 : DataW H} {p1 : List MemPlace} (hv1 : Value.okWide Try.prog W .any base 22 v1) (h1 : DataW.Trod enc Try.prog W 0 spare held 22 v1 d1 p1) : Calls Try.prog f #[v1] W fun e W' => e = .returned (.bool true) ∧ Below W.heap.size W W' := by
  obtain ⟨fuel1, h1⟩ := h1
  rcases slice_arg hv1 with rfl | ⟨ad, len, cap, rfl, hlc, hcm, hsp, hsh⟩
  · obtain ⟨v, h', lf, k, l, hrun, _, rfl⟩ := callW_run (hlaw [] .nilslice ⟨.leaf, 0⟩ (.inl ⟨rfl, rfl⟩) (by decide))
    exact law_calls_g (st.cfg.at lf) mixed (st_ok lf) (vs := [.nilslice]) (n := k) (by rw [show st0 = (⟨.leaf, 0, []⟩ : St) from rfl, hrun]; rfl) hsu (.cons .nilslice .nil) (ν := fun _ => undef) W Globs.none
  · obtain ⟨_, _, hel⟩ := trod_row und22 hsp h1
    rw [cells33] at hel
    obtain ⟨rows, rc, et, frz, hrl, hh, hrows, hfl⟩ := flat_row (sz := 13) (Q := isAct) hsh fun i hi => by
      obtain ⟨cs, y, h2, h3, h4⟩ := hel i hi
      exact ⟨cs, h3, act_cells h2, h4⟩
    obtain ⟨al, hal, hac⟩ := acts_of rows hrows
    rw [hrl] at hal
    subst hal
    obtain ⟨v, h', lf, k, l, hrun, _, rfl⟩ := callW_runH (h := ⟨T.leaf.set 0 (some (.ro (acells al))), 1⟩) (wf_row _) (hlaw al (.slice 0 0 al.length cap) ⟨T.leaf.set 0 (some (.ro (acells al))), 1⟩ (.inr ⟨0, cap, rfl, Nat.one_pos, by show T.get _ 0 = _; rw [T.get_set, if_pos rfl]⟩) (by omega))
    refine law_calls_r (st.cfg.at lf) mixed (st_ok lf) (vs := [.slice 0 0 al.length cap]) (n := k) (ν := fun _ => undef) (μ := upd (fun _ => none) 0 ⟨ad.block, ad.off, false, 0, 0⟩) hrun hsu W ⟨fun j ob hk => ?_, fun j j' ob ob' q q' hk hk' hne => ?_⟩ (fun j hj => upd_ne _ _ (by have : 1 ≤ j := hj; omega)) (fun j q hk => ?_) (.cons (.slice (upd_same _ _ _) hlc ?_) .nil) Globs.none
    · rw [T.get_set] at hk
      split at hk
      · rename_i e0
        subst e0
        cases hk
        refine ⟨_, upd_same _ _ _, rfl, rc, et, frz, hh, fun i v hi => ?_⟩
        obtain ⟨r', q1, q2⟩ := hac i v hi
        exact ⟨r', hfl i r' q1, q2 _ _⟩
      · cases hk
    · rw [T.get_set] at hk hk'
      split at hk
      · split at hk'
        · omega
        · cases hk'
      · cases hk
    · by_cases h0 : j = 0
      · subst h0; exact ⟨_, by rw [T.get_set, if_pos rfl]⟩
      · rw [upd_ne _ _ h0] at hk; cases hk
    · refine .inr ⟨?_, .inl rfl⟩
      obtain ⟨ab, ao, asp⟩ := ad
      simp only at hsp
      subst hsp
      rfl
end
end Go.Proofs.Ytcccbbgjmjnagaa.glue
