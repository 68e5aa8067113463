/-
  A call on known arguments that gives one new row: the row stands in (as LyH's memo, its result the row alone).
-/
import Derived.Test.YtfgnpegkcmkeaaaGreatDoorLyJ
namespace Go.Lx
open Go.Proofs
set_option linter.unusedVariables false
noncomputable section
structure Memo1 where
 args : List V
 len : Nat
 cells : List V
 elem : TypeId
 opn : Bool
def memo1M (m : Memo1) (vs : List V) : M V := bif sameArgs m.args vs then bnd (alloc (.cells m.cells m.elem m.opn)) fun k => Lx.ret (.slice k 0 m.len m.len) else err "memo"
theorem local_memo1 (m : Memo1) (vs : List V) : Local (memo1M m vs) := by
 unfold memo1M
 exact Local.cond (Local.bnd (Local.alloc _) fun _ => Local.ret _) (Local.err _)
def Memo1Ok (c : Cfg) (n : Nat) (f : FuncId) (m : Memo1) : Prop :=
 flatL m.cells = true ∧ flatL m.args = true ∧ ∃ k s, callM c (n + 1) f m.args st0 = .ok (.slice k 0 m.len m.len) s ∧ s.heap.get k = some (.cells m.cells m.elem m.opn)
theorem extSum_memo1 (c : Cfg) (hm : c.P.follows .mixedOrders = true) (hs : SumOk c) {f : FuncId} (hsu : c.sum f = none) (he : Enters c.P f) {gl : T (List V)} (hgl : gl = c.gl) {m : Memo1} (hok : ∃ n, Memo1Ok c n f m) : ExtSum c.P gl f (memo1M m) := by
 refine ⟨local_memo1 m, fun vs v s s' w μ ν rs h hr hf hg ha => ?_⟩
 unfold memo1M at h
 cases hsame : sameArgs m.args vs
 ·rw [hsame, cond_false] at h
  exact (err_ok h).elim
 rw [hsame, cond_true] at h
 obtain rfl := sameArgs_eq hsame
 obtain ⟨n, f2, f3, k, s2, h2, hk⟩ := hok
 subst hgl
 have hg0 : Globs c.gl (fun _ => none) .leaf w := ⟨hg.there, (fun g c k p h1 h2 => by cases h2), hg.face, hg.tab⟩
 have ha0 : VsRel (fun _ => none) ν m.args rs := flatL_rel f3 ha
 left
 obtain ⟨k', s3, g1, g2⟩ := bnd_ok h
 obtain ⟨rfl, rfl⟩ := ret_ok g2
 obtain ⟨rfl, rfl⟩ := alloc_ok g1
 have hk' : μ s.next = none := hf _ (Nat.le_refl _) (Nat.lt_succ_self _)
 refine ⟨he _ _, (callM_calls c hm hs h2 hsu (μ := fun _ => none) (ν := ν) rel_empty (fun _ _ _ => rfl) hg0 ha0).mono ?_⟩
 rintro e w' ⟨r, rfl, μ1, hv, st⟩
 have hblk : ∀ b, b < w.heap.size → w'.heap[b]? = w.heap[b]? := fun b hb => st.block b hb fun _ _ h => by cases h
 obtain ⟨p, hp, hor⟩ := st.rel.ob k _ hk
 have hnew : w.heap.size ≤ p.blk := by
  rcases st.newblk k p hp rfl with h | ⟨j, q, hj, _⟩
  ·exact h
  ·cases hj
 obtain ⟨q1, q2, rc, frz, q3, q4, q5, q6, q7, q8⟩ := hor
 have hor' : ORel c.P (upd μ s.next p) ν p w'.heap (.cells m.cells m.elem m.opn) := by
  refine ⟨q1, q2, rc, frz, q3, q4, q5, q6, q7, fun i v hi => ?_⟩
  obtain ⟨r, hr1, hr2⟩ := q8 i v hi
  exact ⟨r, hr1, flat_rel (flatL_get f2 hi) hr2⟩
 refine ⟨_, rfl, upd μ s.next p, ?_, upd_le _ hk', fun j hj => upd_ne _ _ (by intro e; exact hj (by rw [e]; exact ⟨Nat.le_refl _, Nat.lt_succ_self _⟩)), ⟨fun j o hj => ?_, fun i j o o' a b hi hj hne hro ha hb => ?_⟩, st.os, st.tape, st.output, st.size, fun b hb _ => hblk b hb, fun j q h1 h2 => ?_, fun j c0 q h1 h2 => ?_⟩
 ·cases hv with
  | slice h3 h4 h5 =>
    rw [hp] at h3; cases h3
    exact .slice (upd_same _ _ _) h4 h5
 ·rw [T.get_set] at hj
  split at hj
  ·rename_i e; subst e; injection hj with hj; subst hj; exact ⟨p, upd_same _ _ _, hor'⟩
  ·rename_i e
   obtain ⟨q, hq, hor2⟩ := hr.ob j o hj
   exact ⟨q, by rw [upd_ne _ _ e]; exact hq, hor2.mono (upd_le _ hk') (hblk _ hor2.there)⟩
 ·rw [T.get_set] at hi hj
  have old : ∀ x ob q, x ≠ s.next → s.heap.get x = some ob → upd μ s.next p x = some q → q.blk < w.heap.size := by
   intro x ob q hx h1 h2
   rw [upd_ne _ _ hx] at h2
   obtain ⟨q', hq', hor2⟩ := hr.ob x ob h1
   rw [hq'] at h2; cases h2
   exact hor2.there
  by_cases ei : i = s.next
  ·have ej : j ≠ s.next := fun e => hne (ei.trans e.symm)
   rw [if_neg ej] at hj
   subst ei
   rw [upd_same] at ha; cases ha
   have := old j o' b ej hj hb
   omega
  ·rw [if_neg ei] at hi
   by_cases ej : j = s.next
   ·subst ej
    rw [upd_same] at hb; cases hb
    have := old i o a ei hi ha
    omega
   ·rw [if_neg ej] at hj
    rw [upd_ne _ _ ei] at ha; rw [upd_ne _ _ ej] at hb
    exact hr.sep i j o o' a b hi hj hne hro ha hb
 ·by_cases e : j = s.next
  ·subst e; rw [upd_same] at h1; cases h1; exact .inl hnew
  ·rw [upd_ne _ _ e] at h1; rw [h1] at h2; cases h2
 ·have hne : j ≠ s.next := fun e => by rw [e, hk'] at h2; cases h2
  obtain ⟨q', hq', ho⟩ := hr.ob j _ h1
  rw [h2] at hq'; cases hq'
  exact ⟨by rw [T.get_set, if_neg hne]; exact h1, hblk _ ho.there⟩
end
end Go.Lx
