/-
  Several calls on known arguments, each of which gives one new row: the rows stand in.
-/
import Derived.Test.YtfgnpegkcmkeaaaGreatDoorLyK
namespace Go.Lx
open Go.Proofs
set_option linter.unusedVariables false
noncomputable section
def memo1sM : List Memo1 → List V → M V
 | [], _ => err "memo"
 | m :: l, vs => bif sameArgs m.args vs then memo1M m vs else memo1sM l vs
theorem local_memo1s : ∀ (l : List Memo1) (vs : List V), Local (memo1sM l vs)
 | [], _ => Local.err _
 | m :: l, vs => by
   unfold memo1sM
   exact Local.cond (local_memo1 m vs) (local_memo1s l vs)
theorem extSum_memo1s (c : Cfg) (hm : c.P.follows .mixedOrders = true) (hs : SumOk c) {f : FuncId} (hsu : c.sum f = none) (he : Enters c.P f) {gl : T (List V)} (hgl : gl = c.gl) : ∀ {l : List Memo1}, (∀ m ∈ l, ∃ n, Memo1Ok c n f m) → ExtSum c.P gl f (memo1sM l)
 | [], _ => ⟨local_memo1s [], fun vs v s s' w μ ν rs h hr hf hg ha => (err_ok h).elim⟩
 | m :: l, hok => by
   refine ⟨local_memo1s (m :: l), fun vs v s s' w μ ν rs h hr hf hg ha => ?_⟩
   unfold memo1sM at h
   cases hsame : sameArgs m.args vs
   ·rw [hsame, cond_false] at h
    exact (extSum_memo1s c hm hs hsu he hgl fun m' hm' => hok m' (by simp [hm'])).2 vs v s s' w μ ν rs h hr hf hg ha
   ·rw [hsame, cond_true] at h
    exact (extSum_memo1 c hm hs hsu he hgl (hok m (by simp))).2 vs v s s' w μ ν rs h hr hf hg ha
end
end Go.Lx
