/-
  Functions that stand in by a contract of the shelf or by a run of their own: strings' Index (whatever the variable MaxLen holds), closed functions. A variable of the program's shape.
-/
import Derived.Test.YtinbhlejofgomaaGreatLyF
import Derived.Shelf.Strings.Search2
import Derived.Handed
set_option linter.unusedSimpArgs false
set_option linter.unusedVariables false
namespace Go.Lx
open Go.ChangeShapes Go.WideShapes Go.ChangeAt Go.RowKit Go.Shelf Go.Proofs
def constTrue (vs : List V) : M V := match vs with
 | [] => Lx.ret (.bool true)
 | _ => err "const"
theorem extSum_true (c : Cfg) (hm : c.P.follows .mixedOrders = true) (hs : SumOk c) {n : Nat} {f : FuncId} (h : yes (callM c (n + 1) f [] st0) = true) (hsu : c.sum f = none) (he : Enters c.P f) {gl : T (List V)} (hgl : gl = c.gl) : ExtSum c.P gl f constTrue := by
 subst hgl
 refine ⟨fun vs => ?_, fun vs v s s' w μ ν rs h' hr hf hg ha => ?_⟩
 ·cases vs with
  | nil => exact Local.ret _
  | cons a l => exact Local.err _
 ·cases vs with
  | cons a l => exact (err_ok (s := s) h').elim
  | nil =>
    cases ha
    obtain ⟨rfl, rfl⟩ := ret_ok h'
    obtain ⟨s2, h2⟩ := yes_ok h
    left
    refine ⟨he _ _, (callM_calls c hm hs h2 hsu (μ := fun _ => none) (ν := ν) (rs := []) rel_empty (fun _ _ _ => rfl) ⟨hg.there, fun g c k p h1 h2 => (by cases h2), hg.face, hg.tab⟩ .nil).mono ?_⟩
    rintro e w' ⟨r, rfl, μ1, hv, st⟩
    cases hv
    have hblk : ∀ b, b < w.heap.size → w'.heap[b]? = w.heap[b]? := fun b hb => st.block b hb fun _ _ h => by cases h
    refine ⟨_, rfl, μ, .bool _, Mu.le_refl _, fun _ _ => rfl, ⟨fun k o hk => ?_, hr.sep⟩, st.os, st.tape, st.output, st.size, fun b hb _ => hblk b hb, fun k p h1 h2 => (by rw [h1] at h2; cases h2), fun j c0 q h1 hq => by
     obtain ⟨q', hq', ho⟩ := hr.ob j _ h1
     rw [hq] at hq'; cases hq'
     exact ⟨h1, hblk _ ho.there⟩⟩
    obtain ⟨p, hp, hor⟩ := hr.ob k o hk
    exact ⟨p, hp, hor.mono (Mu.le_refl _) (hblk _ hor.there)⟩
end Go.Lx
