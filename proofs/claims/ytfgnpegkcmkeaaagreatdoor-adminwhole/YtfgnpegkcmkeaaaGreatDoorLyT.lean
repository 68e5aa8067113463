/-
  Listed variables of an interface's type; a listed table's size.
-/
import Derived.Test.YtfgnpegkcmkeaaaGreatDoorLyF
set_option linter.unusedSimpArgs false
set_option linter.unusedVariables false
namespace Go.Lx
noncomputable section
open Go.ChangeShapes Go.WideShapes Go.ChangeAt Go.RowKit
theorem trod_face {H : Type} {enc : TypeId × Value → H} {P : Program} {w : World} {base : Nat} {spare : Nat → Bool} {held : Bool} {fuel m : Nat} {t : TypeId} {cs : List Value} {x : DataW H × List MemPlace} {ms : _} (ht : P.underlying t = some (.interface ms)) (h : DataW.trod enc P w base spare held fuel t cs = some x) :
  ∃ ev, cs = [ev] ∧ (ev = .nilIface ∨ ∃ te pe, ev = .iface te pe) := by
 cases fuel with
 | zero => simp [DataW.trod] at h
 | succ n =>
   unfold DataW.trod at h
   rw [ht] at h
   split at h <;> simp_all
theorem laid_face {P : Program} {w : World} {laid : List (String × DataW Unit)} (h : laidMet P laid w) {name : String} {d : DataW Unit} (hm : (name, d) ∈ laid) {g t : Nat} {ms : _} (hg : P.globalNamed name = some g)
  (ht : (P.globals[g]?).map (·.type) = some t) (hu : P.underlying t = some (.interface ms)) : Holds w g [] ∧ Face w g := by
 obtain ⟨ps, hl, _, _⟩ := h
 obtain ⟨g', t', cs, fuel, p, h1, h2, h3, h4⟩ := laid_vars hl hm
 rw [hg] at h1; injection h1 with h1; subst h1
 rw [ht] at h2; injection h2 with h2; subst h2
 obtain ⟨el, frz, hb⟩ := var_block hg h3
 obtain ⟨ev, e1, e2⟩ := trod_face (m := 0) hu h4
 refine ⟨⟨cs, el, frz, hb, fun i v hi => by simp at hi⟩, ev, ?_, e2⟩
 unfold World.cell?
 simp only [hb]
 have : cs[0]? = some ev := by rw [← Array.getElem?_toList, e1]; rfl
 simpa using this
theorem laid_size {P : Program} {w : World} {laid : List (String × DataW Unit)} (h : laidMet P laid w) {name : String} {d : DataW Unit} (hm : (name, d) ∈ laid) {g t n e k : Nat} (hg : P.globalNamed name = some g)
  (ht : (P.globals[g]?).map (·.type) = some t) (hu : P.underlying t = some (.array n e)) (hk : P.cellsOf t = k) : ∀ rc el frz, w.heap[g]? = some (.cells rc el frz) → rc.size = k := by
 obtain ⟨ps, hl, _, _⟩ := h
 obtain ⟨g', t', cs, fuel, p, h1, h2, h3, h4⟩ := laid_vars hl hm
 rw [hg] at h1; injection h1 with h1; subst h1
 rw [ht] at h2; injection h2 with h2; subst h2
 obtain ⟨el, frz, hb⟩ := var_block hg h3
 intro rc el' frz' hr
 rw [hb] at hr
 cases hr
 obtain ⟨xs, m, _, ex, hl, _⟩ := DataW.trod_array hu h4
 rw [← hk]
 simpa using hl
end
end Go.Lx
