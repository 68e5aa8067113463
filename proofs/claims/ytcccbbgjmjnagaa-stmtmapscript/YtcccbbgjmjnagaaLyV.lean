/-
  A loop over a map with more than one entry, whatever order they come in.
-/
import Derived.Test.YtcccbbgjmjnagaaLxZ
set_option linter.unusedSimpArgs false
set_option linter.unusedVariables false
namespace Go.Lx
noncomputable section
section
variable {P : Program} {μ : Mu} {ν : Nat → Value} {s : St} {w : World}
theorem ESRel.back {es : List ME} {es' : List MapEntry} (h : ESRel μ ν es es') : ∀ (j : Nat) (e' : MapEntry), es'[j]? = some e' → ∃ e, es[j]? = some e ∧ VRel μ ν e.key e'.key ∧ VRel μ ν e.val e'.val ∧ e.born = e'.born := by
  induction h with
  | nil => intro j e' h; simp at h
  | @cons k v k' v' b es es' hk hv hs ih =>
    intro j e' h
    cases j with
    | zero => simp at h; subst h; exact ⟨⟨k, v, b⟩, by simp, hk, hv, rfl⟩
    | succ j => simp at h; obtain ⟨e, h1, h2⟩ := ih j e' h; exact ⟨e, by simpa using h1, h2⟩
theorem ESRel.len {es : List ME} {es' : List MapEntry} (h : ESRel μ ν es es') : es.length = es'.length := by
  induction h with
  | nil => rfl
  | cons _ _ _ ih => simp [ih]
theorem next_any (hr : Rel P μ ν s.heap w.heap) {r : Nat} {it' : Value} (hx : VRel μ ν (.ptr r 0) it') {m since last clock : Nat} {seen : List Nat} {es : List ME} {t : TypeId} (g1 : s.heap.get r = some (.miter (some m) since seen last)) (g3 : s.heap.get m = some (.map es clock))
    (hgone : (!seen.isEmpty && !es.isEmpty && allFrom last es) = false) (hold : ∀ e ∈ unseen seen es, e.born < since) :
    (unseen seen es = [] ∧ (Instr.next it' false t).run P w = .ok (.tuple #[.bool false]) w) ∨ ∃ e ∈ unseen seen es, ∃ rv w', (Instr.next it' false t).run P w = .ok rv w' ∧ VRel μ ν (.tuple [.bool true, e.key, e.val]) rv ∧
      StepOk P μ ν s.heap s.next w μ (s.heap.set r (some (.miter (some m) since (seen ++ [e.born]) clock))) s.next w' := by
  cases hx with
  | @ptr _ _ p hp =>
  obtain ⟨h0, q, hq, hb⟩ := getO_rel hr hp g1
  have hgo := run_getObj (P := P) hb (by intro _ _ _ e; cases e)
  obtain ⟨res, h5, h6⟩ := getO_rel hr hq g3
  have hgm := run_getObj_map (P := P) h5
  have hgone' : (!(⟨seen⟩ : Array Nat).isEmpty && !(⟨res⟩ : Array MapEntry).isEmpty && (⟨res⟩ : Array MapEntry).all fun x => decide (x.born ≥ last)) = false := by
    have e1 : (⟨seen⟩ : Array Nat).isEmpty = seen.isEmpty := by cases seen <;> simp
    have e2 : (⟨res⟩ : Array MapEntry).isEmpty = es.isEmpty := by rw [h6.isEmpty]; cases res <;> simp
    have e3 : ((⟨res⟩ : Array MapEntry).all fun x => decide (x.born ≥ last)) = allFrom last es := by rw [allFrom_rel h6]; simp
    rw [e1, e2, e3]; exact hgone
  have hun := unseen_rel (μ := μ) (ν := ν) (seen := seen) h6
  have hleft : (⟨res⟩ : Array MapEntry).filter (fun e => !(⟨seen⟩ : Array Nat).contains e.born) = ⟨res.filter fun e => !(⟨seen⟩ : Array Nat).contains e.born⟩ := by
    apply Array.ext'; simp
  generalize hL : res.filter (fun e => !(⟨seen⟩ : Array Nat).contains e.born) = L at hun hleft
  have hborn : ∀ x ∈ L, x.born < since := fun x hx => by
    obtain ⟨j, hj⟩ := List.getElem?_of_mem hx
    obtain ⟨e, h1, _, _, h2⟩ := hun.back j x hj
    rw [← h2]; exact hold e (List.mem_of_getElem? h1)
  have ho1 : (⟨L⟩ : Array MapEntry).filter (fun x => decide (x.born < since)) = ⟨L⟩ := by
    apply Array.ext'; simp; exact hborn
  have ho2 : (⟨L⟩ : Array MapEntry).filter (fun x => decide (x.born ≥ since)) = #[] := by
    apply Array.ext'; simp; intro x hx; have := hborn x hx; omega
  unfold Instr.next
  simp only [h0]
  rw [run_pure_bind hgo]
  simp only []
  rw [run_pure_bind hgm]
  simp only [hgone', hleft, ho1, ho2, Bool.false_eq_true, if_false]
  cases hLe : L with
  | nil =>
    rw [hLe] at hun
    left
    refine ⟨?_, ?_⟩
    · cases hun' : unseen seen es with
      | nil => rfl
      | cons a l => rw [hun'] at hun; cases hun
    · simp [Question.forced]
  | cons x0 L0 =>
    right
    rw [← hLe]
    have hne : (⟨L⟩ : Array MapEntry).isEmpty = false := by rw [hLe]; simp
    simp only [hne, Bool.false_eq_true, if_false]
    have hcand : (#[] : Array (Option MapEntry)) ++ ((⟨L⟩ : Array MapEntry) ++ #[]).map some = ⟨L.map some⟩ := by apply Array.ext'; simp
    rw [hcand]
    have hch : ∃ (j : Nat) (d : Nat), j < L.length ∧ (choose (Question.mapNext (⟨L.map some⟩ : Array (Option MapEntry)).size)).run P w = .ok j { w with drawn := d } := by
      have hsz : (⟨L.map some⟩ : Array (Option MapEntry)).size = L.length := by simp
      rw [hsz, run_choose]
      have hpos : 0 < L.length := by rw [hLe]; simp
      cases hfo : (Question.mapNext L.length).forced
      · rw [if_neg (by simp)]
        exact ⟨_, w.drawn + 1, Nat.mod_lt _ hpos, rfl⟩
      · rw [if_pos rfl]
        exact ⟨0, w.drawn, hpos, rfl⟩
    obtain ⟨j, d, hj, hrun⟩ := hch
    obtain ⟨e', he'⟩ : ∃ e', L[j]? = some e' := ⟨_, List.getElem?_eq_getElem hj⟩
    obtain ⟨e, k1, k2, k3, k4⟩ := hun.back j e' he'
    refine ⟨e, List.mem_of_getElem? k1, .tuple #[.bool true, e'.key, e'.val], { w with drawn := d, heap := w.heap.setIfInBounds p.blk (.mapIter (some q.blk) since ((⟨seen⟩ : Array Nat).push e'.born) clock) }, ?_, .tuple (.cons (.bool _) (.cons k2 (.cons k3 .nil))), ?_⟩
    · rw [run_pure_bind hrun]
      have hg : (⟨L.map some⟩ : Array (Option MapEntry))[j]? = some (some e') := by simp [he']
      simp only [hg]
      have hb' : ({ w with drawn := d } : World).heap[p.blk]? = some (.mapIter (some q.blk) since ⟨seen⟩ last) := hb
      rw [Sem.run_bind, run_setObj hb' (by intro _ _ _ e; cases e)]
      rfl
    · refine StepOk.wrote hr g1 hp ?_ ⟨h0, q, hq, ?_⟩
      · have := wrote_set (w := w) (r := p.blk) (o := .mapIter (some q.blk) since ((⟨seen⟩ : Array Nat).push e'.born) clock)
        exact ⟨this.1, this.2, this.3, this.4, this.5⟩
      · show (w.heap.setIfInBounds p.blk _)[p.blk]? = _
        rw [set_at hb, k4]
        simp
end
end
end Go.Lx
