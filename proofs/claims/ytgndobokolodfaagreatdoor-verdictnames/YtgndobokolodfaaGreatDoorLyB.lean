/-
  What slices.Sort makes of a slice of integers, run by the machine on every order of the keys.
-/
import Derived.Test.YtgndobokolodfaaGreatDoorLxZ
import Derived.Test.YtgndobokolodfaaGreatDoorLyA
set_option linter.unusedSimpArgs false
set_option linter.unusedVariables false
namespace Go.Lx
noncomputable section

def inserts (x : Int) : List Int → List (List Int)
  | [] => [[x]]
  | y :: l => (x :: y :: l) :: (inserts x l).map fun t => y :: t
def perms : List Int → List (List Int)
  | [] => [[]]
  | x :: l => (perms l).flatMap (inserts x)

theorem mem_inserts (x : Int) : ∀ a b : List Int, a ++ x :: b ∈ inserts x (a ++ b)
  | [], [] => by simp [inserts]
  | [], y :: b => by simp [inserts]
  | y :: a, b => by
    have := mem_inserts x a b
    simp only [List.cons_append, inserts, List.mem_cons, List.mem_map]
    exact .inr ⟨_, this, rfl⟩

theorem mem_perms : ∀ (l π : List Int), π.Perm l → π ∈ perms l
  | [], π, h => by rw [List.Perm.eq_nil h]; simp [perms]
  | x :: l, π, h => by
    have hx : x ∈ π := h.mem_iff.2 (by simp)
    obtain ⟨a, b, rfl⟩ := List.append_of_mem hx
    have h2 : (a ++ b).Perm l := (List.perm_middle.symm.trans h).cons_inv
    simp only [perms, List.mem_flatMap]
    exact ⟨_, mem_perms l _ h2, mem_inserts x a b⟩

def intsOf (kd : IntKind) : List V → Option (List Int)
  | [] => some []
  | .int k n :: l => if k = kd then (match intsOf kd l with | some r => some (n :: r) | none => none) else none
  | _ => none

theorem intsOf_ok {kd : IntKind} : ∀ {l : List V} {r : List Int}, intsOf kd l = some r → l = r.map (V.int kd)
  | [], r, h => by cases h; rfl
  | v :: l, r, h => by
    cases v <;> simp only [intsOf] at h <;> try (cases h; done)
    rename_i k n
    by_cases hk : k = kd
    · rw [if_pos hk] at h
      cases hl : intsOf kd l with
      | none => rw [hl] at h; cases h
      | some t =>
        rw [hl] at h
        cases h
        rw [intsOf_ok hl, hk]
        rfl
    · rw [if_neg hk] at h; cases h

/-- the block alone -/
def keySt (kd : IntKind) (e : TypeId) (ks : List Int) : St := { heap := T.set .leaf 0 (some (.cells (ks.map (V.int kd)) e true)), next := 1, log := [] }

def sortRun (c : Cfg) (n : Nat) (fT : FuncId) (kd : IntKind) (e : TypeId) (ks : List Int) : Option (List Int) :=
  match callM c n fT [.slice 0 0 ks.length ks.length] (keySt kd e ks) with
  | .ok (.tuple []) s => match s.heap.get 0 with
    | some (.cells cs e' true) => bif Nat.beq e' e then intsOf kd cs else none
    | _ => none
  | _ => none

def sortedOf (c : Cfg) (n : Nat) (fT : FuncId) (kd : IntKind) (e : TypeId) (ks : List Int) : Option (List Int) := match sortRun c n fT kd e ks with
  | some ts => bif (perms ks).all (fun π => match sortRun c n fT kd e π with | some t => decide (t = ts) | none => false) then some ts else none
  | none => none

theorem sortedOf_ok {c : Cfg} {n : Nat} {fT : FuncId} {kd : IntKind} {e : TypeId} {ks ts π : List Int} (h : sortedOf c n fT kd e ks = some ts) (hp : π.Perm ks) : sortRun c n fT kd e π = some ts := by
  unfold sortedOf at h
  cases h1 : sortRun c n fT kd e ks with
  | none => rw [h1] at h; cases h
  | some t0 =>
    rw [h1] at h
    simp only at h
    cases hb : (perms ks).all (fun π => match sortRun c n fT kd e π with | some t => decide (t = t0) | none => false)
    · rw [hb] at h; cases h
    · rw [hb] at h
      cases h
      have := List.all_eq_true.1 hb π (mem_perms _ _ hp)
      cases h2 : sortRun c n fT kd e π with
      | none => rw [h2] at this; cases this
      | some t => rw [h2] at this; rw [of_decide_eq_true this]

/-- WHAT THE SORT DOES IN THE MODEL -/
theorem sort_calls (c : Cfg) (hm : c.P.follows .mixedOrders = true) (hs : SumOk c) (hng : c.gl = .leaf) {n : Nat} {fT : FuncId} {kd : IntKind} {e : TypeId} {π ts : List Int} (hsu : c.sum fT = none) (h : sortRun c (n + 1) fT kd e π = some ts)
    (hsz : szT c.P e = some 1) {W : World} {gb cap : Nat} {cur : Array Value} (hb : W.heap[gb]? = some (.cells cur e (0, 0))) (ht : cur.toList.take π.length = π.map (Value.int kd)) (hl : π.length ≤ cap) (hcap : cur.size = cap) :
    Calls c.P fT #[.slice (some ⟨gb, 0, none⟩) π.length cap] W fun e' w' => e' = .returned (.tuple #[]) ∧ w'.os = W.os ∧ w'.tape = W.tape ∧ w'.output = W.output ∧ W.heap.size ≤ w'.heap.size ∧
      (∀ b, b < W.heap.size → b ≠ gb → w'.heap[b]? = W.heap[b]?) ∧ ∃ rc frz, w'.heap[gb]? = some (.cells rc e frz) ∧ ts.length ≤ cap ∧ cap ≤ rc.size ∧ (∀ i, i < cap → ¬ (frz.1 ≤ i ∧ i < frz.2)) ∧ ∀ (i : Nat) (v : Int), ts[i]? = some v → rc[i]? = some (Value.int kd v) := by
  unfold sortRun at h
  cases hr : callM c (n + 1) fT [.slice 0 0 π.length π.length] (keySt kd e π) with
  | fail w => rw [hr] at h; cases h
  | ok v s =>
    rw [hr] at h
    cases v <;> try (cases h; done)
    rename_i l
    cases l with
    | cons x l => cases h
    | nil =>
    cases hg : s.heap.get 0 with
    | none =>
      replace h : (match s.heap.get 0 with | some (.cells cs e' true) => bif Nat.beq e' e then intsOf kd cs else none | _ => none) = some ts := h
      rw [hg] at h; cases h
    | some ob =>
    replace h : (match s.heap.get 0 with | some (.cells cs e' true) => bif Nat.beq e' e then intsOf kd cs else none | _ => none) = some ts := h
    rw [hg] at h
    cases ob <;> try (cases h; done)
    rename_i cs e' o
    cases o <;> try (cases h; done)
    replace h : (bif Nat.beq e' e then intsOf kd cs else none) = some ts := h
    cases he : Nat.beq e' e
    · rw [he] at h; cases h
    rw [he, cond_true] at h
    have he' : e' = e := Nat.eq_of_beq_eq_true he
    subst he'
    have hcs := intsOf_ok h
    let p : Pl := ⟨gb, 0, true, 1, cap⟩
    let μ0 : Mu := upd (fun _ => none) 0 p
    have hrel : Rel c.P μ0 (fun _ => undef) (keySt kd e' π).heap W.heap := by
      refine ⟨fun k o hk => ?_, fun k k' o o' p1 p2 h1 h2 hne _ g1 g2 => ?_⟩
      · by_cases h0 : k = 0
        · subst h0
          refine ⟨p, upd_same _ _ _, ?_⟩
          have : some o = some (.cells (π.map (V.int kd)) e' true) := hk.symm
          cases this
          refine ⟨rfl, fun _ => hsz, cur, (0, 0), hb, (fun e => by cases e), by simp [p]; exact hl, by simp [p, hcap], fun i _ => by simp, fun i v hv => ?_⟩
          rw [List.getElem?_map] at hv
          cases hx : π[i]? with
          | none => rw [hx] at hv; cases hv
          | some x =>
            rw [hx] at hv
            cases hv
            have hi : i < π.length := (List.getElem?_eq_some_iff.1 hx).1
            refine ⟨.int kd x, ?_, .int _ _⟩
            have : (cur.toList.take π.length)[i]? = some (.int kd x) := by rw [ht, List.getElem?_map, hx]; rfl
            rw [List.getElem?_take, if_pos hi] at this
            simpa [p] using this
        · have : μ0 k = none := upd_ne _ _ h0
          exfalso
          revert hk
          show T.get (T.set .leaf 0 _) k = some o → False
          rw [T.get_set_ne _ _ h0]
          simp [T.get]
      · exfalso
        have e1 : k = 0 := by
          by_cases h0 : k = 0
          · exact h0
          · rw [show μ0 k = none from upd_ne _ _ h0] at g1; cases g1
        have e2 : k' = 0 := by
          by_cases h0 : k' = 0
          · exact h0
          · rw [show μ0 k' = none from upd_ne _ _ h0] at g2; cases g2
        exact hne (e1.trans e2.symm)
    refine (callM_calls c hm hs (μ := μ0) (ν := fun _ => undef) (rs := [.slice (some ⟨gb, 0, none⟩) π.length cap]) hr hsu hrel (fun k h1 h2 => upd_ne _ _ (by have : 1 ≤ k := h1; omega)) (by rw [hng]; exact Globs.none)
      (.cons (.slice (p := p) (upd_same _ _ _) (Nat.le_refl _) (.inr ⟨rfl, .inr ⟨rfl, hl, by simp [p]⟩⟩)) .nil)).mono ?_
    rintro e1 w' ⟨r, rfl, μ', hv, st⟩
    cases hv with
    | tuple hv =>
      cases hv
      obtain ⟨q, hq, ho⟩ := st.rel.ob 0 _ hg
      rw [st.le 0 p (upd_same _ _ _)] at hq
      cases hq
      obtain ⟨_, _, rc, frz, g1, _, g2, g3, g4, g5⟩ := ho
      refine ⟨rfl, st.os, st.tape, st.output, st.size, fun b hb' hne => st.block b hb' fun k pk hk => ?_, rc, frz, g1, by simpa [hcs, p] using g2, g3, g4, fun i v hv => ?_⟩
      · by_cases h0 : k = 0
        · subst h0
          rw [show μ0 0 = some p from upd_same _ _ _] at hk
          cases hk
          exact fun e => hne e.symm
        · rw [show μ0 k = none from upd_ne _ _ h0] at hk; cases hk
      · obtain ⟨r, h1, h2⟩ := g5 i (V.int kd v) (by rw [hcs, List.getElem?_map, hv]; rfl)
        cases h2
        simpa [p] using h1

end
end Go.Lx
