/-
  Several texts of one walk, joined.
-/
import Derived.Test.YtfgnpegkcmkeaaaDoorScA
import Derived.Test.YtfgnpegkcmkeaaaDoorWxZ
import Derived.Test.YtfgnpegkcmkeaaaDoorLyP
import Derived.Lib.AtoiAll
import Derived.Lib.ItoaNum
import Derived.Test.YtfgnpegkcmkeaaaDoorLyS
import Derived.Lib.ItoaLen
set_option maxHeartbeats 1000000
set_option linter.unusedSimpArgs false
set_option linter.unusedVariables false
set_option linter.unusedSectionVars false
set_option linter.defProp false
set_option maxRecDepth 10000
namespace Go.Proofs.YtfgnpegkcmkeaaaDoor
open Go.Proofs Go.Lx Go.Wx Go.IntWalk
noncomputable section

theorem gOp_no {c : Cfg} {Ok : Nat → Prop} {op : Op} {env : Env} {h : H} {K : V → H → Fp → Prop} : gOp c Ok False op env h K = K undefV h (.lg []) := by unfold gOp; simp
def But (r : Nat) (h h' : H) : Prop := h.nx ≤ h'.nx ∧ ∀ k, k < h.nx → k ≠ r → h'.get k = h.get k
theorem But.trans {r : Nat} {a b c : H} (x : But r a b) (y : But r b c) : But r a c := ⟨Nat.le_trans x.1 y.1, fun k hk hr => by rw [y.2 k (Nat.lt_of_lt_of_le hk x.1) hr, x.2 k hk hr]⟩
theorem Ext.but {r : Nat} {a b c : H} (x : Ext a b) (y : But r b c) (hr : a.nx ≤ r) : Ext a c := ⟨Nat.le_trans x.1 y.1, fun k hk => by rw [y.2 k (Nat.lt_of_lt_of_le hk x.1) (by omega), x.2 k hk]⟩
theorem wcells_drop : ∀ (ws : List WD) (i : Nat), (wcells ws).drop (i * 3) = wcells (ws.drop i)
  | ws, 0 => by simp
  | [], i + 1 => by simp [wcells]
  | w :: l, i + 1 => by
    have ih := wcells_drop l i
    rw [show (i + 1) * 3 = 3 + i * 3 by omega, List.drop_succ_cons, ← ih, show wcells (w :: l) = w.cells ++ wcells l from rfl, ← List.drop_drop]
    rfl
def Wds (h : H) (v : V) (ws : List WD) : Prop := (v = .nilslice ∧ ws = []) ∨ ∃ b o m c e fl, v = .slice b o ws.length m ∧ b < h.nx ∧ h.get b = some (.cells c e fl) ∧ (∀ i (hi : i < ws.length), o + i * 3 + 3 ≤ c.length ∧ (c.drop (o + i * 3)).take 3 = ws[i].cells) ∧ e = 41 ∧ ws.length ≤ m
theorem Wds.but {h h' : H} {v : V} {ws : List WD} {r : Nat} (hw : Wds h v ws) (hx : But r h h') (hr : ∀ o n m, v ≠ .slice r o n m) : Wds h' v ws := by
  rcases hw with h1 | ⟨b, o, m, c, e, fl, rfl, hb, hg, hc⟩
  · exact .inl h1
  · exact .inr ⟨b, o, m, c, e, fl, rfl, Nat.lt_of_lt_of_le hb hx.1, by rw [hx.2 b hb fun e => hr o ws.length m (by rw [e])]; exact hg, hc⟩
theorem Wds.ext {h h' : H} {v : V} {ws : List WD} (hw : Wds h v ws) (hx : Ext h h') : Wds h' v ws := by
  rcases hw with h1 | ⟨b, o, m, c, e, fl, rfl, hb, hg, hc⟩
  · exact .inl h1
  · exact .inr ⟨b, o, m, c, e, fl, rfl, Nat.lt_of_lt_of_le hb hx.1, by rw [hx.2 b hb]; exact hg, hc⟩
theorem Wds.cell {h : H} {v : V} {ws : List WD} (hw : Wds h v ws) : v.isCell = true ∧ v.cells = [v] := by
  rcases hw with ⟨rfl, _⟩ | ⟨b, o, m, c, e, fl, rfl, _⟩ <;> exact ⟨rfl, rfl⟩
theorem Wds.len {h : H} {v : V} {ws : List WD} (hw : Wds h v ws) : lenO (some (.slice 41)) v = some (.int .i64 ws.length) := by
  rcases hw with ⟨rfl, rfl⟩ | ⟨b, o, m, c, e, fl, rfl, _⟩ <;> rfl
theorem Wds.get {h : H} {v : V} {ws : List WD} (hw : Wds h v ws) {i : Nat} (hi : i < ws.length) : ∃ b o m c e fl, v = .slice b o ws.length m ∧ b < h.nx ∧ h.get b = some (.cells c e fl) ∧ o + i * 3 + 3 ≤ c.length ∧ (c.drop (o + i * 3)).take 3 = ws[i].cells := by
  rcases hw with ⟨rfl, rfl⟩ | ⟨b, o, m, c, e, fl, rfl, hb, hg, hc⟩
  · simp at hi
  · exact ⟨b, o, m, c, e, fl, rfl, hb, hg, (hc.1 i hi).1, (hc.1 i hi).2⟩
theorem Wds.of_acc {n0 : Nat} {h : H} {v : V} {ws : List WD} (ha : Wx.Acc n0 h v (wcells ws) 41 3) : Wds h v ws := by
  rcases ha with ⟨rfl, hw⟩ | ⟨b, k, _, hb2, rfl, _, hg, hk⟩
  · refine .inl ⟨rfl, ?_⟩
    have := wcells_len ws
    rw [hw] at this
    exact List.eq_nil_of_length_eq_zero (by simp at this; omega)
  · have hl := wcells_len ws
    obtain rfl : k = ws.length := by omega
    refine .inr ⟨b, 0, ws.length, wcells ws, 41, true, rfl, hb2, hg, fun i hi => ?_, rfl, Nat.le_refl _⟩
    refine ⟨by omega, ?_⟩
    rw [Nat.zero_add, wcells_drop, List.drop_eq_getElem_cons hi]
    rfl

theorem Wds.opened {h : H} {v : V} {ws : List WD} (hw : Wds h v ws) (h0 : 0 < ws.length) : ∃ b o m c fl, v = .slice b o ws.length m ∧ ws.length ≤ m ∧ b < h.nx ∧ h.get b = some (.cells c 41 fl) := by
  rcases hw with ⟨rfl, rfl⟩ | ⟨b, o, m, c, e, fl, rfl, hb, hg, hc, rfl, hm⟩
  · cases h0
  · exact ⟨b, o, m, c, fl, rfl, hm, hb, hg⟩
theorem Wds.part {h : H} {b o n m : Nat} {ws : List WD} (hw : Wds h (.slice b o n m) ws) (l k : Nat) (hlk : l + k ≤ ws.length) : Wds h (.slice b (o + l * 3) k (m - l)) ((ws.drop l).take k) := by
  rcases hw with ⟨q, _⟩ | ⟨b, o, m, c, e, fl, q, hb, hg, hc, rfl, hm⟩
  · cases q
  · cases q
    have hlen : ((ws.drop l).take k).length = k := by rw [List.length_take, List.length_drop]; omega
    refine .inr ⟨b, o + l * 3, m - l, c, 41, fl, by rw [hlen], hb, hg, fun i hi => ?_, rfl, by omega⟩
    rw [hlen] at hi
    have h1 := hc (l + i) (by omega)
    have e1 : o + l * 3 + i * 3 = o + (l + i) * 3 := by omega
    rw [e1]
    refine ⟨h1.1, h1.2.trans ?_⟩
    rw [List.getElem_take, List.getElem_drop]

theorem drop_ne {s : List Nat} {p : Nat} (h : p < s.length) : s.drop p ≠ [] := fun q => by have := congrArg List.length q; simp at this; omega
def Sorted (m : Nat) : Nat → List WD → Prop
  | p, [] => p ≤ m
  | p, w :: l => p ≤ w.at_ ∧ Sorted m (w.at_ + 1) l
theorem Sorted.snoc {m k : Nat} {w : WD} (hk : w.at_ < k) : ∀ {p : Nat} {l : List WD}, Sorted w.at_ p l → Sorted k p (l ++ [w])
  | p, [], h => ⟨h, hk⟩
  | p, x :: l, h => ⟨h.1, Sorted.snoc (m := m) hk h.2⟩
theorem Sorted.mono {m k : Nat} (hk : m ≤ k) : ∀ {p : Nat} {l : List WD}, Sorted m p l → Sorted k p l
  | p, [], h => Nat.le_trans h hk
  | p, x :: l, h => ⟨h.1, Sorted.mono hk h.2⟩
theorem allR_sorted {s : List Nat} (hb : Bytes s) : ∀ (f p : Nat) (acc ws : List WD), allR s f p acc = .inl ws → p ≤ s.length → Sorted p 0 acc → Sorted s.length 0 ws
  | 0, p, acc, ws, h, hp, hs => by
    rw [allR] at h
    injection h with h
    subst h
    exact hs.mono hp
  | f + 1, p, acc, ws, h, hp, hs => by
    rw [allR] at h
    split at h
    · rename_i hpl
      split at h
      · cases h
      · split at h
        · have := passF_le (drop_ne hpl)
          rw [List.length_drop] at this
          exact allR_sorted hb f _ _ _ h (by omega) (hs.mono (by omega))
        · split at h
          · cases h
          · rename_i h1 h2 h3
            have hn := wordD_pos (s := s.drop p) (by omega)
            have hle := (wordD_ok (drop_ne hpl) (hb.drop p)).2.2
            rw [List.length_drop] at hle
            exact allR_sorted hb f _ _ _ h (by omega) (Sorted.snoc (m := 0) (w := ⟨_, _, p⟩) (by show p < _; omega) hs)
    · injection h with h
      subst h
      exact hs.mono hp
theorem allF_sorted {s : List Nat} {ws : List WD} (hb : Bytes s) (h : allF s = .inl ws) : Sorted s.length 0 ws := allR_sorted hb _ _ _ _ h (Nat.zero_le _) (Nat.le_refl _)

theorem Sorted.len {m : Nat} : ∀ {p : Nat} {l : List WD}, Sorted m p l → p + l.length ≤ m
  | p, [], h => h
  | p, w :: l, h => by have := Sorted.len h.2; have := h.1; simp only [List.length_cons]; omega
def isCut (w : WD) : Prop := w.kind = 5 ∧ w.text = [59]
instance (w : WD) : Decidable (isCut w) := inferInstanceAs (Decidable (_ ∧ _))
def wordsOf (s : List Nat) : List WD := if 1048576 < s.length then [] else match allF s with
  | .inl ws => ws
  | .inr _ => []
def faultE (s : List Nat) : Int := if 1048576 < s.length then 3 else match allF s with
  | .inl _ => 0
  | .inr (e, _) => e
def faultP (s : List Nat) : Int := if 1048576 < s.length then -1 else match allF s with
  | .inl _ => 0
  | .inr (_, p) => p
theorem allV_form {s : List Nat} {n0 : Nat} {h : H} {v : V} (hv : allV s n0 h v) : ∃ l, v = .tuple [l, .agg [.int .i64 (faultE s), .int .i64 (faultP s)]] ∧ Acc n0 h l (wcells (wordsOf s)) 41 3 := by
  unfold allV at hv
  unfold faultE faultP wordsOf
  by_cases hl : 1048576 < s.length
  · rw [if_pos hl] at hv
    rw [if_pos hl, if_pos hl, if_pos hl]
    exact ⟨_, hv, .inl ⟨rfl, rfl⟩⟩
  · rw [if_neg hl] at hv
    rw [if_neg hl, if_neg hl, if_neg hl]
    cases ha : allF s with
    | inl ws => rw [ha] at hv; exact hv
    | inr r => rw [ha] at hv; exact ⟨_, hv, .inl ⟨rfl, rfl⟩⟩
theorem allR_texts {s : List Nat} (hb : Bytes s) : ∀ (f p : Nat) (acc ws : List WD), allR s f p acc = .inl ws → (∀ w ∈ acc, Bytes w.text ∧ w.text.length ≤ s.length) → ∀ w ∈ ws, Bytes w.text ∧ w.text.length ≤ s.length
  | 0, p, acc, ws, h, ha => by
    rw [allR] at h
    cases h
    exact ha
  | f + 1, p, acc, ws, h, ha => by
    rw [allR] at h
    by_cases hp : p < s.length
    · rw [if_pos hp] at h
      by_cases h1 : (passF (s.drop p)).2 ≠ 0
      · rw [if_pos h1] at h; cases h
      rw [if_neg h1] at h
      by_cases h2 : 0 < (passF (s.drop p)).1
      · rw [if_pos h2] at h
        exact allR_texts hb f _ _ _ h ha
      rw [if_neg h2] at h
      by_cases h3 : (wordD (s.drop p)).e ≠ 0
      · rw [if_pos h3] at h; cases h
      rw [if_neg h3] at h
      refine allR_texts hb f _ _ _ h fun w hw => ?_
      rcases List.mem_append.1 hw with hw | hw
      · exact ha w hw
      · rw [List.mem_singleton.1 hw]
        have h0 : s.drop p ≠ [] := fun q => by have := congrArg List.length q; simp at this; omega
        have hk := wordD_ok h0 (hb.drop p)
        have hl := hk.2.1
        rw [List.length_drop] at hl
        exact ⟨hk.1, by show (wordD (s.drop p)).text.length ≤ _; omega⟩
    · rw [if_neg hp] at h
      cases h
      exact ha
theorem wordsOf_ok {s : List Nat} (hb : Bytes s) : (wordsOf s).length ≤ 1048576 ∧ (wordsOf s).length ≤ s.length ∧ ∀ w ∈ wordsOf s, Bytes w.text ∧ w.text.length ≤ 1048576 := by
  unfold wordsOf
  by_cases hl : 1048576 < s.length
  · rw [if_pos hl]
    exact ⟨by simp, by simp, fun w hw => by cases hw⟩
  · rw [if_neg hl]
    cases ha : allF s with
    | inr r => exact ⟨by simp, by simp, fun w hw => by cases hw⟩
    | inl ws =>
      have h1 : ws.length ≤ s.length := by have := (allF_sorted hb ha).len; omega
      refine ⟨by show ws.length ≤ _; omega, h1, fun w hw => ?_⟩
      have := allR_texts hb _ _ _ _ ha (fun w hw => by cases hw) w hw
      exact ⟨this.1, by omega⟩
end
end Go.Proofs.YtfgnpegkcmkeaaaDoor
set_option maxHeartbeats 1000000
set_option linter.unusedSimpArgs false
set_option linter.unusedVariables false
set_option linter.unusedSectionVars false
set_option linter.defProp false
set_option maxRecDepth 10000
namespace Go.Proofs.YtfgnpegkcmkeaaaDoor
open Go.Proofs Go.Lx Go.Wx Go.IntWalk
noncomputable section
abbrev KT := Nat × List Nat
def WD.kt (w : WD) : KT := (w.kind, w.text)
def lexR : Nat → List Nat → Option (List KT)
  | 0, _ => some []
  | f + 1, s => if s = [] then some [] else if (passF s).2 ≠ 0 then none else if 0 < (passF s).1 then lexR f (s.drop (passF s).1) else if (wordD s).e ≠ 0 then none else (lexR f (s.drop (wordD s).n)).map (((wordD s).kind, (wordD s).text) :: ·)
def lex (s : List Nat) : Option (List KT) := lexR (s.length + 1) s
theorem lexR_fuel : ∀ (f g : Nat) (s : List Nat), s.length < f → s.length < g → lexR f s = lexR g s
  | 0, g, s, h, _ => by omega
  | f + 1, 0, s, _, h => by omega
  | f + 1, g + 1, s, hf, hg => by
    rw [lexR, lexR]
    by_cases h0 : s = []
    · rw [if_pos h0, if_pos h0]
    rw [if_neg h0, if_neg h0]
    have hl : 0 < s.length := List.length_pos_iff.2 h0
    by_cases h1 : (passF s).2 ≠ 0
    · rw [if_pos h1, if_pos h1]
    rw [if_neg h1, if_neg h1]
    by_cases h2 : 0 < (passF s).1
    · rw [if_pos h2, if_pos h2]
      exact lexR_fuel f g _ (by rw [List.length_drop]; omega) (by rw [List.length_drop]; omega)
    rw [if_neg h2, if_neg h2]
    by_cases h3 : (wordD s).e ≠ 0
    · rw [if_pos h3, if_pos h3]
    rw [if_neg h3, if_neg h3]
    have hp := wordD_pos (by omega : (wordD s).e = 0)
    rw [lexR_fuel f g _ (by rw [List.length_drop]; omega) (by rw [List.length_drop]; omega)]
theorem lex_nil : lex [] = some [] := rfl
theorem lex_pass {s : List Nat} (h0 : s ≠ []) (h : (passF s).2 = 0) (h1 : 0 < (passF s).1) : lex s = lex (s.drop (passF s).1) := by
  have hl : 0 < s.length := List.length_pos_iff.2 h0
  rw [lex, lexR, if_neg h0, if_neg (by omega), if_pos h1]
  exact lexR_fuel _ _ _ (by rw [List.length_drop]; omega) (by omega)
theorem lex_word {s : List Nat} (h0 : s ≠ []) (h : (passF s).2 = 0) (h1 : ¬ 0 < (passF s).1) (h2 : (wordD s).e = 0) : lex s = (lex (s.drop (wordD s).n)).map (((wordD s).kind, (wordD s).text) :: ·) := by
  have hl : 0 < s.length := List.length_pos_iff.2 h0
  have hp := wordD_pos h2
  rw [lex, lexR, if_neg h0, if_neg (by omega), if_neg h1, if_neg (by omega)]
  rw [lexR_fuel _ ((s.drop (wordD s).n).length + 1) _ (by rw [List.length_drop]; omega) (by omega)]
  rfl
theorem allR_lex {s : List Nat} (hb : Bytes s) : ∀ (f p : Nat) (acc : List WD), p ≤ s.length → s.length < p + f → (∀ l, lexR f (s.drop p) = some l → ∃ ws, allR s f p acc = .inl (acc ++ ws) ∧ ws.map WD.kt = l) ∧ (lexR f (s.drop p) = none → ∃ e q, allR s f p acc = .inr (e, q) ∧ e ≠ 0)
  | 0, p, acc, hp, h => by omega
  | f + 1, p, acc, hp, h => by
    rw [lexR, allR]
    by_cases hl : p < s.length
    · have h0 : s.drop p ≠ [] := drop_ne hl
      have hdl : (s.drop p).length = s.length - p := List.length_drop
      rw [if_neg h0, if_pos hl]
      by_cases h1 : (passF (s.drop p)).2 ≠ 0
      · rw [if_pos h1, if_pos h1]
        exact ⟨fun l q => (by cases q), fun _ => ⟨_, _, rfl, h1⟩⟩
      rw [if_neg h1, if_neg h1]
      have hpl := passF_le h0
      by_cases h2 : 0 < (passF (s.drop p)).1
      · rw [if_pos h2, if_pos h2, List.drop_drop]
        exact allR_lex hb f _ acc (by omega) (by omega)
      rw [if_neg h2, if_neg h2]
      by_cases h3 : (wordD (s.drop p)).e ≠ 0
      · rw [if_pos h3, if_pos h3]
        exact ⟨fun l q => (by cases q), fun _ => ⟨_, _, rfl, h3⟩⟩
      rw [if_neg h3, if_neg h3, List.drop_drop]
      have hp1 := wordD_pos (by omega : (wordD (s.drop p)).e = 0)
      have hwn : p + (wordD (s.drop p)).n ≤ s.length := by
        have := (wordD_ok h0 (hb.drop p)).2.2
        omega
      have ih := allR_lex hb f (p + (wordD (s.drop p)).n) (acc ++ [⟨(wordD (s.drop p)).kind, (wordD (s.drop p)).text, p⟩]) hwn (by omega)
      refine ⟨fun l q => ?_, fun q => ?_⟩
      · cases hx : lexR f (s.drop (p + (wordD (s.drop p)).n)) with
        | none => rw [hx] at q; cases q
        | some l' =>
          rw [hx] at q
          obtain ⟨ws, e1, e2⟩ := ih.1 l' hx
          refine ⟨⟨(wordD (s.drop p)).kind, (wordD (s.drop p)).text, p⟩ :: ws, by rw [e1]; simp, ?_⟩
          rw [List.map_cons, e2]
          exact Option.some.inj q
      · cases hx : lexR f (s.drop (p + (wordD (s.drop p)).n)) with
        | none => exact ih.2 hx
        | some l' => rw [hx] at q; cases q
    · have hd : s.drop p = [] := List.drop_eq_nil_of_le (by omega)
      rw [if_pos hd, if_neg hl]
      exact ⟨fun l q => ⟨[], by simp, by cases q; rfl⟩, fun q => by cases q⟩
theorem words_lex {s : List Nat} (hb : Bytes s) (hs : s.length ≤ 1048576) : (∀ l, lex s = some l → faultE s = 0 ∧ faultP s = 0 ∧ (wordsOf s).map WD.kt = l) ∧ (lex s = none → ¬ faultE s = 0) := by
  have h := allR_lex hb (s.length + 1) 0 [] (Nat.zero_le _) (by omega)
  rw [List.drop_zero] at h
  have hl : ¬ 1048576 < s.length := by omega
  unfold faultE faultP wordsOf
  rw [if_neg hl, if_neg hl, if_neg hl]
  refine ⟨fun l q => ?_, fun q => ?_⟩
  · obtain ⟨ws, e1, e2⟩ := h.1 l q
    have e : allF s = .inl ws := by unfold allF; rw [e1]; rfl
    rw [e]
    exact ⟨rfl, rfl, e2⟩
  · obtain ⟨e, p, e1, e2⟩ := h.2 q
    have e' : allF s = .inr (e, p) := e1
    rw [e']
    show ¬ (e : Int) = 0
    omega
end

noncomputable section

theorem getD_ext {t r : List Nat} {c i : Nat} (hi : i < t.length) : (t ++ c :: r).getD i 0 = t.getD i 0 := by
  rw [List.getD_eq_getElem?_getD, List.getD_eq_getElem?_getD, List.getElem?_append_left hi]
theorem getD_at (t r : List Nat) (c : Nat) : (t ++ c :: r).getD t.length 0 = c := by
  rw [List.getD_eq_getElem?_getD, List.getElem?_append_right (Nat.le_refl _), Nat.sub_self]
  rfl
theorem hasP_ext {t r p : List Nat} {c : Nat} (hp : c ∉ p) : hasP (t ++ c :: r) p ↔ hasP t p := by
  unfold hasP
  by_cases hl : p.length ≤ t.length
  · rw [List.take_append_of_le_length hl, List.length_append]
    exact ⟨fun q => ⟨hl, q.2⟩, fun q => ⟨by omega, q.2⟩⟩
  · refine ⟨fun q => ?_, fun q => absurd q.1 hl⟩
    exfalso
    apply hp
    rw [← q.2, List.take_append]
    refine List.mem_append_right _ ?_
    obtain ⟨k, hk⟩ : ∃ k, p.length - t.length = k + 1 := ⟨p.length - t.length - 1, by omega⟩
    rw [hk, List.take_succ_cons]
    exact List.mem_cons_self
theorem countW_ext (P : Nat → Prop) [DecidablePred P] {c : Nat} (hc : ¬ P c) (r : List Nat) : ∀ t : List Nat, countW P (t ++ c :: r) = countW P t
  | [] => by simp [countW, List.takeWhile_cons, hc]
  | x :: t => by
    have ih := countW_ext P hc r t
    unfold countW at ih ⊢
    rw [List.cons_append, List.takeWhile_cons, List.takeWhile_cons]
    split
    · rw [List.length_cons, List.length_cons, ih]
    · rfl
theorem qF_ext {c : Nat} (hc : c ≠ 96) {r : List Nat} : ∀ (t : List Nat) {o : List Nat × Nat}, qF t = some o → qF (t ++ c :: r) = some o
  | [], o, h => by cases h
  | [x], o, h => by
    rw [qF] at h
    by_cases hx : x = 96
    · rw [if_pos hx] at h
      show qF (x :: c :: r) = some o
      rw [qF, if_pos hx, if_neg hc]
      exact h
    · rw [if_neg hx] at h; cases h
  | x :: y :: t, o, h => by
    show qF (x :: y :: (t ++ c :: r)) = some o
    rw [qF] at h ⊢
    by_cases hx : x = 96
    · rw [if_pos hx] at h ⊢
      by_cases hy : y = 96
      · rw [if_pos hy] at h ⊢
        cases hf : qF t with
        | none => rw [hf] at h; cases h
        | some j => rw [hf] at h; rw [qF_ext hc t hf]; exact h
      · rw [if_neg hy] at h ⊢; exact h
    · rw [if_neg hx] at h ⊢
      cases hf : qF (y :: t) with
      | none => rw [hf] at h; cases h
      | some j =>
        rw [hf] at h
        have := qF_ext (r := r) hc (y :: t) hf
        rw [List.cons_append] at this
        rw [this]; exact h
theorem tF_ext {q c : Nat} (hc : c ≠ q) {r : List Nat} : ∀ (t : List Nat) {o : List Nat × Nat}, tF q t = some o → tF q (t ++ c :: r) = some o
  | [], o, h => by cases h
  | [x], o, h => by
    rw [tF] at h
    by_cases h9 : x = 92
    · rw [if_pos h9] at h; cases h
    rw [if_neg h9] at h
    by_cases hx : x = q
    · rw [if_pos hx] at h
      show tF q (x :: c :: r) = some o
      rw [tF, if_neg h9, if_pos hx, if_neg hc]
      exact h
    · rw [if_neg hx] at h; cases h
  | x :: y :: t, o, h => by
    show tF q (x :: y :: (t ++ c :: r)) = some o
    rw [tF] at h ⊢
    by_cases h9 : x = 92
    · rw [if_pos h9] at h ⊢
      cases hf : tF q t with
      | none => rw [hf] at h; cases h
      | some j => rw [hf] at h; rw [tF_ext hc t hf]; exact h
    rw [if_neg h9] at h ⊢
    by_cases hx : x = q
    · rw [if_pos hx] at h ⊢
      by_cases hy : y = q
      · rw [if_pos hy] at h ⊢
        cases hf : tF q t with
        | none => rw [hf] at h; cases h
        | some j => rw [hf] at h; rw [tF_ext hc t hf]; exact h
      · rw [if_neg hy] at h ⊢; exact h
    · rw [if_neg hx] at h ⊢
      cases hf : tF q (y :: t) with
      | none => rw [hf] at h; cases h
      | some j =>
        rw [hf] at h
        have := tF_ext (r := r) hc (y :: t) hf
        rw [List.cons_append] at this
        rw [this]; exact h
end

noncomputable section

theorem dec_ext {c : Nat} (hc : c < 128) (r : List Nat) : ∀ t : List Nat, t ≠ [] → dec (t ++ c :: r) = dec t
  | [], h => absurd rfl h
  | [x], _ => by
    have h2 : ¬ c / 64 = 2 := by omega
    unfold dec
    simp [cond_eq_ite, Nat.blt_eq, Nat.beq_eq, h2]
  | [x, y], _ => by
    have h2 : ¬ c / 64 = 2 := by omega
    unfold dec
    simp [cond_eq_ite, Nat.blt_eq, Nat.beq_eq, h2]
  | [x, y, z], _ => by
    have h2 : ¬ c / 64 = 2 := by omega
    have h3 : 2 < r.length + 1 + 1 + 1 + 1 := by omega
    unfold dec
    simp [cond_eq_ite, Nat.blt_eq, Nat.beq_eq, h2, h3]
  | x :: y :: z :: w :: l, _ => by
    have h3 : ∀ m : Nat, 2 < m + 1 + 1 + 1 + 1 := fun m => by omega
    have h4 : ∀ m : Nat, 3 < m + 1 + 1 + 1 + 1 := fun m => by omega
    unfold dec
    simp [cond_eq_ite, Nat.blt_eq, Nat.beq_eq, h3, h4]
end

noncomputable section

theorem blank_lt {c : Nat} (hc : isBlank c) : c < 128 ∧ ¬ letterR c ∧ ¬ isDigit c ∧ ¬ isHex c ∧ c ≠ 46 ∧ c ≠ 101 ∧ c ≠ 69 ∧ c ≠ 43 ∧ c ≠ 45 ∧ c ≠ 96 ∧ c ≠ 39 ∧ c ≠ 34 ∧ c ≠ 42 ∧ c ≠ 47 ∧ c ≠ 64 := by
  unfold isBlank at hc
  unfold letterR isHex isDigit
  omega
theorem runF_ext {c : Nat} (hc : isBlank c) (r : List Nat) : ∀ (n : Nat) (t : List Nat), t.length ≤ n → runF (t ++ c :: r) = runF t
  | n, [], _ => by
    obtain ⟨h1, h2, h3, _⟩ := blank_lt hc
    have hd : dec ([] ++ c :: r) = (c, 1) := by
      unfold dec
      simp [cond_eq_ite, Nat.blt_eq, h1]
    rw [runF_nil, runF_stop (by simp) (by unfold badR; rw [hd]; simp; omega) (by rw [hd]; exact h2) (by rw [hd]; exact h3)]
  | 0, x :: t, h => by simp at h
  | n + 1, x :: t, h => by
    obtain ⟨h1, h2, h3, _⟩ := blank_lt hc
    have h0 : x :: t ≠ [] := List.cons_ne_nil _ _
    have h0' : (x :: t) ++ c :: r ≠ [] := by simp
    have hd := dec_ext h1 r (x :: t) h0
    have hp := dec_pos (x :: t)
    have hle := dec_le (x :: t) h0
    have hdr : ((x :: t) ++ c :: r).drop (dec (x :: t)).2 = (x :: t).drop (dec (x :: t)).2 ++ c :: r := List.drop_append_of_le_length hle
    have ih := runF_ext hc r n ((x :: t).drop (dec (x :: t)).2) (by rw [List.length_drop]; omega)
    by_cases hb : badR (x :: t)
    · rw [runF_bad h0 hb, runF_bad h0' (by unfold badR; rw [hd]; exact hb)]
    have hb' : ¬ badR ((x :: t) ++ c :: r) := by unfold badR; rw [hd]; exact hb
    by_cases hl : letterR (dec (x :: t)).1
    · rw [runF_letter h0 hb hl, runF_letter h0' hb' (by rw [hd]; exact hl), hd, hdr, ih]
    by_cases hg : isDigit (dec (x :: t)).1
    · rw [runF_digit h0 hb hl hg, runF_digit h0' hb' (by rw [hd]; exact hl) (by rw [hd]; exact hg), hd, hdr, ih]
    · rw [runF_stop h0 hb hl hg, runF_stop h0' hb' (by rw [hd]; exact hl) (by rw [hd]; exact hg)]
theorem drop_ext {t : List Nat} {n : Nat} (h : n ≤ t.length) (u : List Nat) : (t ++ u).drop n = t.drop n ++ u := List.drop_append_of_le_length h
theorem countW_all {P : Nat → Prop} [DecidablePred P] {c : Nat} (hc : ¬ P c) {t r : List Nat} {n : Nat} (h : n ≤ t.length) : countW P ((t ++ c :: r).drop n) = countW P (t.drop n) := by
  rw [drop_ext h, countW_ext P hc]
theorem deci_ext {c : Nat} (hc : isBlank c) (r t : List Nat) : deci (t ++ c :: r) = deci t := by
  obtain ⟨h1, h2, h3, h4, h5, _⟩ := blank_lt hc
  have hw := countW_le isDigit t
  have e1 : countW isDigit (t ++ c :: r) = countW isDigit t := countW_ext isDigit h3 r t
  unfold deci
  rw [e1]
  by_cases hl : countW isDigit t < t.length
  · rw [getD_ext hl, countW_all h3 (by omega : countW isDigit t + 1 ≤ t.length)]
    have : countW isDigit t < (t ++ c :: r).length := by simp; omega
    simp only [hl, this]
  · have e2 : countW isDigit t = t.length := by omega
    have hn : ¬ (countW isDigit t < (t ++ c :: r).length ∧ (t ++ c :: r).getD (countW isDigit t) 0 = 46 ∧ 0 < countW isDigit t + countW isDigit ((t ++ c :: r).drop (countW isDigit t + 1))) := by
      rintro ⟨_, q, _⟩
      rw [e2, getD_at] at q
      exact h5 q
    rw [if_neg hn, if_neg fun q => hl q.1]
theorem deci_le (t : List Nat) : deci t ≤ t.length := by
  have hc2 := countW_le isDigit t
  have hc3 := countW_le isDigit (t.drop (countW isDigit t + 1))
  rw [List.length_drop] at hc3
  unfold deci
  split <;> omega
theorem expK_ext {c : Nat} (hc : isBlank c) (r t : List Nat) (n : Nat) (hn : n < t.length) : expK (t ++ c :: r) n = expK t n := by
  obtain ⟨h1, h2, h3, h4, h5, h6, h7, h8, h9, _⟩ := blank_lt hc
  unfold expK
  by_cases hl : n + 1 < t.length
  · rw [getD_ext hl]
    have : n + 1 < (t ++ c :: r).length := by simp; omega
    simp only [hl, this]
  · have e2 : n + 1 = t.length := by omega
    have hg : (t ++ c :: r).getD (n + 1) 0 = c := by rw [e2, getD_at]
    rw [if_neg (fun q => hl q.1 : ¬ (n + 1 < t.length ∧ _)), if_neg]
    rintro ⟨_, q⟩
    rw [hg] at q
    exact q.elim h8 h9
theorem expo_ext {c : Nat} (hc : isBlank c) (r t : List Nat) (n : Nat) (hn : n ≤ t.length) : expo (t ++ c :: r) n = expo t n := by
  obtain ⟨h1, h2, h3, h4, h5, h6, h7, h8, h9, _⟩ := blank_lt hc
  unfold expo
  by_cases hl : n < t.length
  · have hk : expK t n ≤ t.length := by unfold expK; split <;> omega
    rw [getD_ext hl, expK_ext hc r t n hl, countW_all h3 hk]
    have : n < (t ++ c :: r).length := by simp; omega
    simp only [hl, this]
  · have e2 : n = t.length := by omega
    have hn' : ¬ (n < (t ++ c :: r).length ∧ ((t ++ c :: r).getD n 0 = 101 ∨ (t ++ c :: r).getD n 0 = 69) ∧ 0 < countW isDigit ((t ++ c :: r).drop (expK (t ++ c :: r) n))) := by
      rintro ⟨_, q, _⟩
      rw [e2, getD_at] at q
      exact q.elim h6 h7
    rw [if_neg hn', if_neg fun q => hl q.1]
theorem hexPre_ext {c : Nat} (hc : isBlank c) (r t : List Nat) : hexPre (t ++ c :: r) ↔ hexPre t := by
  have h1 : c ∉ [48, 120] := by unfold isBlank at hc; simp; omega
  have h2 : c ∉ [48, 88] := by unfold isBlank at hc; simp; omega
  exact or_congr (hasP_ext (p := [48, 120]) h1) (hasP_ext (p := [48, 88]) h2)
theorem numN_ext {c : Nat} (hc : isBlank c) (r t : List Nat) : numN (t ++ c :: r) = numN t := by
  obtain ⟨h1, h2, h3, h4, _⟩ := blank_lt hc
  unfold numN
  rw [deci_ext hc, expo_ext hc r t _ (deci_le t)]
  by_cases hp : hexPre t
  · have hl : 2 ≤ t.length := by
      rcases hp with q | q
      · exact q.1
      · exact q.1
    rw [countW_all h4 hl]
    simp only [hexPre_ext hc r t]
  · have hp' : ¬ hexPre (t ++ c :: r) := fun q => hp ((hexPre_ext hc r t).1 q)
    rw [if_neg (fun q => hp' q.1 : ¬ (hexPre (t ++ c :: r) ∧ _)), if_neg (fun q => hp q.1 : ¬ (hexPre t ∧ 0 < countW isHex (t.drop 2)))]
theorem take_ext {t : List Nat} {n : Nat} (h : n ≤ t.length) (u : List Nat) : (t ++ u).take n = t.take n := List.take_append_of_le_length h
theorem numD_ext {c : Nat} (hc : isBlank c) (r t : List Nat) : numD (t ++ c :: r) = numD t := by
  unfold numD
  rw [numN_ext hc, take_ext (numN_le t)]
theorem nameD_ext {c : Nat} (hc : isBlank c) (r t : List Nat) : nameD (t ++ c :: r) = nameD t := by
  unfold nameD
  rw [runF_ext hc r t.length t (Nat.le_refl _), take_ext (runF_le t)]
theorem nameN_ext {c : Nat} (hc : isBlank c) (r t : List Nat) : nameN (t ++ c :: r) = nameN t := by
  unfold nameN
  rw [runF_ext hc r t.length t (Nat.le_refl _)]
theorem eitherD_ext {c : Nat} (hc : isBlank c) (r t : List Nat) : eitherD (t ++ c :: r) = eitherD t := by
  unfold eitherD
  rw [numN_ext hc, nameN_ext hc, numD_ext hc, nameD_ext hc]
theorem sysN_ext {c : Nat} (hc : isBlank c) (r : List Nat) : ∀ (f g : Nat) (t : List Nat), t.length < f → t.length < g → sysN f (t ++ c :: r) = sysN g t
  | 0, g, t, h, _ => by omega
  | f + 1, 0, t, _, h => by omega
  | f + 1, g + 1, t, hf, hg => by
    obtain ⟨h1, h2, h3, h4, h5, _⟩ := blank_lt hc
    have hle := runF_le t
    rw [sysN, sysN, runF_ext hc r t.length t (Nat.le_refl _)]
    by_cases hl : (runF t).1 < t.length
    · rw [getD_ext hl, drop_ext (by omega : (runF t).1 + 1 ≤ t.length)]
      have : (runF t).1 < (t ++ c :: r).length := by simp; omega
      rw [sysN_ext hc r f g (t.drop ((runF t).1 + 1)) (by rw [List.length_drop]; omega) (by rw [List.length_drop]; omega)]
      simp only [hl, this]
    · have e2 : (runF t).1 = t.length := by omega
      have hn : ¬ ((runF t).1 < (t ++ c :: r).length ∧ (t ++ c :: r).getD (runF t).1 0 = 46) := by
        rintro ⟨_, q⟩
        rw [e2, getD_at] at q
        exact h5 q
      rw [if_neg hn, if_neg fun q => hl q.1]
end

noncomputable section

theorem isPre_ext {c : Nat} (u : List Nat) : ∀ (p t : List Nat), c ∉ p → isPre p (t ++ c :: u) = isPre p t
  | [], t, _ => by simp [isPre]
  | a :: p, [], h => by
    have : ¬ a = c := fun q => h (by rw [q]; exact List.mem_cons_self)
    have h2 : Nat.beq a c = false := by
      cases hb : Nat.beq a c with
      | false => rfl
      | true => exact absurd (Nat.eq_of_beq_eq_true hb) this
    simp [isPre, h2]
  | a :: p, x :: t, h => by
    rw [List.cons_append, isPre, isPre, isPre_ext u p t fun q => h (List.mem_cons_of_mem _ q)]
theorem findS_ext {c : Nat} {u p : List Nat} (hc : c ∉ p) (hp : p ≠ []) : ∀ {t : List Nat} {i : Nat}, findS p t = some i → findS p (t ++ c :: u) = some i
  | [], i, h => by rw [findS, if_neg hp] at h; cases h
  | x :: t, i, h => by
    have e := isPre_ext u p (x :: t) hc
    rw [List.cons_append] at e ⊢
    rw [findS] at h ⊢
    rw [e]
    by_cases hx : isPre p (x :: t) = true
    · rw [if_pos hx] at h ⊢; exact h
    · rw [if_neg hx] at h ⊢
      cases hf : findS p t with
      | none => rw [hf] at h; cases h
      | some j => rw [hf] at h; rw [findS_ext hc hp hf]; exact h
def Stays (d d' : FD) : Prop := d.e = 0 → d' = d
def StaysL : List FD → List FD → Prop
  | [], [] => True
  | d :: l, d' :: l' => Stays d d' ∧ StaysL l l'
  | _, _ => False
theorem tryW_stays : ∀ {l l' : List FD}, StaysL l l' → (tryW l).e = 0 → tryW l' = tryW l
  | [], [], _, _ => rfl
  | d :: l, d' :: l', ⟨h1, h2⟩, he => by
    rw [tryW] at he ⊢
    rw [tryW]
    by_cases hd : d.e ≠ 0
    · rw [if_pos hd] at he; exact absurd he hd
    · rw [if_neg hd] at he
      rw [h1 (by omega), if_neg hd, if_neg hd]
      by_cases hn : 0 < d.n
      · rw [if_pos hn, if_pos hn]
      · rw [if_neg hn] at he
        rw [if_neg hn, if_neg hn]
        exact tryW_stays h2 he
theorem tryU_stays : ∀ {l l' : List FD}, StaysL l l' → (tryU l).e = 0 → tryU l' = tryU l
  | [], [], _, _ => rfl
  | d :: l, d' :: l', ⟨h1, h2⟩, he => by
    rw [tryU] at he ⊢
    rw [tryU]
    by_cases hd : d.e ≠ 0
    · rw [if_pos hd] at he; exact absurd he hd
    · rw [if_neg hd] at he
      rw [h1 (by omega), if_neg hd, if_neg hd]
      by_cases hn : 0 < d.n
      · rw [if_pos hn, if_pos hn]
      · rw [if_neg hn] at he
        rw [if_neg hn, if_neg hn]
        exact tryU_stays h2 he
section
variable {c : Nat} (hc : isBlank c) (r : List Nat) {t : List Nat} (h0 : t ≠ [])
include hc h0
theorem quotD_ext : Stays (quotD t) (quotD (t ++ c :: r)) := by
  intro he
  have hl : 0 < t.length := List.length_pos_iff.2 h0
  have h96 := (blank_lt hc).2.2.2.2.2.2.2.2.2.1
  unfold quotD at he ⊢
  rw [getD_ext hl, drop_ext (by omega : 1 ≤ t.length)]
  by_cases h : t.getD 0 0 = 96
  · rw [if_pos h] at he ⊢
    rw [if_pos h]
    cases hf : qF (t.drop 1) with
    | none => rw [hf] at he; exact absurd he (by decide)
    | some o => rw [qF_ext h96 _ hf]
  · rw [if_neg h, if_neg h]
theorem textD_ext : Stays (textD t) (textD (t ++ c :: r)) := by
  intro he
  have hl : 0 < t.length := List.length_pos_iff.2 h0
  have hb := blank_lt hc
  unfold textD at he ⊢
  rw [getD_ext hl, drop_ext (by omega : 1 ≤ t.length)]
  by_cases h : isQ (t.getD 0 0)
  · rw [if_pos h] at he ⊢
    rw [if_pos h]
    have hq : c ≠ t.getD 0 0 := by
      unfold isQ at h
      obtain ⟨_, _, _, _, _, _, _, _, _, _, q1, q2, _⟩ := hb
      rcases h with h | h <;> rw [h]
      · exact q1
      · exact q2
    cases hf : tF (t.getD 0 0) (t.drop 1) with
    | none => rw [hf] at he; exact absurd he (by decide)
    | some o => rw [tF_ext hq _ hf]
  · rw [if_neg h, if_neg h]
theorem sysD_ext : Stays (sysD t) (sysD (t ++ c :: r)) := by
  intro he
  have h64 : c ∉ [64, 64] := by have := blank_lt hc; simp; omega
  have hi : hasP (t ++ c :: r) [64, 64] ↔ hasP t [64, 64] := hasP_ext h64
  unfold sysD at he ⊢
  by_cases h : hasP t [64, 64]
  · have hl : 2 ≤ t.length := h.1
    have hE : sysE (t ++ c :: r) = sysE t := by
      unfold sysE
      rw [drop_ext hl]
      exact sysN_ext hc r _ _ _ (by rw [List.length_append, List.length_drop, List.length_cons]; omega) (by rw [List.length_drop]; omega)
    have hle := sysN_le (t.length + 1) (t.drop 2)
    rw [List.length_drop] at hle
    have hE2 : 2 + sysE t ≤ t.length := by unfold sysE; omega
    rw [if_pos h] at he ⊢
    rw [if_pos (hi.2 h), hE, take_ext hE2]
  · rw [if_neg h, if_neg fun q => h (hi.1 q)]
theorem oddD_ext : Stays (oddD t) (oddD (t ++ c :: r)) := by
  intro he
  have hb := blank_lt hc
  have h1 : c ∉ [47, 42, 33] := by unfold isBlank at hc; simp; omega
  have h2 : c ∉ [47, 42, 43] := by unfold isBlank at hc; simp; omega
  have h3 : c ∉ [42, 47] := by unfold isBlank at hc; simp; omega
  have hi : (hasP (t ++ c :: r) [47, 42, 33] ∨ hasP (t ++ c :: r) [47, 42, 43]) ↔ (hasP t [47, 42, 33] ∨ hasP t [47, 42, 43]) := or_congr (hasP_ext h1) (hasP_ext h2)
  unfold oddD at he ⊢
  by_cases h : hasP t [47, 42, 33] ∨ hasP t [47, 42, 43]
  · have hl : 3 ≤ t.length := by
      rcases h with h | h
      · exact h.1
      · exact h.1
    rw [if_pos h] at he ⊢
    rw [if_pos (hi.2 h), drop_ext (by omega : 2 ≤ t.length)]
    cases hf : findS [42, 47] (t.drop 2) with
    | none => rw [hf] at he; exact absurd (show (190 : Nat) = 0 from he) (by decide)
    | some i =>
      have hle := findS_le hf
      rw [List.length_drop] at hle
      simp only [List.length_cons, List.length_nil] at hle
      rw [findS_ext h3 (by simp) hf]
      show (⟨9, (t ++ c :: r).take (i + 4), i + 4, 0⟩ : FD) = ⟨9, t.take (i + 4), i + 4, 0⟩
      rw [take_ext (by omega : i + 4 ≤ t.length)]
  · rw [if_neg h, if_neg fun q => h (hi.1 q)]
theorem signD_ext : signD (t ++ c :: r) = signD t := by
  have hl : 0 < t.length := List.length_pos_iff.2 h0
  have hs : ∀ l : List (List Nat), (∀ x ∈ l, c ∉ x) → trySign (t ++ c :: r) l = trySign t l := by
    intro l
    induction l with
    | nil => intro _; rfl
    | cons x l ih =>
      intro hx
      have e : (x.length ≤ (t ++ c :: r).length ∧ (t ++ c :: r).take x.length = x) ↔ (x.length ≤ t.length ∧ t.take x.length = x) := hasP_ext (hx x List.mem_cons_self)
      rw [trySign, trySign, ih fun y hy => hx y (List.mem_cons_of_mem _ hy)]
      simp only [e]
  unfold signD
  rw [getD_ext hl]
  have hall : ∀ x ∈ signsL, c ∉ x := by
    intro x hx hm
    have h1 : ∀ x ∈ signsL, ∀ y ∈ x, 33 ≤ y := by decide
    have := h1 x hx c hm
    unfold isBlank at hc
    omega
  rw [hs signsL hall]
theorem userD_ext : Stays (userD t) (userD (t ++ c :: r)) := by
  intro he
  have hl : 0 < t.length := List.length_pos_iff.2 h0
  unfold userD at he ⊢
  rw [getD_ext hl]
  by_cases h : t.getD 0 0 = 64
  · rw [if_pos h] at he ⊢
    rw [if_pos h]
    by_cases h1 : t.length = 1
    · rw [if_pos h1] at he; exact absurd (show (191 : Nat) = 0 from he) (by decide)
    · have h1' : ¬ (t ++ c :: r).length = 1 := by simp; omega
      have hd0 : t.drop 1 ≠ [] := fun q => by have := congrArg List.length q; simp at this; omega
      rw [if_neg h1] at he ⊢
      rw [if_neg h1', drop_ext (by omega : 1 ≤ t.length)]
      exact tryU_stays ⟨quotD_ext hc r hd0, textD_ext hc r hd0, fun _ => nameD_ext hc r _, trivial⟩ he
  · rw [if_neg h, if_neg h]
theorem wordD_ext (he : (wordD t).e = 0) : wordD (t ++ c :: r) = wordD t :=
  tryW_stays ⟨oddD_ext hc r h0, fun _ => eitherD_ext hc r t, quotD_ext hc r h0, textD_ext hc r h0, sysD_ext hc r h0, userD_ext hc r h0, fun _ => signD_ext hc r h0, trivial⟩ he
end
end

noncomputable section

end

noncomputable section
structure Turn (f : Nat → Nat) : Prop where
  hi : ∀ b, 128 ≤ b → f b = b
  lo : ∀ b, b < 128 → f b < 128
structure Case (f : Nat → Nat) : Prop extends Turn f where
  letter : ∀ b, b < 128 → (letterR (f b) ↔ letterR b)
  digit : ∀ b, isDigit (f b) ↔ isDigit b
  hex : ∀ b, isHex (f b) ↔ isHex b
  dot : ∀ b, f b = 46 ↔ b = 46
  zero : ∀ b, f b = 48 ↔ b = 48
  x : ∀ b, (f b = 120 ∨ f b = 88) ↔ (b = 120 ∨ b = 88)
  e : ∀ b, (f b = 101 ∨ f b = 69) ↔ (b = 101 ∨ b = 69)
  sign : ∀ b, (f b = 43 ∨ f b = 45) ↔ (b = 43 ∨ b = 45)
theorem dec_low {s : List Nat} (h : s.getD 0 0 < 128) : dec s = (s.getD 0 0, 1) := by
  unfold dec
  simp only [cond_eq_ite, Nat.blt_eq, if_pos h]
end

noncomputable section
theorem hasP_head {c p : Nat} {u l : List Nat} (q : hasP (c :: u) (p :: l)) : c = p := (List.cons.inj (show c :: List.take _ u = p :: l from q.2)).1
theorem odd_none {c : Nat} {u : List Nat} (h : c ≠ 47) : oddD (c :: u) = FD.none := by
  unfold oddD
  rw [if_neg]
  rintro (q | q)
  · exact h (hasP_head q)
  · exact h (hasP_head q)
theorem num_none {c : Nat} {u : List Nat} (h1 : ¬ isDigit c) (h2 : c ≠ 46) : numN (c :: u) = 0 := by
  have hc : countW isDigit (c :: u) = 0 := by unfold countW; rw [List.takeWhile_cons, if_neg (by simpa using h1)]; rfl
  have hd : deci (c :: u) = 0 := by
    unfold deci
    rw [hc, if_neg]
    rintro ⟨_, q, _⟩
    exact h2 q
  unfold numN
  rw [if_neg, if_pos hd]
  rintro ⟨q | q, _⟩
  all_goals
    have := q.2
    rw [List.take_succ_cons] at this
    have e := (List.cons.inj this).1
    subst e
    exact h1 (by decide)
theorem run_none {c : Nat} {u : List Nat} (hc : c < 128) (h1 : ¬ letterR c) (h2 : ¬ isDigit c) : runF (c :: u) = (0, false) := by
  have hd : dec (c :: u) = (c, 1) := dec_low (s := c :: u) hc
  refine runF_stop (List.cons_ne_nil _ _) ?_ (by rw [hd]; exact h1) (by rw [hd]; exact h2)
  unfold badR
  rw [hd]
  simp only
  omega
theorem either_none {c : Nat} {u : List Nat} (hc : c < 128) (h1 : ¬ letterR c) (h2 : ¬ isDigit c) (h3 : c ≠ 46) : eitherD (c :: u) = FD.none := by
  have e1 : numN (c :: u) = 0 := num_none h2 h3
  have e2 : nameN (c :: u) = 0 := by unfold nameN; rw [run_none hc h1 h2]; rfl
  unfold eitherD numD
  rw [e1, e2]
  rfl
theorem quot_none {c : Nat} {u : List Nat} (h : c ≠ 96) : quotD (c :: u) = FD.none := if_neg (show ¬ c = 96 from h)
theorem text_none {c : Nat} {u : List Nat} (h : ¬ isQ c) : textD (c :: u) = FD.none := if_neg (show ¬ isQ c from h)
theorem sys_none {c : Nat} {u : List Nat} (h : c ≠ 64) : sysD (c :: u) = FD.none := by
  unfold sysD
  rw [if_neg]
  exact fun q => h (hasP_head q)
theorem user_none {c : Nat} {u : List Nat} (h : c ≠ 64) : userD (c :: u) = FD.none := if_neg (show ¬ c = 64 from h)
theorem tryW_skip {l : List FD} : tryW (FD.none :: l) = tryW l := by rw [tryW, if_neg (fun q => q rfl), if_neg (show ¬ 0 < FD.none.n from Nat.lt_irrefl 0)]
theorem tryW_hit {d : FD} {l : List FD} (h1 : d.e = 0) (h2 : 0 < d.n) : tryW (d :: l) = d := by rw [tryW, if_neg (by omega), if_pos h2]
theorem word_sign {c : Nat} {u : List Nat} (hc : c < 128) (h1 : ¬ letterR c) (h2 : ¬ isDigit c) (h3 : c ≠ 46) (h4 : c ≠ 96) (h5 : ¬ isQ c) (h6 : c ≠ 64) (h7 : oddD (c :: u) = FD.none) (h8 : (signD (c :: u)).e = 0) : wordD (c :: u) = signD (c :: u) := by
  unfold wordD finds
  rw [h7, either_none hc h1 h2 h3, quot_none h4, text_none h5, sys_none h6, user_none h6, tryW_skip, tryW_skip, tryW_skip, tryW_skip, tryW_skip, tryW_skip, tryW_hit h8 (signD_pos h8)]
end

noncomputable section
theorem signs_words : ∀ x ∈ signsL, wordD x = ⟨5, x, x.length, 0⟩ ∧ ∃ c u, x = c :: u ∧ ¬ isBlank c ∧ c ≠ 35 ∧ ((c ≠ 45 ∧ c ≠ 47) ∨ (x = [45] ∨ x = [47] ∨ x = [45, 62] ∨ x = [45, 62, 62])) := by
  intro x hx
  have hdot : wordD [46] = ⟨5, [46], 1, 0⟩ := by
    have e0 : oddD [46] = FD.none := odd_none (by decide)
    have e1 : eitherD [46] = FD.none := by
      have a : numN [46] = 0 := by decide
      have b : nameN [46] = 0 := by unfold nameN; rw [run_none (by decide) (by decide) (by decide)]; rfl
      unfold eitherD numD
      rw [a, b]
      rfl
    have e7 : signD [46] = ⟨5, [46], 1, 0⟩ := by rfl
    unfold wordD finds
    rw [e0, e1, quot_none (by decide), text_none (by decide), sys_none (by decide), user_none (by decide), e7]
    rfl
  have key : ∀ (c : Nat) (u : List Nat), c < 128 → ¬ letterR c → ¬ isDigit c → c ≠ 46 → c ≠ 96 → ¬ isQ c → c ≠ 64 → oddD (c :: u) = FD.none → signD (c :: u) = ⟨5, c :: u, (c :: u).length, 0⟩ → wordD (c :: u) = ⟨5, c :: u, (c :: u).length, 0⟩ := fun c u a1 a2 a3 a4 a5 a6 a7 a8 a9 => by rw [word_sign a1 a2 a3 a4 a5 a6 a7 a8 (by rw [a9]), a9]
  simp only [signsL, List.mem_cons, List.not_mem_nil, or_false] at hx
  rcases hx with rfl | rfl | rfl | rfl | rfl | rfl | rfl | rfl | rfl | rfl | rfl | rfl | rfl | rfl | rfl | rfl | rfl | rfl | rfl | rfl | rfl | rfl | rfl | rfl | rfl | rfl | rfl | rfl | rfl | rfl | rfl | rfl | rfl | rfl | rfl
  all_goals
    first
      | exact ⟨hdot, _, _, rfl, by decide, by decide, by decide⟩
      | exact ⟨key _ _ (by decide) (by decide) (by decide) (by decide) (by decide) (by decide) (by decide) (by rfl) (by rfl), _, _, rfl, by decide, by decide, by decide⟩
end

noncomputable section
def still (x : List Nat) : Prop := ∀ r, passF (x ++ 32 :: r) = (0, 0)
theorem still_of {c : Nat} {u : List Nat} (h1 : ¬ isBlank c) (h2 : c ≠ 35) (h3 : c ≠ 45) (h4 : c ≠ 47) : still (c :: u) := by
  intro r
  have e : (c :: u ++ 32 :: r).getD 0 0 = c := rfl
  unfold passF
  rw [e, if_neg h1, if_neg, if_pos (.inl fun q => h4 (hasP_head q))]
  rintro (q | q)
  · exact h2 (e ▸ q)
  · exact h3 (hasP_head q.1)
theorem still_run {x : List Nat} {n : Nat} {b : Bool} (h : 0 < n) (hn : runF x = (n, b)) : still x := by
  cases x with
  | nil => rw [runF_nil] at hn; have := congrArg Prod.fst hn; simp at this; omega
  | cons c u =>
    have : 128 ≤ c ∨ letterR c ∨ isDigit c := by
      by_cases q : 128 ≤ c ∨ letterR c ∨ isDigit c
      · exact q
      · rw [run_none (by omega) (fun w => q (.inr (.inl w))) (fun w => q (.inr (.inr w)))] at hn
        have := congrArg Prod.fst hn
        simp at this; omega
    refine still_of ?_ ?_ ?_ ?_ <;> (unfold letterR isDigit at this; try unfold isBlank) <;> omega
theorem signs_still : ∀ x ∈ signsL, still x := by
  intro x hx
  obtain ⟨_, c, u, rfl, h1, h2, h3⟩ := signs_words x hx
  rcases h3 with ⟨h3, h4⟩ | h
  · exact still_of h1 h2 h3 h4
  · intro r
    have nope : ∀ (a b : Nat) (v : List Nat), b ≠ 45 → ¬ lineP (45 :: b :: v) := fun a b v hb q => by
      rcases q with q | q
      · exact absurd (show (45 : Nat) = 35 from q) (by decide)
      · have := q.1.2
        simp at this
        exact hb this
    have n45 : ∀ (b : Nat) (v : List Nat), b ≠ 45 → passF (45 :: b :: v) = (0, 0) := fun b v hb => by
      unfold passF
      rw [if_neg (show ¬ isBlank ((45 :: b :: v).getD 0 0) from (by decide : ¬ isBlank 45)), if_neg (nope 0 b v hb), if_pos (.inl fun q => absurd (hasP_head q) (by decide))]
    have n47 : ∀ (b : Nat) (v : List Nat), b ≠ 42 → passF (47 :: b :: v) = (0, 0) := fun b v hb => by
      unfold passF
      rw [if_neg (show ¬ isBlank ((47 :: b :: v).getD 0 0) from (by decide : ¬ isBlank 47)), if_neg, if_pos (.inl (fun q => by have := q.2; simp at this; exact hb this))]
      rintro (q | q)
      · exact absurd (show (47 : Nat) = 35 from q) (by decide)
      · exact absurd (hasP_head q.1) (by decide)
    rcases h with h | h | h | h <;> rw [h]
    · exact n45 32 r (by decide)
    · exact n47 32 r (by decide)
    · exact n45 62 _ (by decide)
    · exact n45 62 _ (by decide)
theorem blank32 : isBlank 32 := by unfold isBlank; omega
end

noncomputable section

theorem run_letters : ∀ (x : List Nat), x ≠ [] → (∀ b ∈ x, 97 ≤ b ∧ b ≤ 122) → runF x = (x.length, true)
  | [], h, _ => absurd rfl h
  | b :: t, _, h => by
    have hb := h b (by simp)
    have hd : dec (b :: t) = (b, 1) := dec_low (s := b :: t) (by show b < 128; omega)
    rw [runF_letter (List.cons_ne_nil _ _) (by unfold badR; rw [hd]; simp only; omega) (by rw [hd]; unfold letterR; simp only; omega), hd]
    show (1 + (runF t).1, true) = _
    by_cases ht : t = []
    · subst ht; rw [runF_nil]; rfl
    · rw [run_letters t ht fun b hb => h b (by simp [hb])]
      rw [List.length_cons, Nat.add_comm]
theorem pass_of {c : Nat} {u : List Nat} (h1 : ¬ isBlank c) (h2 : c ≠ 35) (h3 : c ≠ 45) (h4 : c ≠ 47) : passF (c :: u) = (0, 0) := by
  unfold passF
  rw [if_neg (show ¬ isBlank ((c :: u).getD 0 0) from h1), if_neg, if_pos (.inl fun q => h4 (hasP_head q))]
  rintro (q | q)
  · exact h2 q
  · exact h3 (hasP_head q.1)
theorem word_letters {x : List Nat} (h0 : x ≠ []) (h : ∀ b ∈ x, 97 ≤ b ∧ b ≤ 122) : wordD x = ⟨1, x, x.length, 0⟩ ∧ still x := by
  have hr := run_letters x h0 h
  cases hx : x with
  | nil => exact absurd hx h0
  | cons c u =>
    have hc := h c (by rw [hx]; simp)
    rw [← hx]
    have hl : 0 < x.length := List.length_pos_iff.2 h0
    have hn : numN x = 0 := by rw [hx]; exact num_none (by unfold isDigit; omega) (by omega)
    have hN : nameN x = x.length := by unfold nameN; rw [hr, if_pos rfl]
    have hlow : lowS x = x := by
      unfold lowS
      conv => rhs; rw [← List.map_id x]
      refine List.map_congr_left fun b hb => ?_
      have := h b hb
      show lowB b = b
      unfold lowB
      rw [if_neg (by omega)]
    have e2 : eitherD x = ⟨1, x, x.length, 0⟩ := by
      unfold eitherD
      rw [if_pos (by omega)]
      unfold nameD
      rw [hr, if_pos rfl, List.take_length, hlow]
    have e1 : oddD x = FD.none := by rw [hx]; exact odd_none (by omega)
    refine ⟨?_, still_run hl hr⟩
    unfold wordD finds
    rw [e1, e2, tryW_skip, tryW_hit rfl hl]
theorem lex_next {x t : List Nat} {k : Nat} (h0 : x ≠ []) (hw : wordD x = ⟨k, t, x.length, 0⟩) (hs : still x) (r : List Nat) : lex (x ++ 32 :: r) = (lex r).map ((k, t) :: ·) := by
  have e : wordD (x ++ 32 :: r) = ⟨k, t, x.length, 0⟩ := by rw [wordD_ext blank32 _ h0 (by rw [hw]), hw]
  have p := hs r
  have e3 : passF (32 :: r) = (1, 0) := if_pos (show isBlank (32 : Nat) by decide)
  rw [lex_word (by simp) (by rw [p]) (by rw [p]; exact Nat.lt_irrefl 0) (by rw [e]), e]
  show (lex ((x ++ 32 :: r).drop x.length)).map _ = _
  rw [List.drop_left', lex_pass (by simp) (by rw [e3]) (by rw [e3]; decide), e3]
  · rfl
  · rfl
theorem lex_last {x t : List Nat} {k : Nat} (h0 : x ≠ []) (hw : wordD x = ⟨k, t, x.length, 0⟩) (hp : passF x = (0, 0)) : lex x = some [(k, t)] := by
  rw [lex_word h0 (by rw [hp]) (by rw [hp]; exact Nat.lt_irrefl 0) (by rw [hw]), hw]
  show (lex (x.drop x.length)).map _ = _
  rw [List.drop_length, lex_nil]
  rfl
end

end Go.Proofs.YtfgnpegkcmkeaaaDoor
set_option maxHeartbeats 1000000
set_option linter.unusedSimpArgs false
set_option linter.unusedVariables false
set_option linter.defProp false
set_option maxRecDepth 10000
namespace Go.Proofs.YtfgnpegkcmkeaaaDoor
open Go.Proofs Go.Lx Go.Wx Go.IntWalk
noncomputable section
def digN (u : Nat) : List Nat := toN (Lib.decDigits u)
theorem dec_step (u : Nat) : (u < 10 ∧ Lib.decDigits u = [UInt8.ofNat (48 + u)]) ∨ (¬ u < 10 ∧ Lib.decDigits u = Lib.decDigits (u / 10) ++ [UInt8.ofNat (48 + u % 10)]) := by
  by_cases h : u < 10
  · exact .inl ⟨h, by rw [Lib.decDigits, dif_pos h]⟩
  · exact .inr ⟨h, by rw [Lib.decDigits, dif_neg h]⟩
theorem u8_dig {d : Nat} (h : d < 10) : (UInt8.ofNat (48 + d)).toNat = 48 + d := by
  rw [UInt8.toNat_ofNat']
  omega
theorem dig_dec : ∀ (n u : Nat), u ≤ n → (∀ b ∈ Lib.decDigits u, 48 ≤ b.toNat ∧ b.toNat ≤ 57) ∧ Lib.decDigits u ≠ []
  | n, u, hu => by
    rcases dec_step u with ⟨h, e⟩ | ⟨h, e⟩
    · rw [e]
      refine ⟨fun b hb => ?_, by simp⟩
      rw [List.mem_singleton] at hb
      subst hb
      rw [u8_dig h]; omega
    · rw [e]
      refine ⟨fun b hb => ?_, by simp⟩
      cases n with
      | zero => omega
      | succ n =>
        rcases List.mem_append.1 hb with hb | hb
        · exact (dig_dec n (u / 10) (by omega)).1 b hb
        · rw [List.mem_singleton] at hb
          subst hb
          rw [u8_dig (by omega)]; omega
theorem digN_all (u : Nat) : ∀ b ∈ digN u, isDigit b := fun b hb => by
  obtain ⟨c, hc, rfl⟩ := List.mem_map.1 hb
  exact (dig_dec u u (Nat.le_refl _)).1 c hc
theorem digN_ne (u : Nat) : digN u ≠ [] := fun h => (dig_dec u u (Nat.le_refl _)).2 (List.map_eq_nil_iff.1 h)
theorem parse_app : ∀ (l : List UInt8) (acc v : Nat) (c : UInt8), Lib.parseUint10 acc l = .ok v → 48 ≤ c.toNat → c.toNat ≤ 57 → v < 1844674407370955161 → Lib.parseUint10 acc (l ++ [c]) = .ok (v * 10 + (c.toNat - 48))
  | [], acc, v, c, h, h1, h2, hv => by
    simp only [Lib.parseUint10] at h
    injection h with h; subst h
    show Lib.parseUint10 acc [c] = _
    simp only [Lib.parseUint10]
    rw [if_pos ⟨h1, h2⟩, if_neg (by omega), if_neg (by omega)]
  | d :: l, acc, v, c, h, h1, h2, hv => by
    show Lib.parseUint10 acc (d :: (l ++ [c])) = _
    simp only [Lib.parseUint10] at h ⊢
    split at h
    · rename_i q
      rw [if_pos q]
      split at h
      · cases h
      · rename_i q2
        rw [if_neg q2]
        split at h
        · cases h
        · rename_i q3
          rw [if_neg q3]
          exact parse_app l _ v c h h1 h2 hv
    · cases h
theorem parse_dec : ∀ (n u : Nat), u ≤ n → u < 1000000000000 → Lib.parseUint10 0 (Lib.decDigits u) = .ok u
  | n, u, hu, hb => by
    rcases dec_step u with ⟨h, e⟩ | ⟨h, e⟩
    · rw [e]
      simp only [Lib.parseUint10]
      rw [u8_dig h, if_pos (by omega), if_neg (by omega), if_neg (by omega)]
      congr 1
      omega
    · rw [e]
      cases n with
      | zero => omega
      | succ n =>
        have hq := u8_dig (d := u % 10) (by omega)
        rw [parse_app _ _ _ _ (parse_dec n (u / 10) (by omega) (by omega)) (by omega) (by omega) (by omega), hq]
        congr 1
        omega
theorem atoi_dec (u : Nat) (hb : u < 1000000000000) : Lib.atoiAll (Lib.decDigits u) = .ok (u : Int) := by
  obtain ⟨h1, h2⟩ := dig_dec u u (Nat.le_refl _)
  have h3 := parse_dec u u (Nat.le_refl _) hb
  cases hd : Lib.decDigits u with
  | nil => exact absurd hd h2
  | cons c r =>
    have hc := h1 c (by rw [hd]; simp)
    unfold Lib.atoiAll
    simp only
    rw [if_neg (by omega : ¬ (c.toNat = 43 ∨ c.toNat = 45)), ← hd]
    unfold Lib.parseMag
    rw [if_neg h2, h3]
    simp only
    rw [if_neg (by omega), if_neg (by omega), if_neg (by omega)]
theorem itoa_nat (u : Nat) : Lib.itoa (u : Int) = Lib.decDigits u := by
  unfold Lib.itoa
  rw [if_neg (by omega)]
  rfl
theorem count_all : ∀ {x : List Nat}, (∀ b ∈ x, isDigit b) → countW isDigit x = x.length
  | [], _ => rfl
  | b :: t, h => by
    have ih := count_all (x := t) fun c hc => h c (by simp [hc])
    unfold countW at ih ⊢
    rw [List.takeWhile_cons, if_pos (by simpa using h b (by simp)), List.length_cons, List.length_cons, ih]
theorem run_digits : ∀ (x : List Nat), (∀ b ∈ x, isDigit b) → runF x = (x.length, false)
  | [], _ => runF_nil
  | b :: t, h => by
    have hb : 48 ≤ b ∧ b ≤ 57 := h b (by simp)
    have hd : dec (b :: t) = (b, 1) := dec_low (s := b :: t) (by show b < 128; omega)
    rw [runF_digit (List.cons_ne_nil _ _) (by unfold badR; rw [hd]; simp only; omega) (by rw [hd]; unfold letterR; simp only; omega) (by rw [hd]; exact hb), hd]
    show (1 + (runF t).1, (runF t).2) = _
    rw [run_digits t fun b hb => h b (by simp [hb]), List.length_cons, Nat.add_comm]
theorem num_digits {x : List Nat} (h0 : x ≠ []) (h : ∀ b ∈ x, isDigit b) : numN x = x.length := by
  have hl : 0 < x.length := List.length_pos_iff.2 h0
  have hc := count_all h
  have hx : ¬ hexPre x := by
    rintro (⟨q1, q2⟩ | ⟨q1, q2⟩) <;>
    · have hm : (x.take 2)[1]? = x[1]? := by rw [List.getElem?_take]; simp
      rw [q2, List.getElem?_eq_getElem (by omega : 1 < x.length)] at hm
      have := h x[1] (List.getElem_mem _)
      unfold isDigit at this
      simp at hm
      omega
  have hd : deci x = x.length := by
    unfold deci
    rw [hc, if_neg (by omega)]
  unfold numN
  rw [if_neg (fun q => hx q.1), hd, if_neg (by omega)]
  unfold expo
  rw [if_neg (by omega)]
theorem word_digits {x : List Nat} (h0 : x ≠ []) (h : ∀ b ∈ x, isDigit b) : wordD x = ⟨4, x, x.length, 0⟩ ∧ passF x = (0, 0) := by
  have hl : 0 < x.length := List.length_pos_iff.2 h0
  have hr := run_digits x h
  have hn := num_digits h0 h
  have hN : nameN x = 0 := by unfold nameN; rw [hr]; rfl
  have e2 : eitherD x = ⟨4, x, x.length, 0⟩ := by
    unfold eitherD
    rw [if_neg (by omega)]
    unfold numD
    rw [if_neg (by omega), hn, List.take_length]
  cases hx : x with
  | nil => exact absurd hx h0
  | cons c u =>
    have hc : 48 ≤ c ∧ c ≤ 57 := h c (by rw [hx]; simp)
    have e1 : oddD x = FD.none := by rw [hx]; exact odd_none (by omega)
    refine ⟨?_, pass_of (by unfold isBlank; omega) (by omega) (by omega) (by omega)⟩
    rw [← hx]
    unfold wordD finds
    rw [e1, e2, tryW_skip, tryW_hit rfl hl]
theorem lex_digits (u : Nat) : lex (digN u) = some [(4, digN u)] := lex_last (digN_ne u) (word_digits (digN_ne u) (digN_all u)).1 (word_digits (digN_ne u) (digN_all u)).2

theorem letters_pass {y : List Nat} (h0 : y ≠ []) (h : ∀ b ∈ y, 97 ≤ b ∧ b ≤ 122) : passF y = (0, 0) := by
  cases hy : y with
  | nil => exact absurd hy h0
  | cons c u =>
    have := h c (by rw [hy]; simp)
    exact pass_of (by unfold isBlank; omega) (by omega) (by omega) (by omega)
def fieldsK : Nat → List (List Nat)
  | 1 => [[115,104,111,119], [112,111,111,108]]
  | 2 => [[115,104,111,119], [98,97,99,107,101,110,100,115]]
  | 3 => [[115,104,111,119], [99,108,105,101,110,116,115]]
  | 4 => [[115,104,111,119], [119,97,105,116,101,114,115]]
  | 5 => [[115,104,111,119], [100,105,103,101,115,116,115]]
  | 6 => [[115,101,116], [108,105,109,105,116], [61]]
  | 7 => [[112,97,117,115,101]]
  | 8 => [[114,101,115,117,109,101]]
  | 9 => [[107,105,108,108]]
  | 10 => [[115,104,117,116,100,111,119,110]]
  | _ => []
def glueB : List (List Nat) → List Nat
  | [] => []
  | [x] => x
  | x :: l => x ++ 32 :: glueB l
def wordsK (k : Nat) : List Nat := glueB (fieldsK k)
def numbK (k : Nat) : Prop := k = 6 ∨ k = 9
instance (k : Nat) : Decidable (numbK k) := inferInstanceAs (Decidable (_ ∨ _))
def numT (t : List Nat) : Option Nat := match Lib.atoiAll (toU t) with
  | .ok v => if toN (Lib.itoa v) = t ∧ 1 ≤ v ∧ v ≤ 999999999 then some v.toNat else none
  | _ => none
def sayR : List KT → List (List Nat) → Nat → Option (List (List Nat) × Nat)
  | [], said, n => some (said, n)
  | w :: r, said, n => if w.1 = 1 ∨ w.1 = 5 then sayR r (said ++ [w.2]) n else if w.1 = 4 ∧ r = [] then (match numT w.2 with
    | some v => sayR r said v
    | none => none) else none
def kindR : Nat → Nat → List (List Nat) → Nat → Option Nat
  | 0, _, _, _ => none
  | f + 1, k, said, n => if fieldsK k = said ∧ (numbK k ↔ 0 < n) then some k else kindR f (k + 1) said n
def cutS (l : List KT) : List KT := if l.getLast? = some (5, [59]) then l.dropLast else l
def readL (l : List KT) : Option (Nat × Nat) := match sayR (cutS l) [] 0 with
  | some (said, n) => (kindR 10 1 said n).map fun k => (k, n)
  | none => none
def readT (s : List Nat) : Option (Nat × Nat) := match lex s with
  | some l => readL l
  | none => none
def okO (k n : Nat) : Prop := (1 ≤ k ∧ k ≤ 10) ∧ ((numbK k ∧ 1 ≤ n ∧ n ≤ 999999999) ∨ (¬ numbK k ∧ n = 0))
def printO (k n : Nat) : List Nat := if numbK k then wordsK k ++ 32 :: digN n else wordsK k
theorem numT_ok {t : List Nat} {v : Nat} (h : numT t = some v) : 1 ≤ v ∧ v ≤ 999999999 := by
  unfold numT at h
  split at h
  · split at h
    · rename_i q
      injection h with h
      omega
    · cases h
  · cases h
theorem sayR_ok : ∀ (l : List KT) (said : List (List Nat)) (n : Nat) {r : List (List Nat) × Nat}, (n = 0 ∨ (1 ≤ n ∧ n ≤ 999999999)) → sayR l said n = some r → r.2 = 0 ∨ (1 ≤ r.2 ∧ r.2 ≤ 999999999)
  | [], said, n, r, h, q => by rw [sayR] at q; cases q; exact h
  | w :: l, said, n, r, h, q => by
    rw [sayR] at q
    split at q
    · exact sayR_ok l _ _ h q
    · split at q
      · split at q
        · rename_i v hv
          exact sayR_ok l _ _ (.inr (numT_ok hv)) q
        · cases q
      · cases q
theorem kindR_ok : ∀ (f k : Nat) (said : List (List Nat)) (n j : Nat), kindR f k said n = some j → k ≤ j ∧ j < k + f ∧ fieldsK j = said ∧ (numbK j ↔ 0 < n)
  | 0, k, said, n, j, h => by rw [kindR] at h; cases h
  | f + 1, k, said, n, j, h => by
    rw [kindR] at h
    split at h
    · rename_i q
      injection h with h; subst h
      exact ⟨Nat.le_refl _, by omega, q⟩
    · have := kindR_ok f (k + 1) said n j h
      exact ⟨by omega, by omega, this.2.2⟩
theorem readT_ok {s : List Nat} {k n : Nat} (h : readT s = some (k, n)) : okO k n := by
  unfold readT at h
  split at h
  · unfold readL at h
    split at h
    · rename_i said m q
      cases hk : kindR 10 1 said m with
      | none => rw [hk] at h; cases h
      | some j =>
        rw [hk] at h
        cases h
        have h1 := sayR_ok _ _ _ (.inl rfl) q
        have h2 := kindR_ok _ _ _ _ _ hk
        refine ⟨⟨h2.1, by omega⟩, ?_⟩
        have h3 : n = 0 ∨ (1 ≤ n ∧ n ≤ 999999999) := h1
        by_cases hn : numbK k
        · have := h2.2.2.2.1 hn
          exact .inl ⟨hn, by omega⟩
        · refine .inr ⟨hn, ?_⟩
          have : ¬ 0 < n := fun q => hn (h2.2.2.2.2 q)
          omega
    · cases h
  · cases h
theorem numT_dig {n : Nat} (h1 : 1 ≤ n) (h2 : n ≤ 999999999) : numT (digN n) = some n := by
  unfold numT digN
  rw [toU_toN, atoi_dec n (by omega)]
  simp only
  rw [itoa_nat, if_pos ⟨rfl, by omega, by omega⟩]
  rfl
theorem read_print {k n : Nat} (h : okO k n) : readT (printO k n) = some (k, n) := by
  obtain ⟨⟨h1, h2⟩, h3⟩ := h
  have sh := word_letters (x := [115,104,111,119]) (by decide) (by decide)
  have no : ∀ k, ¬ numbK k → printO k 0 = wordsK k := fun k q => if_neg q
  rcases h3 with ⟨h3, h4, h5⟩ | ⟨h3, rfl⟩
  · have hd := numT_dig h4 h5
    have hn : 0 < n := h4
    rcases h3 with rfl | rfl
    · have a1 := word_letters (x := [115,101,116]) (by decide) (by decide)
      have a2 := word_letters (x := [108,105,109,105,116]) (by decide) (by decide)
      have a3 := signs_words [61] (by decide)
      have e : printO 6 n = [115,101,116] ++ 32 :: ([108,105,109,105,116] ++ 32 :: ([61] ++ 32 :: digN n)) := rfl
      have hl : lex (printO 6 n) = some [(1, [115,101,116]), (1, [108,105,109,105,116]), (5, [61]), (4, digN n)] := by
        rw [e, lex_next (by decide) a1.1 a1.2, lex_next (by decide) a2.1 a2.2, lex_next (by decide) a3.1 (signs_still [61] (by decide)), lex_digits]
        rfl
      unfold readT
      rw [hl]
      show readL _ = _
      unfold readL
      have hc : cutS [(1, [115,101,116]), (1, [108,105,109,105,116]), (5, [61]), (4, digN n)] = [(1, [115,101,116]), (1, [108,105,109,105,116]), (5, [61]), (4, digN n)] := if_neg (by simp)
      have hs : sayR [(1, [115,101,116]), (1, [108,105,109,105,116]), (5, [61]), (4, digN n)] [] 0 = some ([[115,101,116], [108,105,109,105,116], [61]], n) := by
        simp [sayR, hd]
      rw [hc, hs]
      show (kindR 10 1 _ n).map _ = _
      simp [kindR, fieldsK, numbK, hn]
    · have a1 := word_letters (x := [107,105,108,108]) (by decide) (by decide)
      have e : printO 9 n = [107,105,108,108] ++ 32 :: digN n := rfl
      have hl : lex (printO 9 n) = some [(1, [107,105,108,108]), (4, digN n)] := by
        rw [e, lex_next (by decide) a1.1 a1.2, lex_digits]
        rfl
      unfold readT
      rw [hl]
      show readL _ = _
      unfold readL
      have hc : cutS [(1, [107,105,108,108]), (4, digN n)] = [(1, [107,105,108,108]), (4, digN n)] := if_neg (by simp)
      have hs : sayR [(1, [107,105,108,108]), (4, digN n)] [] 0 = some ([[107,105,108,108]], n) := by
        simp [sayR, hd]
      rw [hc, hs]
      show (kindR 10 1 _ n).map _ = _
      simp [kindR, fieldsK, numbK, hn]
  · rw [no k h3]
    have two : ∀ y : List Nat, y ≠ [] → (∀ b ∈ y, 97 ≤ b ∧ b ≤ 122) → lex ([115,104,111,119] ++ 32 :: y) = some [(1, [115,104,111,119]), (1, y)] := fun y q1 q2 => by
      have a1 := word_letters q1 q2
      rw [lex_next (by decide) sh.1 sh.2, lex_last q1 a1.1 (letters_pass q1 q2)]
      rfl
    have one : ∀ y : List Nat, y ≠ [] → (∀ b ∈ y, 97 ≤ b ∧ b ≤ 122) → lex y = some [(1, y)] := fun y q1 q2 => lex_last q1 (word_letters q1 q2).1 (letters_pass q1 q2)
    unfold readT
    have hk : k = 1 ∨ k = 2 ∨ k = 3 ∨ k = 4 ∨ k = 5 ∨ k = 7 ∨ k = 8 ∨ k = 10 := by unfold numbK at h3; omega
    rcases hk with rfl | rfl | rfl | rfl | rfl | rfl | rfl | rfl
    · rw [show lex (wordsK 1) = _ from two [112,111,111,108] (by decide) (by decide)]; decide +kernel
    · rw [show lex (wordsK 2) = _ from two [98,97,99,107,101,110,100,115] (by decide) (by decide)]; decide +kernel
    · rw [show lex (wordsK 3) = _ from two [99,108,105,101,110,116,115] (by decide) (by decide)]; decide +kernel
    · rw [show lex (wordsK 4) = _ from two [119,97,105,116,101,114,115] (by decide) (by decide)]; decide +kernel
    · rw [show lex (wordsK 5) = _ from two [100,105,103,101,115,116,115] (by decide) (by decide)]; decide +kernel
    · rw [show lex (wordsK 7) = _ from one [112,97,117,115,101] (by decide) (by decide)]; decide +kernel
    · rw [show lex (wordsK 8) = _ from one [114,101,115,117,109,101] (by decide) (by decide)]; decide +kernel
    · rw [show lex (wordsK 10) = _ from one [115,104,117,116,100,111,119,110] (by decide) (by decide)]; decide +kernel
end
end Go.Proofs.YtfgnpegkcmkeaaaDoor
set_option linter.unusedSimpArgs false
set_option linter.unusedVariables false
set_option linter.unusedSectionVars false
set_option linter.defProp false
set_option maxRecDepth 10000
set_option maxHeartbeats 1000000
namespace Go.Proofs.YtfgnpegkcmkeaaaDoor
open Int (reduceLE reduceLT reduceToNat)
open Nat (reduceLeDiff reduceEqDiff reduceAdd)
open Go.Proofs Go.Lx Go.Wx Go.IntWalk
noncomputable section
structure StdA (S : Set0) : Prop extends StdF S where
  ownA : ∀ f, f ∈ [3, 5, 6, 7, 8] → sums S.exts f = none
  itoa : sums S.exts 9 = some (pureM itoaV)
  atoi : sums S.exts 11 = some (atoiM 100 77)
  fieldsA : ∀ k, 1 ≤ k → k ≤ 10 → ∀ h : H, callW S.cfg nil1 12 [.str (wordsK k)] h fun v h' => v = .slice h.nx 0 (fieldsK k).length (fieldsK k).length ∧ h' = h.push (.cells ((fieldsK k).map V.str) 9 false)
  lives : ∀ h : H, Exact S.cfg 4 [] h (.bool true)

def numbZ (k : Int) : Prop := k = 6 ∨ k = 9
instance (k : Int) : Decidable (numbZ k) := inferInstanceAs (Decidable (_ ∨ _))
def okZ (k n : Int) : Prop := (1 ≤ k ∧ k < 11) ∧ ((numbZ k ∧ 1 ≤ n ∧ n ≤ 999999999) ∨ (¬ numbZ k ∧ n = 0))
instance (k n : Int) : Decidable (okZ k n) := inferInstanceAs (Decidable (_ ∧ _))
def wordsV (k : Int) : V := if 1 ≤ k ∧ k < 11 then .tuple [.str (wordsK k.toNat), bo True] else .tuple [.str [], bo False]
def printV (k n : Int) : V := if okZ k n then .tuple [.str (printO k.toNat n.toNat), .int .i64 0] else .tuple [.str [], .int .i64 2]

theorem lts : (1:Nat) < 11 ∧ (2:Nat) < 11 ∧ (3:Nat) < 11 ∧ (4:Nat) < 11 ∧ (5:Nat) < 11 ∧ (6:Nat) < 11 ∧ (7:Nat) < 11 ∧ (8:Nat) < 11 ∧ (9:Nat) < 11 ∧ (10:Nat) < 11 := by decide
theorem wordsK_len {k : Nat} (h : k ≤ 10) : (wordsK k).length ≤ 13 := by
  have : ∀ j : Fin 11, (wordsK j.val).length ≤ 13 := by decide
  exact this ⟨k, by omega⟩
theorem itoaF_len {n : Int} (h : -9223372036854775808 ≤ n) (h2 : n ≤ 9223372036854775807) : (itoaF n).length ≤ 21 := by
  unfold itoaF
  rw [toN_len]
  exact Lib.itoa_length_le n h h2
variable {S : Set0} (hS : StdA S)
include hS
theorem words_spec (k : Int) (h : H) : Pure S.cfg 7 [.int .i64 k] h fun v _ => v = wordsV k := by
  refine into Tryd.f7 _ Tryd.func7 (hS.ownA _ (by decide)) rfl rfl (by kernel_rfl) (by kernel_rfl) ?_
  by_cases h1 : k < 1
  · simp +contextual (disch := first | (simp only [fq]; done) | omega | (simp only [Knx]; omega) | (apply Nat.le_antisymm <;> simp only [Knx] <;> omega) | fail) only [wpy, fW, reduceLE, reduceLT, reduceLeDiff, UInt8.reduceToNat, ↓reduceIte, reduceEqDiff, reduceAdd, reduceCtorEq, reduceToNat, Tryd.f7, h1]
    exact ⟨((Ext.refl h).push _).put (Nat.le_refl _) _, by unfold wordsV; rw [if_neg (by omega)]⟩
  by_cases h2 : 11 ≤ k
  · simp +contextual (disch := first | (simp only [fq]; done) | omega | (simp only [Knx]; omega) | (apply Nat.le_antisymm <;> simp only [Knx] <;> omega) | fail) only [wpy, fW, reduceLE, reduceLT, reduceLeDiff, UInt8.reduceToNat, ↓reduceIte, reduceEqDiff, reduceAdd, reduceCtorEq, reduceToNat, Tryd.f7, h1, h2]
    exact ⟨((Ext.refl h).push _).put (Nat.le_refl _) _, by unfold wordsV; rw [if_neg (by omega)]⟩
  have hk : k = 1 ∨ k = 2 ∨ k = 3 ∨ k = 4 ∨ k = 5 ∨ k = 6 ∨ k = 7 ∨ k = 8 ∨ k = 9 ∨ k = 10 := by omega
  rcases hk with rfl | rfl | rfl | rfl | rfl | rfl | rfl | rfl | rfl | rfl
  all_goals
    simp +contextual (disch := first | (simp only [fq]; done) | omega | (simp only [Knx]; omega) | (apply Nat.le_antisymm <;> simp only [Knx] <;> omega) | fail) only [wpy, fW, reduceLE, reduceLT, reduceLeDiff, UInt8.reduceToNat, ↓reduceIte, reduceEqDiff, reduceAdd, reduceCtorEq, reduceToNat, Tryd.f7, lts]
    exact ⟨((Ext.refl h).push _).put (Nat.le_refl _) _, by unfold wordsV; rw [if_pos (by omega)]; rfl⟩
theorem numbered_spec (k : Int) (h : H) : Exact S.cfg 8 [.int .i64 k] h (bo (numbZ k)) := by
  refine into Tryd.f8 _ Tryd.func8 (hS.ownA _ (by decide)) rfl rfl (by kernel_rfl) (by kernel_rfl) ?_
  by_cases h1 : k = 6
  · simp +contextual (disch := first | (simp only [fq]; done) | omega | (simp only [Knx]; omega) | (apply Nat.le_antisymm <;> simp only [Knx] <;> omega) | fail) only [wpy, fW, reduceLE, reduceLT, reduceLeDiff, UInt8.reduceToNat, ↓reduceIte, reduceEqDiff, reduceAdd, reduceCtorEq, reduceToNat, Tryd.f8, h1]
    exact congrArg bo (eq_true (.inl rfl)).symm
  · simp +contextual (disch := first | (simp only [fq]; done) | omega | (simp only [Knx]; omega) | (apply Nat.le_antisymm <;> simp only [Knx] <;> omega) | fail) only [wpy, fW, reduceLE, reduceLT, reduceLeDiff, UInt8.reduceToNat, ↓reduceIte, reduceEqDiff, reduceAdd, reduceCtorEq, reduceToNat, Tryd.f8, h1]
    refine congrArg bo (propext ⟨.inr, fun q => ?_⟩)
    rcases q with q | q
    · exact absurd q h1
    · exact q
theorem print_spec (k n : Int) (h : H) : Pure S.cfg 5 [.agg [.int .i64 k, .int .i64 n]] h fun v _ => v = printV k n := by
  refine into Tryd.f5 _ Tryd.func5 (hS.ownA _ (by decide)) rfl rfl (by kernel_rfl) (by kernel_rfl) ?_
  simp +contextual (disch := first | (simp only [fq]; done) | omega | (simp only [Knx]; omega) | (apply Nat.le_antisymm <;> simp only [Knx] <;> omega) | fail) only [wpy, fW, reduceLE, reduceLT, reduceLeDiff, UInt8.reduceToNat, ↓reduceIte, reduceEqDiff, reduceAdd, reduceCtorEq, reduceToNat, Tryd.f5]
  refine callF_pure (words_spec hS k _) ?_
  rintro v h1 hx1 rfl
  have hg1 : h1.get h.nx = some (Ob.cells [V.int IntKind.i64 k, V.int IntKind.i64 n] 23 false) := (hx1.2 h.nx (Nat.lt_succ_self _)).trans (push_eq rfl)
  have hx : Ext h h1 := ((Ext.refl h).push _).trans hx1
  have hn1 : h.nx < h1.nx := hx1.1
  by_cases hk : 1 ≤ k ∧ k < 11
  · have e1 : wordsV k = .tuple [.str (wordsK k.toNat), bo True] := if_pos hk
    rw [e1]
    simp +contextual (disch := first | (simp only [fq]; done) | omega | (simp only [Knx]; omega) | (apply Nat.le_antisymm <;> simp only [Knx] <;> omega) | fail) only [wpy, fW, reduceLE, reduceLT, reduceLeDiff, UInt8.reduceToNat, ↓reduceIte, reduceEqDiff, reduceAdd, reduceCtorEq, reduceToNat, Tryd.f5, hg1]
    refine callF_exact (numbered_spec hS k _) ?_
    by_cases hb : numbZ k
    · have hK : numbK k.toNat := by rcases hb with rfl | rfl <;> decide
      by_cases n1 : n < 1
      · simp +contextual (disch := first | (simp only [fq]; done) | omega | (simp only [Knx]; omega) | (apply Nat.le_antisymm <;> simp only [Knx] <;> omega) | fail) only [wpy, fW, reduceLE, reduceLT, reduceLeDiff, UInt8.reduceToNat, ↓reduceIte, reduceEqDiff, reduceAdd, reduceCtorEq, reduceToNat, Tryd.f5, hg1, hb, n1]
        exact ⟨hx, (if_neg fun q => by rcases q.2 with q | q; omega; exact q.1 hb).symm⟩
      by_cases n2 : 999999999 < n
      · simp +contextual (disch := first | (simp only [fq]; done) | omega | (simp only [Knx]; omega) | (apply Nat.le_antisymm <;> simp only [Knx] <;> omega) | fail) only [wpy, fW, reduceLE, reduceLT, reduceLeDiff, UInt8.reduceToNat, ↓reduceIte, reduceEqDiff, reduceAdd, reduceCtorEq, reduceToNat, Tryd.f5, hg1, hb, n1, n2]
        exact ⟨hx, (if_neg fun q => by rcases q.2 with q | q; omega; exact q.1 hb).symm⟩
      simp +contextual (disch := first | (simp only [fq]; done) | omega | (simp only [Knx]; omega) | (apply Nat.le_antisymm <;> simp only [Knx] <;> omega) | fail) only [wpy, fW, reduceLE, reduceLT, reduceLeDiff, UInt8.reduceToNat, ↓reduceIte, reduceEqDiff, reduceAdd, reduceCtorEq, reduceToNat, Tryd.f5, hg1, hb, n1, n2]
      have hw := wordsK_len (k := k.toNat) (by omega)
      have hf := itoaF_len (n := n) (by omega) (by omega)
      have hw1 : (wordsK k.toNat).length ≤ 9223372036854775806 := by omega
      have hw2 : (wordsK k.toNat).length + 1 + (itoaF n).length ≤ 9223372036854775807 := by omega
      refine ⟨by omega, ?_⟩
      refine callF_exact (sum_exact hS.itoa (args := [.int .i64 n]) (v := .str (itoaF n)) (if_pos (by omega))) ?_
      simp +contextual (disch := first | (simp only [fq]; done) | omega | (simp only [Knx]; omega) | (apply Nat.le_antisymm <;> simp only [Knx] <;> omega) | fail) only [wpy, fW, reduceLE, reduceLT, reduceLeDiff, UInt8.reduceToNat, ↓reduceIte, reduceEqDiff, reduceAdd, reduceCtorEq, reduceToNat, Tryd.f5, hg1, hb, n1, n2, hw1, hw2]
      refine ⟨hx, ?_⟩
      have e3 : itoaF n = digN n.toNat := by
        unfold itoaF digN
        conv => lhs; rw [show n = (n.toNat : Int) by omega]
        rw [itoa_nat]
      have e4 : printV k n = .tuple [.str (printO k.toNat n.toNat), .int .i64 0] := if_pos ⟨hk, .inl ⟨hb, by omega, by omega⟩⟩
      rw [e4, e3]
      unfold printO
      rw [if_pos hK]
      simp
    · have hK : ¬ numbK k.toNat := fun q => hb (by unfold numbK at q; unfold numbZ; omega)
      by_cases n0 : n = 0
      · simp +contextual (disch := first | (simp only [fq]; done) | omega | (simp only [Knx]; omega) | (apply Nat.le_antisymm <;> simp only [Knx] <;> omega) | fail) only [wpy, fW, reduceLE, reduceLT, reduceLeDiff, UInt8.reduceToNat, ↓reduceIte, reduceEqDiff, reduceAdd, reduceCtorEq, reduceToNat, Tryd.f5, hg1, hb, n0]
        refine ⟨hx, ?_⟩
        subst n0
        have e4 : printV k 0 = .tuple [.str (printO k.toNat 0), .int .i64 0] := if_pos ⟨hk, .inr ⟨hb, rfl⟩⟩
        rw [e4]
        unfold printO
        rw [if_neg hK]
      · simp +contextual (disch := first | (simp only [fq]; done) | omega | (simp only [Knx]; omega) | (apply Nat.le_antisymm <;> simp only [Knx] <;> omega) | fail) only [wpy, fW, reduceLE, reduceLT, reduceLeDiff, UInt8.reduceToNat, ↓reduceIte, reduceEqDiff, reduceAdd, reduceCtorEq, reduceToNat, Tryd.f5, hg1, hb, n0]
        exact ⟨hx, (if_neg fun q => by rcases q.2 with q | q; exact hb q.1; exact n0 q.2).symm⟩
  · have e1 : wordsV k = .tuple [.str [], bo False] := if_neg hk
    have e2 : printV k n = .tuple [.str [], .int .i64 2] := if_neg fun q => hk q.1
    rw [e1, e2]
    simp +contextual (disch := first | (simp only [fq]; done) | omega | (simp only [Knx]; omega) | (apply Nat.le_antisymm <;> simp only [Knx] <;> omega) | fail) only [wpy, fW, reduceLE, reduceLT, reduceLeDiff, UInt8.reduceToNat, ↓reduceIte, reduceEqDiff, reduceAdd, reduceCtorEq, reduceToNat, Tryd.f5]
    exact hx
end
end Go.Proofs.YtfgnpegkcmkeaaaDoor
set_option linter.unusedSimpArgs false
set_option linter.unusedVariables false
set_option linter.unusedSectionVars false
set_option linter.defProp false
set_option maxRecDepth 10000
set_option maxHeartbeats 1000000
namespace Go.Proofs.YtfgnpegkcmkeaaaDoor
open Int (reduceLE reduceLT reduceToNat)
open Nat (reduceLeDiff reduceEqDiff reduceAdd)
open Go.Proofs Go.Lx Go.Wx Go.IntWalk
noncomputable section

def readV (s : List Nat) : V := match readT s with
  | some (k, n) => .tuple [.agg [.int .i64 k, .int .i64 n], .int .i64 0]
  | none => .tuple [.agg [.int .i64 0, .int .i64 0], .int .i64 5]
def RdI (hB h : H) (ob : Nat) (ws : List WD) (lv : V) (m : Nat) (env : Env) (h' : H) : Prop :=
  ∃ (i : Nat) (said : List (List Nat)) (sv : V) (n : Nat), m = ws.length - i ∧ i ≤ ws.length ∧ env 2 = .ptr h.nx 0 ∧ env 3 = .int .i64 0 ∧ env 4 = lv ∧ env 7 = sv ∧ env 8 = .ptr ob 0 ∧ env 54 = lv ∧ env 55 = .int .i64 ws.length ∧ env 56 = .int .i64 i ∧ But ob hB h' ∧ h'.get ob = some (.cells [.int .i64 0, .int .i64 n] 23 false) ∧ Lst (ob + 1) h' sv (said.map V.str) 9 1 ∧ said.length ≤ i ∧ n ≤ 999999999 ∧ sayR ((ws.drop i).map WD.kt) said n = sayR (ws.map WD.kt) [] 0

theorem But.refl (r : Nat) (h : H) : But r h h := ⟨Nat.le_refl _, fun _ _ _ => rfl⟩
theorem cond_no {c : Cfg} {Ok : Nat → Prop} {k : List Kt} {Q : Ex → Env → H → Prop} {env : Env} {h : H} {x : Operand} {a b : Code} {p : Prop} (hv : evalE env x = bo p) (hp : ¬ p) (hB : run c Ok k b env h Q) : run c Ok k (.cond x a b) env h Q := by
  rw [run_cond, hv, condW_bo]
  exact ⟨fun q => absurd q hp, fun _ => hB⟩
theorem cut_no {l : List KT} (h : ¬ l.getLast? = some (5, [59])) : cutS l = l := if_neg h
theorem cut_yes {l : List KT} (h : l.getLast? = some (5, [59])) : cutS l = l.dropLast := if_pos h

theorem cells_get {c : List V} {k : Nat} {w : WD} (h : (c.drop k).take 3 = w.cells) : c[k]? = some (.int .i64 w.kind) ∧ c[k + 1]? = some (.str w.text) := by
  have h0 := congrArg (fun l : List V => l[0]?) h
  have h1 := congrArg (fun l : List V => l[1]?) h
  simp only [List.getElem?_take, List.getElem?_drop, WD.cells] at h0 h1
  exact ⟨h0, h1⟩

theorem face_nn : binV Tryd.prog .neq 44 (constO (.tmp 91) || constO (.const .nilIface)) .nilIface .nilIface = some (bo False) := by
  have : binV Tryd.prog .neq 44 (constO (.tmp 91) || constO (.const .nilIface)) .nilIface .nilIface = some (.bool false) := by kernel_rfl
  rw [this]; unfold bo; simp
theorem neq_bo (P Q : Prop) : binV Tryd.prog .neq 4 (constO (.tmp 130) || constO (.tmp 133)) (bo P) (bo Q) = some (bo (¬ (P ↔ Q))) := by
  have h : ∀ a b : Bool, binV Tryd.prog .neq 4 (constO (.tmp 130) || constO (.tmp 133)) (.bool a) (.bool b) = some (.bool (a != b)) := by
    intro a b
    cases a <;> cases b <;> kernel_rfl
  unfold bo
  rw [h]
  by_cases p : P <;> by_cases q : Q <;> simp [p, q]
theorem face_in (q : Bool) (t : TypeId) (v : V) : binV Tryd.prog .neq 44 q (.iface t v) .nilIface = some (bo True) := by
  have : binV Tryd.prog .neq 44 q (.iface t v) .nilIface = some (.bool true) := by cases q <;> kernel_rfl
  rw [this]; unfold bo; simp
theorem atoi_range {l : List UInt8} {v : Int} (h : Lib.atoiAll l = .ok v) : -9223372036854775808 ≤ v ∧ v ≤ 9223372036854775807 := by
  unfold Lib.atoiAll at h
  split at h
  · cases h
  · simp only at h
    split at h
    · cases h
    · cases h
    · split at h
      · cases h
      · split at h
        · cases h
        · injection h with h
          split at h <;> omega
theorem wordsOf_len {s : List Nat} (hb : Bytes s) : ∀ w ∈ wordsOf s, w.text.length ≤ s.length := by
  unfold wordsOf
  by_cases hl : 1048576 < s.length
  · rw [if_pos hl]
    exact fun w hw => by cases hw
  · rw [if_neg hl]
    cases ha : allF s with
    | inr r => exact fun w hw => by cases hw
    | inl ws => exact fun w hw => (allR_texts hb _ _ _ _ ha (fun w hw => by cases hw) w hw).2
def AtoiV (t : List Nat) (v : V) : Prop := match Lib.atoiAll (toU t) with
  | .ok x => v = .tuple [.int .i64 x, .nilIface]
  | .range => ∃ p, v = .tuple [.int .i64 (Lib.atoiSat (toU t)), .iface 77 p]
  | _ => ∃ p, v = .tuple [.int .i64 0, .iface 77 p]
theorem nice_atoiM (t : List Nat) : Nice (atoiM 100 77 [.str t]) := by
  unfold atoiM
  refine Nice.cond ?_ (Nice.err _)
  split
  · exact Nice.ret _
  · exact Nice.bnd (Nice.alloc _) fun _ => Nice.ret _
  · exact Nice.bnd (Nice.alloc _) fun _ => Nice.ret _

theorem lst_stay {n0 e sz : Nat} {v : V} {cells : List V} {h h' : H} (ha : Lst n0 h v cells e sz) (hn : h.nx ≤ h'.nx) (hk : ∀ k, n0 ≤ k → k < h.nx → h'.get k = h.get k) : Lst n0 h' v cells e sz := by
  rcases ha with (ha | ⟨b, n, h1, h2, h3, h4, h5, h6⟩) | ⟨h1, b, h2, h3, h4, h5⟩
  · exact .inl (.inl ha)
  · exact .inl (.inr ⟨b, n, h1, by omega, h3, h4, by rw [hk b h1 h2]; exact h5, h6⟩)
  · exact .inr ⟨h1, b, h2, by omega, h4, by rw [hk b h2 h3]; exact h5⟩

theorem lst_len {n0 : Nat} {h : H} {sv : V} {said : List (List Nat)} (hL : Lst n0 h sv (said.map V.str) 9 1) : lenO (some (.slice 9)) sv = some (.int .i64 said.length) := by
  rcases hL with (⟨rfl, hw⟩ | ⟨b, k, _, _, rfl, _, _, hk⟩) | ⟨hw, b, _, _, rfl, _⟩
  · rw [List.map_eq_nil_iff.1 hw]; rfl
  · rw [List.length_map, Nat.mul_one] at hk; rw [hk]; rfl
  · rw [List.map_eq_nil_iff.1 hw]; rfl
theorem lst_row {n0 : Nat} {h : H} {sv : V} {said : List (List Nat)} (hL : Lst n0 h sv (said.map V.str) 9 1) (h0 : 0 < said.length) : ∃ b, sv = .slice b 0 said.length said.length ∧ n0 ≤ b ∧ b < h.nx ∧ h.get b = some (.cells (said.map V.str) 9 true) := by
  rcases hL with (⟨rfl, hw⟩ | ⟨b, k, h1, h2, rfl, _, h3, hk⟩) | ⟨hw, b, _, _, rfl, _⟩
  · rw [List.map_eq_nil_iff.1 hw] at h0; cases h0
  · rw [List.length_map, Nat.mul_one] at hk; subst hk; exact ⟨b, rfl, h1, h2, h3⟩
  · rw [List.map_eq_nil_iff.1 hw] at h0; cases h0
def KdI (h3 h : H) (ob : Nat) (said : List (List Nat)) (sv : V) (n : Nat) (m : Nat) (env : Env) (h' : H) : Prop :=
  ∃ (k : Nat), m = 11 - k ∧ 1 ≤ k ∧ k ≤ 11 ∧ env 2 = .ptr h.nx 0 ∧ env 7 = sv ∧ env 8 = .ptr ob 0 ∧ env 13 = .int .i64 k ∧ Ext h3 h' ∧ kindR (11 - k) k said n = kindR 10 1 said n
def FdI (h6 h : H) (ob : Nat) (said : List (List Nat)) (sv : V) (k b : Nat) (m : Nat) (env : Env) (h' : H) : Prop :=
  ∃ (j : Nat), m = said.length - j ∧ j ≤ said.length ∧ env 2 = .ptr h.nx 0 ∧ env 7 = sv ∧ env 8 = .ptr ob 0 ∧ env 13 = .int .i64 k ∧ env 16 = .slice b 0 said.length said.length ∧ env 137 = .int .i64 said.length ∧ env 138 = .int .i64 j ∧ h' = h6 ∧ (fieldsK k).take j = said.take j

variable {S : Set0} (hS : StdA S)
include hS
theorem atoi_spec (t : List Nat) (ht : t.length ≤ 100000) (h : H) : Pure S.cfg 11 [.str t] h fun v _ => AtoiV t v := by
  have hl : Nat.ble t.length 100000 = true := ble_iff.2 ht
  have hm : atoiM 100 77 [.str t] = (match Lib.atoiAll (toU t) with
    | .ok v => Lx.ret (.tuple [.int .i64 v, .nilIface])
    | .range => Lx.bnd (alloc (.cells [] 100 true)) fun k => Lx.ret (.tuple [.int .i64 (Lib.atoiSat (toU t)), .iface 77 (.ptr k 0)])
    | _ => Lx.bnd (alloc (.cells [] 100 true)) fun k => Lx.ret (.tuple [.int .i64 0, .iface 77 (.ptr k 0)])) := by
    show (bif Nat.ble t.length 100000 then _ else _) = _
    rw [hl]; rfl
  cases hA : Lib.atoiAll (toU t) with
  | ok x =>
    refine callW_sum (s := h.st) hS.atoi (nice_atoiM t) (v := .tuple [.int .i64 x, .nilIface]) ?_ LogOk_nil ⟨Ext.refl _, ?_⟩
    · rw [hm, hA]; rfl
    · unfold AtoiV; rw [hA]
  | range =>
    refine callW_sum hS.atoi (nice_atoiM t) (v := .tuple [.int .i64 (Lib.atoiSat (toU t)), .iface 77 (.ptr h.nx 0)]) (by rw [hm, hA]; rfl) (fun e he _ => by rw [List.mem_singleton.1 (show e ∈ [Lx.LE.wrd h.nx] from he)]; exact .inl (Nat.le_refl _)) ?_
    refine ⟨show Ext h (h.push (.cells [] 100 true)) from (Ext.refl h).push _, ?_⟩
    unfold AtoiV; rw [hA]; exact ⟨_, rfl⟩
  | _ =>
    refine callW_sum hS.atoi (nice_atoiM t) (v := .tuple [.int .i64 0, .iface 77 (.ptr h.nx 0)]) (by rw [hm, hA]; rfl) (fun e he _ => by rw [List.mem_singleton.1 (show e ∈ [Lx.LE.wrd h.nx] from he)]; exact .inl (Nat.le_refl _)) ?_
    refine ⟨show Ext h (h.push (.cells [] 100 true)) from (Ext.refl h).push _, ?_⟩
    unfold AtoiV; rw [hA]; exact ⟨_, rfl⟩
theorem read_spec (s : List Nat) (h : H) (hb : Bytes s) (hs3 : s.length ≤ 100000) : Pure S.cfg 6 [.str s] h fun v _ => v = readV s := by
  have hs : s.length ≤ 1048576 := by omega
  refine into Tryd.f6 _ Tryd.func6 (hS.ownA _ (by decide)) rfl rfl (by kernel_rfl) (by kernel_rfl) ?_
  simp +contextual (disch := first | (simp only [fq]; done) | omega | (simp only [Knx]; omega) | (apply Nat.le_antisymm <;> simp only [Knx] <;> omega) | fail) only [wpy, fW, reduceLE, reduceLT, reduceLeDiff, UInt8.reduceToNat, ↓reduceIte, reduceEqDiff, reduceAdd, reduceCtorEq, reduceToNat, Tryd.f6]
  refine run_scope ?_
  simp +contextual (disch := first | (simp only [fq]; done) | omega | (simp only [Knx]; omega) | (apply Nat.le_antisymm <;> simp only [Knx] <;> omega) | fail) only [wpy, fW, reduceLE, reduceLT, reduceLeDiff, UInt8.reduceToNat, ↓reduceIte, reduceEqDiff, reduceAdd, reduceCtorEq, reduceToNat, Tryd.f6]
  refine callF_pure (all_spec hS.toStdF s _ hb (by omega)) ?_
  intro v h1 hx1 hv
  obtain ⟨lv, rfl, hA1⟩ := allV_form hv
  obtain ⟨w1, w2⟩ := words_lex hb hs
  have hn1 : h.nx < h1.nx := hx1.1
  have hg1 : h1.get h.nx = some (Ob.cells [V.int IntKind.i64 0, V.int IntKind.i64 0] 23 false) := (hx1.2 h.nx (Nat.lt_succ_self _)).trans (push_eq rfl)
  have hx : Ext h h1 := ((Ext.refl h).push _).trans hx1
  obtain ⟨p1, p2⟩ := hA1.cell
  have hne : ¬ h.nx = h1.nx := by omega
  by_cases hf : faultE s = 0
  · cases hl : lex s with
    | none => exact absurd hf (w2 hl)
    | some l =>
    obtain ⟨_, hf2, hw⟩ := w1 l hl
    have hW1 := Wds.of_acc hA1
    have hc := hW1.len
    simp +contextual (disch := first | (simp only [fq]; done) | omega | (simp only [Knx]; omega) | (apply Nat.le_antisymm <;> simp only [Knx] <;> omega) | fail) only [wpyr, fW, reduceLE, reduceLT, reduceLeDiff, UInt8.reduceToNat, ↓reduceIte, reduceEqDiff, reduceAdd, reduceCtorEq, reduceToNat, Tryd.f6, hf, p1, p2, hne, hg1]
    refine ⟨.inr (by omega), ?_⟩
    obtain ⟨h2, hh2⟩ : ∃ h2, h2 = (h1.push (Ob.cells [V.int IntKind.i64 0, V.int IntKind.i64 0] 37 false)).put h1.nx (Ob.cells [V.int IntKind.i64 0, V.int IntKind.i64 (faultP s)] 37 false) := ⟨_, rfl⟩
    rw [← hh2]
    have hn2 : h2.nx = h1.nx + 1 := by rw [hh2]; rfl
    have hx12 : Ext h1 h2 := by rw [hh2]; exact Ext.new _ _ _
    have hW2 := hW1.ext hx12
    have hx2 : Ext h h2 := hx.trans hx12
    have hg2 : h2.get h.nx = some (Ob.cells [V.int IntKind.i64 0, V.int IntKind.i64 0] 23 false) := by rw [hx12.2 _ (by omega)]; exact hg1
    clear hh2
    refine cond_no (p := False) (by simp +contextual (disch := first | (simp only [fq]; done) | omega | (simp only [Knx]; omega) | (apply Nat.le_antisymm <;> simp only [Knx] <;> omega) | fail) only [wpy, fW, reduceLE, reduceLT, reduceLeDiff, UInt8.reduceToNat, ↓reduceIte, reduceEqDiff, reduceAdd, reduceCtorEq, reduceToNat]) (fun q => q) ?_
    rw [run_skip, kont_seq, run_seq]
    refine run_cut (fun env' h' => h' = h2 ∧ ∃ lv' ws', env' 2 = .ptr h.nx 0 ∧ env' 3 = .int .i64 0 ∧ env' 4 = lv' ∧ Wds h2 lv' ws' ∧ ws'.map WD.kt = cutS l) ?_ ?_
    · have hlen := (wordsOf_ok hb).1
      by_cases h0 : (wordsOf s).length = 0
      · have hws : wordsOf s = [] := List.eq_nil_of_length_eq_zero h0
        have hnp : ¬ 0 < (wordsOf s).length := by omega
        simp +contextual (disch := first | (simp only [fq]; done) | omega | (simp only [Knx]; omega) | (apply Nat.le_antisymm <;> simp only [Knx] <;> omega) | fail) only [wpy, fW, reduceLE, reduceLT, reduceLeDiff, UInt8.reduceToNat, ↓reduceIte, reduceEqDiff, reduceAdd, reduceCtorEq, reduceToNat, Tryd.f6, hc, hnp, gOp_no]
        refine ⟨lv, wordsOf s, rfl, hW2, ?_⟩
        rw [hws] at hw ⊢
        rw [← hw]
        exact (cut_no (by simp)).symm
      obtain ⟨b, o, m, c, fl, rfl, hm, hbn, hgb⟩ := hW2.opened (by omega)
      obtain ⟨b', o', m', c', e', fl', q1, hb', hg', w0, w3⟩ := hW2.get (i := (wordsOf s).length - 1) (by omega)
      cases q1
      rw [hgb] at hg'
      cases hg'
      obtain ⟨k0, k1⟩ := cells_get w3
      have hwr : IntKind.i64.wrap (((wordsOf s).length : Int) - 1) = (((wordsOf s).length - 1 : Nat) : Int) := by rw [i64_in _ (by omega)]; omega
      have hlt : (wordsOf s).length - 1 < (wordsOf s).length := by omega
      have hpos : 0 < (wordsOf s).length := by omega
      have hlast : l.getLast? = some (((wordsOf s)[(wordsOf s).length - 1]).kt) := by
        rw [← hw, List.getLast?_map, List.getLast?_eq_getElem?, List.getElem?_eq_getElem hlt]
        rfl
      by_cases hk : ((wordsOf s)[(wordsOf s).length - 1]).kind = 5
      · by_cases ht : ((wordsOf s)[(wordsOf s).length - 1]).text = [59]
        · simp +contextual (disch := first | (simp only [fq]; done) | omega | (simp only [Knx]; omega) | (apply Nat.le_antisymm <;> simp only [Knx] <;> omega) | fail) only [wpy, fW, reduceLE, reduceLT, reduceLeDiff, UInt8.reduceToNat, ↓reduceIte, reduceEqDiff, reduceAdd, reduceCtorEq, reduceToNat, Tryd.f6, hpos, hwr, hlt, hgb, k0, k1, hk, ht]
          refine slice_row (e := 41) (sz := 3) (b := b) (o := o) (n := (wordsOf s).length) (m := m) (l := 0) (hh := (wordsOf s).length - 1) (mm := m) (by kernel_rfl) sz41 (by simp +contextual (disch := first | (simp only [fq]; done) | omega | (simp only [Knx]; omega) | (apply Nat.le_antisymm <;> simp only [Knx] <;> omega) | fail) only [wpy, fW, reduceLE, reduceLT, reduceLeDiff, UInt8.reduceToNat, ↓reduceIte, reduceEqDiff, reduceAdd, reduceCtorEq, reduceToNat]) (by rw [hgb]; rfl) (fun _ => rfl) (by simp +contextual (disch := first | (simp only [fq]; done) | omega | (simp only [Knx]; omega) | (apply Nat.le_antisymm <;> simp only [Knx] <;> omega) | fail) only [wpy, fW, reduceLE, reduceLT, reduceLeDiff, UInt8.reduceToNat, ↓reduceIte, reduceEqDiff, reduceAdd, reduceCtorEq, reduceToNat]; exact bounds_hi (by omega)) (by omega) ?_
          simp +contextual (disch := first | (simp only [fq]; done) | omega | (simp only [Knx]; omega) | (apply Nat.le_antisymm <;> simp only [Knx] <;> omega) | fail) only [wpy, fW, reduceLE, reduceLT, reduceLeDiff, UInt8.reduceToNat, ↓reduceIte, reduceEqDiff, reduceAdd, reduceCtorEq, reduceToNat, Tryd.f6]
          refine ⟨_, _, rfl, hW2.part 0 ((wordsOf s).length - 1) (by omega), ?_⟩
          rw [cut_yes (by rw [hlast]; exact congrArg some (Prod.ext hk ht)), ← hw, List.dropLast_eq_take, List.length_map, List.drop_zero, List.map_take]
        · simp +contextual (disch := first | (simp only [fq]; done) | omega | (simp only [Knx]; omega) | (apply Nat.le_antisymm <;> simp only [Knx] <;> omega) | fail) only [wpy, fW, reduceLE, reduceLT, reduceLeDiff, UInt8.reduceToNat, ↓reduceIte, reduceEqDiff, reduceAdd, reduceCtorEq, reduceToNat, Tryd.f6, hpos, hwr, hlt, hgb, k0, k1, hk, ht]
          refine ⟨_, _, rfl, hW2, ?_⟩
          rw [cut_no (by rw [hlast]; exact fun q => ht (congrArg Prod.snd (Option.some.inj q))), hw]
      · simp +contextual (disch := first | (simp only [fq]; done) | omega | (simp only [Knx]; omega) | (apply Nat.le_antisymm <;> simp only [Knx] <;> omega) | fail) only [wpy, fW, reduceLE, reduceLT, reduceLeDiff, UInt8.reduceToNat, ↓reduceIte, reduceEqDiff, reduceAdd, reduceCtorEq, reduceToNat, Tryd.f6, hpos, hwr, hlt, hgb, k0, k1, hk]
        refine ⟨_, _, rfl, hW2, ?_⟩
        rw [cut_no (by rw [hlast]; exact fun q => hk (congrArg Prod.fst (Option.some.inj q))), hw]
    · rintro env' h' ⟨rfl, lv', ws', e2, e3, e4, hW, hcut⟩
      have hwl : ws'.length ≤ 1048576 := by
        have q1 : ws'.length = (cutS l).length := by rw [← hcut, List.length_map]
        have q2 : (cutS l).length ≤ l.length := by unfold cutS; split; simp; exact Nat.le_refl _
        have q3 : l.length = (wordsOf s).length := by rw [← hw, List.length_map]
        have := (wordsOf_ok hb).1
        omega
      obtain ⟨c1, c2⟩ := hW.cell
      have c3 := hW.len
      simp +contextual (disch := first | (simp only [fq]; done) | omega | (simp only [Knx]; omega) | (apply Nat.le_antisymm <;> simp only [Knx] <;> omega) | fail) only [wpy, fW, reduceLE, reduceLT, reduceLeDiff, UInt8.reduceToNat, ↓reduceIte, reduceEqDiff, reduceAdd, reduceCtorEq, reduceToNat, Tryd.f6, e2, e3, e4, c1, c2, c3]
      refine ⟨.inr (by omega), ?_⟩
      obtain ⟨hB, hhB⟩ : ∃ hB, hB = (h'.push (Ob.cells [V.int IntKind.i64 0, V.int IntKind.i64 0] 23 false)).put h'.nx (Ob.cells [V.int IntKind.i64 0, V.int IntKind.i64 0] 23 false) := ⟨_, rfl⟩
      rw [← hhB]
      obtain ⟨ob, hob⟩ : ∃ ob, ob = h'.nx := ⟨_, rfl⟩
      rw [← hob]
      have hnB : hB.nx = ob + 1 := by rw [hhB, hob]; rfl
      have hx2B : Ext h' hB := by rw [hhB]; exact Ext.new _ _ _
      have hWB := hW.ext hx2B
      have hxB : Ext h hB := hx2.trans hx2B
      have hgB : hB.get h.nx = some (Ob.cells [V.int IntKind.i64 0, V.int IntKind.i64 0] 23 false) := by rw [hx2B.2 _ (by omega)]; exact hg2
      have hoB : hB.get ob = some (Ob.cells [V.int IntKind.i64 0, V.int IntKind.i64 0] 23 false) := by rw [hhB, hob]; exact put_eq rfl
      have hlo : h.nx < ob := by omega
      have hlb : ∀ o n m, lv' ≠ .slice ob o n m := fun o n m q => by
        rcases hW with ⟨q1, _⟩ | ⟨b, o', m', c, e, fl, q1, hbn, _⟩
        · rw [q1] at q; cases q
        · rw [q1] at q; cases q; omega
      clear hhB hW hx2B
      have hend : ∀ v, readT s = v → readV s = (match v with | some (k, n) => .tuple [.agg [.int .i64 (k : Nat), .int .i64 (n : Nat)], .int .i64 0] | none => .tuple [.agg [.int .i64 0, .int .i64 0], .int .i64 5]) := fun v q => by rw [← q]; rfl
      have hrl : readT s = readL l := by unfold readT; rw [hl]
      refine run_loop (RdI hB h ob ws' lv') ws'.length ⟨0, [], .nilslice, 0, by simp +contextual (disch := first | (simp only [fq]; done) | omega | (simp only [Knx]; omega) | (apply Nat.le_antisymm <;> simp only [Knx] <;> omega) | fail) only [wpy, fW, reduceLE, reduceLT, reduceLeDiff, UInt8.reduceToNat, ↓reduceIte, reduceEqDiff, reduceAdd, reduceCtorEq, reduceToNat, e2, e3, e4]; exact ⟨(Nat.sub_zero _).symm, But.refl _ _, hoB, .inl (.inl ⟨rfl, rfl⟩)⟩⟩ ?_
      rintro m env2 h3 ⟨i, said, sv, n, rfl, hi, f2, f3, f4, f7, f8, f54, f55, f56, hB3, go, hL, hsl, hn9, hsay⟩
      have hw3 := hWB.but hB3 hlb
      have hx3 : Ext h h3 := Ext.but hxB hB3 (by omega)
      have hn3 : ob < h3.nx := by have := hB3.1; omega
      have hg3 : h3.get h.nx = some (Ob.cells [V.int IntKind.i64 0, V.int IntKind.i64 0] 23 false) := by rw [hB3.2 _ (by omega) (by omega)]; exact hgB
      by_cases hlt : i < ws'.length
      · have hd : ws'.drop i = ws'[i] :: ws'.drop (i + 1) := List.drop_eq_getElem_cons hlt
        rw [hd, List.map_cons, sayR, show ws'[i].kt = (ws'[i].kind, ws'[i].text) from rfl] at hsay
        simp only at hsay
        obtain ⟨b, o, m, c, e, fl, rfl, hbn, hgb, w0, w3⟩ := hw3.get hlt
        have hwi : IntKind.i64.wrap ((i : Int) + 1) = ((i + 1 : Nat) : Int) := by rw [i64_in _ (by omega)]; omega
        have nb : ¬ b = h3.nx := by omega
        have n1 : ¬ h.nx = h3.nx := by omega
        have n2 : ¬ ob = h3.nx := by omega
        by_cases hk : ws'[i].kind = 1 ∨ ws'[i].kind = 5
        · rw [if_pos hk] at hsay
          rcases hk with hk | hk
          all_goals
            simp +contextual (disch := first | (simp only [fq]; done) | omega | (simp only [Knx]; omega) | (apply Nat.le_antisymm <;> simp only [Knx] <;> omega) | fail) only [wpy, fW, reduceLE, reduceLT, reduceLeDiff, UInt8.reduceToNat, ↓reduceIte, reduceEqDiff, reduceAdd, reduceCtorEq, reduceToNat, Tryd.f6, f2, f3, f4, f7, f8, f54, f55, f56, hlt, hgb, w0, w3, WD.cells, nb, n1, n2, hk]
            refine ⟨.inr (by omega), ?_⟩
            obtain ⟨hA, hhA⟩ : ∃ hA, hA = ((h3.push (Ob.cells [V.int IntKind.i64 0, V.str [], V.int IntKind.i64 0] 41 false)).put h3.nx (Ob.cells [V.int IntKind.i64 (ws'[i].kind : Nat), V.str ws'[i].text, V.int IntKind.i64 ws'[i].at_] 41 false)).push (Ob.cells [V.str ws'[i].text] 9 false) := ⟨_, rfl⟩
            rw [hk] at hhA
            rw [← hhA]
            have hnA : hA.nx = h3.nx + 2 := by rw [hhA]; rfl
            have hxA : Ext h3 hA := by rw [hhA]; exact (Ext.new _ _ _).push _
            have hgA : hA.get (h3.nx + 1) = some (Ob.cells [V.str ws'[i].text] 9 false) := by rw [hhA]; exact push_eq rfl
            clear hhA
            refine append_lst (n0 := ob + 1) (sv := sv) (xv := .slice (h3.nx + 1) 0 1 1) (cells := said.map V.str) (new := [.str ws'[i].text]) ?_ ?_ ap42 ⟨.slice 9, by kernel_rfl, rfl⟩ (hL.ext hxA) (.inr ⟨h3.nx + 1, 0, 1, 1, rfl, by omega, by rw [hgA]; exact rdC_all rfl, rfl⟩) rfl ?_ (by decide) (fun k hk => by rw [fresh_def]; exact .inl (by omega)) (by omega) ?_
            · simp +contextual (disch := first | (simp only [fq]; done) | omega | (simp only [Knx]; omega) | (apply Nat.le_antisymm <;> simp only [Knx] <;> omega) | fail) only [wpy, fW, reduceLE, reduceLT, reduceLeDiff, UInt8.reduceToNat, ↓reduceIte, reduceEqDiff, reduceAdd, reduceCtorEq, reduceToNat, f7]
            · simp +contextual (disch := first | (simp only [fq]; done) | omega | (simp only [Knx]; omega) | (apply Nat.le_antisymm <;> simp only [Knx] <;> omega) | fail) only [wpy, fW, reduceLE, reduceLT, reduceLeDiff, UInt8.reduceToNat, ↓reduceIte, reduceEqDiff, reduceAdd, reduceCtorEq, reduceToNat]
            · rw [List.length_map]; simp only [List.length_cons, List.length_nil]; omega
            intro v4 h4 L4 hl4 hn4 hk4 hf4 hL4
            have hq4 : ∀ k, k < ob + 1 → h4.get k = h3.get k := fun k hk => by rw [hf4 k hk, hxA.2 k (by omega)]
            simp +contextual (disch := first | (simp only [fq]; done) | omega | (simp only [Knx]; omega) | (apply Nat.le_antisymm <;> simp only [Knx] <;> omega) | fail) only [wpy, fW, reduceLE, reduceLT, reduceLeDiff, UInt8.reduceToNat, ↓reduceIte, reduceEqDiff, reduceAdd, reduceCtorEq, reduceToNat, Tryd.f6, f2, f3, f4, f7, f8, f54, f55, f56]
            refine ⟨ws'.length - (i + 1), by omega, i + 1, said ++ [ws'[i].text], v4, n, rfl, hlt, by simp +contextual (disch := first | (simp only [fq]; done) | omega | (simp only [Knx]; omega) | (apply Nat.le_antisymm <;> simp only [Knx] <;> omega) | fail) only [wpy, fW, reduceLE, reduceLT, reduceLeDiff, UInt8.reduceToNat, ↓reduceIte, reduceEqDiff, reduceAdd, reduceCtorEq, reduceToNat, f2], by simp +contextual (disch := first | (simp only [fq]; done) | omega | (simp only [Knx]; omega) | (apply Nat.le_antisymm <;> simp only [Knx] <;> omega) | fail) only [wpy, fW, reduceLE, reduceLT, reduceLeDiff, UInt8.reduceToNat, ↓reduceIte, reduceEqDiff, reduceAdd, reduceCtorEq, reduceToNat, f3], by simp +contextual (disch := first | (simp only [fq]; done) | omega | (simp only [Knx]; omega) | (apply Nat.le_antisymm <;> simp only [Knx] <;> omega) | fail) only [wpy, fW, reduceLE, reduceLT, reduceLeDiff, UInt8.reduceToNat, ↓reduceIte, reduceEqDiff, reduceAdd, reduceCtorEq, reduceToNat, f4], by simp +contextual (disch := first | (simp only [fq]; done) | omega | (simp only [Knx]; omega) | (apply Nat.le_antisymm <;> simp only [Knx] <;> omega) | fail) only [wpy, fW, reduceLE, reduceLT, reduceLeDiff, UInt8.reduceToNat, ↓reduceIte, reduceEqDiff, reduceAdd, reduceCtorEq, reduceToNat], by simp +contextual (disch := first | (simp only [fq]; done) | omega | (simp only [Knx]; omega) | (apply Nat.le_antisymm <;> simp only [Knx] <;> omega) | fail) only [wpy, fW, reduceLE, reduceLT, reduceLeDiff, UInt8.reduceToNat, ↓reduceIte, reduceEqDiff, reduceAdd, reduceCtorEq, reduceToNat, f8], by simp +contextual (disch := first | (simp only [fq]; done) | omega | (simp only [Knx]; omega) | (apply Nat.le_antisymm <;> simp only [Knx] <;> omega) | fail) only [wpy, fW, reduceLE, reduceLT, reduceLeDiff, UInt8.reduceToNat, ↓reduceIte, reduceEqDiff, reduceAdd, reduceCtorEq, reduceToNat, f54], by simp +contextual (disch := first | (simp only [fq]; done) | omega | (simp only [Knx]; omega) | (apply Nat.le_antisymm <;> simp only [Knx] <;> omega) | fail) only [wpy, fW, reduceLE, reduceLT, reduceLeDiff, UInt8.reduceToNat, ↓reduceIte, reduceEqDiff, reduceAdd, reduceCtorEq, reduceToNat, f55], by simp +contextual (disch := first | (simp only [fq]; done) | omega | (simp only [Knx]; omega) | (apply Nat.le_antisymm <;> simp only [Knx] <;> omega) | fail) only [wpy, fW, reduceLE, reduceLT, reduceLeDiff, UInt8.reduceToNat, ↓reduceIte, reduceEqDiff, reduceAdd, reduceCtorEq, reduceToNat, f56, hwi], ⟨by omega, fun k hk hne => by rw [hq4 k (by omega)]; exact hB3.2 k hk hne⟩, by rw [hq4 ob (by omega)]; exact go, by rw [List.map_append]; exact hl4, by rw [List.length_append]; simp only [List.length_cons, List.length_nil]; omega, hn9, hsay⟩
        · rw [if_neg hk] at hsay
          have hk1 : ¬ ws'[i].kind = 1 := fun q => hk (.inl q)
          have hk5 : ¬ ws'[i].kind = 5 := fun q => hk (.inr q)
          have hlast : (ws'.drop (i + 1)).map WD.kt = [] ↔ i + 1 = ws'.length := by
            rw [List.map_eq_nil_iff, List.drop_eq_nil_iff]; omega
          have hwr : IntKind.i64.wrap ((ws'.length : Int) - 1) = ((ws'.length - 1 : Nat) : Int) := by rw [i64_in _ (by omega)]; omega
          have hbad : sayR (ws'.map WD.kt) [] 0 = none → readV s = .tuple [.agg [.int .i64 0, .int .i64 0], .int .i64 5] := fun q => hend none (by rw [hrl]; unfold readL; rw [← hcut, q])
          by_cases hk4 : ws'[i].kind = 4
          · by_cases hil : i + 1 = ws'.length
            · rw [if_pos ⟨hk4, hlast.2 hil⟩] at hsay
              have hil' : (((i : Nat) : Int) = ((ws'.length - 1 : Nat) : Int)) = True := eq_true (by omega)
              simp +contextual (disch := first | (simp only [fq]; done) | omega | (simp only [Knx]; omega) | (apply Nat.le_antisymm <;> simp only [Knx] <;> omega) | fail) only [wpy, fW, reduceLE, reduceLT, reduceLeDiff, UInt8.reduceToNat, ↓reduceIte, reduceEqDiff, reduceAdd, reduceCtorEq, reduceToNat, Tryd.f6, f2, f3, f4, f7, f8, f54, f55, f56, hlt, hgb, w0, w3, WD.cells, nb, n1, n2, hk4, hil', hwr]
              refine ⟨.inr (by omega), ?_⟩
              have htx : ws'[i].text.length ≤ 100000 := by
                have q1 : ws'[i].kt ∈ l := by
                  have q2 : ws'[i].kt ∈ cutS l := by rw [← hcut]; exact List.mem_map_of_mem (List.getElem_mem hlt)
                  unfold cutS at q2
                  split at q2
                  · rw [List.dropLast_eq_take] at q2; exact List.mem_of_mem_take q2
                  · exact q2
                rw [← hw] at q1
                obtain ⟨w, q2, q3⟩ := List.mem_map.1 q1
                have := wordsOf_len hb w q2
                have q4 : w.text = ws'[i].text := congrArg Prod.snd q3
                rw [← q4]; omega
              refine callF_pure (atoi_spec hS _ htx _) ?_
              intro v5 h5 hx5 hv5
              have hx35 : Ext h3 h5 := (Ext.new h3 _ _).trans hx5
              have hg5 : h5.get h3.nx = some (.cells [.int .i64 (4 : Nat), .str ws'[i].text, .int .i64 ws'[i].at_] 41 false) := by rw [hx5.2 _ (by show h3.nx < h3.nx + 1; omega)]; exact put_eq rfl
              have hgr : h5.get h.nx = some (Ob.cells [V.int IntKind.i64 0, V.int IntKind.i64 0] 23 false) := by rw [hx35.2 _ (by omega)]; exact hg3
              have hgo : h5.get ob = some (Ob.cells [V.int IntKind.i64 0, V.int IntKind.i64 n] 23 false) := by rw [hx35.2 _ (by omega)]; exact go
              have hn5 : h3.nx + 1 ≤ h5.nx := hx5.1
              cases hA : Lib.atoiAll (toU ws'[i].text) with
              | ok x =>
                have e5 : v5 = .tuple [.int .i64 x, .nilIface] := by unfold AtoiV at hv5; rw [hA] at hv5; exact hv5
                subst e5
                obtain ⟨x1, x2⟩ := atoi_range hA
                simp +contextual (disch := first | (simp only [fq]; done) | omega | (simp only [Knx]; omega) | (apply Nat.le_antisymm <;> simp only [Knx] <;> omega) | fail) only [wpyr, fW, reduceLE, reduceLT, reduceLeDiff, UInt8.reduceToNat, ↓reduceIte, reduceEqDiff, reduceAdd, reduceCtorEq, reduceToNat, Tryd.f6, face_nn, hg5]
                refine draw_by [(4, 6)] (by kernel_rfl) ?_
                simp +contextual (disch := first | (simp only [fq]; done) | omega | (simp only [Knx]; omega) | (apply Nat.le_antisymm <;> simp only [Knx] <;> omega) | fail) only [wpyr, fW, reduceLE, reduceLT, reduceLeDiff, UInt8.reduceToNat, ↓reduceIte, reduceEqDiff, reduceAdd, reduceCtorEq, reduceToNat, Tryd.f6, face_nn, hg5]
                refine callF_exact (sum_exact hS.itoa (args := [.int .i64 x]) (v := .str (itoaF x)) (if_pos ⟨x1, x2⟩)) ?_
                have hnum : numT ws'[i].text = if itoaF x = ws'[i].text ∧ 1 ≤ x ∧ x ≤ 999999999 then some x.toNat else none := by unfold numT; rw [hA]; rfl
                have hap : ∀ l : List Lx.LE, (∀ e ∈ l, e.isW = false ∧ blkOf e = h3.nx) → fpApart (.cl h5.nx h5.nx nil1) (.lg l) := fun l q e he => .inr ⟨(q e he).1, by have := (q e he).2; omega, fun w => w⟩
                have hpr : ∀ (p : Nat × Nat), p ∈ [(4, 6)] → ∀ (a b : Fp), [Fp.lg [], Fp.lg [], Fp.lg [], Fp.lg [], Fp.cl h5.nx h5.nx nil1, Fp.lg [], Fp.lg (ldL (some (1, false)) (V.ptr h3.nx 1)), Fp.lg [], Fp.lg [], Fp.lg [], Fp.lg [], Fp.lg [], Fp.lg [], Fp.lg [], Fp.lg [], Fp.lg [], Fp.lg []][p.fst]? = some a → [Fp.lg [], Fp.lg [], Fp.lg [], Fp.lg [], Fp.cl h5.nx h5.nx nil1, Fp.lg [], Fp.lg (ldL (some (1, false)) (V.ptr h3.nx 1)), Fp.lg [], Fp.lg [], Fp.lg [], Fp.lg [], Fp.lg [], Fp.lg [], Fp.lg [], Fp.lg [], Fp.lg [], Fp.lg []][p.snd]? = some b → fpApart a b := fun p hp => by
                  rw [List.mem_singleton.1 hp]
                  exact pair_one rfl rfl (hap _ fun e he => by rw [List.mem_singleton.1 (show e ∈ [_] from he)]; exact ⟨rfl, rfl⟩)
                by_cases ht : itoaF x = ws'[i].text
                · by_cases x3 : x < 1
                  · rw [if_neg (fun q => by omega)] at hnum
                    rw [hnum] at hsay
                    simp +contextual (disch := first | (simp only [fq]; done) | omega | (simp only [Knx]; omega) | (apply Nat.le_antisymm <;> simp only [Knx] <;> omega) | fail) only [wpy, fW, reduceLE, reduceLT, reduceLeDiff, UInt8.reduceToNat, ↓reduceIte, reduceEqDiff, reduceAdd, reduceCtorEq, reduceToNat, Tryd.f6, face_nn, hg5, ht, x3, f2, hgr]
                    exact ⟨hpr, (hx3.trans hx35).put (Nat.le_refl _) _, (hbad hsay.symm).symm⟩
                  by_cases x4 : 999999999 < x
                  · rw [if_neg (fun q => by omega)] at hnum
                    rw [hnum] at hsay
                    simp +contextual (disch := first | (simp only [fq]; done) | omega | (simp only [Knx]; omega) | (apply Nat.le_antisymm <;> simp only [Knx] <;> omega) | fail) only [wpy, fW, reduceLE, reduceLT, reduceLeDiff, UInt8.reduceToNat, ↓reduceIte, reduceEqDiff, reduceAdd, reduceCtorEq, reduceToNat, Tryd.f6, face_nn, hg5, ht, x3, x4, f2, hgr]
                    exact ⟨hpr, (hx3.trans hx35).put (Nat.le_refl _) _, (hbad hsay.symm).symm⟩
                  rw [if_pos ⟨ht, by omega, by omega⟩] at hnum
                  rw [hnum] at hsay
                  simp +contextual (disch := first | (simp only [fq]; done) | omega | (simp only [Knx]; omega) | (apply Nat.le_antisymm <;> simp only [Knx] <;> omega) | fail) only [wpy, fW, reduceLE, reduceLT, reduceLeDiff, UInt8.reduceToNat, ↓reduceIte, reduceEqDiff, reduceAdd, reduceCtorEq, reduceToNat, Tryd.f6, face_nn, hg5, ht, x3, x4, f2, f8, f56, hwi, hgo]
                  have hn35 := hx35.1
                  refine ⟨hpr, .inr (by omega), ws'.length - (i + 1), by omega, i + 1, said, sv, x.toNat, rfl, hlt, by simp +contextual (disch := first | (simp only [fq]; done) | omega | (simp only [Knx]; omega) | (apply Nat.le_antisymm <;> simp only [Knx] <;> omega) | fail) only [wpy, fW, reduceLE, reduceLT, reduceLeDiff, UInt8.reduceToNat, ↓reduceIte, reduceEqDiff, reduceAdd, reduceCtorEq, reduceToNat, f2], by simp +contextual (disch := first | (simp only [fq]; done) | omega | (simp only [Knx]; omega) | (apply Nat.le_antisymm <;> simp only [Knx] <;> omega) | fail) only [wpy, fW, reduceLE, reduceLT, reduceLeDiff, UInt8.reduceToNat, ↓reduceIte, reduceEqDiff, reduceAdd, reduceCtorEq, reduceToNat, f3], by simp +contextual (disch := first | (simp only [fq]; done) | omega | (simp only [Knx]; omega) | (apply Nat.le_antisymm <;> simp only [Knx] <;> omega) | fail) only [wpy, fW, reduceLE, reduceLT, reduceLeDiff, UInt8.reduceToNat, ↓reduceIte, reduceEqDiff, reduceAdd, reduceCtorEq, reduceToNat, f4], by simp +contextual (disch := first | (simp only [fq]; done) | omega | (simp only [Knx]; omega) | (apply Nat.le_antisymm <;> simp only [Knx] <;> omega) | fail) only [wpy, fW, reduceLE, reduceLT, reduceLeDiff, UInt8.reduceToNat, ↓reduceIte, reduceEqDiff, reduceAdd, reduceCtorEq, reduceToNat, f7], by simp +contextual (disch := first | (simp only [fq]; done) | omega | (simp only [Knx]; omega) | (apply Nat.le_antisymm <;> simp only [Knx] <;> omega) | fail) only [wpy, fW, reduceLE, reduceLT, reduceLeDiff, UInt8.reduceToNat, ↓reduceIte, reduceEqDiff, reduceAdd, reduceCtorEq, reduceToNat, f8], by simp +contextual (disch := first | (simp only [fq]; done) | omega | (simp only [Knx]; omega) | (apply Nat.le_antisymm <;> simp only [Knx] <;> omega) | fail) only [wpy, fW, reduceLE, reduceLT, reduceLeDiff, UInt8.reduceToNat, ↓reduceIte, reduceEqDiff, reduceAdd, reduceCtorEq, reduceToNat, f54], by simp +contextual (disch := first | (simp only [fq]; done) | omega | (simp only [Knx]; omega) | (apply Nat.le_antisymm <;> simp only [Knx] <;> omega) | fail) only [wpy, fW, reduceLE, reduceLT, reduceLeDiff, UInt8.reduceToNat, ↓reduceIte, reduceEqDiff, reduceAdd, reduceCtorEq, reduceToNat, f55], by simp +contextual (disch := first | (simp only [fq]; done) | omega | (simp only [Knx]; omega) | (apply Nat.le_antisymm <;> simp only [Knx] <;> omega) | fail) only [wpy, fW, reduceLE, reduceLT, reduceLeDiff, UInt8.reduceToNat, ↓reduceIte, reduceEqDiff, reduceAdd, reduceCtorEq, reduceToNat, f56], ⟨by show hB.nx ≤ h5.nx; omega, fun k hk hne => by rw [put_ne hne, hx35.2 k (by omega)]; exact hB3.2 k hk hne⟩, by rw [put_eq rfl, show ((x.toNat : Nat) : Int) = x by omega], lst_stay (hL.ext hx35) (Nat.le_refl _) fun k hk _ => put_ne (by omega), by omega, by omega, hsay⟩
                · rw [if_neg (fun q => ht q.1)] at hnum
                  rw [hnum] at hsay
                  simp +contextual (disch := first | (simp only [fq]; done) | omega | (simp only [Knx]; omega) | (apply Nat.le_antisymm <;> simp only [Knx] <;> omega) | fail) only [wpy, fW, reduceLE, reduceLT, reduceLeDiff, UInt8.reduceToNat, ↓reduceIte, reduceEqDiff, reduceAdd, reduceCtorEq, reduceToNat, Tryd.f6, face_nn, hg5, ht, f2, hgr]
                  exact ⟨hpr, (hx3.trans hx35).put (Nat.le_refl _) _, (hbad hsay.symm).symm⟩
              | range =>
                obtain ⟨p, e5⟩ : ∃ p, v5 = .tuple [.int .i64 (Lib.atoiSat (toU ws'[i].text)), .iface 77 p] := by unfold AtoiV at hv5; rw [hA] at hv5; exact hv5
                subst e5
                simp +contextual (disch := first | (simp only [fq]; done) | omega | (simp only [Knx]; omega) | (apply Nat.le_antisymm <;> simp only [Knx] <;> omega) | fail) only [wpyr, fW, reduceLE, reduceLT, reduceLeDiff, UInt8.reduceToNat, ↓reduceIte, reduceEqDiff, reduceAdd, reduceCtorEq, reduceToNat, Tryd.f6, face_in, hg5]
                refine draw_by [(4, 6)] (by kernel_rfl) ?_
                have hnum : numT ws'[i].text = none := by unfold numT; rw [hA]
                rw [hnum] at hsay
                simp +contextual (disch := first | (simp only [fq]; done) | omega | (simp only [Knx]; omega) | (apply Nat.le_antisymm <;> simp only [Knx] <;> omega) | fail) only [wpy, fW, reduceLE, reduceLT, reduceLeDiff, UInt8.reduceToNat, ↓reduceIte, reduceEqDiff, reduceAdd, reduceCtorEq, reduceToNat, Tryd.f6, face_in, hg5, f2, hgr]
                refine ⟨fun p hp => ?_, (hx3.trans hx35).put (Nat.le_refl _) _, (hbad hsay.symm).symm⟩
                rw [List.mem_singleton.1 hp]
                exact pair_one rfl rfl apart_nil_l
              | _ =>
                obtain ⟨p, e5⟩ : ∃ p, v5 = .tuple [.int .i64 0, .iface 77 p] := by unfold AtoiV at hv5; rw [hA] at hv5; exact hv5
                subst e5
                simp +contextual (disch := first | (simp only [fq]; done) | omega | (simp only [Knx]; omega) | (apply Nat.le_antisymm <;> simp only [Knx] <;> omega) | fail) only [wpyr, fW, reduceLE, reduceLT, reduceLeDiff, UInt8.reduceToNat, ↓reduceIte, reduceEqDiff, reduceAdd, reduceCtorEq, reduceToNat, Tryd.f6, face_in, hg5]
                refine draw_by [(4, 6)] (by kernel_rfl) ?_
                have hnum : numT ws'[i].text = none := by unfold numT; rw [hA]
                rw [hnum] at hsay
                simp +contextual (disch := first | (simp only [fq]; done) | omega | (simp only [Knx]; omega) | (apply Nat.le_antisymm <;> simp only [Knx] <;> omega) | fail) only [wpy, fW, reduceLE, reduceLT, reduceLeDiff, UInt8.reduceToNat, ↓reduceIte, reduceEqDiff, reduceAdd, reduceCtorEq, reduceToNat, Tryd.f6, face_in, hg5, f2, hgr]
                refine ⟨fun p hp => ?_, (hx3.trans hx35).put (Nat.le_refl _) _, (hbad hsay.symm).symm⟩
                rw [List.mem_singleton.1 hp]
                exact pair_one rfl rfl apart_nil_l
            · rw [if_neg (fun q => hil (hlast.1 q.2))] at hsay
              have hil' : ¬ (((i : Nat) : Int) = ((ws'.length - 1 : Nat) : Int)) := by omega
              simp +contextual (disch := first | (simp only [fq]; done) | omega | (simp only [Knx]; omega) | (apply Nat.le_antisymm <;> simp only [Knx] <;> omega) | fail) only [wpy, fW, reduceLE, reduceLT, reduceLeDiff, UInt8.reduceToNat, ↓reduceIte, reduceEqDiff, reduceAdd, reduceCtorEq, reduceToNat, Tryd.f6, f2, f3, f4, f7, f8, f54, f55, f56, hlt, hgb, w0, w3, WD.cells, nb, n1, n2, hk4, hil', hwr, hg3]
              exact ⟨.inr (by omega), (((hx3.push _).put (by omega) _).put (Nat.le_refl _) _), (hbad hsay.symm).symm⟩
          · rw [if_neg (fun q => hk4 q.1)] at hsay
            simp +contextual (disch := first | (simp only [fq]; done) | omega | (simp only [Knx]; omega) | (apply Nat.le_antisymm <;> simp only [Knx] <;> omega) | fail) only [wpy, fW, reduceLE, reduceLT, reduceLeDiff, UInt8.reduceToNat, ↓reduceIte, reduceEqDiff, reduceAdd, reduceCtorEq, reduceToNat, Tryd.f6, f2, f3, f4, f7, f8, f54, f55, f56, hlt, hgb, w0, w3, WD.cells, nb, n1, n2, hk1, hk5, hk4, hwr, hg3]
            exact ⟨.inr (by omega), (((hx3.push _).put (by omega) _).put (Nat.le_refl _) _), (hbad hsay.symm).symm⟩
      · have hie : i = ws'.length := by omega
        have hd : ws'.drop i = [] := List.drop_eq_nil_of_le (by omega)
        rw [hd, List.map_nil, sayR] at hsay
        have hdone : ∀ o, (kindR 10 1 said n).map (fun k => (k, n)) = o → readT s = o := fun o q => by
          rw [hrl]; unfold readL; rw [← hcut, ← hsay]; exact q
        have hsl2 := lst_len hL
        simp +contextual (disch := first | (simp only [fq]; done) | omega | (simp only [Knx]; omega) | (apply Nat.le_antisymm <;> simp only [Knx] <;> omega) | fail) only [wpy, fW, reduceLE, reduceLT, reduceLeDiff, UInt8.reduceToNat, ↓reduceIte, reduceEqDiff, reduceAdd, reduceCtorEq, reduceToNat, Tryd.f6, f2, f3, f4, f7, f8, f54, f55, f56, hlt]
        refine run_loop (KdI h3 h ob said sv n) 10 ⟨1, by simp +contextual (disch := first | (simp only [fq]; done) | omega | (simp only [Knx]; omega) | (apply Nat.le_antisymm <;> simp only [Knx] <;> omega) | fail) only [wpy, fW, reduceLE, reduceLT, reduceLeDiff, UInt8.reduceToNat, ↓reduceIte, reduceEqDiff, reduceAdd, reduceCtorEq, reduceToNat, f2, f7, f8]; exact Ext.refl _⟩ ?_
        rintro m env3 h4 ⟨k, rfl, hk1, hk2, g2, g7, g8, g13, hx4, hkr⟩
        have hn4 := hx4.1
        by_cases hk : k ≤ 10
        · obtain ⟨f, hf11⟩ : ∃ f, 11 - k = f + 1 := ⟨10 - k, by omega⟩
          rw [hf11, kindR] at hkr
          have hkz : ((k : Nat) : Int) ≤ 10 := by omega
          simp +contextual (disch := first | (simp only [fq]; done) | omega | (simp only [Knx]; omega) | (apply Nat.le_antisymm <;> simp only [Knx] <;> omega) | fail) only [wpy, fW, reduceLE, reduceLT, reduceLeDiff, UInt8.reduceToNat, ↓reduceIte, reduceEqDiff, reduceAdd, reduceCtorEq, reduceToNat, Tryd.f6, g2, g7, g8, g13, hkz]
          refine callF_pure (words_spec hS k _) ?_
          rintro v5 h5 hx5 rfl
          rw [show wordsV (k : Int) = .tuple [.str (wordsK k), bo True] from if_pos (by omega)]
          simp +contextual (disch := first | (simp only [fq]; done) | omega | (simp only [Knx]; omega) | (apply Nat.le_antisymm <;> simp only [Knx] <;> omega) | fail) only [wpy, fW, reduceLE, reduceLT, reduceLeDiff, UInt8.reduceToNat, ↓reduceIte, reduceEqDiff, reduceAdd, reduceCtorEq, reduceToNat, Tryd.f6, g2, g7, g8, g13]
          refine callF_of (hS.fieldsA k hk1 hk h5) (fun _ q => q.elim) ?_
          rintro v6 h6 ⟨rfl, hh6⟩
          have hx56 : Ext h5 h6 := by rw [hh6]; exact (Ext.refl h5).push _
          have hn6 : h6.nx = h5.nx + 1 := by rw [hh6]; rfl
          have hg6 : h6.get h5.nx = some (.cells ((fieldsK k).map V.str) 9 false) := by rw [hh6]; exact push_eq rfl
          clear hh6
          have hx36 : Ext h3 h6 := (hx4.trans hx5).trans hx56
          have hgo : h6.get ob = some (Ob.cells [V.int IntKind.i64 0, V.int IntKind.i64 n] 23 false) := by rw [hx36.2 _ (by omega)]; exact go
          have hgr : h6.get h.nx = some (Ob.cells [V.int IntKind.i64 0, V.int IntKind.i64 0] 23 false) := by rw [hx36.2 _ (by omega)]; exact hg3
          have hL6 := hL.ext hx36
          have hwk : IntKind.i64.wrap ((k : Int) + 1) = ((k + 1 : Nat) : Int) := by rw [i64_in _ (by omega)]; omega
          have hnext : ¬ (fieldsK k = said ∧ (numbK k ↔ 0 < n)) → kindR (11 - (k + 1)) (k + 1) said n = kindR 10 1 said n := fun q => by
            rw [if_neg q] at hkr
            rw [show 11 - (k + 1) = f by omega]
            exact hkr
          have hap : ∀ l : List Lx.LE, (∀ e ∈ l, e.isW = false ∧ blkOf e = ob) → fpApart (.cl h6.nx h6.nx nil1) (.lg l) := fun l q e he => .inr ⟨(q e he).1, by have := (q e he).2; have := hx36.1; omega, fun w => w⟩
          by_cases hll : (fieldsK k).length = said.length
          · have hll' : (((fieldsK k).length : Nat) : Int) = ((said.length : Nat) : Int) := by omega
            simp +contextual (disch := first | (simp only [fq]; done) | omega | (simp only [Knx]; omega) | (apply Nat.le_antisymm <;> simp only [Knx] <;> omega) | fail) only [wpyr, fW, reduceLE, reduceLT, reduceLeDiff, UInt8.reduceToNat, ↓reduceIte, reduceEqDiff, reduceAdd, reduceCtorEq, reduceToNat, Tryd.f6, g2, g7, g8, g13, hsl2]
            refine draw_by [(7, 9)] (by kernel_rfl) ?_
            simp +contextual (disch := first | (simp only [fq]; done) | omega | (simp only [Knx]; omega) | (apply Nat.le_antisymm <;> simp only [Knx] <;> omega) | fail) only [wpyr, fW, reduceLE, reduceLT, reduceLeDiff, UInt8.reduceToNat, ↓reduceIte, reduceEqDiff, reduceAdd, reduceCtorEq, reduceToNat, Tryd.f6, g2, g7, g8, g13, hsl2, hll]
            refine callF_exact (numbered_spec hS k _) ?_
            simp +contextual (disch := first | (simp only [fq]; done) | omega | (simp only [Knx]; omega) | (apply Nat.le_antisymm <;> simp only [Knx] <;> omega) | fail) only [wpyr, fW, reduceLE, reduceLT, reduceLeDiff, UInt8.reduceToNat, ↓reduceIte, reduceEqDiff, reduceAdd, reduceCtorEq, reduceToNat, Tryd.f6, g2, g7, g8, g13, hsl2, hll, hgo, neq_bo]
            refine ⟨fun p hp => by rw [List.mem_singleton.1 hp]; exact pair_one rfl rfl (hap _ fun e he => by rw [List.mem_singleton.1 (show e ∈ [_] from he)]; exact ⟨rfl, rfl⟩), ?_⟩
            have hzk : numbZ (k : Int) ↔ numbK k := by unfold numbZ numbK; omega
            refine run_cut (fun env' h' => h' = h6 ∧ env' 2 = .ptr h.nx 0 ∧ env' 7 = sv ∧ env' 8 = .ptr ob 0 ∧ env' 13 = .int .i64 k ∧ env' 16 = .slice h5.nx 0 said.length said.length ∧ (numbK k ↔ 0 < n)) ?_ ?_
            · by_cases hq : numbZ (k : Int) ↔ 0 < n
              · have hq' : (numbZ (k : Int) ↔ 0 < n) = True := eq_true hq
                simp +contextual (disch := first | (simp only [fq]; done) | omega | (simp only [Knx]; omega) | (apply Nat.le_antisymm <;> simp only [Knx] <;> omega) | fail) only [wpy, fW, reduceLE, reduceLT, reduceLeDiff, UInt8.reduceToNat, ↓reduceIte, reduceEqDiff, reduceAdd, reduceCtorEq, reduceToNat, hq', g2, g7, g8, g13]
                exact hzk.symm.trans hq
              · have hq' : (numbZ (k : Int) ↔ 0 < n) = False := eq_false hq
                simp +contextual (disch := first | (simp only [fq]; done) | omega | (simp only [Knx]; omega) | (apply Nat.le_antisymm <;> simp only [Knx] <;> omega) | fail) only [wpy, fW, reduceLE, reduceLT, reduceLeDiff, UInt8.reduceToNat, ↓reduceIte, reduceEqDiff, reduceAdd, reduceCtorEq, reduceToNat, hq', g2, g7, g8, g13, hwk]
                refine ⟨11 - (k + 1), by omega, k + 1, rfl, by omega, by omega, by simp +contextual (disch := first | (simp only [fq]; done) | omega | (simp only [Knx]; omega) | (apply Nat.le_antisymm <;> simp only [Knx] <;> omega) | fail) only [wpy, fW, reduceLE, reduceLT, reduceLeDiff, UInt8.reduceToNat, ↓reduceIte, reduceEqDiff, reduceAdd, reduceCtorEq, reduceToNat, g2], by simp +contextual (disch := first | (simp only [fq]; done) | omega | (simp only [Knx]; omega) | (apply Nat.le_antisymm <;> simp only [Knx] <;> omega) | fail) only [wpy, fW, reduceLE, reduceLT, reduceLeDiff, UInt8.reduceToNat, ↓reduceIte, reduceEqDiff, reduceAdd, reduceCtorEq, reduceToNat, g7], by simp +contextual (disch := first | (simp only [fq]; done) | omega | (simp only [Knx]; omega) | (apply Nat.le_antisymm <;> simp only [Knx] <;> omega) | fail) only [wpy, fW, reduceLE, reduceLT, reduceLeDiff, UInt8.reduceToNat, ↓reduceIte, reduceEqDiff, reduceAdd, reduceCtorEq, reduceToNat, g8], by simp +contextual (disch := first | (simp only [fq]; done) | omega | (simp only [Knx]; omega) | (apply Nat.le_antisymm <;> simp only [Knx] <;> omega) | fail) only [wpy, fW, reduceLE, reduceLT, reduceLeDiff, UInt8.reduceToNat, ↓reduceIte, reduceEqDiff, reduceAdd, reduceCtorEq, reduceToNat], hx36, hnext fun q => hq (hzk.trans q.2)⟩
            · rintro env4 h7 ⟨rfl, u2, u7, u8, u13, u16, hnq⟩
              simp +contextual (disch := first | (simp only [fq]; done) | omega | (simp only [Knx]; omega) | (apply Nat.le_antisymm <;> simp only [Knx] <;> omega) | fail) only [wpy, fW, reduceLE, reduceLT, reduceLeDiff, UInt8.reduceToNat, ↓reduceIte, reduceEqDiff, reduceAdd, reduceCtorEq, reduceToNat, Tryd.f6, u2, u7, u8, u13, u16]
              refine run_loop (FdI h7 h ob said sv k h5.nx) said.length ⟨0, by simp +contextual (disch := first | (simp only [fq]; done) | omega | (simp only [Knx]; omega) | (apply Nat.le_antisymm <;> simp only [Knx] <;> omega) | fail) only [wpy, fW, reduceLE, reduceLT, reduceLeDiff, UInt8.reduceToNat, ↓reduceIte, reduceEqDiff, reduceAdd, reduceCtorEq, reduceToNat, u2, u7, u8, u13, u16]; exact (Nat.sub_zero _).symm⟩ ?_
              rintro m env5 h8 ⟨j, rfl, hj, t2, t7, t8, t13, t16, t137, t138, rfl, htk⟩
              by_cases hjl : j < said.length
              · obtain ⟨bs, rfl, hbs0, hbs1, hgs⟩ := lst_row hL6 (by omega)
                have hjf : j < (fieldsK k).length := by omega
                have c1 : ((fieldsK k).map V.str)[j]? = some (.str (fieldsK k)[j]) := by rw [List.getElem?_map, List.getElem?_eq_getElem hjf]; rfl
                have c2 : (said.map V.str)[j]? = some (.str said[j]) := by rw [List.getElem?_map, List.getElem?_eq_getElem hjl]; rfl
                have hwj : IntKind.i64.wrap ((j : Int) + 1) = ((j + 1 : Nat) : Int) := by rw [i64_in _ (by omega)]; omega
                have c1' : ((fieldsK k).map V.str)[0 + j * 1]? = some (.str (fieldsK k)[j]) := by rw [Nat.zero_add, Nat.mul_one]; exact c1
                have c2' : (said.map V.str)[0 + j * 1]? = some (.str said[j]) := by rw [Nat.zero_add, Nat.mul_one]; exact c2
                by_cases he : (fieldsK k)[j] = said[j]
                · simp +contextual (disch := first | (simp only [fq]; done) | omega | (simp only [Knx]; omega) | (apply Nat.le_antisymm <;> simp only [Knx] <;> omega) | fail) only [wpy, fW, reduceLE, reduceLT, reduceLeDiff, UInt8.reduceToNat, ↓reduceIte, reduceEqDiff, reduceAdd, reduceCtorEq, reduceToNat, Tryd.f6, t2, t7, t8, t13, t16, t137, t138, hjl, hg6, hgs, c1, c2, c1', c2', he]
                  refine draw_by [] (by kernel_rfl) ?_
                  simp +contextual (disch := first | (simp only [fq]; done) | omega | (simp only [Knx]; omega) | (apply Nat.le_antisymm <;> simp only [Knx] <;> omega) | fail) only [wpy, fW, reduceLE, reduceLT, reduceLeDiff, UInt8.reduceToNat, ↓reduceIte, reduceEqDiff, reduceAdd, reduceCtorEq, reduceToNat, Tryd.f6, t2, t7, t8, t13, t16, t137, t138, hjl, hg6, hgs, c1, c2, c1', c2', he, hwj]
                  refine ⟨fun p hp => by (cases hp), said.length - (j + 1), by omega, j + 1, rfl, by omega, by simp +contextual (disch := first | (simp only [fq]; done) | omega | (simp only [Knx]; omega) | (apply Nat.le_antisymm <;> simp only [Knx] <;> omega) | fail) only [wpy, fW, reduceLE, reduceLT, reduceLeDiff, UInt8.reduceToNat, ↓reduceIte, reduceEqDiff, reduceAdd, reduceCtorEq, reduceToNat, t2], by simp +contextual (disch := first | (simp only [fq]; done) | omega | (simp only [Knx]; omega) | (apply Nat.le_antisymm <;> simp only [Knx] <;> omega) | fail) only [wpy, fW, reduceLE, reduceLT, reduceLeDiff, UInt8.reduceToNat, ↓reduceIte, reduceEqDiff, reduceAdd, reduceCtorEq, reduceToNat, t7], by simp +contextual (disch := first | (simp only [fq]; done) | omega | (simp only [Knx]; omega) | (apply Nat.le_antisymm <;> simp only [Knx] <;> omega) | fail) only [wpy, fW, reduceLE, reduceLT, reduceLeDiff, UInt8.reduceToNat, ↓reduceIte, reduceEqDiff, reduceAdd, reduceCtorEq, reduceToNat, t8], by simp +contextual (disch := first | (simp only [fq]; done) | omega | (simp only [Knx]; omega) | (apply Nat.le_antisymm <;> simp only [Knx] <;> omega) | fail) only [wpy, fW, reduceLE, reduceLT, reduceLeDiff, UInt8.reduceToNat, ↓reduceIte, reduceEqDiff, reduceAdd, reduceCtorEq, reduceToNat, t13], by simp +contextual (disch := first | (simp only [fq]; done) | omega | (simp only [Knx]; omega) | (apply Nat.le_antisymm <;> simp only [Knx] <;> omega) | fail) only [wpy, fW, reduceLE, reduceLT, reduceLeDiff, UInt8.reduceToNat, ↓reduceIte, reduceEqDiff, reduceAdd, reduceCtorEq, reduceToNat, t16], by simp +contextual (disch := first | (simp only [fq]; done) | omega | (simp only [Knx]; omega) | (apply Nat.le_antisymm <;> simp only [Knx] <;> omega) | fail) only [wpy, fW, reduceLE, reduceLT, reduceLeDiff, UInt8.reduceToNat, ↓reduceIte, reduceEqDiff, reduceAdd, reduceCtorEq, reduceToNat, t137], by simp +contextual (disch := first | (simp only [fq]; done) | omega | (simp only [Knx]; omega) | (apply Nat.le_antisymm <;> simp only [Knx] <;> omega) | fail) only [wpy, fW, reduceLE, reduceLT, reduceLeDiff, UInt8.reduceToNat, ↓reduceIte, reduceEqDiff, reduceAdd, reduceCtorEq, reduceToNat, hwj], rfl, ?_⟩
                  rw [List.take_succ_eq_append_getElem hjf, List.take_succ_eq_append_getElem hjl, htk, he]
                · simp +contextual (disch := first | (simp only [fq]; done) | omega | (simp only [Knx]; omega) | (apply Nat.le_antisymm <;> simp only [Knx] <;> omega) | fail) only [wpy, fW, reduceLE, reduceLT, reduceLeDiff, UInt8.reduceToNat, ↓reduceIte, reduceEqDiff, reduceAdd, reduceCtorEq, reduceToNat, Tryd.f6, t2, t7, t8, t13, t16, t137, t138, hjl, hg6, hgs, c1, c2, c1', c2', he]
                  refine draw_by [] (by kernel_rfl) ?_
                  simp +contextual (disch := first | (simp only [fq]; done) | omega | (simp only [Knx]; omega) | (apply Nat.le_antisymm <;> simp only [Knx] <;> omega) | fail) only [wpy, fW, reduceLE, reduceLT, reduceLeDiff, UInt8.reduceToNat, ↓reduceIte, reduceEqDiff, reduceAdd, reduceCtorEq, reduceToNat, Tryd.f6, t2, t7, t8, t13, t16, t137, t138, hjl, hg6, hgs, c1, c2, c1', c2', he, hwk]
                  refine ⟨fun p hp => by (cases hp), 11 - (k + 1), by omega, k + 1, rfl, by omega, by omega, by simp +contextual (disch := first | (simp only [fq]; done) | omega | (simp only [Knx]; omega) | (apply Nat.le_antisymm <;> simp only [Knx] <;> omega) | fail) only [wpy, fW, reduceLE, reduceLT, reduceLeDiff, UInt8.reduceToNat, ↓reduceIte, reduceEqDiff, reduceAdd, reduceCtorEq, reduceToNat, t2], by simp +contextual (disch := first | (simp only [fq]; done) | omega | (simp only [Knx]; omega) | (apply Nat.le_antisymm <;> simp only [Knx] <;> omega) | fail) only [wpy, fW, reduceLE, reduceLT, reduceLeDiff, UInt8.reduceToNat, ↓reduceIte, reduceEqDiff, reduceAdd, reduceCtorEq, reduceToNat, t7], by simp +contextual (disch := first | (simp only [fq]; done) | omega | (simp only [Knx]; omega) | (apply Nat.le_antisymm <;> simp only [Knx] <;> omega) | fail) only [wpy, fW, reduceLE, reduceLT, reduceLeDiff, UInt8.reduceToNat, ↓reduceIte, reduceEqDiff, reduceAdd, reduceCtorEq, reduceToNat, t8], by simp +contextual (disch := first | (simp only [fq]; done) | omega | (simp only [Knx]; omega) | (apply Nat.le_antisymm <;> simp only [Knx] <;> omega) | fail) only [wpy, fW, reduceLE, reduceLT, reduceLeDiff, UInt8.reduceToNat, ↓reduceIte, reduceEqDiff, reduceAdd, reduceCtorEq, reduceToNat], hx36, hnext fun q => he ?_⟩
                  have q2 := congrArg (fun l : List (List Nat) => l[j]?) q.1
                  simp only [List.getElem?_eq_getElem hjf, List.getElem?_eq_getElem hjl] at q2
                  exact Option.some.inj q2
              · have hje : j = said.length := by omega
                subst hje
                have hfs : fieldsK k = said := by
                  rw [← hll, List.take_length, hll, List.take_length] at htk
                  exact htk
                simp +contextual (disch := first | (simp only [fq]; done) | omega | (simp only [Knx]; omega) | (apply Nat.le_antisymm <;> simp only [Knx] <;> omega) | fail) only [wpy, fW, reduceLE, reduceLT, reduceLeDiff, UInt8.reduceToNat, ↓reduceIte, reduceEqDiff, reduceAdd, reduceCtorEq, reduceToNat, Tryd.f6, t2, t7, t8, t13, t16, t137, t138, hjl, hgo, hgr]
                exact ⟨.inr (by omega), ((hx3.trans hx36).put (by omega) _).put (Nat.le_refl _) _, (hend _ (hdone (some (k, n)) (by rw [← hkr, if_pos ⟨hfs, hnq⟩]; rfl))).symm⟩
          · have hll' : ¬ (((fieldsK k).length : Nat) : Int) = ((said.length : Nat) : Int) := by omega
            simp +contextual (disch := first | (simp only [fq]; done) | omega | (simp only [Knx]; omega) | (apply Nat.le_antisymm <;> simp only [Knx] <;> omega) | fail) only [wpyr, fW, reduceLE, reduceLT, reduceLeDiff, UInt8.reduceToNat, ↓reduceIte, reduceEqDiff, reduceAdd, reduceCtorEq, reduceToNat, Tryd.f6, g2, g7, g8, g13, hsl2]
            refine draw_by [(7, 9)] (by kernel_rfl) ?_
            simp +contextual (disch := first | (simp only [fq]; done) | omega | (simp only [Knx]; omega) | (apply Nat.le_antisymm <;> simp only [Knx] <;> omega) | fail) only [wpy, fW, reduceLE, reduceLT, reduceLeDiff, UInt8.reduceToNat, ↓reduceIte, reduceEqDiff, reduceAdd, reduceCtorEq, reduceToNat, Tryd.f6, g2, g7, g8, g13, hsl2, hll', hwk]
            refine ⟨fun p hp => by rw [List.mem_singleton.1 hp]; exact pair_one rfl rfl apart_nil_l, 11 - (k + 1), by omega, k + 1, rfl, by omega, by omega, by simp +contextual (disch := first | (simp only [fq]; done) | omega | (simp only [Knx]; omega) | (apply Nat.le_antisymm <;> simp only [Knx] <;> omega) | fail) only [wpy, fW, reduceLE, reduceLT, reduceLeDiff, UInt8.reduceToNat, ↓reduceIte, reduceEqDiff, reduceAdd, reduceCtorEq, reduceToNat, g2], by simp +contextual (disch := first | (simp only [fq]; done) | omega | (simp only [Knx]; omega) | (apply Nat.le_antisymm <;> simp only [Knx] <;> omega) | fail) only [wpy, fW, reduceLE, reduceLT, reduceLeDiff, UInt8.reduceToNat, ↓reduceIte, reduceEqDiff, reduceAdd, reduceCtorEq, reduceToNat, g7], by simp +contextual (disch := first | (simp only [fq]; done) | omega | (simp only [Knx]; omega) | (apply Nat.le_antisymm <;> simp only [Knx] <;> omega) | fail) only [wpy, fW, reduceLE, reduceLT, reduceLeDiff, UInt8.reduceToNat, ↓reduceIte, reduceEqDiff, reduceAdd, reduceCtorEq, reduceToNat, g8], by simp +contextual (disch := first | (simp only [fq]; done) | omega | (simp only [Knx]; omega) | (apply Nat.le_antisymm <;> simp only [Knx] <;> omega) | fail) only [wpy, fW, reduceLE, reduceLT, reduceLeDiff, UInt8.reduceToNat, ↓reduceIte, reduceEqDiff, reduceAdd, reduceCtorEq, reduceToNat], hx36, hnext fun q => hll' (by rw [q.1])⟩
        · have hkz : ¬ ((k : Nat) : Int) ≤ 10 := by omega
          have h11 : k = 11 := by omega
          subst h11
          have hgr : h4.get h.nx = some (Ob.cells [V.int IntKind.i64 0, V.int IntKind.i64 0] 23 false) := by rw [hx4.2 _ (by omega)]; exact hg3
          simp +contextual (disch := first | (simp only [fq]; done) | omega | (simp only [Knx]; omega) | (apply Nat.le_antisymm <;> simp only [Knx] <;> omega) | fail) only [wpy, fW, reduceLE, reduceLT, reduceLeDiff, UInt8.reduceToNat, ↓reduceIte, reduceEqDiff, reduceAdd, reduceCtorEq, reduceToNat, Tryd.f6, g2, g7, g8, g13, hkz, hgr]
          exact ⟨(hx3.trans hx4).put (Nat.le_refl _) _, (hend none (hdone none (by rw [← hkr]; rfl))).symm⟩
  · have hl : lex s = none := by
      cases hl : lex s with
      | none => rfl
      | some l => exact absurd (w1 l hl).1 hf
    simp +contextual (disch := first | (simp only [fq]; done) | omega | (simp only [Knx]; omega) | (apply Nat.le_antisymm <;> simp only [Knx] <;> omega) | fail) only [wpy, fW, reduceLE, reduceLT, reduceLeDiff, UInt8.reduceToNat, ↓reduceIte, reduceEqDiff, reduceAdd, reduceCtorEq, reduceToNat, Tryd.f6, hf, p1, p2, hne, hg1]
    refine ⟨.inr (by omega), ((hx.push _).put (by omega) _).put (Nat.le_refl _) _, ?_⟩
    unfold readV readT
    rw [hl]
end
end Go.Proofs.YtfgnpegkcmkeaaaDoor
set_option linter.unusedSimpArgs false
set_option linter.unusedVariables false
set_option linter.unusedSectionVars false
set_option linter.defProp false
set_option maxRecDepth 10000
set_option maxHeartbeats 1000000
namespace Go.Proofs.YtfgnpegkcmkeaaaDoor
open Int (reduceLE reduceLT reduceToNat)
open Nat (reduceLeDiff reduceEqDiff reduceAdd)
open Go.Proofs Go.Lx Go.Wx Go.IntWalk
noncomputable section

theorem eq23_0 (a b c d : Int) : eqT Tryd.prog 23 (.agg [.int .i64 a, .int .i64 b]) (.agg [.int .i64 c, .int .i64 d]) = (match some (a == c) with
    | some true => (match some (b == d) with
      | some true => some true
      | r => r)
    | r => r) := by kernel_rfl
theorem eq23 (a b c d : Int) : eqT Tryd.prog 23 (.agg [.int .i64 a, .int .i64 b]) (.agg [.int .i64 c, .int .i64 d]) = some (decide (a = c ∧ b = d)) := by
  rw [eq23_0]
  by_cases h1 : a = c
  · by_cases h2 : b = d
    · simp [h1, h2]
    · have : (b == d) = false := by simpa using h2
      simp [h1, h2, this]
  · have : (a == c) = false := by simpa using h1
    simp [h1, this]
theorem agg_eql (q : Bool) (a b c d : Int) : binV Tryd.prog .eql 23 q (.agg [.int .i64 a, .int .i64 b]) (.agg [.int .i64 c, .int .i64 d]) = some (bo (a = c ∧ b = d)) := by
  have : binV Tryd.prog .eql 23 q (.agg [.int .i64 a, .int .i64 b]) (.agg [.int .i64 c, .int .i64 d]) = eqOpV Tryd.prog .eql 23 (.agg [.int .i64 a, .int .i64 b]) (.agg [.int .i64 c, .int .i64 d]) := rfl
  rw [this, eqOpV, eq23]
  unfold bo
  by_cases h : a = c ∧ b = d <;> simp [h]
theorem agg_neq (q : Bool) (a b c d : Int) : binV Tryd.prog .neq 23 q (.agg [.int .i64 a, .int .i64 b]) (.agg [.int .i64 c, .int .i64 d]) = some (bo (¬ (a = c ∧ b = d))) := by
  have : binV Tryd.prog .neq 23 q (.agg [.int .i64 a, .int .i64 b]) (.agg [.int .i64 c, .int .i64 d]) = eqOpV Tryd.prog .neq 23 (.agg [.int .i64 a, .int .i64 b]) (.agg [.int .i64 c, .int .i64 d]) := rfl
  rw [this, eqOpV, eq23]
  unfold bo
  by_cases h : a = c ∧ b = d <;> simp [h]

theorem wordsK_bytes {k : Nat} (h : k ≤ 10) : Bytes (wordsK k) := by
  have : ∀ j : Fin 11, ∀ b ∈ wordsK j.val, b < 256 := by decide
  exact this ⟨k, by omega⟩
theorem printO_ok {k n : Nat} (h : okO k n) : Bytes (printO k n) ∧ (printO k n).length ≤ 100000 := by
  obtain ⟨⟨h1, h2⟩, h3⟩ := h
  have hw := wordsK_len h2
  have hb := wordsK_bytes h2
  unfold printO
  split
  · have hl : (digN n).length ≤ 21 := by
      have e : digN n = itoaF (n : Int) := by unfold digN itoaF; rw [itoa_nat]
      rw [e]
      exact itoaF_len (by omega) (by omega)
    refine ⟨fun b q => ?_, ?_⟩
    · rcases List.mem_append.1 q with q | q
      · exact hb b q
      · rcases List.mem_cons.1 q with rfl | q
        · decide
        · have := digN_all n b q
          unfold isDigit at this
          omega
    · rw [List.length_append, List.length_cons]; omega
  · exact ⟨hb, by omega⟩
theorem okZ_okO {k n : Int} (h : okZ k n) : okO k.toNat n.toNat ∧ ((k.toNat : Nat) : Int) = k ∧ ((n.toNat : Nat) : Int) = n := by
  obtain ⟨h1, h2⟩ := h
  unfold okO numbK
  unfold numbZ at h2
  omega
theorem okO_okZ {k n : Nat} (h : okO k n) : okZ (k : Int) (n : Int) := by
  obtain ⟨h1, h2⟩ := h
  unfold numbK at h2
  unfold okZ numbZ
  omega
theorem read_told {k n : Nat} (h : okO k n) : readV (printO k n) = .tuple [.agg [.int .i64 k, .int .i64 n], .int .i64 0] := by
  unfold readV
  rw [read_print h]
theorem print_read {s : List Nat} {k n : Nat} (h : okO k n) : printV (k : Int) (n : Int) = .tuple [.str (printO k n), .int .i64 0] := by
  unfold printV
  rw [if_pos (okO_okZ h)]
  rfl

variable {S : Set0} (hS : StdA S)
include hS
theorem back_spec (k n : Int) (s : List Nat) (h : H) (hb : Bytes s) (hs : s.length < 2 ^ 63) : Pure S.cfg 3 [.agg [.int .i64 k, .int .i64 n], .str s] h fun v _ => v = .bool true := by
  refine into Tryd.f3 _ Tryd.func3 (hS.ownA _ (by decide)) rfl rfl (by kernel_rfl) (by kernel_rfl) ?_
  simp +contextual (disch := first | (simp only [fq]; done) | omega | (simp only [Knx]; omega) | (apply Nat.le_antisymm <;> simp only [Knx] <;> omega) | fail) only [wpy, fW, reduceLE, reduceLT, reduceLeDiff, UInt8.reduceToNat, ↓reduceIte, reduceEqDiff, reduceAdd, reduceCtorEq, reduceToNat, Tryd.f3]
  refine callF_exact (hS.lives _) ?_
  by_cases hl : 3000 < s.length
  · simp +contextual (disch := first | (simp only [fq]; done) | omega | (simp only [Knx]; omega) | (apply Nat.le_antisymm <;> simp only [Knx] <;> omega) | fail) only [wpy, fW, reduceLE, reduceLT, reduceLeDiff, UInt8.reduceToNat, ↓reduceIte, reduceEqDiff, reduceAdd, reduceCtorEq, reduceToNat, Tryd.f3, hl]
    exact (Ext.refl h).push _
  simp +contextual (disch := first | (simp only [fq]; done) | omega | (simp only [Knx]; omega) | (apply Nat.le_antisymm <;> simp only [Knx] <;> omega) | fail) only [wpy, fW, reduceLE, reduceLT, reduceLeDiff, UInt8.reduceToNat, ↓reduceIte, reduceEqDiff, reduceAdd, reduceCtorEq, reduceToNat, Tryd.f3, hl]
  refine callF_pure (print_spec hS k n _) ?_
  rintro v h1 hx1 rfl
  have hg1 : h1.get h.nx = some (Ob.cells [V.int IntKind.i64 k, V.int IntKind.i64 n] 23 false) := (hx1.2 h.nx (Nat.lt_succ_self _)).trans (push_eq rfl)
  have hx01 : Ext h h1 := ((Ext.refl h).push _).trans hx1
  have hn1 : h.nx < h1.nx := hx1.1
  obtain ⟨p, e, hpe, hp⟩ : ∃ (p : List Nat) (e : Int), printV k n = .tuple [.str p, .int .i64 e] ∧ ((okZ k n ∧ p = printO k.toNat n.toNat ∧ e = 0) ∨ (¬ okZ k n ∧ p = [] ∧ e = 2)) := by
    by_cases q : okZ k n
    · exact ⟨_, _, if_pos q, .inl ⟨q, rfl, rfl⟩⟩
    · exact ⟨_, _, if_neg q, .inr ⟨q, rfl, rfl⟩⟩
  rw [hpe]
  simp +contextual (disch := first | (simp only [fq]; done) | omega | (simp only [Knx]; omega) | (apply Nat.le_antisymm <;> simp only [Knx] <;> omega) | fail) only [wpyr, fW, reduceLE, reduceLT, reduceLeDiff, UInt8.reduceToNat, ↓reduceIte, reduceEqDiff, reduceAdd, reduceCtorEq, reduceToNat, Tryd.f3]
  refine run_cut (fun env' h' => env' 1 = .str s ∧ Ext h h') ?_ ?_
  · rcases hp with ⟨hz, rfl, rfl⟩ | ⟨hz, rfl, rfl⟩
    · obtain ⟨ho, ek, en⟩ := okZ_okO hz
      obtain ⟨pb, pl⟩ := printO_ok ho
      simp +contextual (disch := first | (simp only [fq]; done) | omega | (simp only [Knx]; omega) | (apply Nat.le_antisymm <;> simp only [Knx] <;> omega) | fail) only [wpy, fW, reduceLE, reduceLT, reduceLeDiff, UInt8.reduceToNat, ↓reduceIte, reduceEqDiff, reduceAdd, reduceCtorEq, reduceToNat, Tryd.f3]
      refine callF_pure (read_spec hS _ _ pb pl) ?_
      rintro v h2 hx2 rfl
      rw [read_told ho, ek, en]
      have hg2 : h2.get h.nx = some (Ob.cells [V.int IntKind.i64 k, V.int IntKind.i64 n] 23 false) := by rw [hx2.2 _ (by omega)]; exact hg1
      have hn2 := hx2.1
      have hne : ¬ h.nx = h2.nx := by omega
      have b1 := fun q a b c d => agg_neq q a b c d
      simp +contextual (disch := first | (simp only [fq]; done) | omega | (simp only [Knx]; omega) | (apply Nat.le_antisymm <;> simp only [Knx] <;> omega) | fail) only [wpy, fW, reduceLE, reduceLT, reduceLeDiff, UInt8.reduceToNat, ↓reduceIte, reduceEqDiff, reduceAdd, reduceCtorEq, reduceToNat, Tryd.f3, hg2, hne, b1, Int.reduceEq]
      exact ⟨.inr (by omega), ((hx01.trans hx2).push _).put (by omega) _⟩
    · simp +contextual (disch := first | (simp only [fq]; done) | omega | (simp only [Knx]; omega) | (apply Nat.le_antisymm <;> simp only [Knx] <;> omega) | fail) only [wpy, fW, reduceLE, reduceLT, reduceLeDiff, UInt8.reduceToNat, ↓reduceIte, reduceEqDiff, reduceAdd, reduceCtorEq, reduceToNat, Tryd.f3, Int.reduceEq]
      exact hx01
  · rintro env2 h2 ⟨e1, hx2⟩
    simp +contextual (disch := first | (simp only [fq]; done) | omega | (simp only [Knx]; omega) | (apply Nat.le_antisymm <;> simp only [Knx] <;> omega) | fail) only [wpy, fW, reduceLE, reduceLT, reduceLeDiff, UInt8.reduceToNat, ↓reduceIte, reduceEqDiff, reduceAdd, reduceCtorEq, reduceToNat, Tryd.f3, e1]
    refine callF_pure (read_spec hS s _ hb (by omega)) ?_
    rintro v h3 hx3 rfl
    have hx03 := hx2.trans hx3
    have hn3 := hx03.1
    have b2 := fun q a b c d => agg_eql q a b c d
    cases hr : readT s with
    | none =>
      have hv : readV s = .tuple [.agg [.int .i64 0, .int .i64 0], .int .i64 5] := by unfold readV; rw [hr]
      rw [hv]
      simp +contextual (disch := first | (simp only [fq]; done) | omega | (simp only [Knx]; omega) | (apply Nat.le_antisymm <;> simp only [Knx] <;> omega) | fail) only [wpy, fW, reduceLE, reduceLT, reduceLeDiff, UInt8.reduceToNat, ↓reduceIte, reduceEqDiff, reduceAdd, reduceCtorEq, reduceToNat, Tryd.f3, b2, Int.reduceEq]
      exact ⟨.inr (by omega), (hx03.push _).put (by omega) _⟩
    | some o =>
      obtain ⟨k', n'⟩ := o
      have hv : readV s = .tuple [.agg [.int .i64 k', .int .i64 n'], .int .i64 0] := by unfold readV; rw [hr]
      have ho := readT_ok hr
      obtain ⟨pb, pl⟩ := printO_ok ho
      rw [hv]
      simp +contextual (disch := first | (simp only [fq]; done) | omega | (simp only [Knx]; omega) | (apply Nat.le_antisymm <;> simp only [Knx] <;> omega) | fail) only [wpy, fW, reduceLE, reduceLT, reduceLeDiff, UInt8.reduceToNat, ↓reduceIte, reduceEqDiff, reduceAdd, reduceCtorEq, reduceToNat, Tryd.f3, Int.reduceEq]
      refine ⟨.inr (by omega), ?_⟩
      obtain ⟨h4, hh4⟩ : ∃ h4, h4 = (h3.push (Ob.cells [V.int IntKind.i64 0, V.int IntKind.i64 0] 23 false)).put h3.nx (Ob.cells [V.int IntKind.i64 k', V.int IntKind.i64 n'] 23 false) := ⟨_, rfl⟩
      rw [← hh4]
      have hn4 : h4.nx = h3.nx + 1 := by rw [hh4]; rfl
      have hx34 : Ext h3 h4 := by rw [hh4]; exact Ext.new _ _ _
      have hg4 : h4.get h3.nx = some (Ob.cells [V.int IntKind.i64 k', V.int IntKind.i64 n'] 23 false) := by rw [hh4]; exact put_eq rfl
      clear hh4
      refine callF_pure (print_spec hS _ _ _) ?_
      rintro v h5 hx5 rfl
      rw [print_read (s := s) ho]
      simp +contextual (disch := first | (simp only [fq]; done) | omega | (simp only [Knx]; omega) | (apply Nat.le_antisymm <;> simp only [Knx] <;> omega) | fail) only [wpy, fW, reduceLE, reduceLT, reduceLeDiff, UInt8.reduceToNat, ↓reduceIte, reduceEqDiff, reduceAdd, reduceCtorEq, reduceToNat, Tryd.f3, Int.reduceEq]
      refine callF_pure (read_spec hS _ _ pb pl) ?_
      rintro v h6 hx6 rfl
      rw [read_told ho]
      have hx46 := hx5.trans hx6
      have hg6 : h6.get h3.nx = some (Ob.cells [V.int IntKind.i64 k', V.int IntKind.i64 n'] 23 false) := by rw [hx46.2 _ (by omega)]; exact hg4
      have hn6 := hx46.1
      have hne : ¬ h3.nx = h6.nx := by omega
      simp +contextual (disch := first | (simp only [fq]; done) | omega | (simp only [Knx]; omega) | (apply Nat.le_antisymm <;> simp only [Knx] <;> omega) | fail) only [wpy, fW, reduceLE, reduceLT, reduceLeDiff, UInt8.reduceToNat, ↓reduceIte, reduceEqDiff, reduceAdd, reduceCtorEq, reduceToNat, Tryd.f3, hg6, hne, b2, Int.reduceEq]
      exact ⟨.inr (by omega), (((hx03.trans hx34).trans hx46).push _).put (by omega) _⟩
end
end Go.Proofs.YtfgnpegkcmkeaaaDoor
