/-
  Several texts of one walk, joined.
-/
import Derived.Test.YtfgnpegkcmkeaaaGreatDoorScA
import Derived.Test.YtfgnpegkcmkeaaaGreatDoorWxZ
import Derived.Test.YtfgnpegkcmkeaaaGreatDoorLyP
import Derived.Lib.AtoiAll
import Derived.Lib.ItoaNum
import Derived.Test.YtfgnpegkcmkeaaaGreatDoorLyS
import Derived.Lib.ItoaLen
set_option maxHeartbeats 1000000
set_option linter.unusedSimpArgs false
set_option linter.unusedVariables false
set_option linter.unusedSectionVars false
set_option linter.defProp false
set_option maxRecDepth 10000
namespace Go.Proofs.YtfgnpegkcmkeaaaGreatDoor.Ad
open Go.Proofs Go.Lx Go.Wx Go.IntWalk
noncomputable section
theorem gOp_no {c : Cfg} {Ok : Nat → Prop} {op : Op} {env : Env} {h : H} {K : V → H → Fp → Prop} : gOp c Ok False op env h K = K undefV h (.lg []) := by unfold gOp; simp
theorem gOp_yes {c : Cfg} {Ok : Nat → Prop} {op : Op} {env : Env} {h : H} {K : V → H → Fp → Prop} : gOp c Ok True op env h K = opW c Ok op env h K := by unfold gOp; simp
theorem Ext.but {r : Nat} {a b c : H} (x : Ext a b) (y : But r b c) (hr : a.nx ≤ r) : Ext a c := ⟨Nat.le_trans x.1 y.1, fun k hk => by rw [y.2 k (Nat.lt_of_lt_of_le hk x.1) oM, x.2 k hk]⟩
theorem wcells_drop : ∀ (ws : List WD) (i : Nat), (wcells ws).drop (i * 3) = wcells (ws.drop i)
 | ws, 0 => by simp
 | [], i + 1 => by simp [wcells]
 | w :: l, i + 1 => by
   have ih := wcells_drop l i
   rw [show (i + 1) * 3 = 3 + i * 3 by omega, List.drop_succ_cons, ← ih, show wcells (w :: l) = w.cells ++ wcells l from rfl, ← List.drop_drop]
   rfl
def Wds (h : H) (v : V) (ws : List WD) : Prop := (v = .nilslice ∧ ws = []) ∨ ∃ b o m c e fl, v = .slice b o ws.length m ∧ b < h.nx ∧ h.get b = some (.cells c e fl) ∧ (∀ i (hi : i < ws.length), o + i * 3 + 3 ≤ c.length ∧ (c.drop (o + i * 3)).take 3 = ws[i].cells) ∧ e = 81 ∧ ws.length ≤ m
theorem Wds.but {h h' : H} {v : V} {ws : List WD} {r : Nat} (hw : Wds h v ws) (hx : But r h h') (hr : ∀ o n m, v ≠ .slice r o n m) : Wds h' v ws := by
 rcases hw with h1 | ⟨b, o, m, c, e, fl, rfl, hb, hg, hc⟩
 ·exact .inl h1
 ·exact .inr ⟨b, o, m, c, e, fl, rfl, Nat.lt_of_lt_of_le hb hx.1, by rw [hx.2 b hb fun e => hr o ws.length m (by rw [e])]; exact hg, hc⟩
theorem Wds.ext {h h' : H} {v : V} {ws : List WD} (hw : Wds h v ws) (hx : Ext h h') : Wds h' v ws := by
 rcases hw with h1 | ⟨b, o, m, c, e, fl, rfl, hb, hg, hc⟩
 ·exact .inl h1
 ·exact .inr ⟨b, o, m, c, e, fl, rfl, Nat.lt_of_lt_of_le hb hx.1, by rw [hx.2 b hb]; exact hg, hc⟩
theorem Wds.cell {h : H} {v : V} {ws : List WD} (hw : Wds h v ws) : v.isCell = true ∧ v.cells = [v] := by
 rcases hw with ⟨rfl, _⟩ | ⟨b, o, m, c, e, fl, rfl, _⟩ <;> exact ⟨rfl, rfl⟩
theorem Wds.len {h : H} {v : V} {ws : List WD} (hw : Wds h v ws) : lenO (some (.slice 81)) v = some (.int .i64 ws.length) := by
 rcases hw with ⟨rfl, rfl⟩ | ⟨b, o, m, c, e, fl, rfl, _⟩ <;> rfl
theorem Wds.get {h : H} {v : V} {ws : List WD} (hw : Wds h v ws) {i : Nat} (hi : i < ws.length) : ∃ b o m c e fl, v = .slice b o ws.length m ∧ b < h.nx ∧ h.get b = some (.cells c e fl) ∧ o + i * 3 + 3 ≤ c.length ∧ (c.drop (o + i * 3)).take 3 = ws[i].cells := by
 rcases hw with ⟨rfl, rfl⟩ | ⟨b, o, m, c, e, fl, rfl, hb, hg, hc⟩
 ·simp at hi
 ·exact ⟨b, o, m, c, e, fl, rfl, hb, hg, (hc.1 i hi).1, (hc.1 i hi).2⟩
theorem Wds.of_acc {n0 : Nat} {h : H} {v : V} {ws : List WD} (ha : Wx.Acc n0 h v (wcells ws) 81 3) : Wds h v ws := by
 rcases ha with ⟨rfl, hw⟩ | ⟨b, k, _, hb2, rfl, _, hg, hk⟩
 ·refine .inl ⟨rfl, ?_⟩
  have := wcells_len ws
  rw [hw] at this
  exact List.eq_nil_of_length_eq_zero (by simp at this; omega)
 ·have hl := wcells_len ws
  obtain rfl : k = ws.length := oM
  refine .inr ⟨b, 0, ws.length, wcells ws, 81, true, rfl, hb2, hg, fun i hi => ?_, rfl, Nat.le_refl _⟩
  refine ⟨by omega, ?_⟩
  rw [Nat.zero_add, wcells_drop, List.drop_eq_getElem_cons hi]
  rfl
theorem Wds.opened {h : H} {v : V} {ws : List WD} (hw : Wds h v ws) (h0 : 0 < ws.length) : ∃ b o m c fl, v = .slice b o ws.length m ∧ ws.length ≤ m ∧ b < h.nx ∧ h.get b = some (.cells c 81 fl) := by
 rcases hw with ⟨rfl, rfl⟩ | ⟨b, o, m, c, e, fl, rfl, hb, hg, hc, rfl, hm⟩
 ·cases h0
 ·exact ⟨b, o, m, c, fl, rfl, hm, hb, hg⟩
theorem Wds.part {h : H} {b o n m : Nat} {ws : List WD} (hw : Wds h (.slice b o n m) ws) (l k : Nat) (hlk : l + k ≤ ws.length) : Wds h (.slice b (o + l * 3) k (m - l)) ((ws.drop l).take k) := by
 rcases hw with ⟨q, _⟩ | ⟨b, o, m, c, e, fl, q, hb, hg, hc, rfl, hm⟩
 ·cases q
 ·cases q
  have hlen : ((ws.drop l).take k).length = k := by rw [List.length_take, List.length_drop]; omega
  refine .inr ⟨b, o + l * 3, m - l, c, 81, fl, by rw [hlen], hb, hg, fun i hi => ?_, rfl, by omega⟩
  rw [hlen] at hi
  have h1 := hc (l + i) oM
  have e1 : o + l * 3 + i * 3 = o + (l + i) * 3 := oM
  rw [e1]
  refine ⟨h1.1, h1.2.trans ?_⟩
  rw [List.getElem_take, List.getElem_drop]
theorem drop_ne {s : List Nat} {p : Nat} (h : p < s.length) : s.drop p ≠ [] := fun q => by have := congrArg List.length q; simp at this; omega
def Sorted (m : Nat) : Nat → List WD → Prop
 | p, [] => p ≤ m
 | p, w :: l => p ≤ w.at_ ∧ Sorted m (w.at_ + 1) l
theorem Sorted.snoc {m k : Nat} {w : WD} (hk : w.at_ < k) : ∀ {p : Nat} {l : List WD}, Sorted w.at_ p l → Sorted k p (l ++ [w])
 | p, [], h => ⟨h, hk⟩
 | p, x :: l, h => ⟨h.1, Sorted.snoc (m := m) hk h.2⟩
theorem Sorted.mono {m k : Nat} (hk : m ≤ k) : ∀ {p : Nat} {l : List WD}, Sorted m p l → Sorted k p l
 | p, [], h => Nat.le_trans h hk
 | p, x :: l, h => ⟨h.1, Sorted.mono hk h.2⟩
theorem allR_sorted {s : List Nat} (hb : Bytes s) : ∀ (f p : Nat) (acc ws : List WD), allR s f p acc = .inl ws → p ≤ s.length → Sorted p 0 acc → Sorted s.length 0 ws
 | 0, p, acc, ws, h, hp, hs => by
   rw [allR] at h
   injection h with h
   subst h
   exact hs.mono hp
 | f + 1, p, acc, ws, h, hp, hs => by
   rw [allR] at h
   split at h
   ·rename_i hpl
    split at h
    ·cases h
    ·split at h
     ·have := passF_le (drop_ne hpl)
      rw [List.length_drop] at this
      exact allR_sorted hb f _ _ _ h oM (hs.mono oM)
     ·split at h
      ·cases h
      ·rename_i h1 h2 h3
       have hn := wordD_pos (s := s.drop p) oM
       have hle := (wordD_ok (drop_ne hpl) (hb.drop p)).2.2
       rw [List.length_drop] at hle
       exact allR_sorted hb f _ _ _ h oM (Sorted.snoc (m := 0) (w := ⟨_, _, p⟩) (by show p < _; omega) hs)
   ·injection h with h
    subst h
    exact hs.mono hp
theorem allF_sorted {s : List Nat} {ws : List WD} (hb : Bytes s) (h : allF s = .inl ws) : Sorted s.length 0 ws := allR_sorted hb _ _ _ _ h (Nat.zero_le _) (Nat.le_refl _)
theorem Sorted.len {m : Nat} : ∀ {p : Nat} {l : List WD}, Sorted m p l → p + l.length ≤ m
 | p, [], h => h
 | p, w :: l, h => by have := Sorted.len h.2; have := h.1; simp only [List.length_cons]; omega
def isCut (w : WD) : Prop := w.kind = 5 ∧ w.text = [59]
instance (w : WD) : Decidable (isCut w) := inferInstanceAs (Decidable (_ ∧ _))
def wordsOf (s : List Nat) : List WD := if 1048576 < s.length then [] else match allF s with
 | .inl ws => ws
 | .inr _ => []
def faultE (s : List Nat) : Int := if 1048576 < s.length then 3 else match allF s with
 | .inl _ => 0
 | .inr (e, _) => e
def faultP (s : List Nat) : Int := if 1048576 < s.length then -1 else match allF s with
 | .inl _ => 0
 | .inr (_, p) => p
theorem allV_form {s : List Nat} {n0 : Nat} {h : H} {v : V} (hv : allV s n0 h v) : ∃ l, v = .tuple [l, .agg [.int .i64 (faultE s), .int .i64 (faultP s)]] ∧ Acc n0 h l (wcells (wordsOf s)) 81 3 := by
 unfold allV at hv
 unfold faultE faultP wordsOf
 by_cases hl : 1048576 < s.length
 ·rw [if_pos hl] at hv
  rw [if_pos hl, if_pos hl, if_pos hl]
  exact ⟨_, hv, .inl ⟨rfl, rfl⟩⟩
 ·rw [if_neg hl] at hv
  rw [if_neg hl, if_neg hl, if_neg hl]
  cases ha : allF s with
  | inl ws => rw [ha] at hv; exact hv
  | inr r => rw [ha] at hv; exact ⟨_, hv, .inl ⟨rfl, rfl⟩⟩
theorem allR_texts {s : List Nat} (hb : Bytes s) : ∀ (f p : Nat) (acc ws : List WD), allR s f p acc = .inl ws → (∀ w ∈ acc, Bytes w.text ∧ w.text.length ≤ s.length) → ∀ w ∈ ws, Bytes w.text ∧ w.text.length ≤ s.length
 | 0, p, acc, ws, h, ha => by
   rw [allR] at h
   cases h
   exact ha
 | f + 1, p, acc, ws, h, ha => by
   rw [allR] at h
   by_cases hp : p < s.length
   ·rw [if_pos hp] at h
    by_cases h1 : (passF (s.drop p)).2 ≠ 0
    ·rw [if_pos h1] at h; cases h
    rw [if_neg h1] at h
    by_cases h2 : 0 < (passF (s.drop p)).1
    ·rw [if_pos h2] at h
     exact allR_texts hb f _ _ _ h ha
    rw [if_neg h2] at h
    by_cases h3 : (wordD (s.drop p)).e ≠ 0
    ·rw [if_pos h3] at h; cases h
    rw [if_neg h3] at h
    refine allR_texts hb f _ _ _ h fun w hw => ?_
    rcases List.mem_append.1 hw with hw | hw
    ·exact ha w hw
    ·rw [List.mem_singleton.1 hw]
     have h0 : s.drop p ≠ [] := fun q => by have := congrArg List.length q; simp at this; omega
     have hk := wordD_ok h0 (hb.drop p)
     have hl := hk.2.1
     rw [List.length_drop] at hl
     exact ⟨hk.1, by show (wordD (s.drop p)).text.length ≤ _; omega⟩
   ·rw [if_neg hp] at h
    cases h
    exact ha
theorem wordsOf_ok {s : List Nat} (hb : Bytes s) : (wordsOf s).length ≤ 1048576 ∧ (wordsOf s).length ≤ s.length ∧ ∀ w ∈ wordsOf s, Bytes w.text ∧ w.text.length ≤ 1048576 := by
 unfold wordsOf
 by_cases hl : 1048576 < s.length
 ·rw [if_pos hl]
  exact ⟨by simp, by simp, fun w hw => by cases hw⟩
 ·rw [if_neg hl]
  cases ha : allF s with
  | inr r => exact ⟨by simp, by simp, fun w hw => by cases hw⟩
  | inl ws =>
    have h1 : ws.length ≤ s.length := by have := (allF_sorted hb ha).len; omega
    refine ⟨by show ws.length ≤ _; omega, h1, fun w hw => ?_⟩
    have := allR_texts hb _ _ _ _ ha (fun w hw => by cases hw) w hw
    exact ⟨this.1, by omega⟩
end
noncomputable section
abbrev KT := Nat × List Nat
def WD.kt (w : WD) : KT := (w.kind, w.text)
def lexR : Nat → List Nat → Option (List KT)
 | 0, _ => some []
 | f + 1, s => if s = [] then some [] else if (passF s).2 ≠ 0 then none else if 0 < (passF s).1 then lexR f (s.drop (passF s).1) else if (wordD s).e ≠ 0 then none else (lexR f (s.drop (wordD s).n)).map (((wordD s).kind, (wordD s).text) :: ·)
def lex (s : List Nat) : Option (List KT) := lexR (s.length + 1) s
theorem allR_lex {s : List Nat} (hb : Bytes s) : ∀ (f p : Nat) (acc : List WD), p ≤ s.length → s.length < p + f → (∀ l, lexR f (s.drop p) = some l → ∃ ws, allR s f p acc = .inl (acc ++ ws) ∧ ws.map WD.kt = l) ∧ (lexR f (s.drop p) = none → ∃ e q, allR s f p acc = .inr (e, q) ∧ e ≠ 0)
 | 0, p, acc, hp, h => by omega
 | f + 1, p, acc, hp, h => by
   rw [lexR, allR]
   by_cases hl : p < s.length
   ·have h0 : s.drop p ≠ [] := drop_ne hl
    have hdl : (s.drop p).length = s.length - p := List.length_drop
    rw [if_neg h0, if_pos hl]
    by_cases h1 : (passF (s.drop p)).2 ≠ 0
    ·rw [if_pos h1, if_pos h1]
     exact ⟨fun l q => (by cases q), fun _ => ⟨_, _, rfl, h1⟩⟩
    rw [if_neg h1, if_neg h1]
    have hpl := passF_le h0
    by_cases h2 : 0 < (passF (s.drop p)).1
    ·rw [if_pos h2, if_pos h2, List.drop_drop]
     exact allR_lex hb f _ acc oM oM
    rw [if_neg h2, if_neg h2]
    by_cases h3 : (wordD (s.drop p)).e ≠ 0
    ·rw [if_pos h3, if_pos h3]
     exact ⟨fun l q => (by cases q), fun _ => ⟨_, _, rfl, h3⟩⟩
    rw [if_neg h3, if_neg h3, List.drop_drop]
    have hp1 := wordD_pos (by omega : (wordD (s.drop p)).e = 0)
    have hwn : p + (wordD (s.drop p)).n ≤ s.length := by
     have := (wordD_ok h0 (hb.drop p)).2.2
     omega
    have ih := allR_lex hb f (p + (wordD (s.drop p)).n) (acc ++ [⟨(wordD (s.drop p)).kind, (wordD (s.drop p)).text, p⟩]) hwn oM
    refine ⟨fun l q => ?_, fun q => ?_⟩
    ·cases hx : lexR f (s.drop (p + (wordD (s.drop p)).n)) with
     | none => rw [hx] at q; cases q
     | some l' =>
       rw [hx] at q
       obtain ⟨ws, e1, e2⟩ := ih.1 l' hx
       refine ⟨⟨(wordD (s.drop p)).kind, (wordD (s.drop p)).text, p⟩ :: ws, by rw [e1]; simp, ?_⟩
       rw [List.map_cons, e2]
       exact Option.some.inj q
    ·cases hx : lexR f (s.drop (p + (wordD (s.drop p)).n)) with
     | none => exact ih.2 hx
     | some l' => rw [hx] at q; cases q
   ·have hd : s.drop p = [] := List.drop_eq_nil_of_le oM
    rw [if_pos hd, if_neg hl]
    exact ⟨fun l q => ⟨[], by simp, by cases q; rfl⟩, fun q => by cases q⟩
theorem words_lex {s : List Nat} (hb : Bytes s) (hs : s.length ≤ 1048576) : (∀ l, lex s = some l → faultE s = 0 ∧ faultP s = 0 ∧ (wordsOf s).map WD.kt = l) ∧ (lex s = none → ¬ faultE s = 0) := by
 have h := allR_lex hb (s.length + 1) 0 [] (Nat.zero_le _) oM
 rw [List.drop_zero] at h
 have hl : ¬ 1048576 < s.length := oM
 unfold faultE faultP wordsOf
 rw [if_neg hl, if_neg hl, if_neg hl]
 refine ⟨fun l q => ?_, fun q => ?_⟩
 ·obtain ⟨ws, e1, e2⟩ := h.1 l q
  have e : allF s = .inl ws := by unfold allF; rw [e1]; rfl
  rw [e]
  exact ⟨rfl, rfl, e2⟩
 ·obtain ⟨e, p, e1, e2⟩ := h.2 q
  have e' : allF s = .inr (e, p) := e1
  rw [e']
  show ¬ (e : Int) = 0
  omega
end
noncomputable section
end
noncomputable section
end
noncomputable section
end
noncomputable section
def Stays (d d' : FD) : Prop := d.e = 0 → d' = d
section
variable {c : Nat} (hc : isBlank c) (r : List Nat) {t : List Nat} (h0 : t ≠ [])
include hc h0
end
end
noncomputable section
end
noncomputable section
structure Turn (f : Nat → Nat) : Prop where
 hi : ∀ b, 128 ≤ b → f b = b
 lo : ∀ b, b < 128 → f b < 128
structure Case (f : Nat → Nat) : Prop extends Turn f where
 letter : ∀ b, b < 128 → (letterR (f b) ↔ letterR b)
 digit : ∀ b, isDigit (f b) ↔ isDigit b
 hex : ∀ b, isHex (f b) ↔ isHex b
 dot : ∀ b, f b = 46 ↔ b = 46
 zero : ∀ b, f b = 48 ↔ b = 48
 x : ∀ b, (f b = 120 ∨ f b = 88) ↔ (b = 120 ∨ b = 88)
 e : ∀ b, (f b = 101 ∨ f b = 69) ↔ (b = 101 ∨ b = 69)
 sign : ∀ b, (f b = 43 ∨ f b = 45) ↔ (b = 43 ∨ b = 45)
end
noncomputable section
end
noncomputable section
end
noncomputable section
end
noncomputable section
end
noncomputable section
def digN (u : Nat) : List Nat := toN (Lib.decDigits u)
theorem itoa_nat (u : Nat) : Lib.itoa (u : Int) = Lib.decDigits u := by
 unfold Lib.itoa
 rw [if_neg oM]
 rfl
def fieldsK : Nat → List (List Nat)
 | 1 => [[115,104,111,119], [112,111,111,108]]
 | 2 => [[115,104,111,119], [98,97,99,107,101,110,100,115]]
 | 3 => [[115,104,111,119], [99,108,105,101,110,116,115]]
 | 4 => [[115,104,111,119], [119,97,105,116,101,114,115]]
 | 5 => [[115,104,111,119], [100,105,103,101,115,116,115]]
 | 6 => [[115,101,116], [108,105,109,105,116], [61]]
 | 7 => [[112,97,117,115,101]]
 | 8 => [[114,101,115,117,109,101]]
 | 9 => [[107,105,108,108]]
 | 10 => [[115,104,117,116,100,111,119,110]]
 | _ => []
def glueB : List (List Nat) → List Nat
 | [] => []
 | [x] => x
 | x :: l => x ++ 32 :: glueB l
def wordsK (k : Nat) : List Nat := glueB (fieldsK k)
def numbK (k : Nat) : Prop := k = 6 ∨ k = 9
instance (k : Nat) : Decidable (numbK k) := inferInstanceAs (Decidable (_ ∨ _))
def numT (t : List Nat) : Option Nat := match Lib.atoiAll (toU t) with
 | .ok v => if toN (Lib.itoa v) = t ∧ 1 ≤ v ∧ v ≤ 999999999 then some v.toNat else none
 | _ => none
def sayR : List KT → List (List Nat) → Nat → Option (List (List Nat) × Nat)
 | [], said, n => some (said, n)
 | w :: r, said, n => if w.1 = 1 ∨ w.1 = 5 then sayR r (said ++ [w.2]) n else if w.1 = 4 ∧ r = [] then (match numT w.2 with
   | some v => sayR r said v
   | none => none) else none
def kindR : Nat → Nat → List (List Nat) → Nat → Option Nat
 | 0, _, _, _ => none
 | f + 1, k, said, n => if fieldsK k = said ∧ (numbK k ↔ 0 < n) then some k else kindR f (k + 1) said n
def cutS (l : List KT) : List KT := if l.getLast? = some (5, [59]) then l.dropLast else l
def readL (l : List KT) : Option (Nat × Nat) := match sayR (cutS l) [] 0 with
 | some (said, n) => (kindR 10 1 said n).map fun k => (k, n)
 | none => none
def readT (s : List Nat) : Option (Nat × Nat) := match lex s with
 | some l => readL l
 | none => none
def okO (k n : Nat) : Prop := (1 ≤ k ∧ k ≤ 10) ∧ ((numbK k ∧ 1 ≤ n ∧ n ≤ 999999999) ∨ (¬ numbK k ∧ n = 0))
def printO (k n : Nat) : List Nat := if numbK k then wordsK k ++ 32 :: digN n else wordsK k
end
open Int (reduceLE reduceLT reduceToNat)
open Nat (reduceLeDiff reduceEqDiff reduceAdd)
noncomputable section
structure StdA (S : Set0) : Prop extends StdF S where
 ownA : ∀ f, f ∈ [7, 6, 22, 24] → sums S.exts f = none
 itoa : sums S.exts 21 = some (pureM itoaV)
 atoi : sums S.exts 20 = some (atoiM 229 184)
 fieldsA : ∀ k, 1 ≤ k → k ≤ 10 → ∀ h : H, callW S.cfg nil1 23 [.str (wordsK k)] h fun v h' => v = .slice h.nx 0 (fieldsK k).length (fieldsK k).length ∧ h' = h.push (.cells ((fieldsK k).map V.str) 9 false)
 lives : ∀ h : H, Exact S.cfg 5 [] h (.bool true)
def numbZ (k : Int) : Prop := k = 6 ∨ k = 9
instance (k : Int) : Decidable (numbZ k) := inferInstanceAs (Decidable (_ ∨ _))
def okZ (k n : Int) : Prop := (1 ≤ k ∧ k < 11) ∧ ((numbZ k ∧ 1 ≤ n ∧ n ≤ 999999999) ∨ (¬ numbZ k ∧ n = 0))
instance (k n : Int) : Decidable (okZ k n) := inferInstanceAs (Decidable (_ ∧ _))
def wordsV (k : Int) : V := if 1 ≤ k ∧ k < 11 then .tuple [.str (wordsK k.toNat), bo True] else .tuple [.str [], bo False]
def printV (k n : Int) : V := if okZ k n then .tuple [.str (printO k.toNat n.toNat), .int .i64 0] else .tuple [.str [], .int .i64 2]
theorem lts : (1:Nat) < 11 ∧ (2:Nat) < 11 ∧ (3:Nat) < 11 ∧ (4:Nat) < 11 ∧ (5:Nat) < 11 ∧ (6:Nat) < 11 ∧ (7:Nat) < 11 ∧ (8:Nat) < 11 ∧ (9:Nat) < 11 ∧ (10:Nat) < 11 := dC
theorem wordsK_len {k : Nat} (h : k ≤ 10) : (wordsK k).length ≤ 13 := by
 have : ∀ j : Fin 11, (wordsK j.val).length ≤ 13 := dC
 exact this ⟨k, by omega⟩
theorem itoaF_len {n : Int} (h : -9223372036854775808 ≤ n) (h2 : n ≤ 9223372036854775807) : (itoaF n).length ≤ 21 := by
 unfold itoaF
 rw [toN_len]
 exact Lib.itoa_length_le n h h2
variable {S : Set0} (hS : StdA S)
include hS
theorem words_spec (k : Int) (h : H) : Pure S.cfg 22 [.int .i64 k] h fun v _ => v = wordsV k := by
 refine inn Tryz.func22 (hS.ownA _ dC) rfl rfl ?_
 by_cases h1 : k < 1
 ·refine ww1 (cj @Tryz.f22.eq_1 h1) ?_
  exact ⟨((Ext.refl h).push _).put (Nat.le_refl _) _, by unfold wordsV; rw [if_neg oM]⟩
 by_cases h2 : 11 ≤ k
 ·refine ww1 (cj @Tryz.f22.eq_1 <| cj h1 h2) ?_
  exact ⟨((Ext.refl h).push _).put (Nat.le_refl _) _, by unfold wordsV; rw [if_neg oM]⟩
 have hk : k = 1 ∨ k = 2 ∨ k = 3 ∨ k = 4 ∨ k = 5 ∨ k = 6 ∨ k = 7 ∨ k = 8 ∨ k = 9 ∨ k = 10 := oM
 rcases hk with rfl | rfl | rfl | rfl | rfl | rfl | rfl | rfl | rfl | rfl
 all_goals
  refine ww1 (cj @Tryz.f22.eq_1 lts) ?_
  exact ⟨((Ext.refl h).push _).put (Nat.le_refl _) _, by unfold wordsV; rw [if_pos oM]; rfl⟩
theorem numbered_spec (k : Int) (h : H) : Exact S.cfg 24 [.int .i64 k] h (bo (numbZ k)) := by
 refine inn Tryz.func24 (hS.ownA _ dC) rfl rfl ?_
 by_cases h1 : k = 6
 ·refine ww1 (cj @Tryz.f24.eq_1 h1) ?_
  exact congrArg bo (eq_true (.inl rfl)).symm
 ·refine ww1 (cj @Tryz.f24.eq_1 h1) ?_
  refine congrArg bo (propext ⟨.inr, fun q => ?_⟩)
  rcases q with q | q
  ·exact absurd q h1
  ·exact q
theorem print_spec (k n : Int) (h : H) : Pure S.cfg 7 [.agg [.int .i64 k, .int .i64 n]] h fun v _ => v = printV k n := by
 refine inn Tryz.func7 (hS.ownA _ dC) rfl rfl ?_
 refine ww1 @Tryz.f7.eq_1 ?_
 refine callF_pure (words_spec hS k _) ?_
 rintro v h1 hx1 rfl
 have hg1 : h1.get h.nx = some (Ob.cells [V.int IntKind.i64 k, V.int IntKind.i64 n] 24 false) := (hx1.2 h.nx (Nat.lt_succ_self _)).trans (push_eq rfl)
 have hx : Ext h h1 := ((Ext.refl h).push _).trans hx1
 have hn1 : h.nx < h1.nx := hx1.1
 by_cases hk : 1 ≤ k ∧ k < 11
 ·have e1 : wordsV k = .tuple [.str (wordsK k.toNat), bo True] := if_pos hk
  rw [e1]
  refine ww1 hg1 ?_
  refine callF_exact (numbered_spec hS k _) ?_
  by_cases hb : numbZ k
  ·have hK : numbK k.toNat := by rcases hb with rfl | rfl <;> decide
   by_cases n1 : n < 1
   ·refine ww1 (cj hg1 <| cj hb n1) ?_
    exact ⟨hx, (if_neg fun q => by rcases q.2 with q | q; omega; exact q.1 hb).symm⟩
   by_cases n2 : 999999999 < n
   ·refine ww1 (cj hg1 <| cj hb <| cj n1 n2) ?_
    exact ⟨hx, (if_neg fun q => by rcases q.2 with q | q; omega; exact q.1 hb).symm⟩
   refine ww1 (cj hg1 <| cj hb <| cj n1 n2) ?_
   have hw := wordsK_len (k := k.toNat) oM
   have hf := itoaF_len (n := n) oM oM
   have hw1 : (wordsK k.toNat).length ≤ 9223372036854775806 := oM
   have hw2 : (wordsK k.toNat).length + 1 + (itoaF n).length ≤ 9223372036854775807 := oM
   refine ⟨by omega, ?_⟩
   refine callF_exact (sum_exact hS.itoa (args := [.int .i64 n]) (v := .str (itoaF n)) (if_pos oM)) ?_
   refine ww1 (cj hg1 <| cj hb <| cj n1 <| cj n2 <| cj hw1 hw2) ?_
   refine ⟨hx, ?_⟩
   have e3 : itoaF n = digN n.toNat := by
    unfold itoaF digN
    conv => lhs; rw [show n = (n.toNat : Int) by omega]
    rw [itoa_nat]
   have e4 : printV k n = .tuple [.str (printO k.toNat n.toNat), .int .i64 0] := if_pos ⟨hk, .inl ⟨hb, by omega, by omega⟩⟩
   rw [e4, e3]
   unfold printO
   rw [if_pos hK]
   simp
  ·have hK : ¬ numbK k.toNat := fun q => hb (by unfold numbK at q; unfold numbZ; omega)
   by_cases n0 : n = 0
   ·refine ww1 (cj hg1 <| cj hb n0) ?_
    refine ⟨hx, ?_⟩
    subst n0
    have e4 : printV k 0 = .tuple [.str (printO k.toNat 0), .int .i64 0] := if_pos ⟨hk, .inr ⟨hb, rfl⟩⟩
    rw [e4]
    unfold printO
    rw [if_neg hK]
   ·refine ww1 (cj hg1 <| cj hb n0) ?_
    exact ⟨hx, (if_neg fun q => by rcases q.2 with q | q; exact hb q.1; exact n0 q.2).symm⟩
 ·have e1 : wordsV k = .tuple [.str [], bo False] := if_neg hk
  have e2 : printV k n = .tuple [.str [], .int .i64 2] := if_neg fun q => hk q.1
  rw [e1, e2]
  refine ww0 ?_
  exact hx
end
noncomputable section
def readV (s : List Nat) : V := match readT s with
 | some (k, n) => .tuple [.agg [.int .i64 k, .int .i64 n], .int .i64 0]
 | none => .tuple [.agg [.int .i64 0, .int .i64 0], .int .i64 5]
def RdI (hB h : H) (ob : Nat) (ws : List WD) (lv : V) (m : Nat) (env : Env) (h' : H) : Prop :=
 ∃ (i : Nat) (said : List (List Nat)) (sv : V) (n : Nat), m = ws.length - i ∧ i ≤ ws.length ∧ env 2 = .ptr h.nx 0 ∧ env 3 = .int .i64 0 ∧ env 4 = lv ∧ env 7 = sv ∧ env 8 = .ptr ob 0 ∧ env 54 = lv ∧ env 55 = .int .i64 ws.length ∧ env 56 = .int .i64 i ∧ But ob hB h' ∧ h'.get ob = some (.cells [.int .i64 0, .int .i64 n] 24 false) ∧ Lst (ob + 1) h' sv (said.map V.str) 9 1 ∧ said.length ≤ i ∧ n ≤ 999999999 ∧ sayR ((ws.drop i).map WD.kt) said n = sayR (ws.map WD.kt) [] 0
theorem cut_no {l : List KT} (h : ¬ l.getLast? = some (5, [59])) : cutS l = l := if_neg h
theorem cut_yes {l : List KT} (h : l.getLast? = some (5, [59])) : cutS l = l.dropLast := if_pos h
theorem cells_get {c : List V} {k : Nat} {w : WD} (h : (c.drop k).take 3 = w.cells) : c[k]? = some (.int .i64 w.kind) ∧ c[k + 1]? = some (.str w.text) := by
 have h0 := congrArg (fun l : List V => l[0]?) h
 have h1 := congrArg (fun l : List V => l[1]?) h
 simp only [List.getElem?_take, List.getElem?_drop, WD.cells] at h0 h1
 exact ⟨h0, h1⟩
theorem face_nn : binV Tryz.prog .neq 83 (constO (.tmp 91) || constO (.const .nilIface)) .nilIface .nilIface = some (bo False) := by
 have : binV Tryz.prog .neq 83 (constO (.tmp 91) || constO (.const .nilIface)) .nilIface .nilIface = some (.bool false) := kR
 rw [this]; unfold bo; simp
theorem neq_bo (P Q : Prop) : binV Tryz.prog .neq 4 (constO (.tmp 130) || constO (.tmp 133)) (bo P) (bo Q) = some (bo (¬ (P ↔ Q))) := by
 have h : ∀ a b : Bool, binV Tryz.prog .neq 4 (constO (.tmp 130) || constO (.tmp 133)) (.bool a) (.bool b) = some (.bool (a != b)) := by
  intro a b
  cases a <;> cases b <;> kernel_rfl
 unfold bo
 rw [h]
 by_cases p : P <;> by_cases q : Q <;> simp [p, q]
theorem face_in (q : Bool) (t : TypeId) (v : V) : binV Tryz.prog .neq 83 q (.iface t v) .nilIface = some (bo True) := by
 have : binV Tryz.prog .neq 83 q (.iface t v) .nilIface = some (.bool true) := by cases q <;> kernel_rfl
 rw [this]; unfold bo; simp
theorem atoi_range {l : List UInt8} {v : Int} (h : Lib.atoiAll l = .ok v) : -9223372036854775808 ≤ v ∧ v ≤ 9223372036854775807 := by
 unfold Lib.atoiAll at h
 split at h
 ·cases h
 ·simp only at h
  split at h
  ·cases h
  ·cases h
  ·split at h
   ·cases h
   ·split at h
    ·cases h
    ·injection h with h
     split at h <;> omega
theorem wordsOf_len {s : List Nat} (hb : Bytes s) : ∀ w ∈ wordsOf s, w.text.length ≤ s.length := by
 unfold wordsOf
 by_cases hl : 1048576 < s.length
 ·rw [if_pos hl]
  exact fun w hw => by cases hw
 ·rw [if_neg hl]
  cases ha : allF s with
  | inr r => exact fun w hw => by cases hw
  | inl ws => exact fun w hw => (allR_texts hb _ _ _ _ ha (fun w hw => by cases hw) w hw).2
def AtoiV (t : List Nat) (v : V) : Prop := match Lib.atoiAll (toU t) with
 | .ok x => v = .tuple [.int .i64 x, .nilIface]
 | .range => ∃ p, v = .tuple [.int .i64 (Lib.atoiSat (toU t)), .iface 184 p]
 | _ => ∃ p, v = .tuple [.int .i64 0, .iface 184 p]
theorem nice_atoiM (t : List Nat) : Nice (atoiM 229 184 [.str t]) := by
 unfold atoiM
 refine Nice.cond ?_ (Nice.err _)
 split
 ·exact Nice.ret _
 ·exact Nice.bnd (Nice.alloc _) fun _ => Nice.ret _
 ·exact Nice.bnd (Nice.alloc _) fun _ => Nice.ret _
theorem lst_stay {n0 e sz : Nat} {v : V} {cells : List V} {h h' : H} (ha : Lst n0 h v cells e sz) (hn : h.nx ≤ h'.nx) (hk : ∀ k, n0 ≤ k → k < h.nx → h'.get k = h.get k) : Lst n0 h' v cells e sz := by
 rcases ha with (ha | ⟨b, n, h1, h2, h3, h4, h5, h6⟩) | ⟨h1, b, h2, h3, h4, h5⟩
 ·exact .inl (.inl ha)
 ·exact .inl (.inr ⟨b, n, h1, by omega, h3, h4, by rw [hk b h1 h2]; exact h5, h6⟩)
 ·exact .inr ⟨h1, b, h2, by omega, h4, by rw [hk b h2 h3]; exact h5⟩
theorem lst_len {n0 : Nat} {h : H} {sv : V} {said : List (List Nat)} (hL : Lst n0 h sv (said.map V.str) 9 1) : lenO (some (.slice 9)) sv = some (.int .i64 said.length) := by
 rcases hL with (⟨rfl, hw⟩ | ⟨b, k, _, _, rfl, _, _, hk⟩) | ⟨hw, b, _, _, rfl, _⟩
 ·rw [List.map_eq_nil_iff.1 hw]; rfl
 ·rw [List.length_map, Nat.mul_one] at hk; rw [hk]; rfl
 ·rw [List.map_eq_nil_iff.1 hw]; rfl
theorem lst_row {n0 : Nat} {h : H} {sv : V} {said : List (List Nat)} (hL : Lst n0 h sv (said.map V.str) 9 1) (h0 : 0 < said.length) : ∃ b, sv = .slice b 0 said.length said.length ∧ n0 ≤ b ∧ b < h.nx ∧ h.get b = some (.cells (said.map V.str) 9 true) := by
 rcases hL with (⟨rfl, hw⟩ | ⟨b, k, h1, h2, rfl, _, h3, hk⟩) | ⟨hw, b, _, _, rfl, _⟩
 ·rw [List.map_eq_nil_iff.1 hw] at h0; cases h0
 ·rw [List.length_map, Nat.mul_one] at hk; subst hk; exact ⟨b, rfl, h1, h2, h3⟩
 ·rw [List.map_eq_nil_iff.1 hw] at h0; cases h0
def KdI (h3 h : H) (ob : Nat) (said : List (List Nat)) (sv : V) (n : Nat) (m : Nat) (env : Env) (h' : H) : Prop :=
 ∃ (k : Nat), m = 11 - k ∧ 1 ≤ k ∧ k ≤ 11 ∧ env 2 = .ptr h.nx 0 ∧ env 7 = sv ∧ env 8 = .ptr ob 0 ∧ env 13 = .int .i64 k ∧ Ext h3 h' ∧ kindR (11 - k) k said n = kindR 10 1 said n
def FdI (h6 h : H) (ob : Nat) (said : List (List Nat)) (sv : V) (k b : Nat) (m : Nat) (env : Env) (h' : H) : Prop :=
 ∃ (j : Nat), m = said.length - j ∧ j ≤ said.length ∧ env 2 = .ptr h.nx 0 ∧ env 7 = sv ∧ env 8 = .ptr ob 0 ∧ env 13 = .int .i64 k ∧ env 16 = .slice b 0 said.length said.length ∧ env 137 = .int .i64 said.length ∧ env 138 = .int .i64 j ∧ h' = h6 ∧ (fieldsK k).take j = said.take j
variable {S : Set0} (hS : StdA S)
include hS
theorem atoi_spec (t : List Nat) (ht : t.length ≤ 100000) (h : H) : Pure S.cfg 20 [.str t] h fun v _ => AtoiV t v := by
 have hl : Nat.ble t.length 100000 = true := ble_iff.2 ht
 have hm : atoiM 229 184 [.str t] = (match Lib.atoiAll (toU t) with
  | .ok v => Lx.ret (.tuple [.int .i64 v, .nilIface])
  | .range => Lx.bnd (alloc (.cells [] 229 true)) fun k => Lx.ret (.tuple [.int .i64 (Lib.atoiSat (toU t)), .iface 184 (.ptr k 0)])
  | _ => Lx.bnd (alloc (.cells [] 229 true)) fun k => Lx.ret (.tuple [.int .i64 0, .iface 184 (.ptr k 0)])) := by
  show (bif Nat.ble t.length 100000 then _ else _) = _
  rw [hl]; rfl
 cases hA : Lib.atoiAll (toU t) with
 | ok x =>
   refine callW_sum (s := h.st) hS.atoi (nice_atoiM t) (v := .tuple [.int .i64 x, .nilIface]) ?_ LogOk_nil ⟨Ext.refl _, ?_⟩
   ·rw [hm, hA]; rfl
   ·unfold AtoiV; rw [hA]
 | range =>
   refine callW_sum hS.atoi (nice_atoiM t) (v := .tuple [.int .i64 (Lib.atoiSat (toU t)), .iface 184 (.ptr h.nx 0)]) (by rw [hm, hA]; rfl) (fun e he _ => by rw [List.mem_singleton.1 (show e ∈ [Lx.LE.wrd h.nx] from he)]; exact .inl (Nat.le_refl _)) ?_
   refine ⟨show Ext h (h.push (.cells [] 229 true)) from (Ext.refl h).push _, ?_⟩
   unfold AtoiV; rw [hA]; exact ⟨_, rfl⟩
 | _ =>
   refine callW_sum hS.atoi (nice_atoiM t) (v := .tuple [.int .i64 0, .iface 184 (.ptr h.nx 0)]) (by rw [hm, hA]; rfl) (fun e he _ => by rw [List.mem_singleton.1 (show e ∈ [Lx.LE.wrd h.nx] from he)]; exact .inl (Nat.le_refl _)) ?_
   refine ⟨show Ext h (h.push (.cells [] 229 true)) from (Ext.refl h).push _, ?_⟩
   unfold AtoiV; rw [hA]; exact ⟨_, rfl⟩
theorem read_spec (s : List Nat) (h : H) (hb : Bytes s) (hs3 : s.length ≤ 100000) : Pure S.cfg 6 [.str s] h fun v _ => v = readV s := by
 have hs : s.length ≤ 1048576 := oM
 refine inn Tryz.func6 (hS.ownA _ dC) rfl rfl ?_
 refine ww1 @Tryz.f6.eq_1 ?_
 refine run_scope ?_
 refine ww0 ?_
 refine callF_pure (all_spec hS.toStdF s _ hb oM) ?_
 intro v h1 hx1 hv
 obtain ⟨lv, rfl, hA1⟩ := allV_form hv
 obtain ⟨w1, w2⟩ := words_lex hb hs
 have hn1 : h.nx < h1.nx := hx1.1
 have hg1 : h1.get h.nx = some (Ob.cells [V.int IntKind.i64 0, V.int IntKind.i64 0] 24 false) := (hx1.2 h.nx (Nat.lt_succ_self _)).trans (push_eq rfl)
 have hx : Ext h h1 := ((Ext.refl h).push _).trans hx1
 obtain ⟨p1, p2⟩ := hA1.cell
 have hne : ¬ h.nx = h1.nx := oM
 by_cases hf : faultE s = 0
 ·cases hl : lex s with
  | none => exact absurd hf (w2 hl)
  | some l =>
  obtain ⟨_, hf2, hw⟩ := w1 l hl
  have hW1 := Wds.of_acc hA1
  have hc := hW1.len
  refine wr1 (cj hf <| cj p1 <| cj p2 <| cj hne hg1) ?_
  refine ⟨.inr oM, ?_⟩
  obtain ⟨h2, hh2⟩ : ∃ h2, h2 = (h1.push (Ob.cells [V.int IntKind.i64 0, V.int IntKind.i64 0] 77 false)).put h1.nx (Ob.cells [V.int IntKind.i64 0, V.int IntKind.i64 (faultP s)] 77 false) := ⟨_, rfl⟩
  rw [← hh2]
  have hn2 : h2.nx = h1.nx + 1 := by rw [hh2]; rfl
  have hx12 : Ext h1 h2 := by rw [hh2]; exact Ext.new _ _ _
  have hW2 := hW1.ext hx12
  have hx2 : Ext h h2 := hx.trans hx12
  have hg2 : h2.get h.nx = some (Ob.cells [V.int IntKind.i64 0, V.int IntKind.i64 0] 24 false) := by rw [hx12.2 _ oM]; exact hg1
  clear hh2
  refine cond_no (p := False) (by exact wv0) (fun q => q) ?_
  rw [run_skip, kont_seq, run_seq]
  refine run_cut (fun env' h' => h' = h2 ∧ ∃ lv' ws', env' 2 = .ptr h.nx 0 ∧ env' 3 = .int .i64 0 ∧ env' 4 = lv' ∧ Wds h2 lv' ws' ∧ ws'.map WD.kt = cutS l) ?_ ?_
  ·have hlen := (wordsOf_ok hb).1
   by_cases h0 : (wordsOf s).length = 0
   ·have hws : wordsOf s = [] := List.eq_nil_of_length_eq_zero h0
    have hnp : ¬ 0 < (wordsOf s).length := oM
    refine ww1 (cj hc <| cj hnp @gOp_no) ?_
    refine ⟨lv, wordsOf s, rfl, hW2, ?_⟩
    rw [hws] at hw ⊢
    rw [← hw]
    exact (cut_no (by simp)).symm
   obtain ⟨b, o, m, c, fl, rfl, hm, hbn, hgb⟩ := hW2.opened oM
   obtain ⟨b', o', m', c', e', fl', q1, hb', hg', w0, w3⟩ := hW2.get (i := (wordsOf s).length - 1) oM
   cases q1
   rw [hgb] at hg'
   cases hg'
   obtain ⟨k0, k1⟩ := cells_get w3
   have hwr : IntKind.i64.wrap (((wordsOf s).length : Int) - 1) = (((wordsOf s).length - 1 : Nat) : Int) := by rw [i64_in _ oM]; omega
   have hlt : (wordsOf s).length - 1 < (wordsOf s).length := oM
   have hpos : 0 < (wordsOf s).length := oM
   have hlast : l.getLast? = some (((wordsOf s)[(wordsOf s).length - 1]).kt) := by
    rw [← hw, List.getLast?_map, List.getLast?_eq_getElem?, List.getElem?_eq_getElem hlt]
    rfl
   by_cases hk : ((wordsOf s)[(wordsOf s).length - 1]).kind = 5
   ·by_cases ht : ((wordsOf s)[(wordsOf s).length - 1]).text = [59]
    ·refine ww1 (cj hpos <| cj hwr <| cj hlt <| cj hgb <| cj k0 <| cj k1 <| cj hk ht) ?_
     refine slice_row (e := 81) (sz := 3) (b := b) (o := o) (n := (wordsOf s).length) (m := m) (l := 0) (hh := (wordsOf s).length - 1) (mm := m) kR sz81 (by exact wv0) (by rw [hgb]; rfl) (fun _ => rfl) (by refine ww0 ?_; exact bounds_hi oM) oM ?_
     refine ww0 ?_
     refine ⟨_, _, rfl, hW2.part 0 ((wordsOf s).length - 1) oM, ?_⟩
     rw [cut_yes (by rw [hlast]; exact congrArg some (Prod.ext hk ht)), ← hw, List.dropLast_eq_take, List.length_map, List.drop_zero, List.map_take]
    ·refine ww1 (cj hpos <| cj hwr <| cj hlt <| cj hgb <| cj k0 <| cj k1 <| cj hk ht) ?_
     refine ⟨_, _, rfl, hW2, ?_⟩
     rw [cut_no (by rw [hlast]; exact fun q => ht (congrArg Prod.snd (Option.some.inj q))), hw]
   ·refine ww1 (cj hpos <| cj hwr <| cj hlt <| cj hgb <| cj k0 <| cj k1 hk) ?_
    refine ⟨_, _, rfl, hW2, ?_⟩
    rw [cut_no (by rw [hlast]; exact fun q => hk (congrArg Prod.fst (Option.some.inj q))), hw]
  ·rintro env' h' ⟨rfl, lv', ws', e2, e3, e4, hW, hcut⟩
   have hwl : ws'.length ≤ 1048576 := by
    have q1 : ws'.length = (cutS l).length := by rw [← hcut, List.length_map]
    have q2 : (cutS l).length ≤ l.length := by unfold cutS; split; simp; exact Nat.le_refl _
    have q3 : l.length = (wordsOf s).length := by rw [← hw, List.length_map]
    have := (wordsOf_ok hb).1
    omega
   obtain ⟨c1, c2⟩ := hW.cell
   have c3 := hW.len
   refine ww1 (cj e2 <| cj e3 <| cj e4 <| cj c1 <| cj c2 c3) ?_
   refine ⟨.inr oM, ?_⟩
   obtain ⟨hB, hhB⟩ : ∃ hB, hB = (h'.push (Ob.cells [V.int IntKind.i64 0, V.int IntKind.i64 0] 24 false)).put h'.nx (Ob.cells [V.int IntKind.i64 0, V.int IntKind.i64 0] 24 false) := ⟨_, rfl⟩
   rw [← hhB]
   obtain ⟨ob, hob⟩ : ∃ ob, ob = h'.nx := ⟨_, rfl⟩
   rw [← hob]
   have hnB : hB.nx = ob + 1 := by rw [hhB, hob]; rfl
   have hx2B : Ext h' hB := by rw [hhB]; exact Ext.new _ _ _
   have hWB := hW.ext hx2B
   have hxB : Ext h hB := hx2.trans hx2B
   have hgB : hB.get h.nx = some (Ob.cells [V.int IntKind.i64 0, V.int IntKind.i64 0] 24 false) := by rw [hx2B.2 _ oM]; exact hg2
   have hoB : hB.get ob = some (Ob.cells [V.int IntKind.i64 0, V.int IntKind.i64 0] 24 false) := by rw [hhB, hob]; exact put_eq rfl
   have hlo : h.nx < ob := oM
   have hlb : ∀ o n m, lv' ≠ .slice ob o n m := fun o n m q => by
    rcases hW with ⟨q1, _⟩ | ⟨b, o', m', c, e, fl, q1, hbn, _⟩
    ·rw [q1] at q; cases q
    ·rw [q1] at q; cases q; omega
   clear hhB hW hx2B
   have hend : ∀ v, readT s = v → readV s = (match v with | some (k, n) => .tuple [.agg [.int .i64 (k : Nat), .int .i64 (n : Nat)], .int .i64 0] | none => .tuple [.agg [.int .i64 0, .int .i64 0], .int .i64 5]) := fun v q => by rw [← q]; rfl
   have hrl : readT s = readL l := by unfold readT; rw [hl]
   refine run_loop (RdI hB h ob ws' lv') ws'.length ⟨0, [], .nilslice, 0, by refine ww1 (cj e2 <| cj e3 e4) ?_; exact ⟨(Nat.sub_zero _).symm, But.refl _ _, hoB, .inl (.inl ⟨rfl, rfl⟩)⟩⟩ ?_
   rintro m env2 h3 ⟨i, said, sv, n, rfl, hi, f2, f3, f4, f7, f8, f54, f55, f56, hB3, go, hL, hsl, hn9, hsay⟩
   have hw3 := hWB.but hB3 hlb
   have hx3 : Ext h h3 := Ext.but hxB hB3 oM
   have hn3 : ob < h3.nx := by have := hB3.1; omega
   have hg3 : h3.get h.nx = some (Ob.cells [V.int IntKind.i64 0, V.int IntKind.i64 0] 24 false) := by rw [hB3.2 _ oM oM]; exact hgB
   by_cases hlt : i < ws'.length
   ·have hd : ws'.drop i = ws'[i] :: ws'.drop (i + 1) := List.drop_eq_getElem_cons hlt
    rw [hd, List.map_cons, sayR, show ws'[i].kt = (ws'[i].kind, ws'[i].text) from rfl] at hsay
    simp only at hsay
    obtain ⟨b, o, m, c, e, fl, rfl, hbn, hgb, w0, w3⟩ := hw3.get hlt
    have hwi : IntKind.i64.wrap ((i : Int) + 1) = ((i + 1 : Nat) : Int) := by rw [i64_in _ oM]; omega
    have nb : ¬ b = h3.nx := oM
    have n1 : ¬ h.nx = h3.nx := oM
    have n2 : ¬ ob = h3.nx := oM
    by_cases hk : ws'[i].kind = 1 ∨ ws'[i].kind = 5
    ·rw [if_pos hk] at hsay
     rcases hk with hk | hk
     all_goals
      refine ww1 (cj f2 <| cj f3 <| cj f4 <| cj f7 <| cj f8 <| cj f54 <| cj f55 <| cj f56 <| cj hlt <| cj hgb <| cj w0 <| cj w3 <| cj @WD.cells.eq_1 <| cj nb <| cj n1 <| cj n2 hk) ?_
      refine ⟨.inr oM, ?_⟩
      obtain ⟨hA, hhA⟩ : ∃ hA, hA = ((h3.push (Ob.cells [V.int IntKind.i64 0, V.str [], V.int IntKind.i64 0] 81 false)).put h3.nx (Ob.cells [V.int IntKind.i64 (ws'[i].kind : Nat), V.str ws'[i].text, V.int IntKind.i64 ws'[i].at_] 81 false)).push (Ob.cells [V.str ws'[i].text] 9 false) := ⟨_, rfl⟩
      rw [hk] at hhA
      rw [← hhA]
      have hnA : hA.nx = h3.nx + 2 := by rw [hhA]; rfl
      have hxA : Ext h3 hA := by rw [hhA]; exact (Ext.new _ _ _).push _
      have hgA : hA.get (h3.nx + 1) = some (Ob.cells [V.str ws'[i].text] 9 false) := by rw [hhA]; exact push_eq rfl
      clear hhA
      refine append_lst (n0 := ob + 1) (sv := sv) (xv := .slice (h3.nx + 1) 0 1 1) (cells := said.map V.str) (new := [.str ws'[i].text]) ?_ ?_ ap38 ⟨.slice 9, by kernel_rfl, rfl⟩ (hL.ext hxA) (.inr ⟨h3.nx + 1, 0, 1, 1, rfl, by omega, by rw [hgA]; exact rdC_all rfl, rfl⟩) rfl ?_ dC (fun k hk => by rw [fresh_def]; exact .inl oM) oM ?_
      ·exact wv1 f7
      ·exact wv0
      ·rw [List.length_map]; simp only [List.length_cons, List.length_nil]; omega
      intro v4 h4 L4 hl4 hn4 hk4 hf4 hL4
      have hq4 : ∀ k, k < ob + 1 → h4.get k = h3.get k := fun k hk => by rw [hf4 k hk, hxA.2 k oM]
      refine ww1 (cj f2 <| cj f3 <| cj f4 <| cj f7 <| cj f8 <| cj f54 <| cj f55 f56) ?_
      refine ⟨ws'.length - (i + 1), by omega, i + 1, said ++ [ws'[i].text], v4, n, rfl, hlt, by exact wv1 f2, by exact wv1 f3, by exact wv1 f4, by exact wv0, by exact wv1 f8, by exact wv1 f54, by exact wv1 f55, by exact wv1 (cj f56 hwi), ⟨by omega, fun k hk hne => by rw [hq4 k oM]; exact hB3.2 k hk hne⟩, by rw [hq4 ob oM]; exact go, by rw [List.map_append]; exact hl4, by rw [List.length_append]; simp only [List.length_cons, List.length_nil]; omega, hn9, hsay⟩
    ·rw [if_neg hk] at hsay
     have hk1 : ¬ ws'[i].kind = 1 := fun q => hk (.inl q)
     have hk5 : ¬ ws'[i].kind = 5 := fun q => hk (.inr q)
     have hlast : (ws'.drop (i + 1)).map WD.kt = [] ↔ i + 1 = ws'.length := by
      rw [List.map_eq_nil_iff, List.drop_eq_nil_iff]; omega
     have hwr : IntKind.i64.wrap ((ws'.length : Int) - 1) = ((ws'.length - 1 : Nat) : Int) := by rw [i64_in _ oM]; omega
     have hbad : sayR (ws'.map WD.kt) [] 0 = none → readV s = .tuple [.agg [.int .i64 0, .int .i64 0], .int .i64 5] := fun q => hend none (by rw [hrl]; unfold readL; rw [← hcut, q])
     by_cases hk4 : ws'[i].kind = 4
     ·by_cases hil : i + 1 = ws'.length
      ·rw [if_pos ⟨hk4, hlast.2 hil⟩] at hsay
       have hil' : (((i : Nat) : Int) = ((ws'.length - 1 : Nat) : Int)) = True := eq_true oM
       refine ww1 (cj f2 <| cj f3 <| cj f4 <| cj f7 <| cj f8 <| cj f54 <| cj f55 <| cj f56 <| cj hlt <| cj hgb <| cj w0 <| cj w3 <| cj @WD.cells.eq_1 <| cj nb <| cj n1 <| cj n2 <| cj hk4 <| cj hil' hwr) ?_
       refine ⟨.inr oM, ?_⟩
       have htx : ws'[i].text.length ≤ 100000 := by
        have q1 : ws'[i].kt ∈ l := by
         have q2 : ws'[i].kt ∈ cutS l := by rw [← hcut]; exact List.mem_map_of_mem (List.getElem_mem hlt)
         unfold cutS at q2
         split at q2
         ·rw [List.dropLast_eq_take] at q2; exact List.mem_of_mem_take q2
         ·exact q2
        rw [← hw] at q1
        obtain ⟨w, q2, q3⟩ := List.mem_map.1 q1
        have := wordsOf_len hb w q2
        have q4 : w.text = ws'[i].text := congrArg Prod.snd q3
        rw [← q4]; omega
       refine callF_pure (atoi_spec hS _ htx _) ?_
       intro v5 h5 hx5 hv5
       have hx35 : Ext h3 h5 := (Ext.new h3 _ _).trans hx5
       have hg5 : h5.get h3.nx = some (.cells [.int .i64 (4 : Nat), .str ws'[i].text, .int .i64 ws'[i].at_] 81 false) := by rw [hx5.2 _ (by show h3.nx < h3.nx + 1; omega)]; exact put_eq rfl
       have hgr : h5.get h.nx = some (Ob.cells [V.int IntKind.i64 0, V.int IntKind.i64 0] 24 false) := by rw [hx35.2 _ oM]; exact hg3
       have hgo : h5.get ob = some (Ob.cells [V.int IntKind.i64 0, V.int IntKind.i64 n] 24 false) := by rw [hx35.2 _ oM]; exact go
       have hn5 : h3.nx + 1 ≤ h5.nx := hx5.1
       cases hA : Lib.atoiAll (toU ws'[i].text) with
       | ok x =>
         have e5 : v5 = .tuple [.int .i64 x, .nilIface] := by unfold AtoiV at hv5; rw [hA] at hv5; exact hv5
         subst e5
         obtain ⟨x1, x2⟩ := atoi_range hA
         refine wr1 (cj face_nn hg5) ?_
         refine draw_by [(4, 6)] kR ?_
         refine wr1 (cj face_nn hg5) ?_
         refine callF_exact (sum_exact hS.itoa (args := [.int .i64 x]) (v := .str (itoaF x)) (if_pos ⟨x1, x2⟩)) ?_
         have hnum : numT ws'[i].text = if itoaF x = ws'[i].text ∧ 1 ≤ x ∧ x ≤ 999999999 then some x.toNat else none := by unfold numT; rw [hA]; rfl
         have hap : ∀ l : List Lx.LE, (∀ e ∈ l, e.isW = false ∧ blkOf e = h3.nx) → fpApart (.cl h5.nx h5.nx nil1) (.lg l) := fun l q e he => .inr ⟨(q e he).1, by have := (q e he).2; omega, fun w => w⟩
         have hpr : ∀ (p : Nat × Nat), p ∈ [(4, 6)] → ∀ (a b : Fp), [Fp.lg [], Fp.lg [], Fp.lg [], Fp.lg [], Fp.cl h5.nx h5.nx nil1, Fp.lg [], Fp.lg (ldL (some (1, false)) (V.ptr h3.nx 1)), Fp.lg [], Fp.lg [], Fp.lg [], Fp.lg [], Fp.lg [], Fp.lg [], Fp.lg [], Fp.lg [], Fp.lg [], Fp.lg []][p.fst]? = some a → [Fp.lg [], Fp.lg [], Fp.lg [], Fp.lg [], Fp.cl h5.nx h5.nx nil1, Fp.lg [], Fp.lg (ldL (some (1, false)) (V.ptr h3.nx 1)), Fp.lg [], Fp.lg [], Fp.lg [], Fp.lg [], Fp.lg [], Fp.lg [], Fp.lg [], Fp.lg [], Fp.lg [], Fp.lg []][p.snd]? = some b → fpApart a b := fun p hp => by
          rw [List.mem_singleton.1 hp]
          exact pair_one rfl rfl (hap _ fun e he => by rw [List.mem_singleton.1 (show e ∈ [_] from he)]; exact ⟨rfl, rfl⟩)
         by_cases ht : itoaF x = ws'[i].text
         ·by_cases x3 : x < 1
          ·rw [if_neg (fun q => by omega)] at hnum
           rw [hnum] at hsay
           refine ww1 (cj face_nn <| cj hg5 <| cj ht <| cj x3 <| cj f2 hgr) ?_
           exact ⟨hpr, (hx3.trans hx35).put (Nat.le_refl _) _, (hbad hsay.symm).symm⟩
          by_cases x4 : 999999999 < x
          ·rw [if_neg (fun q => by omega)] at hnum
           rw [hnum] at hsay
           refine ww1 (cj face_nn <| cj hg5 <| cj ht <| cj x3 <| cj x4 <| cj f2 hgr) ?_
           exact ⟨hpr, (hx3.trans hx35).put (Nat.le_refl _) _, (hbad hsay.symm).symm⟩
          rw [if_pos ⟨ht, by omega, by omega⟩] at hnum
          rw [hnum] at hsay
          refine ww1 (cj face_nn <| cj hg5 <| cj ht <| cj x3 <| cj x4 <| cj f2 <| cj f8 <| cj f56 <| cj hwi hgo) ?_
          have hn35 := hx35.1
          refine ⟨hpr, .inr oM, ws'.length - (i + 1), by omega, i + 1, said, sv, x.toNat, rfl, hlt, by exact wv1 f2, by exact wv1 f3, by exact wv1 f4, by exact wv1 f7, by exact wv1 f8, by exact wv1 f54, by exact wv1 f55, by exact wv1 f56, ⟨by show hB.nx ≤ h5.nx; omega, fun k hk hne => by rw [put_ne hne, hx35.2 k oM]; exact hB3.2 k hk hne⟩, by rw [put_eq rfl, show ((x.toNat : Nat) : Int) = x by omega], lst_stay (hL.ext hx35) (Nat.le_refl _) fun k hk _ => put_ne oM, by omega, by omega, hsay⟩
         ·rw [if_neg (fun q => ht q.1)] at hnum
          rw [hnum] at hsay
          refine ww1 (cj face_nn <| cj hg5 <| cj ht <| cj f2 hgr) ?_
          exact ⟨hpr, (hx3.trans hx35).put (Nat.le_refl _) _, (hbad hsay.symm).symm⟩
       | range =>
         obtain ⟨p, e5⟩ : ∃ p, v5 = .tuple [.int .i64 (Lib.atoiSat (toU ws'[i].text)), .iface 184 p] := by unfold AtoiV at hv5; rw [hA] at hv5; exact hv5
         subst e5
         refine wr1 (cj face_in hg5) ?_
         refine draw_by [(4, 6)] kR ?_
         have hnum : numT ws'[i].text = none := by unfold numT; rw [hA]
         rw [hnum] at hsay
         refine ww1 (cj face_in <| cj hg5 <| cj f2 hgr) ?_
         refine ⟨fun p hp => ?_, (hx3.trans hx35).put (Nat.le_refl _) _, (hbad hsay.symm).symm⟩
         rw [List.mem_singleton.1 hp]
         exact pair_one rfl rfl apart_nil_l
       | _ =>
         obtain ⟨p, e5⟩ : ∃ p, v5 = .tuple [.int .i64 0, .iface 184 p] := by unfold AtoiV at hv5; rw [hA] at hv5; exact hv5
         subst e5
         refine wr1 (cj face_in hg5) ?_
         refine draw_by [(4, 6)] kR ?_
         have hnum : numT ws'[i].text = none := by unfold numT; rw [hA]
         rw [hnum] at hsay
         refine ww1 (cj face_in <| cj hg5 <| cj f2 hgr) ?_
         refine ⟨fun p hp => ?_, (hx3.trans hx35).put (Nat.le_refl _) _, (hbad hsay.symm).symm⟩
         rw [List.mem_singleton.1 hp]
         exact pair_one rfl rfl apart_nil_l
      ·rw [if_neg (fun q => hil (hlast.1 q.2))] at hsay
       have hil' : ¬ (((i : Nat) : Int) = ((ws'.length - 1 : Nat) : Int)) := oM
       refine ww1 (cj f2 <| cj f3 <| cj f4 <| cj f7 <| cj f8 <| cj f54 <| cj f55 <| cj f56 <| cj hlt <| cj hgb <| cj w0 <| cj w3 <| cj @WD.cells.eq_1 <| cj nb <| cj n1 <| cj n2 <| cj hk4 <| cj hil' <| cj hwr hg3) ?_
       exact ⟨.inr oM, (((hx3.push _).put oM _).put (Nat.le_refl _) _), (hbad hsay.symm).symm⟩
     ·rw [if_neg (fun q => hk4 q.1)] at hsay
      refine ww1 (cj f2 <| cj f3 <| cj f4 <| cj f7 <| cj f8 <| cj f54 <| cj f55 <| cj f56 <| cj hlt <| cj hgb <| cj w0 <| cj w3 <| cj @WD.cells.eq_1 <| cj nb <| cj n1 <| cj n2 <| cj hk1 <| cj hk5 <| cj hk4 <| cj hwr hg3) ?_
      exact ⟨.inr oM, (((hx3.push _).put oM _).put (Nat.le_refl _) _), (hbad hsay.symm).symm⟩
   ·have hie : i = ws'.length := oM
    have hd : ws'.drop i = [] := List.drop_eq_nil_of_le oM
    rw [hd, List.map_nil, sayR] at hsay
    have hdone : ∀ o, (kindR 10 1 said n).map (fun k => (k, n)) = o → readT s = o := fun o q => by
     rw [hrl]; unfold readL; rw [← hcut, ← hsay]; exact q
    have hsl2 := lst_len hL
    refine ww1 (cj f2 <| cj f3 <| cj f4 <| cj f7 <| cj f8 <| cj f54 <| cj f55 <| cj f56 hlt) ?_
    refine run_loop (KdI h3 h ob said sv n) 10 ⟨1, by refine ww1 (cj f2 <| cj f7 f8) ?_; exact Ext.refl _⟩ ?_
    rintro m env3 h4 ⟨k, rfl, hk1, hk2, g2, g7, g8, g13, hx4, hkr⟩
    have hn4 := hx4.1
    by_cases hk : k ≤ 10
    ·obtain ⟨f, hf11⟩ : ∃ f, 11 - k = f + 1 := ⟨10 - k, by omega⟩
     rw [hf11, kindR] at hkr
     have hkz : ((k : Nat) : Int) ≤ 10 := oM
     refine ww1 (cj g2 <| cj g7 <| cj g8 <| cj g13 hkz) ?_
     refine callF_pure (words_spec hS k _) ?_
     rintro v5 h5 hx5 rfl
     rw [show wordsV (k : Int) = .tuple [.str (wordsK k), bo True] from if_pos oM]
     refine ww1 (cj g2 <| cj g7 <| cj g8 g13) ?_
     refine callF_of (hS.fieldsA k hk1 hk h5) (fun _ q => q.elim) ?_
     rintro v6 h6 ⟨rfl, hh6⟩
     have hx56 : Ext h5 h6 := by rw [hh6]; exact (Ext.refl h5).push _
     have hn6 : h6.nx = h5.nx + 1 := by rw [hh6]; rfl
     have hg6 : h6.get h5.nx = some (.cells ((fieldsK k).map V.str) 9 false) := by rw [hh6]; exact push_eq rfl
     clear hh6
     have hx36 : Ext h3 h6 := (hx4.trans hx5).trans hx56
     have hgo : h6.get ob = some (Ob.cells [V.int IntKind.i64 0, V.int IntKind.i64 n] 24 false) := by rw [hx36.2 _ oM]; exact go
     have hgr : h6.get h.nx = some (Ob.cells [V.int IntKind.i64 0, V.int IntKind.i64 0] 24 false) := by rw [hx36.2 _ oM]; exact hg3
     have hL6 := hL.ext hx36
     have hwk : IntKind.i64.wrap ((k : Int) + 1) = ((k + 1 : Nat) : Int) := by rw [i64_in _ oM]; omega
     have hnext : ¬ (fieldsK k = said ∧ (numbK k ↔ 0 < n)) → kindR (11 - (k + 1)) (k + 1) said n = kindR 10 1 said n := fun q => by
      rw [if_neg q] at hkr
      rw [show 11 - (k + 1) = f by omega]
      exact hkr
     have hap : ∀ l : List Lx.LE, (∀ e ∈ l, e.isW = false ∧ blkOf e = ob) → fpApart (.cl h6.nx h6.nx nil1) (.lg l) := fun l q e he => .inr ⟨(q e he).1, by have := (q e he).2; have := hx36.1; omega, fun w => w⟩
     by_cases hll : (fieldsK k).length = said.length
     ·have hll' : (((fieldsK k).length : Nat) : Int) = ((said.length : Nat) : Int) := oM
      refine wr1 (cj g2 <| cj g7 <| cj g8 <| cj g13 hsl2) ?_
      refine draw_by [(7, 9)] kR ?_
      refine wr1 (cj g2 <| cj g7 <| cj g8 <| cj g13 <| cj hsl2 hll) ?_
      refine callF_exact (numbered_spec hS k _) ?_
      refine wr1 (cj g2 <| cj g7 <| cj g8 <| cj g13 <| cj hsl2 <| cj hll <| cj hgo neq_bo) ?_
      refine ⟨fun p hp => by rw [List.mem_singleton.1 hp]; exact pair_one rfl rfl (hap _ fun e he => by rw [List.mem_singleton.1 (show e ∈ [_] from he)]; exact ⟨rfl, rfl⟩), ?_⟩
      have hzk : numbZ (k : Int) ↔ numbK k := by unfold numbZ numbK; omega
      refine run_cut (fun env' h' => h' = h6 ∧ env' 2 = .ptr h.nx 0 ∧ env' 7 = sv ∧ env' 8 = .ptr ob 0 ∧ env' 13 = .int .i64 k ∧ env' 16 = .slice h5.nx 0 said.length said.length ∧ (numbK k ↔ 0 < n)) ?_ ?_
      ·by_cases hq : numbZ (k : Int) ↔ 0 < n
       ·have hq' : (numbZ (k : Int) ↔ 0 < n) = True := eq_true hq
        refine ww1 (cj hq' <| cj g2 <| cj g7 <| cj g8 g13) ?_
        exact hzk.symm.trans hq
       ·have hq' : (numbZ (k : Int) ↔ 0 < n) = False := eq_false hq
        refine ww1 (cj hq' <| cj g2 <| cj g7 <| cj g8 <| cj g13 hwk) ?_
        refine ⟨11 - (k + 1), by omega, k + 1, rfl, by omega, by omega, by exact wv1 g2, by exact wv1 g7, by exact wv1 g8, by exact wv0, hx36, hnext fun q => hq (hzk.trans q.2)⟩
      ·rintro env4 h7 ⟨rfl, u2, u7, u8, u13, u16, hnq⟩
       refine ww1 (cj u2 <| cj u7 <| cj u8 <| cj u13 u16) ?_
       refine run_loop (FdI h7 h ob said sv k h5.nx) said.length ⟨0, by refine ww1 (cj u2 <| cj u7 <| cj u8 <| cj u13 u16) ?_; exact (Nat.sub_zero _).symm⟩ ?_
       rintro m env5 h8 ⟨j, rfl, hj, t2, t7, t8, t13, t16, t137, t138, rfl, htk⟩
       by_cases hjl : j < said.length
       ·obtain ⟨bs, rfl, hbs0, hbs1, hgs⟩ := lst_row hL6 oM
        have hjf : j < (fieldsK k).length := oM
        have c1 : ((fieldsK k).map V.str)[j]? = some (.str (fieldsK k)[j]) := by rw [List.getElem?_map, List.getElem?_eq_getElem hjf]; rfl
        have c2 : (said.map V.str)[j]? = some (.str said[j]) := by rw [List.getElem?_map, List.getElem?_eq_getElem hjl]; rfl
        have hwj : IntKind.i64.wrap ((j : Int) + 1) = ((j + 1 : Nat) : Int) := by rw [i64_in _ oM]; omega
        have c1' : ((fieldsK k).map V.str)[0 + j * 1]? = some (.str (fieldsK k)[j]) := by rw [Nat.zero_add, Nat.mul_one]; exact c1
        have c2' : (said.map V.str)[0 + j * 1]? = some (.str said[j]) := by rw [Nat.zero_add, Nat.mul_one]; exact c2
        by_cases he : (fieldsK k)[j] = said[j]
        ·refine ww1 (cj t2 <| cj t7 <| cj t8 <| cj t13 <| cj t16 <| cj t137 <| cj t138 <| cj hjl <| cj hg6 <| cj hgs <| cj c1 <| cj c2 <| cj c1' <| cj c2' he) ?_
         refine draw_by [] kR ?_
         refine ww1 (cj t2 <| cj t7 <| cj t8 <| cj t13 <| cj t16 <| cj t137 <| cj t138 <| cj hjl <| cj hg6 <| cj hgs <| cj c1 <| cj c2 <| cj c1' <| cj c2' <| cj he hwj) ?_
         refine ⟨fun p hp => by (cases hp), said.length - (j + 1), by omega, j + 1, rfl, by omega, by exact wv1 t2, by exact wv1 t7, by exact wv1 t8, by exact wv1 t13, by exact wv1 t16, by exact wv1 t137, by exact wv1 hwj, rfl, ?_⟩
         rw [List.take_succ_eq_append_getElem hjf, List.take_succ_eq_append_getElem hjl, htk, he]
        ·refine ww1 (cj t2 <| cj t7 <| cj t8 <| cj t13 <| cj t16 <| cj t137 <| cj t138 <| cj hjl <| cj hg6 <| cj hgs <| cj c1 <| cj c2 <| cj c1' <| cj c2' he) ?_
         refine draw_by [] kR ?_
         refine ww1 (cj t2 <| cj t7 <| cj t8 <| cj t13 <| cj t16 <| cj t137 <| cj t138 <| cj hjl <| cj hg6 <| cj hgs <| cj c1 <| cj c2 <| cj c1' <| cj c2' <| cj he hwk) ?_
         refine ⟨fun p hp => by (cases hp), 11 - (k + 1), by omega, k + 1, rfl, by omega, by omega, by exact wv1 t2, by exact wv1 t7, by exact wv1 t8, by exact wv0, hx36, hnext fun q => he ?_⟩
         have q2 := congrArg (fun l : List (List Nat) => l[j]?) q.1
         simp only [List.getElem?_eq_getElem hjf, List.getElem?_eq_getElem hjl] at q2
         exact Option.some.inj q2
       ·have hje : j = said.length := oM
        subst hje
        have hfs : fieldsK k = said := by
         rw [← hll, List.take_length, hll, List.take_length] at htk
         exact htk
        refine ww1 (cj t2 <| cj t7 <| cj t8 <| cj t13 <| cj t16 <| cj t137 <| cj t138 <| cj hjl <| cj hgo hgr) ?_
        exact ⟨.inr oM, ((hx3.trans hx36).put oM _).put (Nat.le_refl _) _, (hend _ (hdone (some (k, n)) (by rw [← hkr, if_pos ⟨hfs, hnq⟩]; rfl))).symm⟩
     ·have hll' : ¬ (((fieldsK k).length : Nat) : Int) = ((said.length : Nat) : Int) := oM
      refine wr1 (cj g2 <| cj g7 <| cj g8 <| cj g13 hsl2) ?_
      refine draw_by [(7, 9)] kR ?_
      refine ww1 (cj g2 <| cj g7 <| cj g8 <| cj g13 <| cj hsl2 <| cj hll' hwk) ?_
      refine ⟨fun p hp => by rw [List.mem_singleton.1 hp]; exact pair_one rfl rfl apart_nil_l, 11 - (k + 1), by omega, k + 1, rfl, by omega, by omega, by exact wv1 g2, by exact wv1 g7, by exact wv1 g8, by exact wv0, hx36, hnext fun q => hll' (by rw [q.1])⟩
    ·have hkz : ¬ ((k : Nat) : Int) ≤ 10 := oM
     have h11 : k = 11 := oM
     subst h11
     have hgr : h4.get h.nx = some (Ob.cells [V.int IntKind.i64 0, V.int IntKind.i64 0] 24 false) := by rw [hx4.2 _ oM]; exact hg3
     refine ww1 (cj g2 <| cj g7 <| cj g8 <| cj g13 <| cj hkz hgr) ?_
     exact ⟨(hx3.trans hx4).put (Nat.le_refl _) _, (hend none (hdone none (by rw [← hkr]; rfl))).symm⟩
 ·have hl : lex s = none := by
   cases hl : lex s with
   | none => rfl
   | some l => exact absurd (w1 l hl).1 hf
  refine ww1 (cj hf <| cj p1 <| cj p2 <| cj hne hg1) ?_
  refine ⟨.inr oM, ((hx.push _).put oM _).put (Nat.le_refl _) _, ?_⟩
  unfold readV readT
  rw [hl]
end
end Go.Proofs.YtfgnpegkcmkeaaaGreatDoor.Ad
