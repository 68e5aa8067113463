/-
  A region whose order is open: what its run in the order of the text hangs on; which operations stand ahead of which whatever the order.
-/
import Derived.Test.YtfgnpegkcmkeaaaGreatDoorLxS
import Derived.Orders
set_option linter.unusedSimpArgs false
set_option linter.unusedVariables false
namespace Go.Lx
theorem joinLogs_acc : ∀ (ls : List (List LE)) (acc : List LE), joinLogs ls acc = joinLogs ls [] ++ acc
 | [], acc => rfl
 | l :: ls, acc => by
   simp only [joinLogs]
   rw [joinLogs_acc ls (l ++ acc), joinLogs_acc ls (l ++ []), List.append_nil, List.append_assoc]
section
variable {c : Cfg} {call : FuncId → List V → M V} {ops : Array Oper} {nt : Nat}
theorem local_runL (hc : ∀ f vs, Local (call f vs)) : ∀ (l : List Oper) (tm tm' : T V) (s s' : St) (ls : List (List LE)), runL c call ops nt l tm s = .ok (tm', ls) s' →
  s.next ≤ s'.next ∧ (∀ x, ¬ Wr (joinLogs ls []) x → look s'.heap x = look s.heap x) ∧
  ∀ s2 : St, s2.next = s.next → (∀ x, Rd (joinLogs ls []) x → look s2.heap x = look s.heap x) →
   ∃ s2', runL c call ops nt l tm s2 = .ok (tm', ls) s2' ∧ s2'.next = s'.next ∧ (∀ x, Wr (joinLogs ls []) x → look s2'.heap x = look s'.heap x) ∧ ∀ x, ¬ Wr (joinLogs ls []) x → look s2'.heap x = look s2.heap x
 | [], tm, tm', s, s', ls, h => by
   injection h with h1 h2
   injection h1 with h1 h3
   subst h1; subst h2; subst h3
   exact ⟨Nat.le_refl _, fun _ _ => rfl, fun s2 hn _ => ⟨s2, rfl, hn, fun x ⟨e, he, _⟩ => by simp [joinLogs] at he, fun _ _ => rfl⟩⟩
 | o :: l, tm, tm', s, s', ls, h => by
   unfold runL at h
   cases h1 : stepM c call ops nt o tm { s with log := [] } with
   | fail w => rw [h1] at h; cases h
   | ok tm1 s1 =>
     rw [h1] at h
     simp only at h
     cases h2 : runL c call ops nt l tm1 s1 with
     | fail w => rw [h2] at h; cases h
     | ok r s'' =>
       obtain ⟨tm2, ls2⟩ := r
       rw [h2] at h
       simp only at h
       injection h with e1 e2
       injection e1 with e1 e3
       subst e1; subst e2; subst e3
       obtain ⟨lg, d⟩ := local_step hc nt o tm _ _ _ h1
       have hlg : s1.log = lg := by rw [d.log]; simp
       obtain ⟨f1, f2, f3⟩ := local_runL hc l tm1 _ s1 _ ls2 h2
       have hj : joinLogs (s1.log :: ls2) [] = joinLogs ls2 [] ++ lg := by
        rw [hlg]
        simp only [joinLogs, List.append_nil]
        exact joinLogs_acc ls2 lg
       rw [hj]
       refine ⟨Nat.le_trans d.next f1, fun x hx => ?_, fun s2 hn hr => ?_⟩
       ·rw [Wr_append] at hx
        rw [f2 x (fun h => hx (.inl h)), d.stays x (fun h => hx (.inr h))]
       ·obtain ⟨s3, g1, g2, g3, g4, g5⟩ := d.again { s2 with log := [] } hn (fun x hx => hr x (Rd_append.2 (.inr hx)))
        obtain ⟨s4, k1, k2, k3, k4⟩ := f3 s3 g3 (fun x hx => by
         by_cases hw : Wr lg x
         ·exact g4 x hw
         ·rw [g5 x hw, d.stays x hw]; exact hr x (Rd_append.2 (.inl hx)))
        have hlg3 : s3.log = s1.log := by rw [g2, hlg]; simp
        refine ⟨s4, ?_, k2, fun x hx => ?_, fun x hx => ?_⟩
        ·unfold runL
         rw [g1]
         simp only
         rw [k1]
         simp only
         rw [hlg3]
        ·by_cases hw : Wr (joinLogs ls2 []) x
         ·exact k3 x hw
         ·rw [k4 x hw, f2 x hw]
          rcases Wr_append.1 hx with h | h
          ·exact absurd h hw
          ·exact g4 x h
        ·rw [Wr_append] at hx
         rw [k4 x (fun h => hx (.inl h)), g5 x (fun h => hx (.inr h))]
theorem local_draw (hc : ∀ f vs, Local (call f vs)) (tm : T V) : Local (drawM c call ops nt tm) := by
 intro s tm' s' h
 unfold drawM at h
 cases h1 : runL c call ops nt ops.toList tm s with
 | fail w => rw [h1] at h; cases h
 | ok r s1 =>
   obtain ⟨tm1, ls⟩ := r
   rw [h1] at h
   simp only at h
   cases hb : (edgesOk ops.toList 0 && apartAll ops (Region.before ops) [] 0 (ops.toList.zip ls))
   ·rw [hb, cond_false] at h; cases h
   ·rw [hb, cond_true] at h
    injection h with e1 e2
    subst e1; subst e2
    obtain ⟨f1, f2, f3⟩ := local_runL hc _ _ _ _ _ _ h1
    refine ⟨joinLogs ls [], joinLogs_acc ls s.log, f1, f2, fun s2 hn hr => ?_⟩
    obtain ⟨s4, k1, k2, k3, k4⟩ := f3 s2 hn hr
    refine ⟨{ s4 with log := joinLogs ls s2.log }, ?_, joinLogs_acc ls s2.log, k2, k3, k4⟩
    unfold drawM
    rw [k1]
    simp only [hb, cond_true]
theorem runL_steps : ∀ (l : List Oper) (tm tm' : T V) (s s' : St) (ls : List (List LE)), runL c call ops nt l tm s = .ok (tm', ls) s' →
  ∃ (tmf : Nat → T V) (sf : Nat → St), tmf 0 = tm ∧ sf 0 = s ∧ tmf l.length = tm' ∧ sf l.length = s' ∧ ls.length = l.length ∧
   ∀ i o, l[i]? = some o → ∃ lg, ls[i]? = some lg ∧ stepM c call ops nt o (tmf i) { sf i with log := [] } = .ok (tmf (i + 1)) (sf (i + 1)) ∧ (sf (i + 1)).log = lg
 | [], tm, tm', s, s', ls, h => by
   injection h with h1 h2
   injection h1 with h1 h3
   subst h1; subst h2; subst h3
   exact ⟨fun _ => tm, fun _ => s, rfl, rfl, rfl, rfl, rfl, fun i o h => by simp at h⟩
 | o :: l, tm, tm', s, s', ls, h => by
   unfold runL at h
   cases h1 : stepM c call ops nt o tm { s with log := [] } with
   | fail w => rw [h1] at h; cases h
   | ok tm1 s1 =>
     rw [h1] at h
     simp only at h
     cases h2 : runL c call ops nt l tm1 s1 with
     | fail w => rw [h2] at h; cases h
     | ok r s'' =>
       obtain ⟨tm2, ls2⟩ := r
       rw [h2] at h
       simp only at h
       injection h with e1 e2
       injection e1 with e1 e3
       subst e1; subst e2; subst e3
       obtain ⟨tmf, sf, g1, g2, g3, g4, g5, g6⟩ := runL_steps l tm1 _ s1 _ ls2 h2
       refine ⟨fun i => match i with | 0 => tm | i + 1 => tmf i, fun i => match i with | 0 => s | i + 1 => sf i, rfl, rfl, g3, g4, by simp [g5], fun i o' hi => ?_⟩
       cases i with
       | zero =>
         simp at hi; subst hi
         refine ⟨s1.log, by simp, ?_, ?_⟩
         ·show stepM c call ops nt o tm { s with log := [] } = .ok (tmf 0) (sf 0)
          rw [g1, g2]; exact h1
         ·show (sf 0).log = s1.log
          rw [g2]
       | succ i =>
         obtain ⟨lg, k1, k2, k3⟩ := g6 i o' (by simpa using hi)
         exact ⟨lg, by simpa using k1, k2, k3⟩
end
inductive Ahead (ops : Array Oper) : Nat → Nat → Prop
 | one {j : Nat} {o : Oper} {e : Edge} (h : ops[j]? = some o) (he : e ∈ o.after) (hb : Region.binds .any e = true) : Ahead ops e.on j
 | step {i j : Nat} {o : Oper} {e : Edge} (h : ops[j]? = some o) (he : e ∈ o.after) (hb : Region.binds .any e = true) (hi : Ahead ops i e.on) : Ahead ops i j
theorem ahead_in {ops : Array Oper} {S : Nat → Prop} (hS : ∀ j o, S j → ops[j]? = some o → ∀ e ∈ o.after, Region.binds .any e = true → S e.on) {i j : Nat} (ha : Ahead ops i j) :
  (∀ o, ops[j]? = some o → ∀ e ∈ o.after, Region.binds .any e = true → S e.on) → S i := by
 induction ha with
 | one h he hb => exact fun hj => hj _ h _ he hb
 | step h he hb _ ih => exact fun hj => ih fun o' ho' e' he' hb' => hS _ o' (hj _ h _ he hb) ho' e' he' hb'
theorem mask_step {ops : Array Oper} {acc : Array Nat} {j : Nat} {o : Oper} (ho : ops[j]? = some o) (hacc : ∀ k i, (acc.getD k 0).testBit i = true → Ahead ops i k) :
  ∀ (l : List Edge) (m : Nat), (∀ e ∈ l, e ∈ o.after) → (∀ i, m.testBit i = true → Ahead ops i j) →
   ∀ i, (l.foldl (fun s e => if Region.binds .any e then s ||| 2 ^ e.on ||| acc.getD e.on 0 else s) m).testBit i = true → Ahead ops i j
 | [], m, _, hm, i, h => hm i h
 | e :: l, m, hl, hm, i, h => by
   simp only [List.foldl_cons] at h
   refine mask_step ho hacc l _ (fun x hx => hl x (by simp [hx])) (fun i hi => ?_) i h
   by_cases hb : Region.binds .any e = true
   ·rw [if_pos hb] at hi
    rw [Nat.testBit_or, Nat.testBit_or, Bool.or_eq_true, Bool.or_eq_true] at hi
    rcases hi with (hi | hi) | hi
    ·exact hm i hi
    ·rw [Nat.testBit_two_pow] at hi
     have : e.on = i := by simpa using hi
     subst this
     exact .one ho (hl e (by simp)) hb
    ·exact .step ho (hl e (by simp)) hb (hacc _ _ hi)
   ·rw [if_neg hb] at hi
    exact hm i hi
theorem before_ahead {ops : Array Oper} : ∀ j i, ((Region.before ops).getD j 0).testBit i = true → Ahead ops i j := by
 have key : ∀ (l : List Oper) (pre : List Oper) (acc : Array Nat), ops.toList = pre ++ l → acc.size = pre.length → (∀ k i, (acc.getD k 0).testBit i = true → Ahead ops i k) →
   ∀ k i, ((l.foldl (fun acc o => acc.push (o.after.foldl (fun s e => if Region.binds .any e then s ||| 2 ^ e.on ||| acc.getD e.on 0 else s) 0)) acc).getD k 0).testBit i = true → Ahead ops i k := by
  intro l
  induction l with
  | nil => intro pre acc _ _ h k i hk; exact h k i hk
  | cons o l ih =>
    intro pre acc hops hsz h k i hk
    simp only [List.foldl_cons] at hk
    refine ih (pre ++ [o]) _ (by rw [hops]; simp) (by simp [hsz]) (fun k' i' hk' => ?_) k i hk
    have ho : ops[pre.length]? = some o := by
     rw [← Array.getElem?_toList, hops]; simp
    by_cases e : k' = acc.size
    ·subst e
     have hget : (acc.push (o.after.foldl (fun s e => if Region.binds .any e then s ||| 2 ^ e.on ||| acc.getD e.on 0 else s) 0)).getD acc.size 0 = o.after.foldl (fun s e => if Region.binds .any e then s ||| 2 ^ e.on ||| acc.getD e.on 0 else s) 0 := by simp
     rw [hget, ← Array.foldl_toList] at hk'
     rw [hsz]
     exact mask_step ho h o.after.toList 0 (fun x hx => by simpa using hx) (fun i hi => by simp at hi) i' hk'
    ·have hget : (acc.push (o.after.foldl (fun s e => if Region.binds .any e then s ||| 2 ^ e.on ||| acc.getD e.on 0 else s) 0)).getD k' 0 = acc.getD k' 0 := by
      simp only [Array.getD_eq_getD_getElem?]
      rw [Array.getElem?_push, if_neg e]
     rw [hget] at hk'
     exact h k' i' hk'
 intro j i h
 refine key ops.toList [] #[] rfl rfl (fun k i hk => by simp at hk) j i ?_
 unfold Region.before at h
 rw [← Array.foldl_toList] at h
 exact h
end Go.Lx
