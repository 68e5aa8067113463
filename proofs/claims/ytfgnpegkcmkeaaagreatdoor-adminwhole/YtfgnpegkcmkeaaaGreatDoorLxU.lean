/-
  A region whose order is open comes to what its run in the order of the text comes to, in whatever order it is done.
-/
import Derived.Test.YtfgnpegkcmkeaaaGreatDoorLxT
import Derived.Test.YtfgnpegkcmkeaaaGreatDoorLxQ
set_option linter.unusedSimpArgs false
set_option linter.unusedVariables false
namespace Go.Lx
theorem hits_of {e f : LE} {x : Lo} (hw : e.writes x) (hf : f.reads x ∨ f.writes x) : e.isW = true ∧ hits e f = true := by
 cases e <;> cases x <;> simp only [LE.writes] at hw <;> cases f <;> simp only [LE.reads, LE.writes, or_false, false_or, or_self] at hf <;> simp only [LE.isW, hits, true_and, nbeq_iff]
 all_goals first
  | (subst hw; exact hf.symm)
  | (obtain ⟨h1, h2, h3⟩ := hw
     obtain ⟨h4, h5, h6⟩ := hf
     subst h1
     rw [Bool.and_eq_true, nbeq_iff]
     refine ⟨h4, ?_⟩
     unfold meets
     rw [Bool.and_eq_true, blt_iff, blt_iff]
     omega)
  | (obtain ⟨h1, h2, h3⟩ := hw; subst h1; exact hf)
  | (subst hw; exact hf.1)
  | (subst hw; exact hf)
  | (subst hw; exact hf.1.symm)
theorem anyL_true {α : Type} {f : α → Bool} : ∀ {l : List α} {a : α}, a ∈ l → f a = true → anyL f l = true
 | b :: l, a, h, hf => by
   simp only [anyL, Bool.or_eq_true]
   rcases List.mem_cons.1 h with rfl | h
   ·exact .inl hf
   ·exact .inr (anyL_true h hf)
theorem hitsL_of {a b : List LE} {x : Lo} (hw : Wr a x) (hb : Rd b x ∨ Wr b x) : hitsL a b = true := by
 obtain ⟨e, he, hew⟩ := hw
 have : ∃ f ∈ b, f.reads x ∨ f.writes x := by
  rcases hb with ⟨f, hf, h⟩ | ⟨f, hf, h⟩
  ·exact ⟨f, hf, .inl h⟩
  ·exact ⟨f, hf, .inr h⟩
 obtain ⟨f, hf, h⟩ := this
 obtain ⟨h1, h2⟩ := hits_of hew h
 refine anyL_true he ?_
 rw [Bool.and_eq_true]
 exact ⟨h1, anyL_true hf h2⟩
theorem mem_memNat {n : Nat} : ∀ {l : List Nat}, n ∈ l → memNat n l = true
 | m :: l, h => by
   simp only [memNat, Bool.or_eq_true, nbeq_iff]
   rcases List.mem_cons.1 h with rfl | h
   ·exact .inl rfl
   ·exact .inr (mem_memNat h)
theorem last_below (p : Nat → Prop) : ∀ n, (∀ j, j < n → ¬ p j) ∨ ∃ j, j < n ∧ p j ∧ ∀ j', j < j' → j' < n → ¬ p j'
 | 0 => .inl fun j h => by omega
 | n + 1 => by
   by_cases h : p n
   ·exact .inr ⟨n, by omega, h, fun j' h1 h2 => by omega⟩
   ·rcases last_below p n with h0 | ⟨j, h1, h2, h3⟩
    ·refine .inl fun j hj => ?_
     by_cases e : j = n
     ·subst e; exact h
     ·exact h0 j (by omega)
    ·refine .inr ⟨j, by omega, h2, fun j' h4 h5 => ?_⟩
     by_cases e : j' = n
     ·subst e; exact h
     ·exact h3 j' h4 (by omega)
section
variable {ops : Array Oper}
theorem apartFrom_spec {m : Nat} {o : Oper} {lg : List LE} : ∀ {l : List (Oper × List LE)} {i : Nat}, apartFrom ops m o lg l i = true → ∀ k q lq, l[k]? = some (q, lq) → m.testBit (i + k) = true ∨ (tmpHits ops q o = false ∧ hitsL lq lg = false ∧ hitsL lg lq = false)
 | [], i, _, k, q, lq, h => by simp at h
 | (q0, lq0) :: l, i, ha, k, q, lq, h => by
   simp only [apartFrom, Bool.and_eq_true, Bool.or_eq_true, Bool.not_eq_true'] at ha
   cases k with
   | zero =>
     simp at h
     obtain ⟨e1, e2⟩ := h
     subst e1; subst e2
     rcases ha.1 with h1 | h1
     ·exact .inl h1
     ·exact .inr ⟨h1.1.1, h1.1.2, h1.2⟩
   | succ k =>
     have := apartFrom_spec ha.2 k q lq (by simpa using h)
     rwa [show i + 1 + k = i + (k + 1) by omega] at this
theorem apartAll_spec {b : Array Nat} : ∀ {l done : List (Oper × List LE)} {j : Nat}, apartAll ops b done j l = true → done.length = j →
  ∀ i k q lq o lg, i < j + k → (done ++ l)[i]? = some (q, lq) → l[k]? = some (o, lg) → (b.getD (j + k) 0).testBit i = true ∨ (tmpHits ops q o = false ∧ hitsL lq lg = false ∧ hitsL lg lq = false)
 | [], done, j, _, _, i, k, q, lq, o, lg, _, _, h => by simp at h
 | (o0, lg0) :: l, done, j, ha, hd, i, k, q, lq, o, lg, hlt, hi, hk => by
   simp only [apartAll, Bool.and_eq_true] at ha
   cases k with
   | zero =>
     simp at hk
     obtain ⟨e1, e2⟩ := hk
     subst e1; subst e2
     rw [List.getElem?_append_left (by omega)] at hi
     have := apartFrom_spec ha.1 i q lq hi
     rwa [Nat.zero_add] at this
   | succ k =>
     have := apartAll_spec ha.2 (by simp [hd]) i k q lq o lg (by omega) (by simpa using hi) (by simpa using hk)
     rwa [show j + 1 + k = j + (k + 1) by omega] at this
theorem edgesOk_spec : ∀ {l : List Oper} {j : Nat}, edgesOk l j = true → ∀ k o, l[k]? = some o → ∀ e ∈ o.after, Region.binds .any e = true → e.on < j + k
 | [], j, _, k, o, h => by simp at h
 | o0 :: l, j, ha, k, o, h => by
   simp only [edgesOk, Bool.and_eq_true] at ha
   cases k with
   | zero =>
     simp at h; subst h
     intro e he hb
     have := List.all_eq_true.1 ha.1 e (by simpa using he)
     simp only [hb, Bool.not_true, Bool.false_or, blt_iff] at this
     simpa using this
   | succ k =>
     intro e he hb
     have := edgesOk_spec ha.2 k o (by simpa using h) e he hb
     omega
end
theorem StepOk.wide {P : Program} {μ μ1 μ2 : Mu} {ν : Nat → Value} {h h1 h2 : T Ob} {n n' m m' : Nat} {w w1 w2 : World}
  (a : StepOk P μ ν h n w μ1 h1 n' w1) (b : StepOk P μ1 ν h1 m w1 μ2 h2 m' w2) (hn : n ≤ m) (hn' : m' ≤ n') : StepOk P μ ν h n w μ2 h2 n' w2 where
 le := Mu.le_trans a.le b.le
 new := fun k hk => by rw [b.new k (by omega), a.new k hk]
 rel := b.rel
 os := b.os.trans a.os
 tape := b.tape.trans a.tape
 output := b.output.trans a.output
 size := Nat.le_trans a.size b.size
 block := fun x hx hf => by
  rw [b.block x (Nat.lt_of_lt_of_le hx a.size), a.block x hx hf]
  intro k p hk he
  cases hm : μ k with
  | some q =>
    have := a.le k q hm
    rw [this] at hk; cases hk
    exact hf k _ hm he
  | none =>
    rcases a.newblk k p hk hm with hs | ⟨j, q, hj, hq⟩
    ·omega
    ·exact hf j q hj (hq.trans he)
 newblk := fun k p hk hm => by
  cases h1 : μ1 k with
  | some q =>
    have := b.le k q h1
    rw [this] at hk; cases hk
    exact a.newblk k _ h1 hm
  | none =>
    rcases b.newblk k p hk h1 with hs | ⟨j, q, hj, hq⟩
    ·exact .inl (Nat.le_trans a.size hs)
    ·cases hm' : μ j with
     | some q' =>
       have := a.le j q' hm'
       rw [this] at hj; cases hj
       exact .inr ⟨j, _, hm', hq⟩
     | none =>
       rcases a.newblk j q hj hm' with hs | ⟨i, r, hi, hr⟩
       ·exact .inl (by omega)
       ·exact .inr ⟨i, r, hi, hr.trans hq⟩
 ro := fun k c p h1 hp => by
  obtain ⟨q1, q2⟩ := a.ro k c p h1 hp
  obtain ⟨r1, r2⟩ := b.ro k c p q1 (a.le k p hp)
  exact ⟨r1, r2.trans q2⟩
theorem Rel.look {P : Program} {μ : Mu} {ν : Nat → Value} {h g : T Ob} {H : Array Obj} (hr : Rel P μ ν h H) (he : ∀ k, g.get k = h.get k) : Rel P μ ν g H :=
 ⟨fun k o hk => hr.ob k o (by rw [← he]; exact hk), fun k k' o o' p p' hk hk' => hr.sep k k' o o' p p' (by rw [← he]; exact hk) (by rw [← he]; exact hk')⟩
theorem StepOk.look {P : Program} {μ μ' : Mu} {ν : Nat → Value} {h h' g : T Ob} {n n' : Nat} {w w' : World} (a : StepOk P μ ν h n w μ' h' n' w') (he : ∀ k, g.get k = h'.get k) : StepOk P μ ν h n w μ' g n' w' :=
 ⟨a.le, a.new, a.rel.look he, a.os, a.tape, a.output, a.size, a.block, a.newblk, fun k c p h1 hp => ⟨by rw [he]; exact (a.ro k c p h1 hp).1, (a.ro k c p h1 hp).2⟩⟩
end Go.Lx
