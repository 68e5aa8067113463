/-
  A region whose order is open, in whatever order it is done.
-/
import Derived.Test.YtfgnpegkcmkeaaaGreatDoorLxV
set_option linter.unusedSimpArgs false
set_option linter.unusedVariables false
namespace Go.Lx
structure Canon (c : Cfg) (call : FuncId → List V → M V) (ops : Array Oper) (nt : Nat) (tmf : Nat → T V) (sf : Nat → St) (vf : Nat → V) : Prop where
 run : ∀ i o, ops[i]? = some o → stepV c call ops o (tmf i) { sf i with log := [] } = .ok (vf i) (sf (i + 1))
 put : ∀ i o, ops[i]? = some o → o.dst = none ∧ tmf (i + 1) = tmf i ∨ ∃ d, o.dst = some d ∧ d < nt ∧ tmf (i + 1) = (tmf i).set d (some (vf i))
 did : ∀ i o, ops[i]? = some o → Did (stepV c call ops o (tmf i)) { sf i with log := [] } (vf i) (sf (i + 1)) (sf (i + 1)).log
 edges : ∀ j o, ops[j]? = some o → ∀ e ∈ o.after, Region.binds .any e = true → e.on < j
 apart : ∀ i j o q, i < j → ops[j]? = some o → ops[i]? = some q → Ahead ops i j ∨ (tmpHits ops q o = false ∧ hitsL (sf (i + 1)).log (sf (j + 1)).log = false ∧ hitsL (sf (j + 1)).log (sf (i + 1)).log = false)
section
variable {c : Cfg} {call : FuncId → List V → M V} {ops : Array Oper} {nt : Nat}
theorem canon_of {tm tm' : T V} {s s' : St} (hl : ∀ f vs, Local (call f vs)) (h : drawM c call ops nt tm s = .ok tm' s') :
  ∃ tmf sf vf, Canon c call ops nt tmf sf vf ∧ tmf 0 = tm ∧ sf 0 = s ∧ tmf ops.size = tm' ∧ (sf ops.size).heap = s'.heap ∧ (sf ops.size).next = s'.next := by
 unfold drawM at h
 cases h1 : runL c call ops nt ops.toList tm s with
 | fail w => rw [h1] at h; cases h
 | ok r s1 =>
   obtain ⟨tm1, ls⟩ := r
   rw [h1] at h
   simp only at h
   cases hb : (edgesOk ops.toList 0 && apartAll ops (Region.before ops) [] 0 (ops.toList.zip ls))
   ·rw [hb, cond_false] at h; cases h
   ·rw [hb, cond_true] at h
    injection h with e1 e2
    subst e1; subst e2
    rw [Bool.and_eq_true] at hb
    obtain ⟨tmf, sf, g1, g2, g3, g4, g5, g6⟩ := runL_steps _ _ _ _ _ _ h1
    have hget : ∀ i o, ops[i]? = some o → ops.toList[i]? = some o := fun i o h => by rw [Array.getElem?_toList]; exact h
    have hst : ∀ i o, ops[i]? = some o → ∃ v, stepV c call ops o (tmf i) { sf i with log := [] } = .ok v (sf (i + 1)) ∧ (o.dst = none ∧ tmf (i + 1) = tmf i ∨ ∃ d, o.dst = some d ∧ d < nt ∧ tmf (i + 1) = (tmf i).set d (some v)) := by
     intro i o ho
     obtain ⟨lg, k1, k2, k3⟩ := g6 i o (hget i o ho)
     obtain ⟨v, s2, h3, h4⟩ := bnd_ok k2
     obtain ⟨rfl, hp⟩ := putM_ok h4
     exact ⟨v, h3, hp⟩
    refine ⟨tmf, sf, fun i => match ops[i]? with
     | some o => match stepV c call ops o (tmf i) { sf i with log := [] } with
       | .ok v _ => v
       | .fail _ => undefV
     | none => undefV, ?_, g1, g2, ?_, ?_, ?_⟩
    ·refine ⟨fun i o ho => ?_, fun i o ho => ?_, fun i o ho => ?_, fun j o ho e he hbd => ?_, fun i j o q hij ho hq => ?_⟩
     ·obtain ⟨v, k1, k2⟩ := hst i o ho
      simp only [ho, k1]
     ·obtain ⟨v, k1, k2⟩ := hst i o ho
      simp only [ho, k1]; exact k2
     ·obtain ⟨v, k1, k2⟩ := hst i o ho
      simp only [ho, k1]
      obtain ⟨lg, d⟩ := local_stepV (c := c) hl o (tmf i) _ _ _ k1
      have : (sf (i + 1)).log = lg := by rw [d.log]; simp
      rw [this]; exact d
     ·have := edgesOk_spec hb.1 j o (hget j o ho) e he hbd
      omega
     ·obtain ⟨lgi, a1, a2, a3⟩ := g6 i q (hget i q hq)
      obtain ⟨lgj, b1, b2, b3⟩ := g6 j o (hget j o ho)
      have zi : (ops.toList.zip ls)[i]? = some (q, lgi) := by rw [List.getElem?_zip_eq_some]; exact ⟨hget i q hq, a1⟩
      have zj : (ops.toList.zip ls)[j]? = some (o, lgj) := by rw [List.getElem?_zip_eq_some]; exact ⟨hget j o ho, b1⟩
      rcases apartAll_spec hb.2 rfl i j q lgi o lgj (by omega) (by simpa using zi) zj with h | h
      ·rw [Nat.zero_add] at h
       exact .inl (before_ahead j i h)
      ·rw [a3, b3]; exact .inr h
    ·rw [← g3]; simp
    ·have e : ops.size = ops.toList.length := by simp
     rw [e, g4]
    ·have e : ops.size = ops.toList.length := by simp
     rw [e, g4]
variable {tmf : Nat → T V} {sf : Nat → St} {vf : Nat → V}
theorem Canon.op {n : Nat} (hn : n < ops.size) : ∃ o, ops[n]? = some o := ⟨ops[n], by simp [hn]⟩
theorem Canon.next_le (C : Canon c call ops nt tmf sf vf) {i : Nat} : ∀ {j : Nat}, i ≤ j → j ≤ ops.size → (sf i).next ≤ (sf j).next
 | 0, h, _ => by have : i = 0 := by omega
                 subst this; exact Nat.le_refl _
 | j + 1, h, hj => by
   by_cases e : i = j + 1
   ·subst e; exact Nat.le_refl _
   ·obtain ⟨o, ho⟩ := Canon.op (ops := ops) (n := j) (by omega)
    exact Nat.le_trans (C.next_le (by omega) (by omega)) (C.did j o ho).next
theorem Canon.heap_stays (C : Canon c call ops nt tmf sf vf) {x : Lo} {i : Nat} : ∀ {j : Nat}, i ≤ j → j ≤ ops.size → (∀ k, i ≤ k → k < j → ¬ Wr (sf (k + 1)).log x) → look (sf j).heap x = look (sf i).heap x
 | 0, h, _, _ => by have : i = 0 := by omega
                    subst this; rfl
 | j + 1, h, hj, hs => by
   by_cases e : i = j + 1
   ·subst e; rfl
   ·obtain ⟨o, ho⟩ := Canon.op (ops := ops) (n := j) (by omega)
    rw [(C.did j o ho).stays x (hs j (by omega) (by omega))]
    exact C.heap_stays (by omega) (by omega) fun k h1 h2 => hs k h1 (by omega)
theorem Canon.slot_stays (C : Canon c call ops nt tmf sf vf) {t : Nat} {i : Nat} : ∀ {j : Nat}, i ≤ j → j ≤ ops.size → (∀ k o, i ≤ k → k < j → ops[k]? = some o → o.dst ≠ some t) → tmGet (tmf j) t = tmGet (tmf i) t
 | 0, h, _, _ => by have : i = 0 := by omega
                    subst this; rfl
 | j + 1, h, hj, hs => by
   by_cases e : i = j + 1
   ·subst e; rfl
   ·obtain ⟨o, ho⟩ := Canon.op (ops := ops) (n := j) (by omega)
    have ih := C.slot_stays (t := t) (i := i) (j := j) (by omega) (by omega) fun k o h1 h2 => hs k o h1 (by omega)
    rcases C.put j o ho with ⟨_, h2⟩ | ⟨d, h1, _, h2⟩
    ·rw [h2, ih]
    ·rw [h2, tmGet_set, if_neg, ih]
     intro e
     exact hs j o (by omega) (by omega) ho (by rw [h1, e])
theorem tmp_of {a b : Oper} {t : Nat} (ha : a.dst = some t) (hb : t ∈ looksT ops b ∨ b.dst = some t) : tmpHits ops a b = true := by
 unfold tmpHits
 rw [Bool.or_eq_true, Bool.or_eq_true]
 rcases hb with h | h
 ·exact .inl (.inl (by rw [ha]; exact mem_memNat h))
 ·exact .inr (by rw [ha, h]; simp [dstIn, memNat])
theorem tmp_of' {a b : Oper} {t : Nat} (ha : b.dst = some t) (hb : t ∈ looksT ops a ∨ a.dst = some t) : tmpHits ops a b = true := by
 unfold tmpHits
 rw [Bool.or_eq_true, Bool.or_eq_true]
 rcases hb with h | h
 ·exact .inl (.inr (by rw [ha]; exact mem_memNat h))
 ·exact .inr (by rw [ha, h]; simp [dstIn, memNat])
structure Stand (c : Cfg) (ops : Array Oper) (nt : Nat) (tmf : Nat → T V) (sf : Nat → St) (ν : Nat → Value) (μ0 : Mu) (a0 : Act) (w0 : World) (S : Nat → Prop) (τ : T Ob) (μ : Mu) (a : Act) (w : World) : Prop where
 closed : ∀ j o, S j → ops[j]? = some o → ∀ e ∈ o.after, Region.binds .any e = true → S e.on
 size : a.tmps.size = nt
 defers : a.defers = a0.defers
 step : StepOk c.P μ0 ν (sf 0).heap (sf 0).next w0 μ τ (sf ops.size).next w
 heap : ∀ x i, S i → i < ops.size → Wr (sf (i + 1)).log x → (∀ j, S j → j < ops.size → i < j → ¬ Wr (sf (j + 1)).log x) → look τ x = look (sf (i + 1)).heap x
 heap0 : ∀ x, (∀ i, S i → i < ops.size → ¬ Wr (sf (i + 1)).log x) → look τ x = look (sf 0).heap x
 slot : ∀ t i o, S i → ops[i]? = some o → o.dst = some t → (∀ j q, S j → ops[j]? = some q → i < j → q.dst ≠ some t) → VRel μ ν (tmGet (tmf (i + 1)) t) (a.tmps.getD t undef)
 slot0 : ∀ t, (∀ i o, S i → ops[i]? = some o → o.dst ≠ some t) → VRel μ ν (tmGet (tmf 0) t) (a.tmps.getD t undef)
 fresh : ∀ i, i < ops.size → ¬ S i → ∀ k, (sf i).next ≤ k → k < (sf (i + 1)).next → μ k = none
theorem stand_step {Q : Exit → Act → World → Prop} {ν : Nat → Value} {μ0 : Mu} {a0 : Act} {w0 : World} {S : Nat → Prop} {τ : T Ob} {μ : Mu} {a : Act} {w : World} (hc : CallSim c.P c.gl call) (C : Canon c call ops nt tmf sf vf) (hg : Globs c.gl μ0 (sf 0).heap w0)
  (D : Stand c ops nt tmf sf ν μ0 a0 w0 S τ μ a w) {i : Nat} {o : Oper} (ho : ops[i]? = some o) (hi : ¬ S i) (hready : ∀ e ∈ o.after, Region.binds .any e = true → S e.on) {K : Act → World → Prop}
  (hK : ∀ τ' μ' a' w', Stand c ops nt tmf sf ν μ0 a0 w0 (fun j => S j ∨ j = i) τ' μ' a' w' → K a' w') : wpOp c.P ops Q i K a w := by
 have hin : i < ops.size := (Array.getElem?_eq_some_iff.1 ho).1
 have hahead : ∀ j, Ahead ops j i → S j := fun j h => ahead_in D.closed h fun o' ho' => by rw [ho] at ho'; cases ho'; exact hready
 have hlater : ∀ j, S j → ¬ Ahead ops i j := fun j hj h => hi (ahead_in D.closed h fun o' ho' => D.closed j o' hj ho')
 have clash : ∀ j x, j < ops.size → j ≠ i → (Wr (sf (j + 1)).log x ∧ (Rd (sf (i + 1)).log x ∨ Wr (sf (i + 1)).log x)) → j < i ∧ S j ∨ i < j ∧ ¬ S j := by
  intro j x hj hne ⟨h1, h2⟩
  obtain ⟨q, hq⟩ := Canon.op (ops := ops) hj
  rcases Nat.lt_or_gt_of_ne hne with hlt | hgt
  ·rcases C.apart j i o q hlt ho hq with h | ⟨_, h, _⟩
   ·exact .inl ⟨hlt, hahead j h⟩
   ·rw [hitsL_of h1 h2] at h; cases h
  ·rcases C.apart i j q o hgt hq ho with h | ⟨_, _, h⟩
   ·exact .inr ⟨hgt, fun hs => hlater j hs h⟩
   ·rw [hitsL_of h1 h2] at h; cases h
 have clashT : ∀ j q t, ops[j]? = some q → j ≠ i → q.dst = some t → (t ∈ looksT ops o ∨ o.dst = some t) → j < i ∧ S j ∨ i < j ∧ ¬ S j := by
  intro j q t hq hne h1 h2
  rcases Nat.lt_or_gt_of_ne hne with hlt | hgt
  ·rcases C.apart j i o q hlt ho hq with h | ⟨h, _, _⟩
   ·exact .inl ⟨hlt, hahead j h⟩
   ·rw [tmp_of h1 h2] at h; cases h
  ·rcases C.apart i j q o hgt hq ho with h | ⟨h, _, _⟩
   ·exact .inr ⟨hgt, fun hs => hlater j hs h⟩
   ·rw [tmp_of' h1 h2] at h; cases h
 -- what is looked at reads as in the run in the text's order
 have hread : ∀ x, Rd (sf (i + 1)).log x → look τ x = look (sf i).heap x := by
  intro x hx
  rcases last_below (fun j => Wr (sf (j + 1)).log x) i with hnone | ⟨j, hj, hwj, hlast⟩
  ·rw [C.heap_stays (i := 0) (j := i) (Nat.zero_le _) (by omega) fun k _ hk => hnone k hk]
   refine D.heap0 x fun j hs hj hw => ?_
   have hne : j ≠ i := fun e => hi (e ▸ hs)
   rcases clash j x hj hne ⟨hw, .inl hx⟩ with ⟨h1, _⟩ | ⟨_, h2⟩
   ·exact hnone j h1 hw
   ·exact h2 hs
  ·rw [C.heap_stays (i := j + 1) (j := i) (by omega) (by omega) fun k h1 h2 => hlast k (by omega) h2]
   have hsj : S j := by
    rcases clash j x (by omega) (by omega) ⟨hwj, .inl hx⟩ with ⟨_, h⟩ | ⟨h, _⟩
    ·exact h
    ·omega
   refine D.heap x j hsj (by omega) hwj fun k hk hkn hjk hwk => ?_
   have hne : k ≠ i := fun e => hi (e ▸ hk)
   rcases clash k x hkn hne ⟨hwk, .inl hx⟩ with ⟨h1, _⟩ | ⟨_, h2⟩
   ·exact hlast k hjk h1 hwk
   ·exact h2 hk
 have hslot : ∀ t, t ∈ looksT ops o → VRel μ ν (tmGet (tmf i) t) (a.tmps.getD t undef) := by
  intro t ht
  rcases last_below (fun j => ∃ q, ops[j]? = some q ∧ q.dst = some t) i with hnone | ⟨j, hj, ⟨q, hq, hqd⟩, hlast⟩
  ·rw [C.slot_stays (i := 0) (j := i) (Nat.zero_le _) (by omega) fun k q _ hk hq hd => hnone k hk ⟨q, hq, hd⟩]
   refine D.slot0 t fun j q hs hq hd => ?_
   have hne : j ≠ i := fun e => hi (e ▸ hs)
   rcases clashT j q t hq hne hd (.inl ht) with ⟨h1, _⟩ | ⟨_, h2⟩
   ·exact hnone j h1 ⟨q, hq, hd⟩
   ·exact h2 hs
  ·rw [C.slot_stays (i := j + 1) (j := i) (by omega) (by omega) fun k q' h1 h2 hq' hd => hlast k (by omega) h2 ⟨q', hq', hd⟩]
   have hsj : S j := by
    rcases clashT j q t hq (by omega) hqd (.inl ht) with ⟨_, h⟩ | ⟨h, _⟩
    ·exact h
    ·omega
   refine D.slot t j q hsj hq hqd fun k q' hk hq' hjk hd => ?_
   have hne : k ≠ i := fun e => hi (e ▸ hk)
   rcases clashT k q' t hq' hne hd (.inl ht) with ⟨h1, _⟩ | ⟨_, h2⟩
   ·exact hlast k hjk h1 ⟨q', hq', hd⟩
   ·exact h2 hk
 obtain ⟨s2, r1, r2, r3, r4, r5⟩ := (C.did i o ho).again { heap := τ, next := (sf i).next, log := [] } rfl hread
 refine sim_step (s := { heap := τ, next := (sf i).next, log := [] }) (s' := s2) hc ho D.step.rel (fun k h1 h2 => D.fresh i hin hi k h1 (by rw [← r3]; exact h2)) (hg.step D.step) hslot r1 fun μ' w' r hv st => ?_
 have hle0 : (sf 0).next ≤ (sf i).next := C.next_le (Nat.zero_le _) (by omega)
 have hlen : (sf (i + 1)).next ≤ (sf ops.size).next := C.next_le (by omega) (Nat.le_refl _)
 refine hK s2.heap μ' _ w' ⟨?_, put_size.trans D.size, put_defers'.trans D.defers, D.step.wide st hle0 (by rw [r3]; exact hlen), ?_, ?_, ?_, ?_, ?_⟩
 ·intro j q hj hq e he hb
  rcases hj with hj | rfl
  ·exact .inl (D.closed j q hj hq e he hb)
  ·rw [ho] at hq; cases hq; exact .inl (hready e he hb)
 ·intro x j hj hjn hw hlast
  by_cases hwi : Wr (sf (i + 1)).log x
  ·have hji : j = i := by
    apply Classical.byContradiction
    intro hne
    have hs : S j := hj.resolve_right hne
    rcases clash j x hjn hne ⟨hw, .inr hwi⟩ with ⟨h1, _⟩ | ⟨_, h2⟩
    ·exact hlast i (.inr rfl) hin h1 hwi
    ·exact h2 hs
   subst hji
   exact r4 x hwi
  ·rw [r5 x hwi]
   have hne : j ≠ i := fun e => hwi (e ▸ hw)
   exact D.heap x j (hj.resolve_right hne) hjn hw fun k hk hkn hjk => hlast k (.inl hk) hkn hjk
 ·intro x hno
  rw [r5 x (hno i (.inr rfl) hin)]
  exact D.heap0 x fun j hj hjn => hno j (.inl hj) hjn
 ·intro t j q hj hq hd hlast
  by_cases hti : o.dst = some t
  ·have hji : j = i := by
    apply Classical.byContradiction
    intro hne
    have hs : S j := hj.resolve_right hne
    rcases clashT j q t hq hne hd (.inr hti) with ⟨h1, _⟩ | ⟨_, h2⟩
    ·exact hlast i o (.inr rfl) ho h1 hti
    ·exact h2 hs
   subst hji
   rcases C.put j o ho with ⟨h1, _⟩ | ⟨d, h1, h2, h3⟩
   ·rw [h1] at hti; cases hti
   ·rw [h1] at hti; cases hti
    rw [h3, tmGet_set, if_pos rfl, h1, put_getD (by rw [D.size]; exact h2), if_pos rfl]
    exact hv
  ·have hne : j ≠ i := fun e => by subst e; rw [ho] at hq; cases hq; exact hti hd
   have hold := D.slot t j q (hj.resolve_right hne) hq hd fun k q' hk hq' hjk => hlast k q' (.inl hk) hq' hjk
   have hsame : (a.put o.dst r).tmps.getD t undef = a.tmps.getD t undef := by
    rcases C.put i o ho with ⟨h1, _⟩ | ⟨d, h1, h2, h3⟩
    ·rw [h1]; rfl
    ·rw [h1, put_getD (by rw [D.size]; exact h2), if_neg]
     intro e; exact hti (by rw [h1, e])
   rw [hsame]; exact hold.mono st.le
 ·intro t hno
  have hsame : (a.put o.dst r).tmps.getD t undef = a.tmps.getD t undef := by
   rcases C.put i o ho with ⟨h1, _⟩ | ⟨d, h1, h2, h3⟩
   ·rw [h1]; rfl
   ·rw [h1, put_getD (by rw [D.size]; exact h2), if_neg]
    intro e; exact hno i o (.inr rfl) ho (by rw [h1, e])
  rw [hsame]
  exact (D.slot0 t fun j q hj hq => hno j q (.inl hj) hq).mono st.le
 ·intro j hj hnj k h1 h2
  have hne : j ≠ i := fun e => hnj (.inr e)
  rw [st.new k ?_]
  ·exact D.fresh j hj (fun h => hnj (.inl h)) k h1 h2
  ·rw [r3]
   rintro ⟨h3, h4⟩
   rcases Nat.lt_or_gt_of_ne hne with hlt | hgt
   ·have := C.next_le (i := j + 1) (j := i) (by omega) (by omega)
    simp only at h3
    omega
   ·have := C.next_le (i := i + 1) (j := j) (by omega) (by omega)
    omega
theorem stand_end {ν : Nat → Value} {μ0 : Mu} {a0 : Act} {w0 : World} {S : Nat → Prop} {τ : T Ob} {μ : Mu} {a : Act} {w : World} (C : Canon c call ops nt tmf sf vf)
  (D : Stand c ops nt tmf sf ν μ0 a0 w0 S τ μ a w) (hall : ∀ i, i < ops.size → S i) : TmRel μ ν nt (tmf ops.size) a.tmps ∧ StepOk c.P μ0 ν (sf 0).heap (sf 0).next w0 μ (sf ops.size).heap (sf ops.size).next w := by
 constructor
 ·refine ⟨D.size, fun t => ?_⟩
  rcases last_below (fun j => ∃ q, ops[j]? = some q ∧ q.dst = some t) ops.size with hnone | ⟨j, hj, ⟨q, hq, hqd⟩, hlast⟩
  ·rw [C.slot_stays (i := 0) (Nat.zero_le _) (Nat.le_refl _) fun k q _ hk hq hd => hnone k hk ⟨q, hq, hd⟩]
   exact D.slot0 t fun j q hs hq hd => hnone j (Array.getElem?_eq_some_iff.1 hq).1 ⟨q, hq, hd⟩
  ·rw [C.slot_stays (i := j + 1) (j := ops.size) (by omega) (Nat.le_refl _) fun k q' h1 h2 hq' hd => hlast k (by omega) h2 ⟨q', hq', hd⟩]
   exact D.slot t j q (hall j hj) hq hqd fun k q' hk hq' hjk hd => hlast k hjk (Array.getElem?_eq_some_iff.1 hq').1 ⟨q', hq', hd⟩
 ·refine D.step.look fun k => get_of_look fun x => ?_
  rcases last_below (fun j => Wr (sf (j + 1)).log x) ops.size with hnone | ⟨j, hj, hwj, hlast⟩
  ·rw [C.heap_stays (i := 0) (Nat.zero_le _) (Nat.le_refl _) fun k _ hk => hnone k hk]
   exact (D.heap0 x fun j _ hj => hnone j hj).symm
  ·rw [C.heap_stays (i := j + 1) (j := ops.size) (by omega) (Nat.le_refl _) fun k h1 h2 => hlast k (by omega) h2]
   exact (D.heap x j (hall j hj) hj hwj fun k _ hkn hjk => hlast k hjk hkn).symm
end
end Go.Lx
