/-
  Each of the machine's operations is the model's, through the relation: append.
-/
import Derived.Test.YtfgnpegkcmkeaaaGreatDoorLxI
set_option linter.unusedSimpArgs false
set_option linter.unusedVariables false
namespace Go.Lx
section
variable {P : Program} {μ : Mu} {ν : Nat → Value} {s s' : St} {w : World}
theorem sim_appendCore {e : TypeId} {sv v : V} {s0 x' z' : Value} {ts : Array TypeId} {ty : TypeId} {new : List V} {ns : List Value} {n size bytes : Nat} {ti : TypeInfo} (hr : Rel P μ ν s.heap w.heap) (hf : Fresh μ s s') (hn : szT P e = some size) (htb : ti.bytes = bytes) (hzs : z'.cells.size = size)
  (hroom : ∀ (base : Option Addr) (sLen sCap : Nat), sLen + n ≤ sCap → (Builtin.append_ ts ty #[.slice base sLen sCap, x']).run P w = (do
    if let some a := base then storeCells (a.add (sLen * size)) ns
    pure (.slice base (sLen + n) sCap) : Sem Value).run P w)
  (hgrow : ∀ (base : Option Addr) (sLen sCap : Nat) (os : Array Value), ¬ sLen + n ≤ sCap → roomy (sLen + n) ti.bytes = true → (∀ d, (Builtin.firstCells size sLen (.slice base sLen sCap)).run P { w with drawn := d } = .ok os { w with drawn := d }) →
    ∃ cap, sLen + n ≤ cap ∧ (Builtin.append_ ts ty #[.slice base sLen sCap, x']).run P w = .ok (.slice (some ⟨w.heap.size, 0, none⟩) (sLen + n) cap)
     { w with heap := w.heap.push (.cells (os ++ (⟨ns⟩ : Array Value) ++ Builtin.zeroCells z'.cells (cap - (sLen + n))) e), drawn := w.drawn + 1 })
  (t3 : VsRel μ ν new ns) (t6 : new.length = n * size) (hs : VRel μ ν sv s0) (h2 : appendCore e size bytes sv new n s = .ok v s') : SimV P μ ν s s' w (Builtin.append_ ts ty #[s0, x']) v := by
 obtain ⟨sh1, sn1, sl1⟩ := s
 unfold appendCore at h2
 cases hs <;> (try simp only at h2) <;> try exact (err_ok h2).elim
 case nilslice =>
  cases hn0 : Nat.beq n 0
  ·rw [hn0, cond_false] at h2
   rw [nbeq_false] at hn0
   cases hro : roomy n bytes
   ·rw [hro, cond_false] at h2; exact (err_ok h2).elim
   ·rw [hro, cond_true] at h2
    obtain ⟨k, s2, g1, g2⟩ := bnd_ok h2
    obtain ⟨rfl, rfl⟩ := ret_ok g2
    obtain ⟨rfl, rfl⟩ := alloc_ok g1
    have hk : μ k = none := hf _ (Nat.le_refl _) (by show k < k + 1; omega)
    have hnl : ns.length = n * size := by rw [← t3.length]; exact t6
    obtain ⟨cap, c1, c2⟩ := hgrow none 0 0 #[] (by omega) (by rw [Nat.zero_add, htb]; exact hro) (fun d => rfl)
    obtain ⟨pl, q1, q2, q3, q4, q5, q6⟩ := step_grown (P := P) (μ := μ) (ν := ν) (s := ⟨sh1, k, sl1⟩) (w := w) (d := w.drawn + 1) (os := []) (ns := ns) (sLen := 0) hr hk hn hzs (by simp) hnl c1 t3
    rw [Nat.zero_add] at c2
    refine ⟨upd μ k pl, _, _, c2, slice_grown q1 q2 q3 q4 q5 (by omega), ?_⟩
    rw [Nat.zero_add] at q6
    exact q6
  ·rw [hn0, cond_true] at h2
   rw [nbeq_iff] at hn0; subst hn0
   obtain ⟨rfl, rfl⟩ := ret_ok h2
   refine .quiet (r := .slice none 0 0) hr ?_ .nilslice rfl rfl
   rw [hroom _ _ _ (by omega)]
   rfl
 case slice b o len cap cap' p a hp hl hsl =>
  cases hn0 : Nat.beq n 0
  case true =>
   rw [hn0, cond_true] at h2
   rw [nbeq_iff] at hn0; subst hn0
   obtain ⟨rfl, rfl⟩ := ret_ok h2
   have hcap : len ≤ cap' := by rcases hsl with ⟨h0, h1⟩ | ⟨_, h1 | ⟨_, h1, _⟩⟩ <;> omega
   refine .quiet (r := .slice (some a) len cap') hr ?_ (.slice hp hl hsl) rfl rfl
   rw [hroom _ _ _ (by omega)]
   have hns : ns = [] := by
    have := t3.length; rw [t6] at this; simp at this; exact List.length_eq_zero_iff.1 this.symm
   subst hns
   simp only [Sem.run_bind, Result.andThen_ok, storeCells, Sem.run_pure, Nat.add_zero]
  case false =>
   rw [hn0, cond_false] at h2
   rw [nbeq_false] at hn0
   have hnl : ns.length = n * size := by rw [← t3.length]; exact t6
   cases hle : Nat.ble (len + n) cap
   case true =>
    rw [hle, cond_true] at h2
    rw [ble_iff] at hle
    obtain ⟨u, s2, g1, g2⟩ := bnd_ok h2
    obtain ⟨rfl, rfl⟩ := ret_ok g2
    have hcap : len + n ≤ cap' := by rcases hsl with ⟨h0, h1⟩ | ⟨_, h1 | ⟨_, h1, _⟩⟩ <;> omega
    have ha : a = ⟨p.blk, p.off + o, none⟩ := by
     rcases hsl with ⟨h0, h1⟩ | ⟨h1, _⟩
     ·omega
     ·exact h1
    obtain ⟨w', g3, g4⟩ := sim_stc (P := P) (s := ⟨sh1, sn1, sl1⟩) (w := w) hr hp t3 g1
    refine ⟨μ, w', .slice (some a) (len + n) cap', ?_, .slice hp hle hsl, g4⟩
    rw [hroom _ _ _ hcap]
    simp only [Sem.run_bind]
    subst ha
    simp only [add_none]
    rw [Nat.add_assoc, g3]
    rfl
   case false =>
    rw [hle, cond_false] at h2
    rw [ble_false] at hle
    cases hro : roomy (len + n) bytes
    ·rw [hro, cond_false] at h2; exact (err_ok h2).elim
    rw [hro, cond_true] at h2
    unfold growM at h2
    obtain ⟨⟨bl, e', q⟩, s2, g1, g2⟩ := bnd_ok h2
    obtain ⟨c, e1, q1, hg, hq, rfl⟩ := blk_ok g1
    injection hq with hq1 hq2
    injection hq2 with hq2 hq3
    subst hq2; subst hq3
    obtain ⟨old, s3, g3, g4⟩ := bnd_ok g2
    obtain ⟨c', hg', hq', rfl, rfl⟩ := ld_ok g3
    have hg0 : sh1.get b = some (.cells c e' q) := hg
    obtain rfl : c = c' := (HasRow.cells hg' hg0).symm
    obtain ⟨p', hp', hor⟩ := hr.ob b _ hg0
    rw [hp] at hp'; cases hp'
    obtain ⟨os, o1, o2⟩ := run_loads_d (P := P) (w := w) hr (.of_cells hg0) hp hq'
    have hol : os.length = len * size := by rw [← o2.length, sub_length hq']
    have hlive : len = 0 ∨ a = ⟨p.blk, p.off + o, none⟩ := by
     rcases hsl with ⟨h0, h1⟩ | ⟨h1, _⟩
     ·exact .inl (by omega)
     ·exact .inr h1
    have hfo : ∀ d, (Builtin.firstCells size len (.slice (some a) len cap')).run P { w with drawn := d } = .ok ⟨os⟩ { w with drawn := d } := by
     intro d
     rcases hlive with h0 | h0
     ·subst h0
      have : os = [] := by simpa using hol
      subst this
      simp [Builtin.firstCells, loadCells, loadCellsFrom]
     ·subst h0; simp only [Builtin.firstCells]; exact o1 d
    have grow : ¬ len + n ≤ cap' → ∀ (h1 : T Ob) (lg : List LE), Rel P μ ν h1 w.heap → (∀ (j : Nat) (c0 : List V), sh1.get j = some (.ro c0) → h1.get j = some (.ro c0)) → μ sn1 = none → SimV P μ ν ⟨sh1, sn1, sl1⟩ ⟨h1.set sn1 (some (.cells (sub c o (len * size) ++ new) e true)), sn1 + 1, lg⟩ w
      (Builtin.append_ ts ty #[.slice (some a) len cap', x']) (.slice sn1 0 (len + n) (len + n)) := by
     intro hno h1 lg hr1 hro1 hk
     obtain ⟨cap2, c1, c2⟩ := hgrow (some a) len cap' ⟨os⟩ hno (by rw [htb]; exact hro) hfo
     obtain ⟨pl, q1, q2, q3, q4, q5, q6⟩ := step_grown (P := P) (μ := μ) (ν := ν) (s := ⟨h1, sn1, sl1⟩) (w := w) (d := w.drawn + 1) (os := os) (ns := ns) (sLen := len) hr1 hk hn hzs hol hnl c1 (o2.append t3)
     exact ⟨upd μ sn1 pl, _, _, c2, slice_grown q1 q2 q3 q4 q5 (by omega), ⟨q6.le, q6.new, q6.rel, q6.os, q6.tape, q6.output, q6.size, q6.block, q6.newblk, fun j c0 q0 r1 r2 => q6.ro j c0 q0 (hro1 j c0 r1) r2⟩⟩
    cases hqq : q
    case false =>
     subst hqq
     simp only [cond_false] at g4
     obtain ⟨k, s4, g5, g6⟩ := bnd_ok g4
     obtain ⟨rfl, rfl⟩ := ret_ok g6
     obtain ⟨rfl, rfl⟩ := alloc_ok g5
     have hno : ¬ len + n ≤ cap' := by
      rcases hsl with ⟨h0, h1⟩ | ⟨_, h1 | ⟨h1, _⟩⟩
      ·omega
      ·omega
      ·have := hor.1; rw [h1] at this; cases this
     have hk : μ k = none := hf _ (Nat.le_refl _) (by show k < k + 1; omega)
     exact grow hno sh1 _ hr (fun _ _ h => h) hk
    case true =>
     subst hqq
     simp only [cond_true] at g4
     cases hee : (Nat.beq e' e && new.all V.isCell)
     ·rw [hee, cond_false] at g4; exact (err_ok g4).elim
     rw [hee, cond_true] at g4
     rw [Bool.and_eq_true, nbeq_iff] at hee
     obtain ⟨hee, hcells⟩ := hee
     subst hee
     obtain ⟨u, s5, g7, g8⟩ := bnd_ok g4
     obtain ⟨c3, e3, q3, hg3, rfl⟩ := kill_ok g7
     obtain ⟨k, s4, g5, g6⟩ := bnd_ok g8
     obtain ⟨rfl, rfl⟩ := ret_ok g6
     obtain ⟨rfl, rfl⟩ := alloc_ok g5
     have hk : μ k = none := hf _ (Nat.le_refl _) (by show k < k + 1; omega)
     by_cases hno : len + n ≤ cap'
     ·
      have hso : a = ⟨p.blk, p.off + o, none⟩ ∧ p.opn = true ∧ p.off + o + cap' * p.esz ≤ p.lim := by
       rcases hsl with ⟨h0, h1⟩ | ⟨h1, h2 | ⟨h2, h3, h4⟩⟩
       ·omega
       ·omega
       ·exact ⟨h1, h2, h4⟩
      obtain ⟨ha, hopn, hlim⟩ := hso
      obtain ⟨_, hesz, rc, frz, r3, _, r4, r5, r6, r7⟩ := hor
      have hez : p.esz = size := by have := hesz rfl; rw [hn] at this; injection this with this; exact this.symm
      have hmul : (len + n) * size ≤ cap' * size := Nat.mul_le_mul_right _ hno
      rw [Nat.add_mul] at hmul
      rw [hez] at hlim
      obtain ⟨w', rc', v1, v2, v3, v4, v5⟩ := run_stores (P := P) (b := p.blk) (o := p.off + o + len * size) ns 0 w rc r3 (by omega) (fun j hj => r6 _ (by omega)) (t3.oneCells hcells)
      ·have hpl : ORel P (upd μ k ⟨p.blk, p.off + o, true, size, p.lim⟩) ν ⟨p.blk, p.off + o, true, size, p.lim⟩ w'.heap (.cells (sub c o (len * size) ++ new) e' true) := by
        refine ⟨rfl, fun _ => hn, rc', frz, v2, (fun e => by cases e), ?_, by rw [v3]; exact r5, r6, fun i v hi => ?_⟩
        ·simp only [List.length_append, sub_length hq', t6]; omega
        ·by_cases hil : i < len * size
         ·rw [List.getElem?_append_left (by rw [sub_length hq']; exact hil), sub_get hil] at hi
          obtain ⟨r, k1, k2⟩ := r7 _ v hi
          refine ⟨r, ?_, k2.mono (upd_le _ hk)⟩
          show rc'[p.off + o + i]? = some r
          rw [v4, if_neg (by omega)]
          rw [Nat.add_assoc]; exact k1
         ·rw [List.getElem?_append_right (by rw [sub_length hq']; omega), sub_length hq'] at hi
          obtain ⟨r, k1, k2⟩ := t3.get hi
          have hlt : i - len * size < new.length := (List.getElem?_eq_some_iff.1 hi).1
          refine ⟨r, ?_, k2.mono (upd_le _ hk)⟩
          show rc'[p.off + o + i]? = some r
          rw [v4, if_pos (by omega), show p.off + o + i - (p.off + o + len * size + 0) = i - len * size by omega]
          exact k1
       refine ⟨upd μ k ⟨p.blk, p.off + o, true, size, p.lim⟩, w', .slice (some a) (len + n) cap', ?_, .slice (upd_same _ _ _) (Nat.le_refl _) (.inr ⟨by rw [ha]; rfl, .inr ⟨rfl, hno, by show p.off + o + 0 + cap' * size ≤ p.lim; omega⟩⟩), ?_⟩
       ·rw [hroom _ _ _ hno]
        simp only [Sem.run_bind]
        subst ha
        simp only [add_none]
        rw [v1]
        rfl
       ·refine ⟨upd_le _ hk, fun j hj => upd_ne _ _ (by intro e; exact hj (by rw [e]; exact ⟨Nat.le_refl _, Nat.lt_succ_self _⟩)), hr.rebind hg0 rfl hp hk rfl hpl v5.other, v5.os, v5.tape, v5.output, Nat.le_of_eq v5.size.symm, fun b' _ hb' => v5.other b' fun e => hb' _ _ hp e.symm, fun j q h1 h2 => ?_, fun j c0 q h1 h2 => ?_⟩
        rotate_left
        ·have hne : j ≠ b := fun e => by subst e; rw [hg0] at h1; cases h1
         have hne2 : j ≠ k := fun e => by rw [e, hk] at h2; cases h2
         exact ⟨by rw [T.get_set, if_neg hne2, T.get_set, if_neg hne]; exact h1, v5.other _ (hr.sep j b _ _ q p h1 hg0 hne rfl h2 hp)⟩
        by_cases ej : j = k
        ·subst ej; rw [upd_same] at h1; cases h1; exact .inr ⟨b, p, hp, rfl⟩
        ·rw [upd_ne _ _ ej] at h1; rw [h1] at h2; cases h2
     ·refine grow hno _ _ (hr.drop b) (fun j c0 h0 => ?_) hk
      have hne : j ≠ b := fun e => by subst e; rw [hg0] at h0; cases h0
      rw [T.get_set, if_neg hne]; exact h0
theorem sim_append {t tx : TypeId} {sv x v : V} {s0 x' : Value} {ts : Array TypeId} {ty : TypeId} (hr : Rel P μ ν s.heap w.heap) (hf : Fresh μ s s') (ht : ts[0]? = some t) (htx : ts[1]? = some tx)
  (hs : VRel μ ν sv s0) (hx : VRel μ ν x x') (h : appendM P t tx sv x s = .ok v s') : SimV P μ ν s s' w (Builtin.append_ ts ty #[s0, x']) v := by
 unfold appendM at h
 cases hd : P.underlying t <;> cases hdx : P.underlying tx <;> simp only [hd, hdx] at h <;> try exact (err_ok h).elim
 all_goals try (rename_i d; cases d <;> exact (err_ok h).elim)
 rename_i d dx
 cases d <;> (try simp only at h) <;> try exact (err_ok h).elim
 rename_i e
 cases hn : szT P e <;> cases hz : zeroT P e <;> cases hby : (P.info? e).map (·.bytes) <;> simp only [hn, hz, hby] at h <;> try exact (err_ok h).elim
 rename_i size z bytes
 cases hzl : Nat.beq z.cells.length size
 ·rw [hzl, cond_false] at h; exact (err_ok h).elim
 rw [hzl, cond_true] at h
 rw [nbeq_iff] at hzl
 have hinfo : ∃ i, P.info? e = some i ∧ i.bytes = bytes := by
  cases hi : P.info? e with
  | none => rw [hi] at hby; cases hby
  | some i => rw [hi] at hby; injection hby with hby; exact ⟨i, rfl, hby⟩
 obtain ⟨ti, hti, htb⟩ := hinfo
 obtain ⟨z', hz1, hz2⟩ : ∃ z', (∀ w2 : World, (zeroValue e).run P w2 = .ok z' w2) ∧ VRel μ ν z z' := by
  unfold zeroT at hz
  rw [hti] at hz
  simp only [Option.bind_some] at hz
  cases hzz : ti.zero with
  | none => rw [hzz] at hz; cases hz
  | some u => rw [hzz] at hz; exact ⟨u, fun w2 => by simp [zeroValue, run_typeInfo hti, hzz], ofV_rel hz⟩
 have hzs : z'.cells.size = size := by have := hz2.cells.length; simp only [Array.length_toList] at this; omega
 cases hni : isIntD dx
 case false =>
  rw [hni, cond_false] at h
  obtain ⟨⟨new, n⟩, s1, h1, h2⟩ := bnd_ok h
  clear h
  obtain ⟨t1, ⟨ns, t2, t3⟩, t4, t5, t6⟩ := sim_taken (P := P) hr hx h1
  simp only at h2
  obtain ⟨sh, sn, sl⟩ := s
  obtain ⟨sh1, sn1, sl1⟩ := s1
  simp only at t4 t5 hr hf
  subst t4; subst t5
  refine sim_appendCore (s := ⟨sh1, sn1, sl1⟩) (z' := z') hr hf hn htb hzs (fun base sLen sCap hroom => ?_) (fun base sLen sCap os hno hro hfo => ?_) t3 t6 hs h2
  ·rw [append_room ht htx hd hdx hni hn t1 hroom]
   simp only [Sem.run_bind, t2 w.drawn, Result.andThen_ok]
   cases base <;> rfl
  ·exact append_grow (os := os) ht htx hd hdx hni hn t1 hno hti hro hfo t2 hz1
 case true =>
  rw [hni, cond_true] at h
  cases hx <;> (try simp only at h) <;> try exact (err_ok h).elim
  rename_i k i
  cases i <;> (try simp only at h) <;> try exact (err_ok h).elim
  rename_i n
  cases hro : roomy n bytes
  ·rw [hro, cond_false] at h; exact (err_ok h).elim
  rw [hro, cond_true] at h
  have hzz : VsRel μ ν (rep z.cells n) (Builtin.zeroCells z'.cells n).toList := rep_rel hz2.cells n
  refine sim_appendCore (z' := z') (ns := (Builtin.zeroCells z'.cells n).toList) hr hf hn htb hzs (fun base sLen sCap hroom => ?_) (fun base sLen sCap os hno hro2 hfo => ?_) hzz (by rw [rep_length, hzl]) hs h
  ·exact append_made_room ht htx hd hdx hni hn hti (by rw [htb]; exact hro) hz1 hzs hroom
  ·exact append_made_grow (os := os) ht htx hd hdx hni hn (by rw [htb]; exact hro) hno hti hro2 hzs hfo hz1
end
end Go.Lx
