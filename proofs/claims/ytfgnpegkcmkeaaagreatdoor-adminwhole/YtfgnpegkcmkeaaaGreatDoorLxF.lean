/-
  Each of the machine's operations is the model's, through the relation: memory, structs, slices, conversions.
-/
import Derived.Test.YtfgnpegkcmkeaaaGreatDoorLxE
set_option linter.unusedSimpArgs false
set_option linter.unusedVariables false
namespace Go.Lx
noncomputable section
def SimV (P : Program) (μ : Mu) (ν : Nat → Value) (s s' : St) (w : World) (m : Sem Value) (v : V) : Prop :=
 ∃ μ' w' r, m.run P w = .ok r w' ∧ VRel μ' ν v r ∧ StepOk P μ ν s.heap s.next w μ' s'.heap s'.next w'
def Fresh (μ : Mu) (s s' : St) : Prop := ∀ k, s.next ≤ k → k < s'.next → μ k = none
section
variable {P : Program} {μ : Mu} {ν : Nat → Value} {s s' : St} {w : World}
theorem SimV.quiet {m : Sem Value} {v : V} {r : Value} (hr : Rel P μ ν s.heap w.heap) (hm : m.run P w = .ok r w) (hv : VRel μ ν v r) (hh : s'.heap = s.heap) (hn : s'.next = s.next) : SimV P μ ν s s' w m v :=
 ⟨μ, w, r, hm, hv, by rw [hh, hn]; exact StepOk.refl hr⟩
theorem run_pure_bind {α β : Type} {m : Sem α} {f : α → Sem β} {a : α} {w1 : World} (h : m.run P w = .ok a w1) : (m >>= f).run P w = (f a).run P w1 := by
 rw [Sem.run_bind, h, Result.andThen_ok]
theorem sim_loadVar {t : TypeId} {k o : Nat} {v : V} {pl : Pl} (hr : Rel P μ ν s.heap w.heap) (hp : μ k = some pl) (h : loadVarM P t k o s = .ok v s') :
  (∃ r, (loadVar t ⟨pl.blk, pl.off + o, none⟩).run P w = .ok r w ∧ VRel μ ν v r) ∧ s'.heap = s.heap ∧ s'.next = s.next := by
 unfold loadVarM at h
 cases hd : P.underlying t <;> cases hn : szT P t <;> simp only [hd, hn] at h <;> try exact (err_ok h).elim
 ·rename_i d n
  cases hb : isAggD d
  ·rw [hb, cond_false] at h
   obtain ⟨cs, s1, h1, h2⟩ := bnd_ok h
   obtain ⟨c, hg, hl, rfl, rfl⟩ := ld_ok h1
   have hlt : o < c.length := by omega
   have hsub : sub c o 1 = [c[o]] := by
    apply List.ext_getElem?
    intro i
    cases i with
    | zero => rw [sub_get (by omega)]; simp [hlt]
    | succ i => rw [List.getElem?_eq_none (by rw [sub_length hl]; omega)]; simp
   rw [hsub] at h2
   obtain ⟨rfl, rfl⟩ := ret_ok h2
   obtain ⟨r, hr1, hr2⟩ := run_loadCell hr hg hp (o := o) (v := c[o]) (by simp [hlt])
   exact ⟨⟨r, by simp only [loadVar, Sem.run_bind, run_isAgg hd, hb, Result.andThen_ok, Bool.false_eq_true, if_false]; exact hr1, hr2⟩, rfl, rfl⟩
  ·rw [hb, cond_true] at h
   obtain ⟨cs, s1, h1, h2⟩ := bnd_ok h
   obtain ⟨c, hg, hl, rfl, rfl⟩ := ld_ok h1
   obtain ⟨rfl, rfl⟩ := ret_ok h2
   obtain ⟨rs, hr1, hr2⟩ := run_loads hr hg hp hl
   exact ⟨⟨.agg ⟨rs⟩, by simp only [loadVar, Sem.run_bind, run_isAgg hd, hb, Result.andThen_ok, if_true, run_sizeOf hn, hr1, Sem.run_pure], .agg hr2⟩, rfl, rfl⟩
theorem sim_load {t : TypeId} {k o : Nat} {v : V} {a : Value} (hr : Rel P μ ν s.heap w.heap) (ha : VRel μ ν (.ptr k o) a) (h : loadVarM P t k o s = .ok v s') : SimV P μ ν s s' w (Instr.loadAt t a) v := by
 cases ha with
 | ptr hp =>
   obtain ⟨⟨r, h1, h2⟩, h3, h4⟩ := sim_loadVar hr hp h
   exact .quiet hr (by simp only [Instr.loadAt, Instr.sureAddr, Sem.run_bind, Sem.run_pure, Result.andThen_ok, h1]) h2 h3 h4
theorem sim_stc {k o : Nat} {vs : List V} {rs : List Value} {pl : Pl} {u : Unit} (hr : Rel P μ ν s.heap w.heap) (hp : μ k = some pl) (hv : VsRel μ ν vs rs) (h : stc k o vs s = .ok u s') :
  ∃ w', (storeCells ⟨pl.blk, pl.off + o, none⟩ rs).run P w = .ok () w' ∧ StepOk P μ ν s.heap s.next w μ s'.heap s'.next w' := by
 obtain ⟨c, e, p, hg, hl, hc, rfl⟩ := stc_ok h
 obtain ⟨q, hq, ho⟩ := hr.ob k _ hg
 rw [hp] at hq; cases hq
 obtain ⟨h1, h2, rc, frz, h3, hwh, h4, h5, h6, h7⟩ := ho
 have hlen := hv.length
 obtain ⟨w', rc', g1, g2, g3, g4, g5⟩ := run_stores (P := P) (b := pl.blk) (o := pl.off + o) rs 0 w rc h3 (by omega) (fun j hj => h6 _ (by omega)) (hv.oneCells hc)
 refine ⟨w', g1, StepOk.wrote hr hg hp g5 ⟨h1, h2, rc', frz, g2, hwh, ?_, by omega, h6, fun i v hi => ?_⟩⟩
 ·rw [listPut_length]; exact h4
 ·rw [listPut_get _ _ _ _ hl] at hi
  by_cases hr' : o ≤ i ∧ i < o + vs.length
  ·rw [if_pos hr'] at hi
   obtain ⟨r, hr1, hr2⟩ := hv.get hi
   refine ⟨r, ?_, hr2⟩
   rw [g4, if_pos (by omega)]
   rw [show pl.off + i - (pl.off + o + 0) = i - o by omega]; exact hr1
  ·rw [if_neg hr'] at hi
   obtain ⟨r, hr1, hr2⟩ := h7 i v hi
   exact ⟨r, by rw [g4, if_neg (by omega)]; exact hr1, hr2⟩
theorem sim_store {t : TypeId} {k o : Nat} {v u : V} {a x : Value} (hr : Rel P μ ν s.heap w.heap) (ha : VRel μ ν (.ptr k o) a) (hx : VRel μ ν v x) (h : storeVarM P t k o v s = .ok u s') :
  u = undefV ∧ ∃ w', (Instr.storeAt t a x).run P w = .ok () w' ∧ StepOk P μ ν s.heap s.next w μ s'.heap s'.next w' := by
 cases ha with
 | ptr hp =>
   unfold storeVarM at h
   cases hn : szT P t <;> simp only [hn] at h
   ·exact (err_ok h).elim
   ·rename_i n
    cases hb : Nat.beq v.cells.length n
    ·rw [hb, cond_false] at h; exact (err_ok h).elim
    ·rw [hb, cond_true] at h
     rw [nbeq_iff] at hb
     obtain ⟨u1, s1, h1, h2⟩ := bnd_ok h
     obtain ⟨rfl, rfl⟩ := ret_ok h2
     obtain ⟨w', g1, g2⟩ := sim_stc hr hp hx.cells h1
     refine ⟨rfl, w', ?_, g2⟩
     have hsz : x.cells.size = n := by rw [← hb, hx.cells.length]; simp
     simp only [Instr.storeAt, Instr.sureAddr, Sem.run_bind, Sem.run_pure, Result.andThen_ok, storeVar, run_sizeOf hn, hsz, ne_eq, not_true_eq_false, if_false]
     exact g1
theorem sim_newRow {c : List V} {e : TypeId} {rc : List Value} {k : Nat} (hr : Rel P μ ν s.heap w.heap) (hf : Fresh μ s s') (hv : VsRel μ ν c rc) (h : alloc (.cells c e false) s = .ok k s') :
  ∃ pl, pl.blk = w.heap.size ∧ pl.off = 0 ∧ pl.opn = false ∧ k = s.next ∧ (newRow e ⟨rc⟩).run P w = .ok ⟨w.heap.size, 0, none⟩ { w with heap := w.heap.push (.cells ⟨rc⟩ e) } ∧
   StepOk P μ ν s.heap s.next w (upd μ k pl) s'.heap s'.next { w with heap := w.heap.push (.cells ⟨rc⟩ e) } := by
 obtain ⟨rfl, rfl⟩ := alloc_ok h
 have hk : μ s.next = none := hf _ (Nat.le_refl _) (by show s.next < s.next + 1; omega)
 refine ⟨⟨w.heap.size, 0, false, 0, rc.length⟩, rfl, rfl, rfl, rfl, by simp [newRow], ?_⟩
 exact StepOk.alloc (d := w.drawn) hr hk rfl (ORel.mono (upd_le _ hk) rfl (ORel.cells_new hv))
theorem ptr_new {k : Nat} {pl : Pl} {n : Nat} (hb : pl.blk = n) (ho : pl.off = 0) : VRel (upd μ k pl) ν (.ptr k 0) (.pointer (some ⟨n, 0, none⟩)) := by
 have := VRel.ptr (ν := ν) (o := 0) (upd_same μ k pl)
 rw [hb, ho] at this
 exact this
theorem slice_new {k : Nat} {pl : Pl} {n len cap : Nat} (hb : pl.blk = n) (ho : pl.off = 0) (hl : len ≤ cap) : VRel (upd μ k pl) ν (.slice k 0 len cap) (.slice (some ⟨n, 0, none⟩) len cap) := by
 refine VRel.slice (upd_same μ k pl) hl (.inr ⟨by rw [hb, ho], .inl rfl⟩)
theorem sim_alloc {e : TypeId} {z v : V} (hr : Rel P μ ν s.heap w.heap) (hf : Fresh μ s s') (hz : zeroT P e = some z) (h : bnd (alloc (.cells z.cells e false)) (fun k => ret (.ptr k 0)) s = .ok v s') :
  SimV P μ ν s s' w (Instr.alloc e true (.tuple #[])) v := by
 obtain ⟨k, s1, h1, h2⟩ := bnd_ok h
 obtain ⟨rfl, rfl⟩ := ret_ok h2
 obtain ⟨z', hz1, hz2⟩ := zeroT_run (μ := μ) (ν := ν) (w := w) hz
 obtain ⟨pl, p1, p2, p3, p4, p5, p6⟩ := sim_newRow hr hf hz2.cells h1
 refine ⟨_, _, .pointer (some ⟨w.heap.size, 0, none⟩), ?_, ptr_new p1 p2, p6⟩
 have : (newVar e z').run P w = .ok ⟨w.heap.size, 0, none⟩ { w with heap := w.heap.push (.cells ⟨z'.cells.toList⟩ e) } := p5
 simp only [Instr.alloc, Sem.run_bind, hz1, Result.andThen_ok, this, Sem.run_pure]
theorem sim_box {e : TypeId} {x v : V} {x' : Value} (hr : Rel P μ ν s.heap w.heap) (hf : Fresh μ s s') (hx : VRel μ ν x x') (h : bnd (alloc (.cells x.cells e false)) (fun k => ret (.ptr k 0)) s = .ok v s') :
  SimV P μ ν s s' w (Instr.box e x') v := by
 obtain ⟨k, s1, h1, h2⟩ := bnd_ok h
 obtain ⟨rfl, rfl⟩ := ret_ok h2
 obtain ⟨pl, p1, p2, p3, p4, p5, p6⟩ := sim_newRow hr hf hx.cells h1
 refine ⟨_, _, .pointer (some ⟨w.heap.size, 0, none⟩), ?_, ptr_new p1 p2, p6⟩
 have : (newVar e x').run P w = .ok ⟨w.heap.size, 0, none⟩ { w with heap := w.heap.push (.cells ⟨x'.cells.toList⟩ e) } := p5
 simp only [Instr.box, Sem.run_bind, Result.andThen_ok, this, Sem.run_pure]
theorem sim_part {t : TypeId} {cs : List V} {cs' : List Value} {off : Nat} {v : V} (hr : Rel P μ ν s.heap w.heap) (hc : VsRel μ ν cs cs') (h : partM P t cs off s = .ok v s') :
  SimV P μ ν s s' w (part t ⟨cs'⟩ off) v := by
 unfold partM at h
 cases hd : P.underlying t <;> cases hn : szT P t <;> simp only [hd, hn] at h <;> try exact (err_ok h).elim
 ·rename_i d n
  cases hb : isAggD d
  ·rw [hb, cond_false] at h
   cases hx : cs[off]? <;> simp only [hx] at h
   ·exact (err_ok h).elim
   ·obtain ⟨rfl, rfl⟩ := ret_ok h
    obtain ⟨r, h1, h2⟩ := hc.get hx
    refine .quiet hr ?_ h2 rfl rfl
    simp only [part, Sem.run_bind, run_isAgg hd, hb, Result.andThen_ok, Bool.false_eq_true, if_false]
    have : (⟨cs'⟩ : Array Value)[off]? = some r := by simpa using h1
    rw [this]; rfl
  ·rw [hb, cond_true] at h
   cases hb' : Nat.ble (off + n) cs.length
   ·rw [hb', cond_false] at h; exact (err_ok h).elim
   ·rw [hb', cond_true] at h
    obtain ⟨rfl, rfl⟩ := ret_ok h
    refine .quiet (r := .agg ((⟨cs'⟩ : Array Value).extract off (off + n))) hr ?_ ?_ rfl rfl
    ·simp only [part, Sem.run_bind, run_isAgg hd, hb, Result.andThen_ok, if_true, run_sizeOf hn, Sem.run_pure]
    ·have e : (⟨cs'⟩ : Array Value).extract off (off + n) = ⟨sub cs' off n⟩ := by
      apply Array.ext'
      simp [sub]
     rw [e]; exact .agg (hc.sub off n)
inductive PRel (μ : Mu) (ν : Nat → Value) : List (Nat × List V) → List (Nat × Value) → Prop
 | nil : PRel μ ν [] []
 | cons {i : Nat} {v : V} {r : Value} {l : List (Nat × List V)} {l' : List (Nat × Value)} (h : VRel μ ν v r) (hs : PRel μ ν l l') : PRel μ ν ((i, v.cells) :: l) ((i, r) :: l')
theorem foldl_put (off : Nat) : ∀ (vs : List Value) (j : Nat) (cs : Array Value), off + j + vs.length ≤ cs.size →
  ((vs.zipIdx j).foldl (fun (cs : Array Value) (x : Value × Nat) => cs.setIfInBounds (off + x.2) x.1) cs).toList = listPut cs.toList (off + j) vs
 | [], j, cs, _ => by simp [listPut]
 | v :: vs, j, cs, h => by
   simp only [List.zipIdx_cons, List.foldl_cons]
   rw [foldl_put off vs (j + 1) _ (by simp at h ⊢; omega)]
   apply List.ext_getElem?
   intro i
   rw [listPut_get _ _ _ _ (by simp at h ⊢; omega), listPut_get _ _ _ _ (by simp at h ⊢; omega)]
   simp only [List.length_cons]
   by_cases h1 : off + (j + 1) ≤ i ∧ i < off + (j + 1) + vs.length
   ·rw [if_pos h1, if_pos (by omega), show i - (off + j) = (i - (off + (j + 1))) + 1 by omega, List.getElem?_cons_succ]
   ·rw [if_neg h1]
    by_cases h2 : i = off + j
    ·subst h2
     rw [if_pos (by omega)]
     have : off + j < cs.size := by simp at h; omega
     simp [this]
    ·rw [if_neg (by omega)]
     simp only [Array.toList_setIfInBounds]
     rw [List.getElem?_set_ne (by omega)]
theorem sim_fill {place : Nat → Option (Nat × Nat)} : ∀ {l : List (Nat × List V)} {l' : List (Nat × Value)} {ps : List (Nat × Nat × List V)} {z cs : List V} {z' : List Value},
  PRel μ ν l l' → (∀ (i : Nat) (vs : Nat × Nat × List V), ps[i]? = some vs → ∃ p : Nat × List V, l[i]? = some p ∧ p.2 = vs.2.2 ∧ place p.1 = some (vs.1, vs.2.1)) → ps.length = l.length → VsRel μ ν z z' → fillV ps z = some cs →
  ∃ cs', Instr.fill place ⟨z'⟩ l' = some ⟨cs'⟩ ∧ VsRel μ ν cs cs'
 | [], _, ps, z, cs, z', h, hp, hl, hz, hc => by
   cases h
   cases ps with
   | nil => injection hc with hc; subst hc; exact ⟨z', rfl, hz⟩
   | cons p ps => simp at hl
 | _ :: l, _, ps, z, cs, z', h, hp, hl, hz, hc => by
   cases h with
   | cons hv hs =>
     rename_i i v r l'
     cases ps with
     | nil => simp at hl
     | cons p ps =>
       obtain ⟨off, size, vs⟩ := p
       obtain ⟨q, hq1, hq2, hq3⟩ := hp 0 _ rfl
       simp at hq1; subst hq1
       simp only at hq2 hq3; subst hq2
       simp only [fillV] at hc
       cases hb : (Nat.beq v.cells.length size && Nat.ble (off + v.cells.length) z.length)
       ·rw [hb, cond_false] at hc; cases hc
       ·rw [hb, cond_true] at hc
        rw [Bool.and_eq_true, nbeq_iff, ble_iff] at hb
        have hvc := hv.cells
        have hlen := hvc.length
        have hzl := hz.length
        have hfold : (r.cells.zipIdx.foldl (fun (cs : Array Value) (x : Value × Nat) => cs.setIfInBounds (off + x.2) x.1) ⟨z'⟩) = ⟨listPut z' off r.cells.toList⟩ := by
         apply Array.ext'
         rw [← Array.foldl_toList, Array.toList_zipIdx]
         have := foldl_put off r.cells.toList 0 ⟨z'⟩ (by simp at hlen ⊢; omega)
         simpa using this
        obtain ⟨cs', g1, g2⟩ := sim_fill (place := place) hs (fun i vs hi => by simpa using hp (i + 1) vs (by simpa using hi)) (by simpa using hl) (hz.put hvc off) hc
        refine ⟨cs', ?_, g2⟩
        have hsz : r.cells.size = size := by simp at hlen; omega
        have hle : ¬ (off + r.cells.size > z'.length) := by simp at hlen; omega
        simp only [Instr.fill, hq3, hsz, ne_eq, not_true_eq_false]
        rw [if_neg (by simp; omega), hfold]
        exact g1
end
end
end Go.Lx
