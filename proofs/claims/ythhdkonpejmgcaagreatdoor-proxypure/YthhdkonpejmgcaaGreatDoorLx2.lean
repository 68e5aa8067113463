/-
  Several texts, joined.
-/
import Derived.Test.YthhdkonpejmgcaaGreatDoorLx1
import Derived.Laws.BytesString
import Derived.Laws.Append
import Derived.Laws.Strings
/-
  Each of the machine's operations is the model's, through the relation: memory, structs, slices, conversions.
-/
set_option linter.unusedSimpArgs false
set_option linter.unusedVariables false
namespace Go.Lx
noncomputable section
def SimV (P : Program) (μ : Mu) (ν : Nat → Value) (s s' : St) (w : World) (m : Sem Value) (v : V) : Prop :=
  ∃ μ' w' r, m.run P w = .ok r w' ∧ VRel μ' ν v r ∧ StepOk P μ ν s.heap s.next w μ' s'.heap s'.next w'
def Fresh (μ : Mu) (s s' : St) : Prop := ∀ k, s.next ≤ k → k < s'.next → μ k = none

section
variable {P : Program} {μ : Mu} {ν : Nat → Value} {s s' : St} {w : World}

theorem SimV.quiet {m : Sem Value} {v : V} {r : Value} (hr : Rel P μ ν s.heap w.heap) (hm : m.run P w = .ok r w) (hv : VRel μ ν v r) (hh : s'.heap = s.heap) (hn : s'.next = s.next) : SimV P μ ν s s' w m v :=
  ⟨μ, w, r, hm, hv, by rw [hh, hn]; exact StepOk.refl hr⟩

theorem run_pure_bind {α β : Type} {m : Sem α} {f : α → Sem β} {a : α} {w1 : World} (h : m.run P w = .ok a w1) : (m >>= f).run P w = (f a).run P w1 := by
  rw [Sem.run_bind, h, Result.andThen_ok]

theorem sim_loadVar {t : TypeId} {k o : Nat} {v : V} {pl : Pl} (hr : Rel P μ ν s.heap w.heap) (hp : μ k = some pl) (h : loadVarM P t k o s = .ok v s') :
    (∃ r, (loadVar t ⟨pl.blk, pl.off + o, none⟩).run P w = .ok r w ∧ VRel μ ν v r) ∧ s'.heap = s.heap ∧ s'.next = s.next := by
  unfold loadVarM at h
  cases hd : P.underlying t <;> cases hn : szT P t <;> simp only [hd, hn] at h <;> try exact (err_ok h).elim
  · rename_i d n
    cases hb : isAggD d
    · rw [hb, cond_false] at h
      obtain ⟨cs, s1, h1, h2⟩ := bnd_ok h
      obtain ⟨c, hg, hl, rfl, rfl⟩ := ld_ok h1
      have hlt : o < c.length := by omega
      have hsub : sub c o 1 = [c[o]] := by
        apply List.ext_getElem?
        intro i
        cases i with
        | zero => rw [sub_get (by omega)]; simp [hlt]
        | succ i => rw [List.getElem?_eq_none (by rw [sub_length hl]; omega)]; simp
      rw [hsub] at h2
      obtain ⟨rfl, rfl⟩ := ret_ok h2
      obtain ⟨r, hr1, hr2⟩ := run_loadCell hr hg hp (o := o) (v := c[o]) (by simp [hlt])
      exact ⟨⟨r, by simp only [loadVar, Sem.run_bind, run_isAgg hd, hb, Result.andThen_ok, Bool.false_eq_true, if_false]; exact hr1, hr2⟩, rfl, rfl⟩
    · rw [hb, cond_true] at h
      obtain ⟨cs, s1, h1, h2⟩ := bnd_ok h
      obtain ⟨c, hg, hl, rfl, rfl⟩ := ld_ok h1
      obtain ⟨rfl, rfl⟩ := ret_ok h2
      obtain ⟨rs, hr1, hr2⟩ := run_loads hr hg hp hl
      exact ⟨⟨.agg ⟨rs⟩, by simp only [loadVar, Sem.run_bind, run_isAgg hd, hb, Result.andThen_ok, if_true, run_sizeOf hn, hr1, Sem.run_pure], .agg hr2⟩, rfl, rfl⟩

theorem sim_load {t : TypeId} {k o : Nat} {v : V} {a : Value} (hr : Rel P μ ν s.heap w.heap) (ha : VRel μ ν (.ptr k o) a) (h : loadVarM P t k o s = .ok v s') : SimV P μ ν s s' w (Instr.loadAt t a) v := by
  cases ha with
  | ptr hp =>
    obtain ⟨⟨r, h1, h2⟩, h3, h4⟩ := sim_loadVar hr hp h
    exact .quiet hr (by simp only [Instr.loadAt, Instr.sureAddr, Sem.run_bind, Sem.run_pure, Result.andThen_ok, h1]) h2 h3 h4
theorem sim_stc {k o : Nat} {vs : List V} {rs : List Value} {pl : Pl} {u : Unit} (hr : Rel P μ ν s.heap w.heap) (hp : μ k = some pl) (hv : VsRel μ ν vs rs) (h : stc k o vs s = .ok u s') :
    ∃ w', (storeCells ⟨pl.blk, pl.off + o, none⟩ rs).run P w = .ok () w' ∧ StepOk P μ ν s.heap s.next w μ s'.heap s'.next w' := by
  obtain ⟨c, e, p, hg, hl, hc, rfl⟩ := stc_ok h
  obtain ⟨q, hq, ho⟩ := hr.ob k _ hg
  rw [hp] at hq; cases hq
  obtain ⟨h1, h2, rc, frz, h3, hwh, h4, h5, h6, h7⟩ := ho
  have hlen := hv.length
  obtain ⟨w', rc', g1, g2, g3, g4, g5⟩ := run_stores (P := P) (b := pl.blk) (o := pl.off + o) rs 0 w rc h3 (by omega) (fun j hj => h6 _ (by omega)) (hv.oneCells hc)
  refine ⟨w', g1, StepOk.wrote hr hg hp g5 ⟨h1, h2, rc', frz, g2, hwh, ?_, by omega, h6, fun i v hi => ?_⟩⟩
  · rw [listPut_length]; exact h4
  · rw [listPut_get _ _ _ _ hl] at hi
    by_cases hr' : o ≤ i ∧ i < o + vs.length
    · rw [if_pos hr'] at hi
      obtain ⟨r, hr1, hr2⟩ := hv.get hi
      refine ⟨r, ?_, hr2⟩
      rw [g4, if_pos (by omega)]
      rw [show pl.off + i - (pl.off + o + 0) = i - o by omega]; exact hr1
    · rw [if_neg hr'] at hi
      obtain ⟨r, hr1, hr2⟩ := h7 i v hi
      exact ⟨r, by rw [g4, if_neg (by omega)]; exact hr1, hr2⟩

theorem sim_store {t : TypeId} {k o : Nat} {v u : V} {a x : Value} (hr : Rel P μ ν s.heap w.heap) (ha : VRel μ ν (.ptr k o) a) (hx : VRel μ ν v x) (h : storeVarM P t k o v s = .ok u s') :
    u = undefV ∧ ∃ w', (Instr.storeAt t a x).run P w = .ok () w' ∧ StepOk P μ ν s.heap s.next w μ s'.heap s'.next w' := by
  cases ha with
  | ptr hp =>
    unfold storeVarM at h
    cases hn : szT P t <;> simp only [hn] at h
    · exact (err_ok h).elim
    · rename_i n
      cases hb : Nat.beq v.cells.length n
      · rw [hb, cond_false] at h; exact (err_ok h).elim
      · rw [hb, cond_true] at h
        rw [nbeq_iff] at hb
        obtain ⟨u1, s1, h1, h2⟩ := bnd_ok h
        obtain ⟨rfl, rfl⟩ := ret_ok h2
        obtain ⟨w', g1, g2⟩ := sim_stc hr hp hx.cells h1
        refine ⟨rfl, w', ?_, g2⟩
        have hsz : x.cells.size = n := by rw [← hb, hx.cells.length]; simp
        simp only [Instr.storeAt, Instr.sureAddr, Sem.run_bind, Sem.run_pure, Result.andThen_ok, storeVar, run_sizeOf hn, hsz, ne_eq, not_true_eq_false, if_false]
        exact g1
theorem sim_newRow {c : List V} {e : TypeId} {rc : List Value} {k : Nat} (hr : Rel P μ ν s.heap w.heap) (hf : Fresh μ s s') (hv : VsRel μ ν c rc) (h : alloc (.cells c e false) s = .ok k s') :
    ∃ pl, pl.blk = w.heap.size ∧ pl.off = 0 ∧ pl.opn = false ∧ k = s.next ∧ (newRow e ⟨rc⟩).run P w = .ok ⟨w.heap.size, 0, none⟩ { w with heap := w.heap.push (.cells ⟨rc⟩ e) } ∧
      StepOk P μ ν s.heap s.next w (upd μ k pl) s'.heap s'.next { w with heap := w.heap.push (.cells ⟨rc⟩ e) } := by
  obtain ⟨rfl, rfl⟩ := alloc_ok h
  have hk : μ s.next = none := hf _ (Nat.le_refl _) (by show s.next < s.next + 1; omega)
  refine ⟨⟨w.heap.size, 0, false, 0, rc.length⟩, rfl, rfl, rfl, rfl, by simp [newRow], ?_⟩
  exact StepOk.alloc (d := w.drawn) hr hk rfl (ORel.mono (upd_le _ hk) rfl (ORel.cells_new hv))

theorem ptr_new {k : Nat} {pl : Pl} {n : Nat} (hb : pl.blk = n) (ho : pl.off = 0) : VRel (upd μ k pl) ν (.ptr k 0) (.pointer (some ⟨n, 0, none⟩)) := by
  have := VRel.ptr (ν := ν) (o := 0) (upd_same μ k pl)
  rw [hb, ho] at this
  exact this

theorem slice_new {k : Nat} {pl : Pl} {n len cap : Nat} (hb : pl.blk = n) (ho : pl.off = 0) (hl : len ≤ cap) : VRel (upd μ k pl) ν (.slice k 0 len cap) (.slice (some ⟨n, 0, none⟩) len cap) := by
  refine VRel.slice (upd_same μ k pl) hl (.inr ⟨by rw [hb, ho], .inl rfl⟩)

theorem sim_alloc {e : TypeId} {z v : V} (hr : Rel P μ ν s.heap w.heap) (hf : Fresh μ s s') (hz : zeroT P e = some z) (h : bnd (alloc (.cells z.cells e false)) (fun k => ret (.ptr k 0)) s = .ok v s') :
    SimV P μ ν s s' w (Instr.alloc e true (.tuple #[])) v := by
  obtain ⟨k, s1, h1, h2⟩ := bnd_ok h
  obtain ⟨rfl, rfl⟩ := ret_ok h2
  obtain ⟨z', hz1, hz2⟩ := zeroT_run (μ := μ) (ν := ν) (w := w) hz
  obtain ⟨pl, p1, p2, p3, p4, p5, p6⟩ := sim_newRow hr hf hz2.cells h1
  refine ⟨_, _, .pointer (some ⟨w.heap.size, 0, none⟩), ?_, ptr_new p1 p2, p6⟩
  have : (newVar e z').run P w = .ok ⟨w.heap.size, 0, none⟩ { w with heap := w.heap.push (.cells ⟨z'.cells.toList⟩ e) } := p5
  simp only [Instr.alloc, Sem.run_bind, hz1, Result.andThen_ok, this, Sem.run_pure]

theorem sim_box {e : TypeId} {x v : V} {x' : Value} (hr : Rel P μ ν s.heap w.heap) (hf : Fresh μ s s') (hx : VRel μ ν x x') (h : bnd (alloc (.cells x.cells e false)) (fun k => ret (.ptr k 0)) s = .ok v s') :
    SimV P μ ν s s' w (Instr.box e x') v := by
  obtain ⟨k, s1, h1, h2⟩ := bnd_ok h
  obtain ⟨rfl, rfl⟩ := ret_ok h2
  obtain ⟨pl, p1, p2, p3, p4, p5, p6⟩ := sim_newRow hr hf hx.cells h1
  refine ⟨_, _, .pointer (some ⟨w.heap.size, 0, none⟩), ?_, ptr_new p1 p2, p6⟩
  have : (newVar e x').run P w = .ok ⟨w.heap.size, 0, none⟩ { w with heap := w.heap.push (.cells ⟨x'.cells.toList⟩ e) } := p5
  simp only [Instr.box, Sem.run_bind, Result.andThen_ok, this, Sem.run_pure]

theorem sim_part {t : TypeId} {cs : List V} {cs' : List Value} {off : Nat} {v : V} (hr : Rel P μ ν s.heap w.heap) (hc : VsRel μ ν cs cs') (h : partM P t cs off s = .ok v s') :
    SimV P μ ν s s' w (part t ⟨cs'⟩ off) v := by
  unfold partM at h
  cases hd : P.underlying t <;> cases hn : szT P t <;> simp only [hd, hn] at h <;> try exact (err_ok h).elim
  · rename_i d n
    cases hb : isAggD d
    · rw [hb, cond_false] at h
      cases hx : cs[off]? <;> simp only [hx] at h
      · exact (err_ok h).elim
      · obtain ⟨rfl, rfl⟩ := ret_ok h
        obtain ⟨r, h1, h2⟩ := hc.get hx
        refine .quiet hr ?_ h2 rfl rfl
        simp only [part, Sem.run_bind, run_isAgg hd, hb, Result.andThen_ok, Bool.false_eq_true, if_false]
        have : (⟨cs'⟩ : Array Value)[off]? = some r := by simpa using h1
        rw [this]; rfl
    · rw [hb, cond_true] at h
      cases hb' : Nat.ble (off + n) cs.length
      · rw [hb', cond_false] at h; exact (err_ok h).elim
      · rw [hb', cond_true] at h
        obtain ⟨rfl, rfl⟩ := ret_ok h
        refine .quiet (r := .agg ((⟨cs'⟩ : Array Value).extract off (off + n))) hr ?_ ?_ rfl rfl
        · simp only [part, Sem.run_bind, run_isAgg hd, hb, Result.andThen_ok, if_true, run_sizeOf hn, Sem.run_pure]
        · have e : (⟨cs'⟩ : Array Value).extract off (off + n) = ⟨sub cs' off n⟩ := by
            apply Array.ext'
            simp [sub]
          rw [e]; exact .agg (hc.sub off n)
inductive PRel (μ : Mu) (ν : Nat → Value) : List (Nat × List V) → List (Nat × Value) → Prop
  | nil : PRel μ ν [] []
  | cons {i : Nat} {v : V} {r : Value} {l : List (Nat × List V)} {l' : List (Nat × Value)} (h : VRel μ ν v r) (hs : PRel μ ν l l') : PRel μ ν ((i, v.cells) :: l) ((i, r) :: l')

theorem foldl_put (off : Nat) : ∀ (vs : List Value) (j : Nat) (cs : Array Value), off + j + vs.length ≤ cs.size →
    ((vs.zipIdx j).foldl (fun (cs : Array Value) (x : Value × Nat) => cs.setIfInBounds (off + x.2) x.1) cs).toList = listPut cs.toList (off + j) vs
  | [], j, cs, _ => by simp [listPut]
  | v :: vs, j, cs, h => by
    simp only [List.zipIdx_cons, List.foldl_cons]
    rw [foldl_put off vs (j + 1) _ (by simp at h ⊢; omega)]
    apply List.ext_getElem?
    intro i
    rw [listPut_get _ _ _ _ (by simp at h ⊢; omega), listPut_get _ _ _ _ (by simp at h ⊢; omega)]
    simp only [List.length_cons]
    by_cases h1 : off + (j + 1) ≤ i ∧ i < off + (j + 1) + vs.length
    · rw [if_pos h1, if_pos (by omega), show i - (off + j) = (i - (off + (j + 1))) + 1 by omega, List.getElem?_cons_succ]
    · rw [if_neg h1]
      by_cases h2 : i = off + j
      · subst h2
        rw [if_pos (by omega)]
        have : off + j < cs.size := by simp at h; omega
        simp [this]
      · rw [if_neg (by omega)]
        simp only [Array.toList_setIfInBounds]
        rw [List.getElem?_set_ne (by omega)]

theorem sim_fill {place : Nat → Option (Nat × Nat)} : ∀ {l : List (Nat × List V)} {l' : List (Nat × Value)} {ps : List (Nat × Nat × List V)} {z cs : List V} {z' : List Value},
    PRel μ ν l l' → (∀ (i : Nat) (vs : Nat × Nat × List V), ps[i]? = some vs → ∃ p : Nat × List V, l[i]? = some p ∧ p.2 = vs.2.2 ∧ place p.1 = some (vs.1, vs.2.1)) → ps.length = l.length → VsRel μ ν z z' → fillV ps z = some cs →
    ∃ cs', Instr.fill place ⟨z'⟩ l' = some ⟨cs'⟩ ∧ VsRel μ ν cs cs'
  | [], _, ps, z, cs, z', h, hp, hl, hz, hc => by
    cases h
    cases ps with
    | nil => injection hc with hc; subst hc; exact ⟨z', rfl, hz⟩
    | cons p ps => simp at hl
  | _ :: l, _, ps, z, cs, z', h, hp, hl, hz, hc => by
    cases h with
    | cons hv hs =>
      rename_i i v r l'
      cases ps with
      | nil => simp at hl
      | cons p ps =>
        obtain ⟨off, size, vs⟩ := p
        obtain ⟨q, hq1, hq2, hq3⟩ := hp 0 _ rfl
        simp at hq1; subst hq1
        simp only at hq2 hq3; subst hq2
        simp only [fillV] at hc
        cases hb : (Nat.beq v.cells.length size && Nat.ble (off + v.cells.length) z.length)
        · rw [hb, cond_false] at hc; cases hc
        · rw [hb, cond_true] at hc
          rw [Bool.and_eq_true, nbeq_iff, ble_iff] at hb
          have hvc := hv.cells
          have hlen := hvc.length
          have hzl := hz.length
          have hfold : (r.cells.zipIdx.foldl (fun (cs : Array Value) (x : Value × Nat) => cs.setIfInBounds (off + x.2) x.1) ⟨z'⟩) = ⟨listPut z' off r.cells.toList⟩ := by
            apply Array.ext'
            rw [← Array.foldl_toList, Array.toList_zipIdx]
            have := foldl_put off r.cells.toList 0 ⟨z'⟩ (by simp at hlen ⊢; omega)
            simpa using this
          obtain ⟨cs', g1, g2⟩ := sim_fill (place := place) hs (fun i vs hi => by simpa using hp (i + 1) vs (by simpa using hi)) (by simpa using hl) (hz.put hvc off) hc
          refine ⟨cs', ?_, g2⟩
          have hsz : r.cells.size = size := by simp at hlen; omega
          have hle : ¬ (off + r.cells.size > z'.length) := by simp at hlen; omega
          simp only [Instr.fill, hq3, hsz, ne_eq, not_true_eq_false]
          rw [if_neg (by simp; omega), hfold]
          exact g1

end
end
end Go.Lx

/-
  Each of the machine's operations is the model's, through the relation: literals, slices, addresses, conversions.
-/
set_option linter.unusedSimpArgs false
set_option linter.unusedVariables false
namespace Go.Lx

section
variable {P : Program} {μ : Mu} {ν : Nat → Value} {s s' : St} {w : World}

theorem run_placesL : ∀ (fs : List Field), fieldsSized P fs = true →
    (fs.mapM fun f => (do pure (f.offset, ← sizeOf f.type) : Sem (Nat × Nat))).run P w = .ok (fs.map fun f => (f.offset, ((szT P f.type).getD 0))) w
  | [], _ => by simp
  | f :: fs, h => by
    simp only [fieldsSized, Bool.and_eq_true] at h
    cases hi : P.info? f.type with
    | none => simp [hi] at h
    | some i =>
      have hs : szT P f.type = some i.size := by simp [szT, hi]
      have ih := run_placesL fs h.2
      simp only [List.mapM_cons, Sem.run_bind, run_sizeOf hs, Result.andThen_ok, Sem.run_pure, List.map_cons, hs, Option.getD_some]
      rw [ih]
      rfl

theorem structPlaces_get {fs : Array Field} : ∀ {l : List (Nat × List V)} {ps : List (Nat × Nat × List V)}, structPlaces P fs l = some ps →
    ps.length = l.length ∧ ∀ (i : Nat) (vs : Nat × Nat × List V), ps[i]? = some vs → ∃ p : Nat × List V, l[i]? = some p ∧ p.2 = vs.2.2 ∧ ∃ f, fs[p.1]? = some f ∧ f.offset = vs.1 ∧ szT P f.type = some vs.2.1
  | [], ps, h => by injection h with h; subst h; simp
  | (i, v) :: l, ps, h => by
    unfold structPlaces at h
    cases hf : fs[i]? with
    | none => simp [hf] at h
    | some f =>
      simp only [hf] at h
      cases hn : szT P f.type <;> cases hr : structPlaces P fs l <;> simp only [hn, hr] at h <;> try (cases h; done)
      rename_i n r
      injection h with h; subst h
      obtain ⟨e1, e2⟩ := structPlaces_get hr
      refine ⟨by simp [e1], fun j vs hj => ?_⟩
      cases j with
      | zero => simp at hj; subst hj; exact ⟨(i, v), by simp, rfl, f, hf, rfl, hn⟩
      | succ j => simpa using e2 j vs (by simpa using hj)

theorem sim_build {t : TypeId} {l : List (Nat × List V)} {l' : List (Nat × Value)} {v : V} (hr : Rel P μ ν s.heap w.heap) (hl : PRel μ ν l l') (h : buildM P t l s = .ok v s') : SimV P μ ν s s' w (Instr.build t ⟨l'⟩) v := by
  unfold buildM at h
  cases hd : P.underlying t with
  | none => simp only [hd] at h; exact (err_ok h).elim
  | some d =>
    cases hz : zeroT P t with
    | none => simp only [hd, hz] at h; cases d <;> exact (err_ok h).elim
    | some z =>
      obtain ⟨z', hz1, hz2⟩ := zeroT_run (μ := μ) (ν := ν) (w := w) hz
      cases d <;> simp only [hd, hz] at h <;> try exact (err_ok h).elim
      case struct fs =>
        cases hs : fieldsSized P fs.toList
        · rw [hs, cond_false] at h; exact (err_ok h).elim
        · rw [hs, cond_true] at h
          cases hp : structPlaces P fs l <;> simp only [hp] at h
          · exact (err_ok h).elim
          · rename_i ps
            cases hc : fillV ps z.cells <;> simp only [hc] at h
            · exact (err_ok h).elim
            · obtain ⟨rfl, rfl⟩ := ret_ok h
              obtain ⟨e1, e2⟩ := structPlaces_get hp
              obtain ⟨cs', g1, g2⟩ := sim_fill (place := fun i => (fs.map fun f => (f.offset, (szT P f.type).getD 0))[i]?) hl (fun i vs hi => by
                obtain ⟨p, q1, q2, f, q3, q4, q5⟩ := e2 i vs hi
                exact ⟨p, q1, q2, by simp [q3, q4, q5]⟩) e1 hz2.cells hc
              refine .quiet (r := .agg ⟨cs'⟩) hr ?_ (.agg g2) rfl rfl
              have hm := run_placesL (P := P) (w := w) fs.toList hs
              have g1' : Instr.fill (fun i => (fs.map fun f => (f.offset, (szT P f.type).getD 0))[i]?) z'.cells l' = some ⟨cs'⟩ := g1
              simp only [Instr.build, Sem.run_bind, hz1, Result.andThen_ok, run_underlying hd, Array.mapM_eq_mapM_toList, Sem.run_map, hm]
              have e3 : (List.map (fun f => (f.offset, (szT P f.type).getD 0)) fs.toList).toArray = fs.map fun f => (f.offset, (szT P f.type).getD 0) := by
                apply Array.ext'; simp
              rw [e3, g1']
              rfl
      case array n e =>
        cases hs : szT P e <;> simp only [hs] at h
        · exact (err_ok h).elim
        · rename_i size
          cases hc : fillV (l.map fun p => (p.1 * size, size, p.2)) z.cells <;> simp only [hc] at h
          · exact (err_ok h).elim
          · obtain ⟨rfl, rfl⟩ := ret_ok h
            obtain ⟨cs', g1, g2⟩ := sim_fill (place := fun i => some (i * size, size)) hl (fun i vs hi => by
              simp only [List.getElem?_map, Option.map_eq_some_iff] at hi
              obtain ⟨p, q1, rfl⟩ := hi
              exact ⟨p, q1, rfl, rfl⟩) (by simp) hz2.cells hc
            refine .quiet (r := .agg ⟨cs'⟩) hr ?_ (.agg g2) rfl rfl
            have g1' : Instr.fill (fun i => some (i * size, size)) z'.cells l' = some ⟨cs'⟩ := g1
            simp only [Instr.build, Sem.run_bind, hz1, Result.andThen_ok, run_underlying hd, run_sizeOf hs]
            rw [g1']; rfl

theorem rep_length {z : List V} : ∀ n, (rep z n).length = n * z.length
  | 0 => by simp [rep]
  | n + 1 => by simp [rep, rep_length n, Nat.add_mul]; omega

theorem mod_get {α : Type} [Inhabited α] (z : Array α) (n : Nat) (i : Nat) (hz : z.size ≠ 0) (hi : i < n * z.size) : ((Array.range (n * z.size)).map fun j => z[j % z.size]!)[i]? = z[i % z.size]? := by
  have : i % z.size < z.size := Nat.mod_lt _ (by omega)
  simp [hi, this]

theorem rep_get {z : List V} : ∀ (n i : Nat), i < n * z.length → (rep z n)[i]? = z[i % z.length]?
  | 0, i, h => by simp at h
  | n + 1, i, h => by
    simp only [rep]
    by_cases hi : i < z.length
    · rw [List.getElem?_append_left hi, Nat.mod_eq_of_lt hi]
    · rw [List.getElem?_append_right (by omega), rep_get n (i - z.length) (by rw [Nat.add_mul] at h; omega)]
      congr 1
      exact (Nat.mod_eq_sub_mod (by omega)).symm

theorem rep_rel {z : List V} {z' : Array Value} (hz : VsRel μ ν z z'.toList) (n : Nat) : VsRel μ ν (rep z n) ((Array.range (n * z'.size)).map fun j => z'[j % z'.size]!).toList := by
  have hl := hz.length
  simp only [Array.length_toList] at hl
  refine VsRel.of_get (by rw [rep_length, hl]; simp) fun i v hi => ?_
  have hlt : i < n * z.length := by rw [← rep_length]; exact (List.getElem?_eq_some_iff.1 hi).1
  rw [rep_get n i hlt] at hi
  obtain ⟨r, hr, hv⟩ := hz.get hi
  refine ⟨r, ?_, hv⟩
  rw [Array.getElem?_toList, mod_get z' n i (by intro e; rw [← hl] at e; rw [e] at hlt; simp at hlt) (by rw [← hl]; exact hlt)]
  rw [hl] at hr
  simpa using hr

theorem sim_buildSlice {t : TypeId} {len : Nat} {l : List (Nat × List V)} {l' : List (Nat × Value)} {v : V} (hr : Rel P μ ν s.heap w.heap) (hf : Fresh μ s s') (hl : PRel μ ν l l') (h : buildSliceM P t len l s = .ok v s') :
    SimV P μ ν s s' w (Instr.buildSlice t len ⟨l'⟩) v := by
  unfold buildSliceM at h
  cases hd : P.underlying t with
  | none => simp only [hd] at h; exact (err_ok h).elim
  | some d =>
    cases d <;> simp only [hd] at h <;> try exact (err_ok h).elim
    rename_i e
    cases hn : szT P e <;> cases hz : zeroT P e <;> simp only [hn, hz] at h <;> try exact (err_ok h).elim
    rename_i n z
    cases hb : (Nat.ble (len * n) 16777216 && Nat.beq z.cells.length n)
    · rw [hb, cond_false] at h; exact (err_ok h).elim
    · rw [hb, cond_true] at h
      rw [Bool.and_eq_true, ble_iff, nbeq_iff] at hb
      obtain ⟨hb1, hb2⟩ := hb
      cases hc : fillV (l.map fun p => (p.1 * n, n, p.2)) (rep z.cells len) <;> simp only [hc] at h
      · exact (err_ok h).elim
      · rename_i cs
        obtain ⟨k, s1, h1, h2⟩ := bnd_ok h
        obtain ⟨rfl, rfl⟩ := ret_ok h2
        obtain ⟨z', hz1, hz2⟩ := zeroT_run (μ := μ) (ν := ν) (w := w) hz
        have hzl := hz2.cells.length
        simp only [Array.length_toList] at hzl
        have hrep : VsRel μ ν (rep z.cells len) ((Array.range (len * n)).map fun j => z'.cells[j % z'.cells.size]!).toList := by
          have := rep_rel hz2.cells len
          have e0 : len * z'.cells.size = len * n := by rw [← hzl, hb2]
          rwa [e0] at this
        obtain ⟨cs', g1, g2⟩ := sim_fill (place := fun i => some (i * n, n)) hl (fun i vs hi => by
          simp only [List.getElem?_map, Option.map_eq_some_iff] at hi
          obtain ⟨p, q1, rfl⟩ := hi
          exact ⟨p, q1, rfl, rfl⟩) (by simp) hrep hc
        obtain ⟨pl, p1, p2, p3, p4, p5, p6⟩ := sim_newRow hr hf g2 h1
        refine ⟨_, _, .slice (some ⟨w.heap.size, 0, none⟩) len len, ?_, slice_new p1 p2 (Nat.le_refl _), p6⟩
        have hlt : ¬ (len * n > 2 ^ 24) := by omega
        unfold Instr.buildSlice
        rw [run_pure_bind (run_underlying hd)]
        simp only []
        rw [run_pure_bind (run_sizeOf hn), if_neg hlt]
        by_cases h0 : len * n = 0
        · rw [if_pos h0]
          have hcells : (Array.range (len * n)).map (fun x => (#[] : Array Value)[x % (#[] : Array Value).size]!) = ⟨((Array.range (len * n)).map fun j => z'.cells[j % z'.cells.size]!).toList⟩ := by
            rw [h0]; simp
          simp only [pure_bind]
          rw [hcells, g1]
          simp only [Sem.run_bind]
          rw [p5]
          rfl
        · rw [if_neg h0, run_pure_bind hz1]
          simp only [pure_bind]
          have hcells : (Array.range (len * n)).map (fun x => z'.cells[x % z'.cells.size]!) = ⟨((Array.range (len * n)).map fun j => z'.cells[j % z'.cells.size]!).toList⟩ := rfl
          rw [hcells, g1]
          simp only [Sem.run_bind]
          rw [p5]
          rfl

theorem sim_fieldAddr {t : TypeId} {f k o : Nat} {fs : Array Field} {fd : Field} {n : Nat} {a : Value} (hr : Rel P μ ν s.heap w.heap) (hd : P.underlying t = some (.struct fs)) (hfd : fs[f]? = some fd) (hn : szT P fd.type = some (n + 1))
    (ha : VRel μ ν (.ptr k o) a) : SimV P μ ν s s w (Instr.fieldAt t a f) (.ptr k (o + fd.offset)) := by
  cases ha with
  | ptr hp =>
    rename_i p
    refine .quiet (r := .pointer (some ⟨p.blk, p.off + (o + fd.offset), none⟩)) hr ?_ (.ptr hp) rfl rfl
    simp only [Instr.fieldAt, Instr.sureAddr, fieldPlace, Sem.run_bind, run_underlying hd, Result.andThen_ok, hfd, Sem.run_pure, run_sizeOf hn, Sem.run_ite]
    rw [if_neg (by omega)]
    simp only [Sem.run_pure, Result.andThen_ok, add_none, Nat.add_assoc]

theorem sim_indexAddr_array {t e : TypeId} {n k o i sz : Nat} {ki : IntKind} {a : Value} (hr : Rel P μ ν s.heap w.heap) (hd : P.underlying t = some (.array n e)) (hn : szT P e = some sz) (hi : i < n)
    (ha : VRel μ ν (.ptr k o) a) : SimV P μ ν s s w (Instr.indexAt t a (.int ki (i : Nat))) (.ptr k (o + i * sz)) := by
  cases ha with
  | ptr hp =>
    rename_i p
    refine .quiet (r := .pointer (some ⟨p.blk, p.off + (o + i * sz), none⟩)) hr ?_ (.ptr hp) rfl rfl
    simp only [Instr.indexAt, Instr.sureAddr, asIntOf, Sem.run_bind, run_underlying hd, Result.andThen_ok, Sem.run_pure, Sem.run_ite]
    rw [if_pos (by omega)]
    simp only [Sem.run_bind, run_sizeOf hn, Sem.run_pure, Result.andThen_ok, add_none, Int.toNat_natCast, Nat.add_assoc]

theorem sim_indexAddr_const {t e : TypeId} {n g o i sz : Nat} {ki : IntKind} {a : Value} (hr : Rel P μ ν s.heap w.heap) (hd : P.underlying t = some (.array n e)) (hn : szT P e = some sz) (hi : i < n)
    (ha : VRel μ ν (.gptr g o) a) : SimV P μ ν s s w (Instr.indexAt t a (.int ki (i : Nat))) (.gptr g (o + i * sz)) := by
  cases ha with
  | gptr =>
    refine .quiet (r := .pointer (some ⟨g, o + i * sz, none⟩)) hr ?_ (.gptr _ _) rfl rfl
    simp only [Instr.indexAt, Instr.sureAddr, asIntOf, Sem.run_bind, run_underlying hd, Result.andThen_ok, Sem.run_pure, Sem.run_ite]
    rw [if_pos (by omega)]
    simp only [Sem.run_bind, run_sizeOf hn, Sem.run_pure, Result.andThen_ok, add_none, Int.toNat_natCast]

theorem sim_indexAddr_slice {t e : TypeId} {n c k o i sz : Nat} {ki : IntKind} {a : Value} (hr : Rel P μ ν s.heap w.heap) (hd : P.underlying t = some (.slice e)) (hn : szT P e = some sz) (hi : i < n)
    (ha : VRel μ ν (.slice k o n c) a) : SimV P μ ν s s w (Instr.indexAt t a (.int ki (i : Nat))) (.ptr k (o + i * sz)) := by
  cases ha with
  | slice hp hl hs =>
    rename_i c' p ad
    have had : ad = ⟨p.blk, p.off + o, none⟩ := by
      rcases hs with ⟨h0, _⟩ | ⟨h1, _⟩
      · omega
      · exact h1
    subst had
    refine .quiet (r := .pointer (some ⟨p.blk, p.off + (o + i * sz), none⟩)) hr ?_ (.ptr hp) rfl rfl
    simp only [Instr.indexAt, asIntOf, Sem.run_bind, run_underlying hd, Result.andThen_ok, Sem.run_pure, Sem.run_ite]
    rw [if_pos (by omega)]
    simp only [Sem.run_bind, run_sizeOf hn, Sem.run_pure, Result.andThen_ok, add_none, Int.toNat_natCast, Nat.add_assoc]

theorem sim_field {t : TypeId} {f : Nat} {fs : Array Field} {fd : Field} {cs : List V} {v : V} {a : Value} (hr : Rel P μ ν s.heap w.heap) (hd : P.underlying t = some (.struct fs)) (hfd : fs[f]? = some fd)
    (ha : VRel μ ν (.agg cs) a) (h : partM P fd.type cs fd.offset s = .ok v s') : SimV P μ ν s s' w (Instr.field t a f) v := by
  cases ha with
  | agg hc =>
    obtain ⟨μ', w', r, h1, h2, h3⟩ := sim_part hr hc h
    refine ⟨μ', w', r, ?_, h2, h3⟩
    simp only [Instr.field, Sem.run_bind, run_underlying hd, Result.andThen_ok, hfd, asAgg, Sem.run_pure]
    exact h1

theorem sim_index_array {t e : TypeId} {n i sz : Nat} {ki : IntKind} {cs : List V} {v : V} {a : Value} (hr : Rel P μ ν s.heap w.heap) (hd : P.underlying t = some (.array n e)) (hn : szT P e = some sz) (hi : i < n)
    (ha : VRel μ ν (.agg cs) a) (h : partM P e cs (i * sz) s = .ok v s') : SimV P μ ν s s' w (Instr.index t a (.int ki (i : Nat))) v := by
  cases ha with
  | agg hc =>
    obtain ⟨μ', w', r, h1, h2, h3⟩ := sim_part hr hc h
    refine ⟨μ', w', r, ?_, h2, h3⟩
    simp only [Instr.index, asIntOf, Sem.run_bind, Sem.run_pure, run_underlying hd, Result.andThen_ok, Sem.run_ite]
    rw [if_pos (by omega)]
    simp only [Sem.run_bind, run_sizeOf hn, Result.andThen_ok, Int.toNat_natCast]
    exact h1

theorem toNats_length (b : ByteArray) : (toNats b).length = b.size := by simp [toNats]
theorem toNats_get (b : ByteArray) (i : Nat) : (toNats b)[i]? = (b[i]?).map (·.toNat) := by
  simp only [toNats, List.getElem?_map]
  by_cases h : i < b.size
  · have h' : i < b.data.size := h
    rw [Array.getElem?_toList, getElem?_pos b i h, getElem?_pos b.data i h']
    rfl
  · have h' : ¬ i < b.data.size := h
    rw [Array.getElem?_toList, getElem?_neg b i h, getElem?_neg b.data i h']

theorem sim_index_string {t : TypeId} {i n : Nat} {ki : IntKind} {l : List Nat} {a : Value} (hr : Rel P μ ν s.heap w.heap) (hd : P.underlying t = some .string) (hi : l[i]? = some n)
    (ha : VRel μ ν (.str l) a) : SimV P μ ν s s w (Instr.index t a (.int ki (i : Nat))) (.int .u8 n) := by
  cases ha with
  | str b =>
    rw [toNats_get] at hi
    cases hb : b[i]? with
    | none => rw [hb] at hi; cases hi
    | some x =>
      rw [hb] at hi
      injection hi with hi; subst hi
      refine .quiet (r := .int .u8 x.toNat) hr ?_ (.int _ _) rfl rfl
      have h0 : (0 : Int) ≤ (i : Nat) := Int.natCast_nonneg i
      simp only [Instr.index, asIntOf, Sem.run_bind, Sem.run_pure, run_underlying hd, Result.andThen_ok, if_pos h0, Int.toNat_natCast, hb]

end
end Go.Lx

/-
  Each of the machine's operations is the model's, through the relation: slice expressions, conversions, len, cap.
-/
set_option linter.unusedSimpArgs false
set_option linter.unusedVariables false
namespace Go.Lx
inductive OpRel (μ : Mu) (ν : Nat → Value) : Option V → Option Value → Prop
  | none : OpRel μ ν none none
  | some {v : V} {r : Value} (h : VRel μ ν v r) : OpRel μ ν (some v) (some r)

section
variable {P : Program} {μ : Mu} {ν : Nat → Value} {s s' : St} {w : World}

theorem inI_spec {i : Int} {n : Nat} (h : inI i n = true) : 0 ≤ i ∧ i ≤ n ∧ i = i.toNat := by
  cases i with
  | ofNat m =>
    have h' : Nat.ble m n = true := h
    rw [ble_iff] at h'
    exact ⟨Int.natCast_nonneg m, Int.ofNat_le.2 h', rfl⟩
  | negSucc m => cases h
theorem bound_some {x : V} {r : Value} {lim lim' d n : Nat} {code : BoundsCode} (hx : VRel μ ν x r) (h : boundO (some x) lim d = some n) (hl : lim ≤ lim') :
    (Instr.sliceBound r lim' code).run P w = .ok n w ∧ n ≤ lim := by
  unfold boundO at h
  cases x <;> simp only at h <;> try (cases h; done)
  rename_i k i
  cases hb : inI i lim
  · rw [hb] at h; cases h
  · rw [hb, cond_true] at h
    injection h with h
    obtain ⟨h1, h2, h3⟩ := inI_spec hb
    cases hx
    refine ⟨?_, by omega⟩
    simp only [Instr.sliceBound, asIntOf, Sem.run_bind, Sem.run_pure, Result.andThen_ok, Sem.run_ite]
    rw [if_pos (by omega), h]

theorem bounds_run {lo hi mx : Option V} {lo' hi' mx' : Option Value} {isSlice : Bool} {len cap cap' l h m : Nat} (hlo : OpRel μ ν lo lo') (hhi : OpRel μ ν hi hi') (hmx : OpRel μ ν mx mx')
    (hb : boundsV lo hi mx len cap = some (l, h, m)) (hc : cap ≤ cap') :
    ∃ m', (Instr.sliceBounds isSlice len cap' lo' hi' mx').run P w = .ok (l, h, m') w ∧ l ≤ h ∧ m ≤ cap ∧ (m' = m ∨ (m' = cap' ∧ m = cap)) ∧ (h = len ∧ m = cap ∨ h ≤ m) := by
  unfold boundsV at hb
  cases hm : boundO mx cap cap with
  | none => rw [hm] at hb; cases hb
  | some m0 =>
    rw [hm] at hb
    simp only at hb
    cases hmx with
    | none =>
      have hm0 : m0 = cap := by injection hm with hm; exact hm.symm
      subst hm0
      cases hhi with
      | none =>
        simp only [boundO] at hb
        cases hlo with
        | none =>
          simp only at hb; injection hb with hb; injection hb with e1 e2; injection e2 with e2 e3; subst e1 e2 e3
          exact ⟨cap', by simp [Instr.sliceBounds], Nat.zero_le _, Nat.le_refl _, .inr ⟨rfl, rfl⟩, .inl ⟨rfl, rfl⟩⟩
        | some hx =>
          rename_i x r
          cases hl : boundO (some x) len 0 with
          | none => unfold boundO at hl; simp only [hl] at hb; cases hb
          | some l0 =>
            have hl' := hl; unfold boundO at hl'
            simp only [hl'] at hb; injection hb with hb; injection hb with e1 e2; injection e2 with e2 e3; subst e1 e2 e3
            obtain ⟨g1, g2⟩ := bound_some (P := P) (w := w) (code := .sliceB) hx hl (Nat.le_refl _)
            exact ⟨cap', by simp [Instr.sliceBounds, g1], g2, Nat.le_refl _, .inr ⟨rfl, rfl⟩, .inl ⟨rfl, rfl⟩⟩
      | some hy =>
        rename_i y q
        cases hh : boundO (some y) m0 len with
        | none => simp only [hh] at hb; cases hb
        | some h0 =>
          simp only [hh] at hb
          obtain ⟨g1, g2⟩ := bound_some (P := P) (w := w) (code := if isSlice then .sliceAcap else .sliceAlen) hy hh hc
          cases hlo with
          | none =>
            simp only [boundO] at hb; injection hb with hb; injection hb with e1 e2; injection e2 with e2 e3; subst e1 e2 e3
            exact ⟨cap', by simp [Instr.sliceBounds, g1], Nat.zero_le _, Nat.le_refl _, .inr ⟨rfl, rfl⟩, .inr g2⟩
          | some hx =>
            rename_i x r
            cases hl : boundO (some x) h0 0 with
            | none => simp only [hl] at hb; cases hb
            | some l0 =>
              simp only [hl] at hb; injection hb with hb; injection hb with e1 e2; injection e2 with e2 e3; subst e1 e2 e3
              obtain ⟨f1, f2⟩ := bound_some (P := P) (w := w) (code := .sliceB) hx hl (Nat.le_refl _)
              exact ⟨cap', by simp [Instr.sliceBounds, g1, f1], f2, Nat.le_refl _, .inr ⟨rfl, rfl⟩, .inr g2⟩
    | some hz =>
      rename_i z u
      obtain ⟨k1, k2⟩ := bound_some (P := P) (w := w) (code := if isSlice then .slice3Acap else .slice3Alen) hz hm hc
      cases hhi with
      | none => simp only at hb; cases hb
      | some hy =>
        rename_i y q
        cases hh : boundO (some y) m0 len with
        | none => simp only [hh] at hb; cases hb
        | some h0 =>
          simp only [hh] at hb
          obtain ⟨g1, g2⟩ := bound_some (P := P) (w := w) (code := .slice3B) hy hh (Nat.le_refl _)
          cases hlo with
          | none =>
            simp only [boundO] at hb; injection hb with hb; injection hb with e1 e2; injection e2 with e2 e3; subst e1 e2 e3
            exact ⟨_, by simp [Instr.sliceBounds, k1, g1], Nat.zero_le _, k2, .inl rfl, .inr g2⟩
          | some hx =>
            rename_i x r
            cases hl : boundO (some x) h0 0 with
            | none => simp only [hl] at hb; cases hb
            | some l0 =>
              simp only [hl] at hb; injection hb with hb; injection hb with e1 e2; injection e2 with e2 e3; subst e1 e2 e3
              obtain ⟨f1, f2⟩ := bound_some (P := P) (w := w) (code := .slice3C) hx hl (Nat.le_refl _)
              exact ⟨_, by simp [Instr.sliceBounds, k1, g1, f1], f2, k2, .inl rfl, .inr g2⟩

theorem extract_nats (b : ByteArray) (l h : Nat) : toNats (b.extract l h) = sub (toNats b) l (h - l) := by
  simp [toNats, sub, ByteArray.data_extract, List.map_drop, List.map_take]

theorem OpRel.isSome {o : Option V} {o' : Option Value} (h : OpRel μ ν o o') : o.isSome = o'.isSome := by cases h <;> rfl

theorem sim_slice {t : TypeId} {x v : V} {x' : Value} {lo hi mx : Option V} {lo' hi' mx' : Option Value} (hr : Rel P μ ν s.heap w.heap) (hx : VRel μ ν x x') (hlo : OpRel μ ν lo lo') (hhi : OpRel μ ν hi hi') (hmx : OpRel μ ν mx mx')
    (h : sliceM P t x lo hi mx s = .ok v s') : SimV P μ ν s s' w (Instr.sliceAt t x' lo' hi' mx') v := by
  unfold sliceM at h
  cases hd : P.underlying t with
  | none => simp only [hd] at h; exact (err_ok h).elim
  | some d =>
    have arr : ∀ {n : Nat} {e : TypeId} {b o l hh m sz : Nat} {p : Pl}, boundsV lo hi mx n n = some (l, hh, m) → μ b = some p → szT P e = some sz →
        ∃ m', (Instr.sliceBounds false n n lo' hi' mx').run P w = .ok (l, hh, m') w ∧
          VRel μ ν (.slice b (o + l * sz) (hh - l) (m - l)) (.slice (some (if m' = l then (⟨p.blk, p.off + o, none⟩ : Addr) else (⟨p.blk, p.off + o, none⟩ : Addr).add (l * sz))) (hh - l) (m' - l)) := by
      intro n e b o l hh m sz p hb hp hs
      obtain ⟨m', g1, g2, g3, g4, g5⟩ := bounds_run (P := P) (w := w) (isSlice := false) hlo hhi hmx hb (Nat.le_refl _)
      have hm : m' = m := by omega
      subst hm
      refine ⟨m', g1, .slice hp (by omega) ?_⟩
      by_cases hml : m' = l
      · exact .inl ⟨by omega, by omega⟩
      · rw [if_neg hml, add_none, Nat.add_assoc]
        exact .inr ⟨rfl, .inl rfl⟩
    cases d <;> simp only [hd] at h
    case string =>
      cases hx <;> simp only at h <;> try exact (err_ok h).elim
      rename_i b
      cases hm : mx.isSome
      · rw [hm, cond_false] at h
        have hmn : mx = none := by cases mx <;> simp at hm ⊢
        subst hmn
        cases hmx
        cases hb : boundsV lo hi none (toNats b).length (toNats b).length with
        | none => simp only [hb] at h; exact (err_ok h).elim
        | some r =>
          obtain ⟨l, hh, m⟩ := r
          simp only [hb] at h
          obtain ⟨rfl, rfl⟩ := ret_ok h
          rw [toNats_length] at hb
          obtain ⟨m', g1, g2, g3, g4, g5⟩ := bounds_run (P := P) (w := w) (isSlice := false) hlo hhi .none hb (Nat.le_refl _)
          refine .quiet (r := .string (b.extract l hh)) hr ?_ (by rw [← extract_nats]; exact .str _) rfl rfl
          simp only [Instr.sliceAt, Sem.run_bind, run_underlying hd, Result.andThen_ok, Instr.slice, Option.isSome_none, Bool.false_eq_true, if_false, g1, Sem.run_pure, Sem.run_ite]
      · rw [hm, cond_true] at h; exact (err_ok h).elim
    case slice e =>
      cases hx <;> simp only at h <;> try exact (err_ok h).elim
      case nilslice =>
        cases hb : boundsV lo hi mx 0 0 <;> cases hn : szT P e <;> simp only [hb, hn] at h <;> try exact (err_ok h).elim
        case some.some r n =>
          obtain ⟨l, hh, m⟩ := r
          obtain ⟨rfl, rfl⟩ := ret_ok h
          obtain ⟨m', g1, g2, g3, g4, g5⟩ := bounds_run (P := P) (w := w) (isSlice := true) hlo hhi hmx hb (Nat.le_refl _)
          have e1 : l = 0 := by omega
          have e2 : hh = 0 := by omega
          have e3 : m' = 0 := by omega
          subst e1; subst e2; subst e3
          refine .quiet (r := .slice none 0 0) hr ?_ .nilslice rfl rfl
          simp only [Instr.sliceAt, Sem.run_bind, run_underlying hd, Result.andThen_ok, Instr.slice, g1, run_sizeOf hn, Sem.run_pure]
          rfl
      case slice b o len cap cap' p a hp hl hs =>
        cases hb : boundsV lo hi mx len cap <;> cases hn : szT P e <;> simp only [hb, hn] at h <;> try exact (err_ok h).elim
        rename_i r n
        obtain ⟨l, hh, m⟩ := r
        simp only at h
        cases hle : Nat.ble hh cap
        · rw [hle, cond_false] at h; exact (err_ok h).elim
        · rw [hle, cond_true] at h
          rw [ble_iff] at hle
          obtain ⟨⟨ln, e', q⟩, s1, h1, h2⟩ := bnd_ok h
          obtain ⟨hg, rfl⟩ := blkS_ok h1
          simp only at hg
          simp only at h2
          cases hc : (!q || (szT P e' == some n))
          · rw [hc, cond_false] at h2; exact (err_ok h2).elim
          · rw [hc, cond_true] at h2
            obtain ⟨rfl, rfl⟩ := ret_ok h2
            have hopn : p.opn = true → q = true ∧ szT P e' = some p.esz := by
              rcases hg with ⟨c, hg, _⟩ | ⟨c, hg, _⟩
              · obtain ⟨p', hp', hor⟩ := hr.ob b _ hg
                rw [hp] at hp'; cases hp'
                intro h1
                have hq : q = true := hor.1 ▸ h1
                exact ⟨hq, hor.2.1 hq⟩
              · obtain ⟨p', hp', hor⟩ := hr.ob b _ hg
                rw [hp] at hp'; cases hp'
                intro h1
                rw [hor.1] at h1
                cases h1
            have hcap : cap ≤ cap' := by rcases hs with ⟨h0, h1⟩ | ⟨_, h1 | ⟨_, h1, _⟩⟩ <;> omega
            obtain ⟨m', g1, g2, g3, g4, g5⟩ := bounds_run (P := P) (w := w) (isSlice := true) hlo hhi hmx hb hcap
            have hhm : hh - l ≤ m - l := by omega
            refine .quiet (r := .slice (some (if m' = l then a else a.add (l * n))) (hh - l) (m' - l)) hr ?_ (.slice hp hhm ?_) rfl rfl
            · simp only [Instr.sliceAt, Sem.run_bind, run_underlying hd, Result.andThen_ok, Instr.slice, g1, run_sizeOf hn, Sem.run_pure]
              split <;> rfl
            · rcases hs with ⟨h0, h1⟩ | ⟨h0, h1⟩
              · exact .inl ⟨by omega, by omega⟩
              · subst h0
                by_cases hml : m' = l
                · exact .inl ⟨by omega, by omega⟩
                · rw [if_neg hml, add_none]
                  refine .inr ⟨by rw [Nat.add_assoc], ?_⟩
                  rcases g4 with g4 | ⟨g4, g4'⟩
                  · exact .inl (by omega)
                  · rcases h1 with h1 | ⟨h1, h2, h3⟩
                    · exact .inl (by omega)
                    · refine .inr ⟨h1, by omega, ?_⟩
                      obtain ⟨hq, hz⟩ := hopn h1
                      subst hq
                      simp only [Bool.not_true, Bool.false_or, beq_iff_eq] at hc
                      rw [hc] at hz; injection hz with hz
                      subst g4
                      rw [hz]
                      rw [hz] at *
                      have : l * p.esz + (m' - l) * p.esz ≤ m' * p.esz := by
                        rw [← Nat.add_mul]; exact Nat.mul_le_mul_right _ (by omega)
                      omega
    case array n e =>
      cases hx <;> simp only at h <;> try exact (err_ok h).elim
      rename_i b o p hp
      cases hb : boundsV lo hi mx n n <;> cases hn : szT P e <;> simp only [hb, hn] at h <;> try exact (err_ok h).elim
      rename_i r sz
      obtain ⟨l, hh, m⟩ := r
      obtain ⟨rfl, rfl⟩ := ret_ok h
      obtain ⟨m', g1, g2⟩ := arr (o := o) hb hp hn
      refine .quiet hr ?_ g2 rfl rfl
      simp only [Instr.sliceAt, Instr.sureAddr, Sem.run_bind, run_underlying hd, Result.andThen_ok, Sem.run_pure, g1, run_sizeOf hn]
    case pointer ar =>
      cases hx <;> simp only at h <;> try exact (err_ok h).elim
      rename_i b o p hp
      cases hda : P.underlying ar with
      | none => simp only [hda] at h; exact (err_ok h).elim
      | some da =>
        cases da <;> simp only [hda] at h <;> try exact (err_ok h).elim
        rename_i n e
        cases hb : boundsV lo hi mx n n <;> cases hn : szT P e <;> simp only [hb, hn] at h <;> try exact (err_ok h).elim
        rename_i r sz
        obtain ⟨l, hh, m⟩ := r
        obtain ⟨rfl, rfl⟩ := ret_ok h
        obtain ⟨m', g1, g2⟩ := arr (o := o) hb hp hn
        refine .quiet hr ?_ g2 rfl rfl
        simp only [Instr.sliceAt, Instr.slice, asAddr, Sem.run_bind, run_underlying hd, run_underlying hda, Result.andThen_ok, Sem.run_pure, g1, run_sizeOf hn]
    all_goals exact (err_ok h).elim

end
end Go.Lx

/-
  Each of the machine's operations is the model's, through the relation: conversions, append, copy, clear, len, cap.
-/
set_option linter.unusedSimpArgs false
set_option linter.unusedVariables false
namespace Go.Lx

theorem modify_push_last {H : Array Obj} {O : Obj} (f : Obj → Obj) : (H.push O).modify H.size f = H.push (f O) := by
  apply Array.ext
  · simp
  · intro i h1 h2
    simp only [Array.getElem_modify]
    split
    · rename_i e; subst e; simp
    · rename_i e
      have : i < H.size := by simp at h2; omega
      simp [Array.getElem_push, this]

theorem foldl_push_nats : ∀ (l : List Nat) (b : ByteArray), (∀ n ∈ l, n < 256) → toNats ((l.map Int.ofNat).foldl (fun (r : ByteArray) (n : Int) => r.push (UInt8.ofNat n.toNat)) b) = toNats b ++ l
  | [], b, _ => by simp
  | n :: l, b, h => by
    simp only [List.map_cons, List.foldl_cons]
    rw [foldl_push_nats l _ (fun m hm => h m (by simp [hm]))]
    have hn := h n (by simp)
    have : toNats (b.push (UInt8.ofNat (Int.ofNat n).toNat)) = toNats b ++ [n] := by
      have hpush : (b.push (UInt8.ofNat (Int.ofNat n).toNat)).data = b.data.push (UInt8.ofNat n) := rfl
      simp only [toNats, hpush, Array.toList_push, List.map_append, List.map_cons, List.map_nil]
      congr 2
      simp [UInt8.toNat_ofNat', Nat.mod_eq_of_lt hn]
    rw [this, List.append_assoc, List.singleton_append]

theorem wrap_i64 (n : Nat) (h : n < 9223372036854775808) : IntKind.i64.wrap (n : Int) = n := by
  have hmod : (n : Int) % (2 ^ IntKind.i64.bits : Int) = n := Int.emod_eq_of_lt (by omega) (by show (n : Int) < 2 ^ 64; omega)
  unfold IntKind.wrap
  simp only [hmod]
  rw [if_neg]
  simp [IntKind.signed, IntKind.bits]
  omega

section
variable {P : Program} {μ : Mu} {ν : Nat → Value} {s s' : St} {w : World}

theorem bytesV_rel : ∀ (l : List UInt8), VsRel μ ν (bytesV (l.map (·.toNat))) (l.map fun b => Value.int .u8 b.toNat)
  | [] => .nil
  | b :: l => .cons (.int _ _) (bytesV_rel l)

theorem natsV_rel : ∀ {vs : List V} {rs : List Value} {l : List Nat}, VsRel μ ν vs rs → natsV vs = some l → rs = (l.map Int.ofNat).map (Value.int .u8) ∧ (∀ n ∈ l, n < 256)
  | [], rs, l, h, hn => by cases h; injection hn with hn; subst hn; simp
  | v :: vs, rs, l, h, hn => by
    cases h with
    | cons h hs =>
      unfold natsV at hn
      split at hn
      · rename_i e; cases e
      · rename_i n vs' e
        injection e with e1 e2; subst e1; subst e2
        cases hr : natsV vs with
        | none => rw [hr] at hn; cases hn
        | some r =>
          rw [hr] at hn
          simp only at hn
          cases hb : Nat.blt n 256
          · rw [hb] at hn; cases hn
          · rw [hb, cond_true] at hn
            injection hn with hn; subst hn
            rw [blt_iff] at hb
            obtain ⟨e1, e2⟩ := natsV_rel hs hr
            cases h
            subst e1
            refine ⟨rfl, fun m hm => ?_⟩
            cases hm with
            | head => exact hb
            | tail _ hm => exact e2 m hm
      · cases hn
theorem stepOpen {e : TypeId} {c : List V} {rc : Array Value} {frz : Nat × Nat} {esz d : Nat} (hr : Rel P μ ν s.heap w.heap) (hk : μ s.next = none) (hn : szT P e = some esz)
    (hl : c.length ≤ rc.size) (hfz : ∀ i, i < rc.size → ¬ (frz.1 ≤ i ∧ i < frz.2)) (hv : VsRel μ ν c (rc.toList.take c.length)) :
    StepOk P μ ν s.heap s.next w (upd μ s.next ⟨w.heap.size, 0, true, esz, rc.size⟩) (s.heap.set s.next (some (.cells c e true))) (s.next + 1) { w with heap := w.heap.push (.cells rc e frz), drawn := d } := by
  refine StepOk.alloc hr hk rfl ⟨rfl, fun _ => hn, rc, frz, by simp, (fun e => by cases e), by simpa using hl, Nat.le_refl _, hfz, fun i v hi => ?_⟩
  obtain ⟨r, h1, h2⟩ := hv.get hi
  have hlt : i < c.length := (List.getElem?_eq_some_iff.1 hi).1
  refine ⟨r, ?_, h2.mono (upd_le _ hk)⟩
  rw [List.getElem?_take, if_pos hlt] at h1
  simpa using h1

theorem run_freeze_last {c : Array Value} {e : TypeId} {d : Nat} (n : Nat) : (({ w with heap := w.heap.push (.cells c e), drawn := d } : World).freeze { block := w.heap.size, off := n } 1) = { w with heap := w.heap.push (.cells c e (n, n + 1)), drawn := d } := by
  unfold World.freeze
  rw [if_neg (by omega)]
  simp only [modify_push_last]
  rfl

theorem rowAt_mono {fits : TypeId → Bool} {count count' n : Nat} (hc : count ≤ count') : ∀ {d : Nat} {e : TypeId} {off : Nat}, rowAt P fits d e count off n = true → rowAt P fits d e count' off n = true
  | 0, _, _, h => by cases h
  | d + 1, e, off, h => by
    unfold rowAt at h ⊢
    simp only at h ⊢
    by_cases hs : P.cellsOf e = 0
    · rw [if_pos hs] at h; cases h
    · rw [if_neg hs] at h ⊢
      rw [Bool.or_eq_true, Bool.and_eq_true, Bool.and_eq_true, Bool.and_eq_true] at h ⊢
      rcases h with ⟨⟨h1, h2⟩, h3⟩ | ⟨h1, h2⟩
      · exact .inl ⟨⟨h1, by have := of_decide_eq_true h2; exact decide_eq_true (by omega)⟩, h3⟩
      · exact .inr ⟨by have := of_decide_eq_true h1; exact decide_eq_true (by omega), h2⟩

theorem liesAt_mono {count count' : Nat} (hc : count ≤ count') : ∀ {d : Nat} {e u : TypeId} {off n : Nat}, liesAt P d e count off u n = true → liesAt P d e count' off u n = true
  | 0, _, _, _, _, h => by cases h
  | d + 1, e, u, off, n, h => by
    unfold liesAt at h ⊢
    rw [Bool.or_eq_true] at h ⊢
    rcases h with h | h
    · exact .inl (rowAt_mono hc h)
    · right
      split at h
      · exact liesAt_mono hc h
      · cases h

theorem sim_convert {src dst : TypeId} {x v : V} {x' : Value} (hr : Rel P μ ν s.heap w.heap) (hf : Fresh μ s s') (hx : VRel μ ν x x') (h : convertM P src dst x s = .ok v s') : SimV P μ ν s s' w (convert src dst x') v := by
  unfold convertM at h
  cases hs : P.underlying src <;> cases hd : P.underlying dst <;> simp only [hs, hd] at h <;> try exact (err_ok h).elim
  rename_i sd dd
  cases dd <;> cases hx <;> (try simp only at h) <;> try exact (err_ok h).elim
  case int.int k k' n =>
    obtain ⟨rfl, rfl⟩ := ret_ok h
    refine .quiet (r := .int k (k.wrap n)) hr ?_ (.int _ _) rfl rfl
    simp only [convert, Sem.run_bind, run_underlying hs, run_underlying hd, Result.andThen_ok, Conv.intToInt]
    rfl
  case string.int k n =>
    obtain ⟨rfl, rfl⟩ := ret_ok h
    refine .quiet (r := .string (Utf8.encode n)) hr ?_ (.str _) rfl rfl
    simp only [convert, Sem.run_bind, run_underlying hs, run_underlying hd, Result.andThen_ok, Conv.intToString]
    rfl
  case string.str b =>
    obtain ⟨rfl, rfl⟩ := ret_ok h
    refine .quiet (r := .string b) hr ?_ (.str _) rfl rfl
    simp only [convert, Sem.run_bind, run_underlying hs, run_underlying hd, Result.andThen_ok]
    rfl
  case slice.str e b =>
    cases he : P.underlying e with
    | none => simp only [he] at h; exact (err_ok h).elim
    | some de =>
      simp only [he] at h
      cases de <;> (try simp only at h) <;> try exact (err_ok h).elim
      rename_i ke
      cases ke <;> (try simp only at h) <;> try exact (err_ok h).elim
      cases hb : (szT P e == some 1)
      · rw [hb, cond_false] at h; exact (err_ok h).elim
      · rw [hb, cond_true] at h
        have hsz : szT P e = some 1 := by simpa using hb
        obtain ⟨k, s1, h1, h2⟩ := bnd_ok h
        obtain ⟨rfl, rfl⟩ := ret_ok h2
        obtain ⟨rfl, rfl⟩ := alloc_ok h1
        have hk : μ s.next = none := hf _ (Nat.le_refl _) (by show s.next < s.next + 1; omega)
        have hcap : b.size ≤ (Question.appendCap b.size 0 e).cut (w.tape w.drawn (.appendCap b.size 0 e)) := by simp [Question.cut]
        generalize hcq : (Question.appendCap b.size 0 e).cut (w.tape w.drawn (.appendCap b.size 0 e)) = cq at hcap
        have hds : b.data.size = b.size := rfl
        have hrc : ((b.data.map fun x => Value.int .u8 x.toNat) ++ Array.replicate (cq - b.size) (Value.int .u8 0)).size = cq := by simp [hds]; omega
        generalize hrcd : (b.data.map fun x => Value.int .u8 x.toNat) ++ Array.replicate (cq - b.size) (Value.int .u8 0) = rc at hrc
        have htake : rc.toList.take (bytesV (toNats b)).length = b.data.toList.map fun x => Value.int .u8 x.toNat := by
          rw [← hrcd]
          have : (bytesV (toNats b)).length = (b.data.toList.map fun x => Value.int .u8 x.toNat).length := by simp [bytesV, toNats]
          rw [this, Array.toList_append, Array.toList_map, List.take_left']
          rfl
        have hlen : (bytesV (toNats b)).length = b.size := by simp [bytesV, toNats_length]
        have st := stepOpen (P := P) (μ := μ) (ν := ν) (s := s) (w := w) (e := e) (c := bytesV (toNats b)) (rc := rc) (frz := (rc.size, rc.size + 1)) (esz := 1) (d := w.drawn + 1) hr hk hsz (by omega) (by simp; omega)
          (by rw [htake]; exact bytesV_rel _)
        refine ⟨_, _, .slice (some ⟨w.heap.size, 0, none⟩) b.size cq, ?_, ?_, st⟩
        · simp only [convert, Sem.run_bind, run_underlying hs, run_underlying hd, Result.andThen_ok, run_underlying he, Conv.stringToBytes, run_choose]
          rw [if_neg (by simp [Question.forced])]
          simp only [Result.andThen_ok, hcq, hrcd, newRow, Sem.run_bind, run_newObj, Sem.run_pure, markStringish, run_shape]
          have hshape : ({ heap := w.heap.push (.cells rc e), tape := w.tape, drawn := w.drawn + 1, os := w.os, output := w.output } : World).shape? w.heap.size = some (e, rc.size) := by simp [World.shape?]
          rw [hshape]
          simp only [Sem.run_bind, run_freeze, Result.andThen_ok, run_freeze_last, Sem.run_pure]
        · rw [toNats_length]
          refine .slice (upd_same _ _ _) (Nat.le_refl _) (.inr ⟨rfl, .inr ⟨rfl, hcap, ?_⟩⟩)
          simp only; omega
  case unsafePointer.nilptr =>
    cases sd <;> (try simp only at h) <;> try exact (err_ok h).elim
    obtain ⟨rfl, rfl⟩ := ret_ok h
    refine .quiet (r := .pointer none) hr ?_ .nilptr rfl rfl
    simp only [convert, Sem.run_bind, run_underlying hs, run_underlying hd, Result.andThen_ok, Conv.unsafePointer, Sem.run_pure]
  case pointer.nilptr =>
    cases sd <;> (try simp only at h) <;> try exact (err_ok h).elim
    obtain ⟨rfl, rfl⟩ := ret_ok h
    refine .quiet (r := .pointer none) hr ?_ .nilptr rfl rfl
    simp only [convert, Sem.run_bind, run_underlying hs, run_underlying hd, Result.andThen_ok, Conv.unsafePointer, Sem.run_pure]
  case unsafePointer.ptr k o p hp =>
    cases sd <;> (try simp only at h) <;> try exact (err_ok h).elim
    rename_i t
    obtain ⟨⟨n, e, q⟩, s1, h1, h2⟩ := bnd_ok h
    obtain ⟨c, e1, q1, hg, hq, rfl⟩ := blk_ok h1
    injection hq with hq1 hq2
    simp only at h2
    cases hc : (Nat.blt o n && hasSize P t)
    · rw [hc, cond_false] at h2; exact (err_ok h2).elim
    rw [hc, cond_true] at h2
    obtain ⟨rfl, rfl⟩ := ret_ok h2
    rw [Bool.and_eq_true, blt_iff] at hc
    obtain ⟨sz, hsz⟩ : ∃ m, szT P t = some (m + 1) := by
      have := hc.2
      unfold hasSize at this
      split at this
      · exact ⟨_, by assumption⟩
      · cases this
    obtain ⟨p', hp', hor⟩ := hr.ob k _ hg
    rw [hp] at hp'; cases hp'
    obtain ⟨_, _, rc, frz, r3, _, r4, r5, _, _⟩ := hor
    have hshape : w.shape? p.blk = some (e1, rc.size) := by simp [World.shape?, r3]
    refine .quiet (r := .pointer (some ⟨p.blk, p.off + o, none⟩)) hr ?_ (.ptr hp) rfl rfl
    have hno : ¬ (p.off + o ≥ rc.size) := by omega
    simp only [convert, Sem.run_bind, run_underlying hs, run_underlying hd, Result.andThen_ok, Conv.unsafePointer, Conv.seenAt, viewAt, run_shape, hshape, Option.isSome_some, if_true, Sem.run_pure, cellsIn, run_sizeOf hsz, hno, decide_false, Bool.false_and, Nat.add_one_ne_zero, Bool.false_eq_true, or_self, if_false]
    rfl
  case pointer.ptr k o p hp =>
    cases sd <;> (try simp only at h) <;> try exact (err_ok h).elim
    rename_i u
    obtain ⟨⟨n, e, q⟩, s1, h1, h2⟩ := bnd_ok h
    obtain ⟨c, e1, q1, hg, hq, rfl⟩ := blk_ok h1
    injection hq with hq1 hq2
    injection hq2 with hq2 hq3
    subst hq1; subst hq2; subst hq3
    simp only at h2
    cases hc : (!q && (szT P u).isSome && liesAt P P.depth e (c.length / P.cellsOf e) o u 1)
    · rw [hc, cond_false] at h2; exact (err_ok h2).elim
    rw [hc, cond_true] at h2
    obtain ⟨rfl, rfl⟩ := ret_ok h2
    rw [Bool.and_eq_true, Bool.and_eq_true] at hc
    obtain ⟨⟨hc1, hc2⟩, hc3⟩ := hc
    have hq0 : q = false := by simpa using hc1
    subst hq0
    obtain ⟨sz, hsz⟩ := Option.isSome_iff_exists.1 hc2
    obtain ⟨p', hp', hor⟩ := hr.ob k _ hg
    rw [hp] at hp'; cases hp'
    obtain ⟨_, _, rc, frz, r3, rw0, r4, r5, _, _⟩ := hor
    have rw1 := rw0 rfl
    have hshape : w.shape? p.blk = some (e, rc.size) := by simp [World.shape?, r3]
    refine .quiet (r := .pointer (some ⟨p.blk, p.off + o, none⟩)) hr ?_ (.ptr hp) rfl rfl
    have hlies : liesAt P P.depth e (rc.size / P.cellsOf e) (p.off + o) u 1 = true := by
      rw [rw1, Nat.zero_add]
      exact liesAt_mono (Nat.div_le_div_right (by omega)) hc3
    simp only [convert, Sem.run_bind, run_underlying hs, run_underlying hd, Result.andThen_ok, Conv.unsafePointer, Conv.seenAt, viewAt, run_shape, hshape, Option.isSome_some, if_true, Sem.run_pure, run_sizeOf hsz, variablesAt, run_program, hlies, Bool.or_true, Result.andThen]
  case string.nilslice =>
    cases sd <;> (try simp only at h) <;> try exact (err_ok h).elim
    rename_i e
    cases he : P.underlying e with
    | none => simp only [he] at h; exact (err_ok h).elim
    | some de =>
      simp only [he] at h
      cases de <;> (try simp only at h) <;> try exact (err_ok h).elim
      rename_i ke
      cases ke <;> (try simp only at h) <;> try exact (err_ok h).elim
      obtain ⟨rfl, rfl⟩ := ret_ok h
      refine .quiet (r := .string .empty) hr ?_ (.str .empty) rfl rfl
      simp only [convert, Sem.run_bind, run_underlying hs, run_underlying hd, Result.andThen_ok, run_underlying he, Conv.bytesToString]
      rfl
  case string.slice k o len cap cap' p a hp hl hsl =>
    cases sd <;> (try simp only at h) <;> try exact (err_ok h).elim
    rename_i e
    cases he : P.underlying e with
    | none => simp only [he] at h; exact (err_ok h).elim
    | some de =>
      simp only [he] at h
      cases de <;> (try simp only at h) <;> try exact (err_ok h).elim
      rename_i ke
      cases ke <;> (try simp only at h) <;> try exact (err_ok h).elim
      obtain ⟨vs, s1, h1, h2⟩ := bnd_ok h
      obtain ⟨c, hg, hq, rfl, rfl⟩ := ld_ok h1
      cases hn : natsV (sub c o len) <;> simp only [hn] at h2
      · exact (err_ok h2).elim
      · rename_i l
        obtain ⟨rfl, rfl⟩ := ret_ok h2
        obtain ⟨rs, g1, g2⟩ := run_loads (P := P) hr hg hp hq
        obtain ⟨e1, e2⟩ := natsV_rel g2 hn
        have hload : (loadCells a len).run P w = .ok ((l.map Int.ofNat).map (Value.int .u8)).toArray w := by
          rcases hsl with ⟨h0, h0'⟩ | ⟨h0, _⟩
          · have : len = 0 := by omega
            subst this
            have hl0 : l = [] := by
              have := congrArg List.length e1
              rw [← g2.length, sub_length hq] at this
              simp at this; exact List.length_eq_zero_iff.1 this.symm
            subst hl0
            simp [loadCells, loadCellsFrom]
          · subst h0; rw [g1, e1]
        have hstr := run_bytesToString (P := P) w a len cap' (l.map Int.ofNat) hload
        refine .quiet (r := .string ((l.map Int.ofNat).foldl (fun r n => r.push (UInt8.ofNat n.toNat)) ByteArray.empty)) hr ?_ ?_ rfl rfl
        · simp only [convert, Sem.run_bind, run_underlying hs, run_underlying hd, Result.andThen_ok, run_underlying he]
          exact hstr
        · have := foldl_push_nats l ByteArray.empty e2
          have e0 : toNats ByteArray.empty ++ l = l := rfl
          rw [e0] at this
          have hv := VRel.str (μ := μ) (ν := ν) ((l.map Int.ofNat).foldl (fun (r : ByteArray) (n : Int) => r.push (UInt8.ofNat n.toNat)) ByteArray.empty)
          rw [this] at hv
          exact hv

theorem sim_taken {size : Nat} {x : V} {x' : Value} {cs : List V} {n : Nat} (hr : Rel P μ ν s.heap w.heap) (hx : VRel μ ν x x') (h : takenM size x s = .ok (cs, n) s') :
    (∀ w2 : World, (Builtin.lenOf x').run P w2 = .ok n w2) ∧ (∃ rs, (∀ d, (Builtin.firstCells size n x').run P { w with drawn := d } = .ok ⟨rs⟩ { w with drawn := d }) ∧ VsRel μ ν cs rs) ∧ s'.heap = s.heap ∧ s'.next = s.next ∧ cs.length = n * size := by
  unfold takenM at h
  cases hx <;> (try simp only at h) <;> try exact (err_ok h).elim
  case nilslice =>
    obtain ⟨e, rfl⟩ := ret_ok h
    injection e with e1 e2; subst e1 e2
    exact ⟨fun _ => rfl, ⟨[], fun _ => rfl, .nil⟩, rfl, rfl, by simp⟩
  case str b =>
    cases hb1 : Nat.beq size 1
    · rw [hb1, cond_false] at h; exact (err_ok h).elim
    rw [hb1, cond_true] at h
    rw [nbeq_iff] at hb1; subst hb1
    obtain ⟨e, rfl⟩ := ret_ok h
    injection e with e1 e2; subst e1 e2
    refine ⟨fun _ => by rw [toNats_length]; rfl, ⟨b.data.toList.map fun x => Value.int .u8 x.toNat, fun d => ?_, bytesV_rel _⟩, rfl, rfl, by simp [bytesV]⟩
    have : b.extract 0 (toNats b).length = b := by
      rw [toNats_length]
      apply ByteArray.ext
      rw [ByteArray.data_extract]
      have : b.size = b.data.size := rfl
      rw [this]
      simp
    simp only [Builtin.firstCells, this, Sem.run_pure]
    congr 1
    apply Array.ext'
    simp
  case slice b o len cap cap' p a hp hl hs =>
    obtain ⟨vs, s1, h1, h2⟩ := bnd_ok h
    obtain ⟨e, rfl⟩ := ret_ok h2
    injection e with e1 e2; subst e1 e2
    obtain ⟨c, hg, hq, rfl, rfl⟩ := ld_ok h1
    refine ⟨fun _ => rfl, ?_, rfl, rfl, sub_length hq⟩
    rcases hs with ⟨h0, h0'⟩ | ⟨h0, _⟩
    · have : n = 0 := by omega
      subst this
      refine ⟨[], fun d => by simp [Builtin.firstCells, loadCells, loadCellsFrom], ?_⟩
      have : sub c o (0 * size) = [] := by simp [sub]
      rw [this]; exact .nil
    · subst h0
      obtain ⟨rs, g1, g2⟩ := run_loads_d (P := P) hr hg hp hq
      exact ⟨rs, fun d => by simp only [Builtin.firstCells]; exact g1 d, g2⟩

theorem zeroCells_size {z : Array Value} {n : Nat} : (Builtin.zeroCells z n).size = n * z.size := by simp [Builtin.zeroCells]

theorem roomy_le {need bytes : Nat} (h : roomy need bytes = true) : need ≤ 140737488355328 ∧ need * bytes ≤ 140737488355328 := by
  unfold roomy at h
  rw [Bool.or_eq_true, Bool.and_eq_true, Bool.and_eq_true, ble_iff, ble_iff, ble_iff, ble_iff] at h
  rcases h with h | h
  · exact ⟨Nat.le_trans h.1 (by decide), Nat.le_trans (Nat.mul_le_mul h.1 h.2) (by decide)⟩
  · exact ⟨h.1, Nat.le_trans (Nat.mul_le_mul h.1 h.2) (by decide)⟩
theorem roomy_of {need bytes : Nat} (h1 : need ≤ 1073741824) (h2 : Nat.ble bytes 65536 = true) : roomy need bytes = true := by
  unfold roomy
  rw [Bool.or_eq_true, Bool.and_eq_true]
  exact .inl ⟨ble_iff.2 h1, h2⟩
theorem append_room {t tx e : TypeId} {dx : TypeDesc} {ts : Array TypeId} {ty : TypeId} {base : Option Addr} {sLen sCap size n : Nat} {x' : Value} (ht : ts[0]? = some t) (htx : ts[1]? = some tx) (hd : P.underlying t = some (.slice e)) (hdx : P.underlying tx = some dx) (hni : isIntD dx = false)
    (hn : szT P e = some size) (hl : ∀ w2 : World, (Builtin.lenOf x').run P w2 = .ok n w2) (hroom : sLen + n ≤ sCap) :
    (Builtin.append_ ts ty #[.slice base sLen sCap, x']).run P w = (do
        let new ← Builtin.firstCells size n x'
        if let some a := base then storeCells (a.add (sLen * size)) new.toList
        pure (.slice base (sLen + n) sCap) : Sem Value).run P w := by
  have e0 : (#[Value.slice base sLen sCap, x'] : Array Value)[0]? = some (.slice base sLen sCap) := rfl
  have e1 : (#[Value.slice base sLen sCap, x'] : Array Value)[1]? = some x' := rfl
  cases dx <;> first
    | (simp [isIntD] at hni; done)
    | (simp only [Builtin.append_, ht, htx, e0, e1, Sem.run_bind, run_underlying hd, run_underlying hdx, Result.andThen_ok, run_sizeOf hn, Sem.run_pure, hl, hroom, Bool.false_eq_true, if_false, if_true, Bool.not_false]; done)
    | (simp only [Builtin.append_, ht, htx, e0, e1, Sem.run_bind, run_underlying hd, run_underlying hdx, Result.andThen_ok, run_sizeOf hn, Sem.run_pure, hl, hroom, Bool.false_eq_true, if_false, if_true, Bool.not_false]; rfl)

theorem append_grow {t tx e : TypeId} {dx : TypeDesc} {ts : Array TypeId} {ty : TypeId} {base : Option Addr} {sLen sCap size n : Nat} {x' z' : Value} {os ns : Array Value} {ti : TypeInfo} (ht : ts[0]? = some t) (htx : ts[1]? = some tx) (hd : P.underlying t = some (.slice e)) (hdx : P.underlying tx = some dx) (hni : isIntD dx = false)
    (hn : szT P e = some size) (hl : ∀ w2 : World, (Builtin.lenOf x').run P w2 = .ok n w2) (hroom : ¬ sLen + n ≤ sCap) (hti : P.info? e = some ti) (hr : roomy (sLen + n) ti.bytes = true)
    (ho : ∀ d, (Builtin.firstCells size sLen (.slice base sLen sCap)).run P { w with drawn := d } = .ok os { w with drawn := d }) (hx : ∀ d, (Builtin.firstCells size n x').run P { w with drawn := d } = .ok ns { w with drawn := d })
    (hz : ∀ w2 : World, (zeroValue e).run P w2 = .ok z' w2) :
    ∃ cap, sLen + n ≤ cap ∧ (Builtin.append_ ts ty #[.slice base sLen sCap, x']).run P w = .ok (.slice (some ⟨w.heap.size, 0, none⟩) (sLen + n) cap)
      { w with heap := w.heap.push (.cells (os ++ ns ++ Builtin.zeroCells z'.cells (cap - (sLen + n))) e), drawn := w.drawn + 1 } := by
  have e0 : (#[Value.slice base sLen sCap, x'] : Array Value)[0]? = some (.slice base sLen sCap) := rfl
  have e1 : (#[Value.slice base sLen sCap, x'] : Array Value)[1]? = some x' := rfl
  obtain ⟨r1, r2⟩ := roomy_le hr
  have h1 : ¬ (((sLen + n : Nat) : Int) > IntKind.i64.max) := by
    have : IntKind.i64.max = 9223372036854775807 := by decide
    rw [this]; omega
  have h2 : ¬ (Builtin.nextslicecap (sLen + n) sCap * ti.bytes > 2 ^ 48) := by
    have := growslice_fits (need := sLen + n) (old := sCap) (bytes := ti.bytes) (by omega) r2
    omega
  have h3 : ¬ (Question.appendCap (sLen + n) sCap e).forced = true := by simp [Question.forced]
  refine ⟨(Question.appendCap (sLen + n) sCap e).cut (w.tape w.drawn (.appendCap (sLen + n) sCap e)), by simp [Question.cut], ?_⟩
  cases dx <;> first
    | (simp [isIntD] at hni; done)
    | (simp only [Builtin.append_, ht, htx, e0, e1, Sem.run_bind, run_underlying hd, run_underlying hdx, Result.andThen_ok, run_sizeOf hn, Sem.run_pure, hl, hroom, Bool.false_eq_true, if_false, if_true, Bool.not_false, h1, false_and, run_typeInfo hti, h2, run_choose, h3, run_askRoom, ho, hx, hz, newRow, run_newObj]; done)
theorem append_made_room {t tx e : TypeId} {dx : TypeDesc} {ts : Array TypeId} {ty : TypeId} {base : Option Addr} {sLen sCap size n : Nat} {k : IntKind} {z' : Value} {ti : TypeInfo} (ht : ts[0]? = some t) (htx : ts[1]? = some tx) (hd : P.underlying t = some (.slice e)) (hdx : P.underlying tx = some dx) (hi : isIntD dx = true)
    (hn : szT P e = some size) (hti : P.info? e = some ti) (hro : roomy n ti.bytes = true) (hz : ∀ w2 : World, (zeroValue e).run P w2 = .ok z' w2) (hzs : z'.cells.size = size) (hroom : sLen + n ≤ sCap) :
    (Builtin.append_ ts ty #[.slice base sLen sCap, .int k (n : Int)]).run P w = (do
        if let some a := base then storeCells (a.add (sLen * size)) (Builtin.zeroCells z'.cells n).toList
        pure (.slice base (sLen + n) sCap) : Sem Value).run P w := by
  have e0 : (#[Value.slice base sLen sCap, .int k (n : Int)] : Array Value)[0]? = some (.slice base sLen sCap) := rfl
  have e1 : (#[Value.slice base sLen sCap, .int k (n : Int)] : Array Value)[1]? = some (.int k (n : Int)) := rfl
  obtain ⟨r1, r2⟩ := roomy_le hro
  have hw : IntKind.i64.wrap (n : Int) = n := wrap_i64 n (by omega)
  have hneg : ¬ ((n : Int) < 0) := by omega
  have hbig : ¬ ((n : Int) * (ti.bytes : Int) > 2 ^ 48) := by
    have : ((n * ti.bytes : Nat) : Int) ≤ ((140737488355328 : Nat) : Int) := Int.ofNat_le.2 r2
    have e2 : ((n * ti.bytes : Nat) : Int) = (n : Int) * (ti.bytes : Int) := Int.natCast_mul n ti.bytes
    rw [e2] at this
    have e3 : (2 : Int) ^ 48 = 281474976710656 := by decide
    rw [e3]; omega
  cases dx <;> try (simp [isIntD] at hi; done)
  by_cases hzero : n * size = 0
  · have hc0 : Builtin.zeroCells z'.cells n = #[] := by
      apply Array.eq_empty_of_size_eq_zero
      rw [zeroCells_size, hzs]; exact hzero
    simp only [Builtin.append_, ht, htx, e0, e1, Sem.run_bind, run_underlying hd, run_underlying hdx, Result.andThen_ok, run_sizeOf hn, Sem.run_pure, asInt, asIntOf, hw, hneg, run_typeInfo hti, hbig, Int.toNat_natCast, hroom, if_true, if_false, Bool.not_true, Bool.false_eq_true, hzero, hc0]
    cases base <;> rfl
  · simp only [Builtin.append_, ht, htx, e0, e1, Sem.run_bind, run_underlying hd, run_underlying hdx, Result.andThen_ok, run_sizeOf hn, Sem.run_pure, asInt, asIntOf, hw, hneg, run_typeInfo hti, hbig, Int.toNat_natCast, hroom, if_true, if_false, Bool.not_true, Bool.false_eq_true, hzero, hz]
    cases base <;> rfl

theorem append_made_grow {t tx e : TypeId} {dx : TypeDesc} {ts : Array TypeId} {ty : TypeId} {base : Option Addr} {sLen sCap size n : Nat} {k : IntKind} {z' : Value} {os : Array Value} {ti : TypeInfo} (ht : ts[0]? = some t) (htx : ts[1]? = some tx) (hd : P.underlying t = some (.slice e)) (hdx : P.underlying tx = some dx) (hi : isIntD dx = true)
    (hn : szT P e = some size) (hro : roomy n ti.bytes = true) (hroom : ¬ sLen + n ≤ sCap) (hti : P.info? e = some ti) (hr : roomy (sLen + n) ti.bytes = true) (hzs : z'.cells.size = size)
    (ho : ∀ d, (Builtin.firstCells size sLen (.slice base sLen sCap)).run P { w with drawn := d } = .ok os { w with drawn := d }) (hz : ∀ w2 : World, (zeroValue e).run P w2 = .ok z' w2) :
    ∃ cap, sLen + n ≤ cap ∧ (Builtin.append_ ts ty #[.slice base sLen sCap, .int k (n : Int)]).run P w = .ok (.slice (some ⟨w.heap.size, 0, none⟩) (sLen + n) cap)
      { w with heap := w.heap.push (.cells (os ++ Builtin.zeroCells z'.cells n ++ Builtin.zeroCells z'.cells (cap - (sLen + n))) e), drawn := w.drawn + 1 } := by
  have e0 : (#[Value.slice base sLen sCap, .int k (n : Int)] : Array Value)[0]? = some (.slice base sLen sCap) := rfl
  have e1 : (#[Value.slice base sLen sCap, .int k (n : Int)] : Array Value)[1]? = some (.int k (n : Int)) := rfl
  obtain ⟨r1, r2⟩ := roomy_le hr
  obtain ⟨r3, r4⟩ := roomy_le hro
  have hw : IntKind.i64.wrap (n : Int) = n := wrap_i64 n (by omega)
  have hneg : ¬ ((n : Int) < 0) := by omega
  have hbig : ¬ ((n : Int) * (ti.bytes : Int) > 2 ^ 48) := by
    have : ((n * ti.bytes : Nat) : Int) ≤ ((140737488355328 : Nat) : Int) := Int.ofNat_le.2 r4
    have e2 : ((n * ti.bytes : Nat) : Int) = (n : Int) * (ti.bytes : Int) := Int.natCast_mul n ti.bytes
    rw [e2] at this
    have e3 : (2 : Int) ^ 48 = 281474976710656 := by decide
    rw [e3]; omega
  have h1 : ¬ (((sLen + n : Nat) : Int) > IntKind.i64.max) := by
    have : IntKind.i64.max = 9223372036854775807 := by decide
    rw [this]; omega
  have h2 : ¬ (Builtin.nextslicecap (sLen + n) sCap * ti.bytes > 2 ^ 48) := by
    have := growslice_fits (need := sLen + n) (old := sCap) (bytes := ti.bytes) (by omega) r2
    omega
  have h3 : ¬ (Question.appendCap (sLen + n) sCap e).forced = true := by simp [Question.forced]
  refine ⟨(Question.appendCap (sLen + n) sCap e).cut (w.tape w.drawn (.appendCap (sLen + n) sCap e)), by simp [Question.cut], ?_⟩
  cases dx <;> try (simp [isIntD] at hi; done)
  by_cases hzero : n * size = 0
  · have hc0 : Builtin.zeroCells z'.cells n = #[] := by
      apply Array.eq_empty_of_size_eq_zero
      rw [zeroCells_size, hzs]; exact hzero
    simp only [Builtin.append_, ht, htx, e0, e1, Sem.run_bind, run_underlying hd, run_underlying hdx, Result.andThen_ok, run_sizeOf hn, Sem.run_pure, asInt, asIntOf, hw, hneg, run_typeInfo hti, hbig, Int.toNat_natCast, hroom, if_true, if_false, Bool.not_true, Bool.false_eq_true, h1, false_and, h2, run_choose, h3, run_askRoom, ho, hzero, hz, hc0, newRow, run_newObj]
  · simp only [Builtin.append_, ht, htx, e0, e1, Sem.run_bind, run_underlying hd, run_underlying hdx, Result.andThen_ok, run_sizeOf hn, Sem.run_pure, asInt, asIntOf, hw, hneg, run_typeInfo hti, hbig, Int.toNat_natCast, hroom, if_true, if_false, Bool.not_true, Bool.false_eq_true, h1, false_and, h2, run_choose, h3, run_askRoom, ho, hzero, hz, newRow, run_newObj]

theorem grow_length {z' : Array Value} {os ns : List Value} {sLen n size cap : Nat} (hz : z'.size = size) (ho : os.length = sLen * size) (hn : ns.length = n * size) (hc : sLen + n ≤ cap) :
    ((⟨os⟩ : Array Value) ++ ⟨ns⟩ ++ Builtin.zeroCells z' (cap - (sLen + n))).size = cap * size := by
  simp only [Array.size_append, zeroCells_size, hz]
  show os.length + ns.length + _ = _
  rw [ho, hn, ← Nat.add_mul, ← Nat.add_mul]
  congr 1; omega
theorem step_grown {e : TypeId} {size sLen n cap d : Nat} {c : List V} {os ns : List Value} {z' : Array Value} (hr : Rel P μ ν s.heap w.heap) (hk : μ s.next = none) (hn : szT P e = some size)
    (hz : z'.size = size) (ho : os.length = sLen * size) (hnn : ns.length = n * size) (hc : sLen + n ≤ cap) (hv : VsRel μ ν c (os ++ ns)) :
    ∃ pl, pl.blk = w.heap.size ∧ pl.off = 0 ∧ pl.opn = true ∧ pl.esz = size ∧ pl.lim = cap * size ∧
      StepOk P μ ν s.heap s.next w (upd μ s.next pl) (s.heap.set s.next (some (.cells c e true))) (s.next + 1) { w with heap := w.heap.push (.cells (⟨os⟩ ++ ⟨ns⟩ ++ Builtin.zeroCells z' (cap - (sLen + n))) e), drawn := d } := by
  have hsz := grow_length hz ho hnn hc
  have hcl : c.length = (sLen + n) * size := by rw [hv.length, List.length_append, ho, hnn, Nat.add_mul]
  refine ⟨_, rfl, rfl, rfl, rfl, ?_, stepOpen (esz := size) hr hk hn ?_ (by simp) ?_⟩
  · exact hsz
  · rw [hsz, hcl]; exact Nat.mul_le_mul_right _ hc
  · rw [Array.toList_append, Array.toList_append]
    have : (os ++ ns).length = c.length := by rw [hv.length]
    show VsRel μ ν c (((os ++ ns) ++ (Builtin.zeroCells z' (cap - (sLen + n))).toList).take c.length)
    rw [List.take_left' this]
    exact hv

theorem slice_grown {k need cap size : Nat} {pl : Pl} {n : Nat} (hb : pl.blk = n) (ho : pl.off = 0) (hp : pl.opn = true) (he : pl.esz = size) (hl : pl.lim = cap * size) (hc : need ≤ cap) :
    VRel (upd μ k pl) ν (.slice k 0 need need) (.slice (some ⟨n, 0, none⟩) need cap) :=
  .slice (upd_same μ k pl) (Nat.le_refl _) (.inr ⟨by rw [hb, ho], .inr ⟨hp, hc, by rw [he, hl, ho]; omega⟩⟩)

end
end Go.Lx

/-
  Each of the machine's operations is the model's, through the relation: append.
-/
set_option linter.unusedSimpArgs false
set_option linter.unusedVariables false
namespace Go.Lx
section
variable {P : Program} {μ : Mu} {ν : Nat → Value} {s s' : St} {w : World}

theorem sim_appendCore {e : TypeId} {sv v : V} {s0 x' z' : Value} {ts : Array TypeId} {ty : TypeId} {new : List V} {ns : List Value} {n size bytes : Nat} {ti : TypeInfo} (hr : Rel P μ ν s.heap w.heap) (hf : Fresh μ s s') (hn : szT P e = some size) (htb : ti.bytes = bytes) (hzs : z'.cells.size = size)
    (hroom : ∀ (base : Option Addr) (sLen sCap : Nat), sLen + n ≤ sCap → (Builtin.append_ ts ty #[.slice base sLen sCap, x']).run P w = (do
        if let some a := base then storeCells (a.add (sLen * size)) ns
        pure (.slice base (sLen + n) sCap) : Sem Value).run P w)
    (hgrow : ∀ (base : Option Addr) (sLen sCap : Nat) (os : Array Value), ¬ sLen + n ≤ sCap → roomy (sLen + n) ti.bytes = true → (∀ d, (Builtin.firstCells size sLen (.slice base sLen sCap)).run P { w with drawn := d } = .ok os { w with drawn := d }) →
      ∃ cap, sLen + n ≤ cap ∧ (Builtin.append_ ts ty #[.slice base sLen sCap, x']).run P w = .ok (.slice (some ⟨w.heap.size, 0, none⟩) (sLen + n) cap)
        { w with heap := w.heap.push (.cells (os ++ (⟨ns⟩ : Array Value) ++ Builtin.zeroCells z'.cells (cap - (sLen + n))) e), drawn := w.drawn + 1 })
    (t3 : VsRel μ ν new ns) (t6 : new.length = n * size) (hs : VRel μ ν sv s0) (h2 : appendCore e size bytes sv new n s = .ok v s') : SimV P μ ν s s' w (Builtin.append_ ts ty #[s0, x']) v := by
  obtain ⟨sh1, sn1, sl1⟩ := s
  unfold appendCore at h2
  cases hs <;> (try simp only at h2) <;> try exact (err_ok h2).elim
  case nilslice =>
    cases hn0 : Nat.beq n 0
    · rw [hn0, cond_false] at h2
      rw [nbeq_false] at hn0
      cases hro : roomy n bytes
      · rw [hro, cond_false] at h2; exact (err_ok h2).elim
      · rw [hro, cond_true] at h2
        obtain ⟨k, s2, g1, g2⟩ := bnd_ok h2
        obtain ⟨rfl, rfl⟩ := ret_ok g2
        obtain ⟨rfl, rfl⟩ := alloc_ok g1
        have hk : μ k = none := hf _ (Nat.le_refl _) (by show k < k + 1; omega)
        have hnl : ns.length = n * size := by rw [← t3.length]; exact t6
        obtain ⟨cap, c1, c2⟩ := hgrow none 0 0 #[] (by omega) (by rw [Nat.zero_add, htb]; exact hro) (fun d => rfl)
        obtain ⟨pl, q1, q2, q3, q4, q5, q6⟩ := step_grown (P := P) (μ := μ) (ν := ν) (s := ⟨sh1, k, sl1⟩) (w := w) (d := w.drawn + 1) (os := []) (ns := ns) (sLen := 0) hr hk hn hzs (by simp) hnl c1 t3
        rw [Nat.zero_add] at c2
        refine ⟨upd μ k pl, _, _, c2, slice_grown q1 q2 q3 q4 q5 (by omega), ?_⟩
        rw [Nat.zero_add] at q6
        exact q6
    · rw [hn0, cond_true] at h2
      rw [nbeq_iff] at hn0; subst hn0
      obtain ⟨rfl, rfl⟩ := ret_ok h2
      refine .quiet (r := .slice none 0 0) hr ?_ .nilslice rfl rfl
      rw [hroom _ _ _ (by omega)]
      rfl
  case slice b o len cap cap' p a hp hl hsl =>
    cases hn0 : Nat.beq n 0
    case true =>
      rw [hn0, cond_true] at h2
      rw [nbeq_iff] at hn0; subst hn0
      obtain ⟨rfl, rfl⟩ := ret_ok h2
      have hcap : len ≤ cap' := by rcases hsl with ⟨h0, h1⟩ | ⟨_, h1 | ⟨_, h1, _⟩⟩ <;> omega
      refine .quiet (r := .slice (some a) len cap') hr ?_ (.slice hp hl hsl) rfl rfl
      rw [hroom _ _ _ (by omega)]
      have hns : ns = [] := by
        have := t3.length; rw [t6] at this; simp at this; exact List.length_eq_zero_iff.1 this.symm
      subst hns
      simp only [Sem.run_bind, Result.andThen_ok, storeCells, Sem.run_pure, Nat.add_zero]
    case false =>
      rw [hn0, cond_false] at h2
      rw [nbeq_false] at hn0
      have hnl : ns.length = n * size := by rw [← t3.length]; exact t6
      cases hle : Nat.ble (len + n) cap
      case true =>
        rw [hle, cond_true] at h2
        rw [ble_iff] at hle
        obtain ⟨u, s2, g1, g2⟩ := bnd_ok h2
        obtain ⟨rfl, rfl⟩ := ret_ok g2
        have hcap : len + n ≤ cap' := by rcases hsl with ⟨h0, h1⟩ | ⟨_, h1 | ⟨_, h1, _⟩⟩ <;> omega
        have ha : a = ⟨p.blk, p.off + o, none⟩ := by
          rcases hsl with ⟨h0, h1⟩ | ⟨h1, _⟩
          · omega
          · exact h1
        obtain ⟨w', g3, g4⟩ := sim_stc (P := P) (s := ⟨sh1, sn1, sl1⟩) (w := w) hr hp t3 g1
        refine ⟨μ, w', .slice (some a) (len + n) cap', ?_, .slice hp hle hsl, g4⟩
        rw [hroom _ _ _ hcap]
        simp only [Sem.run_bind]
        subst ha
        simp only [add_none]
        rw [Nat.add_assoc, g3]
        rfl
      case false =>
        rw [hle, cond_false] at h2
        rw [ble_false] at hle
        cases hro : roomy (len + n) bytes
        · rw [hro, cond_false] at h2; exact (err_ok h2).elim
        rw [hro, cond_true] at h2
        unfold growM at h2
        obtain ⟨⟨bl, e', q⟩, s2, g1, g2⟩ := bnd_ok h2
        obtain ⟨c, e1, q1, hg, hq, rfl⟩ := blk_ok g1
        injection hq with hq1 hq2
        injection hq2 with hq2 hq3
        subst hq2; subst hq3
        obtain ⟨old, s3, g3, g4⟩ := bnd_ok g2
        obtain ⟨c', hg', hq', rfl, rfl⟩ := ld_ok g3
        have hg0 : sh1.get b = some (.cells c e' q) := hg
        obtain rfl : c = c' := (HasRow.cells hg' hg0).symm
        obtain ⟨p', hp', hor⟩ := hr.ob b _ hg0
        rw [hp] at hp'; cases hp'
        obtain ⟨os, o1, o2⟩ := run_loads_d (P := P) (w := w) hr (.of_cells hg0) hp hq'
        have hol : os.length = len * size := by rw [← o2.length, sub_length hq']
        have hlive : len = 0 ∨ a = ⟨p.blk, p.off + o, none⟩ := by
          rcases hsl with ⟨h0, h1⟩ | ⟨h1, _⟩
          · exact .inl (by omega)
          · exact .inr h1
        have hfo : ∀ d, (Builtin.firstCells size len (.slice (some a) len cap')).run P { w with drawn := d } = .ok ⟨os⟩ { w with drawn := d } := by
          intro d
          rcases hlive with h0 | h0
          · subst h0
            have : os = [] := by simpa using hol
            subst this
            simp [Builtin.firstCells, loadCells, loadCellsFrom]
          · subst h0; simp only [Builtin.firstCells]; exact o1 d
        have grow : ¬ len + n ≤ cap' → ∀ (h1 : T Ob) (lg : List LE), Rel P μ ν h1 w.heap → (∀ (j : Nat) (c0 : List V), sh1.get j = some (.ro c0) → h1.get j = some (.ro c0)) → μ sn1 = none → SimV P μ ν ⟨sh1, sn1, sl1⟩ ⟨h1.set sn1 (some (.cells (sub c o (len * size) ++ new) e true)), sn1 + 1, lg⟩ w
            (Builtin.append_ ts ty #[.slice (some a) len cap', x']) (.slice sn1 0 (len + n) (len + n)) := by
          intro hno h1 lg hr1 hro1 hk
          obtain ⟨cap2, c1, c2⟩ := hgrow (some a) len cap' ⟨os⟩ hno (by rw [htb]; exact hro) hfo
          obtain ⟨pl, q1, q2, q3, q4, q5, q6⟩ := step_grown (P := P) (μ := μ) (ν := ν) (s := ⟨h1, sn1, sl1⟩) (w := w) (d := w.drawn + 1) (os := os) (ns := ns) (sLen := len) hr1 hk hn hzs hol hnl c1 (o2.append t3)
          exact ⟨upd μ sn1 pl, _, _, c2, slice_grown q1 q2 q3 q4 q5 (by omega), ⟨q6.le, q6.new, q6.rel, q6.os, q6.tape, q6.output, q6.size, q6.block, q6.newblk, fun j c0 q0 r1 r2 => q6.ro j c0 q0 (hro1 j c0 r1) r2⟩⟩
        cases hqq : q
        case false =>
          subst hqq
          simp only [cond_false] at g4
          obtain ⟨k, s4, g5, g6⟩ := bnd_ok g4
          obtain ⟨rfl, rfl⟩ := ret_ok g6
          obtain ⟨rfl, rfl⟩ := alloc_ok g5
          have hno : ¬ len + n ≤ cap' := by
            rcases hsl with ⟨h0, h1⟩ | ⟨_, h1 | ⟨h1, _⟩⟩
            · omega
            · omega
            · have := hor.1; rw [h1] at this; cases this
          have hk : μ k = none := hf _ (Nat.le_refl _) (by show k < k + 1; omega)
          exact grow hno sh1 _ hr (fun _ _ h => h) hk
        case true =>
          subst hqq
          simp only [cond_true] at g4
          cases hee : (Nat.beq e' e && new.all V.isCell)
          · rw [hee, cond_false] at g4; exact (err_ok g4).elim
          rw [hee, cond_true] at g4
          rw [Bool.and_eq_true, nbeq_iff] at hee
          obtain ⟨hee, hcells⟩ := hee
          subst hee
          obtain ⟨u, s5, g7, g8⟩ := bnd_ok g4
          obtain ⟨c3, e3, q3, hg3, rfl⟩ := kill_ok g7
          obtain ⟨k, s4, g5, g6⟩ := bnd_ok g8
          obtain ⟨rfl, rfl⟩ := ret_ok g6
          obtain ⟨rfl, rfl⟩ := alloc_ok g5
          have hk : μ k = none := hf _ (Nat.le_refl _) (by show k < k + 1; omega)
          by_cases hno : len + n ≤ cap'
          · -- the model's slice has room: its block goes on as our new one
            have hso : a = ⟨p.blk, p.off + o, none⟩ ∧ p.opn = true ∧ p.off + o + cap' * p.esz ≤ p.lim := by
              rcases hsl with ⟨h0, h1⟩ | ⟨h1, h2 | ⟨h2, h3, h4⟩⟩
              · omega
              · omega
              · exact ⟨h1, h2, h4⟩
            obtain ⟨ha, hopn, hlim⟩ := hso
            obtain ⟨_, hesz, rc, frz, r3, _, r4, r5, r6, r7⟩ := hor
            have hez : p.esz = size := by have := hesz rfl; rw [hn] at this; injection this with this; exact this.symm
            have hmul : (len + n) * size ≤ cap' * size := Nat.mul_le_mul_right _ hno
            rw [Nat.add_mul] at hmul
            rw [hez] at hlim
            obtain ⟨w', rc', v1, v2, v3, v4, v5⟩ := run_stores (P := P) (b := p.blk) (o := p.off + o + len * size) ns 0 w rc r3 (by omega) (fun j hj => r6 _ (by omega)) (t3.oneCells hcells)
            · have hpl : ORel P (upd μ k ⟨p.blk, p.off + o, true, size, p.lim⟩) ν ⟨p.blk, p.off + o, true, size, p.lim⟩ w'.heap (.cells (sub c o (len * size) ++ new) e' true) := by
                refine ⟨rfl, fun _ => hn, rc', frz, v2, (fun e => by cases e), ?_, by rw [v3]; exact r5, r6, fun i v hi => ?_⟩
                · simp only [List.length_append, sub_length hq', t6]; omega
                · by_cases hil : i < len * size
                  · rw [List.getElem?_append_left (by rw [sub_length hq']; exact hil), sub_get hil] at hi
                    obtain ⟨r, k1, k2⟩ := r7 _ v hi
                    refine ⟨r, ?_, k2.mono (upd_le _ hk)⟩
                    show rc'[p.off + o + i]? = some r
                    rw [v4, if_neg (by omega)]
                    rw [Nat.add_assoc]; exact k1
                  · rw [List.getElem?_append_right (by rw [sub_length hq']; omega), sub_length hq'] at hi
                    obtain ⟨r, k1, k2⟩ := t3.get hi
                    have hlt : i - len * size < new.length := (List.getElem?_eq_some_iff.1 hi).1
                    refine ⟨r, ?_, k2.mono (upd_le _ hk)⟩
                    show rc'[p.off + o + i]? = some r
                    rw [v4, if_pos (by omega), show p.off + o + i - (p.off + o + len * size + 0) = i - len * size by omega]
                    exact k1
              refine ⟨upd μ k ⟨p.blk, p.off + o, true, size, p.lim⟩, w', .slice (some a) (len + n) cap', ?_, .slice (upd_same _ _ _) (Nat.le_refl _) (.inr ⟨by rw [ha]; rfl, .inr ⟨rfl, hno, by show p.off + o + 0 + cap' * size ≤ p.lim; omega⟩⟩), ?_⟩
              · rw [hroom _ _ _ hno]
                simp only [Sem.run_bind]
                subst ha
                simp only [add_none]
                rw [v1]
                rfl
              · refine ⟨upd_le _ hk, fun j hj => upd_ne _ _ (by intro e; exact hj (by rw [e]; exact ⟨Nat.le_refl _, Nat.lt_succ_self _⟩)), hr.rebind hg0 rfl hp hk rfl hpl v5.other, v5.os, v5.tape, v5.output, Nat.le_of_eq v5.size.symm, fun b' _ hb' => v5.other b' fun e => hb' _ _ hp e.symm, fun j q h1 h2 => ?_, fun j c0 q h1 h2 => ?_⟩
                rotate_left
                · have hne : j ≠ b := fun e => by subst e; rw [hg0] at h1; cases h1
                  have hne2 : j ≠ k := fun e => by rw [e, hk] at h2; cases h2
                  exact ⟨by rw [T.get_set, if_neg hne2, T.get_set, if_neg hne]; exact h1, v5.other _ (hr.sep j b _ _ q p h1 hg0 hne rfl h2 hp)⟩
                by_cases ej : j = k
                · subst ej; rw [upd_same] at h1; cases h1; exact .inr ⟨b, p, hp, rfl⟩
                · rw [upd_ne _ _ ej] at h1; rw [h1] at h2; cases h2
          · refine grow hno _ _ (hr.drop b) (fun j c0 h0 => ?_) hk
            have hne : j ≠ b := fun e => by subst e; rw [hg0] at h0; cases h0
            rw [T.get_set, if_neg hne]; exact h0


theorem sim_append {t tx : TypeId} {sv x v : V} {s0 x' : Value} {ts : Array TypeId} {ty : TypeId} (hr : Rel P μ ν s.heap w.heap) (hf : Fresh μ s s') (ht : ts[0]? = some t) (htx : ts[1]? = some tx)
    (hs : VRel μ ν sv s0) (hx : VRel μ ν x x') (h : appendM P t tx sv x s = .ok v s') : SimV P μ ν s s' w (Builtin.append_ ts ty #[s0, x']) v := by
  unfold appendM at h
  cases hd : P.underlying t <;> cases hdx : P.underlying tx <;> simp only [hd, hdx] at h <;> try exact (err_ok h).elim
  all_goals try (rename_i d; cases d <;> exact (err_ok h).elim)
  rename_i d dx
  cases d <;> (try simp only at h) <;> try exact (err_ok h).elim
  rename_i e
  cases hn : szT P e <;> cases hz : zeroT P e <;> cases hby : (P.info? e).map (·.bytes) <;> simp only [hn, hz, hby] at h <;> try exact (err_ok h).elim
  rename_i size z bytes
  cases hzl : Nat.beq z.cells.length size
  · rw [hzl, cond_false] at h; exact (err_ok h).elim
  rw [hzl, cond_true] at h
  rw [nbeq_iff] at hzl
  have hinfo : ∃ i, P.info? e = some i ∧ i.bytes = bytes := by
    cases hi : P.info? e with
    | none => rw [hi] at hby; cases hby
    | some i => rw [hi] at hby; injection hby with hby; exact ⟨i, rfl, hby⟩
  obtain ⟨ti, hti, htb⟩ := hinfo
  obtain ⟨z', hz1, hz2⟩ : ∃ z', (∀ w2 : World, (zeroValue e).run P w2 = .ok z' w2) ∧ VRel μ ν z z' := by
    unfold zeroT at hz
    rw [hti] at hz
    simp only [Option.bind_some] at hz
    cases hzz : ti.zero with
    | none => rw [hzz] at hz; cases hz
    | some u => rw [hzz] at hz; exact ⟨u, fun w2 => by simp [zeroValue, run_typeInfo hti, hzz], ofV_rel hz⟩
  have hzs : z'.cells.size = size := by have := hz2.cells.length; simp only [Array.length_toList] at this; omega
  cases hni : isIntD dx
  case false =>
    rw [hni, cond_false] at h
    obtain ⟨⟨new, n⟩, s1, h1, h2⟩ := bnd_ok h
    clear h
    obtain ⟨t1, ⟨ns, t2, t3⟩, t4, t5, t6⟩ := sim_taken (P := P) hr hx h1
    simp only at h2
    obtain ⟨sh, sn, sl⟩ := s
    obtain ⟨sh1, sn1, sl1⟩ := s1
    simp only at t4 t5 hr hf
    subst t4; subst t5
    refine sim_appendCore (s := ⟨sh1, sn1, sl1⟩) (z' := z') hr hf hn htb hzs (fun base sLen sCap hroom => ?_) (fun base sLen sCap os hno hro hfo => ?_) t3 t6 hs h2
    · rw [append_room ht htx hd hdx hni hn t1 hroom]
      simp only [Sem.run_bind, t2 w.drawn, Result.andThen_ok]
      all_goals (cases base <;> rfl)
    · exact append_grow (os := os) ht htx hd hdx hni hn t1 hno hti hro hfo t2 hz1
  case true =>
    rw [hni, cond_true] at h
    cases hx <;> (try simp only at h) <;> try exact (err_ok h).elim
    rename_i k i
    cases i <;> (try simp only at h) <;> try exact (err_ok h).elim
    rename_i n
    cases hro : roomy n bytes
    · rw [hro, cond_false] at h; exact (err_ok h).elim
    rw [hro, cond_true] at h
    have hzz : VsRel μ ν (rep z.cells n) (Builtin.zeroCells z'.cells n).toList := rep_rel hz2.cells n
    refine sim_appendCore (z' := z') (ns := (Builtin.zeroCells z'.cells n).toList) hr hf hn htb hzs (fun base sLen sCap hroom => ?_) (fun base sLen sCap os hno hro2 hfo => ?_) hzz (by rw [rep_length, hzl]) hs h
    · exact append_made_room ht htx hd hdx hni hn hti (by rw [htb]; exact hro) hz1 hzs hroom
    · exact append_made_grow (os := os) ht htx hd hdx hni hn (by rw [htb]; exact hro) hno hti hro2 hzs hfo hz1

end
end Go.Lx

/-
  Each of the machine's operations is the model's, through the relation: copy, clear, len, cap, maps, ranges.
-/
set_option linter.unusedSimpArgs false
set_option linter.unusedVariables false
namespace Go.Lx

theorem eqNats_iff : ∀ {a b : List Nat}, eqNats a b = true ↔ a = b
  | [], [] => by simp [eqNats]
  | [], _ :: _ => by simp [eqNats]
  | _ :: _, [] => by simp [eqNats]
  | a :: x, b :: y => by
    simp only [eqNats, Bool.and_eq_true, nbeq_iff, List.cons.injEq]
    rw [eqNats_iff]

theorem toNats_inj {a b : ByteArray} : toNats a = toNats b ↔ a = b := by
  constructor
  · intro h
    apply ByteArray.ext
    apply Array.ext'
    have := (List.map_inj_right (f := UInt8.toNat) (fun x y h => UInt8.toNat_inj.1 h)).1 h
    exact this
  · intro h; rw [h]

theorem eqNats_toNats {a b : ByteArray} : eqNats (toNats a) (toNats b) = (a == b) := by
  have hb : (a == b) = (a.data == b.data) := rfl
  rw [Bool.eq_iff_iff, eqNats_iff, toNats_inj, hb, beq_iff_eq]
  constructor
  · intro h; rw [h]
  · intro h; exact ByteArray.ext h

theorem eqNats_lists {a b : ByteArray} : eqNats (toNats a) (toNats b) = (a.toList == b.toList) := by
  rw [Bool.eq_iff_iff, eqNats_iff, beq_iff_eq, Go.ByteArray.toList_eq, Go.ByteArray.toList_eq, toNats_inj]
  constructor
  · intro h; rw [h]
  · intro h; exact ByteArray.ext (Array.ext' h)

section
variable {P : Program} {μ : Mu} {ν : Nat → Value} {s s' : St} {w : World}

theorem getO_rel {k : Nat} {ob : Ob} {p : Pl} (hr : Rel P μ ν s.heap w.heap) (hp : μ k = some p) (h : s.heap.get k = some ob) : ORel P μ ν p w.heap ob := by
  obtain ⟨q, hq, ho⟩ := hr.ob k _ h
  rw [hp] at hq; cases hq; exact ho

theorem run_getObj_map {r : Nat} {res : List MapEntry} {clock : Nat} (h : w.heap[r]? = some (.map ⟨res⟩ clock)) : (getObj r).run P w = .ok (.map ⟨res⟩ clock) w := by
  simp only [getObj, Sem.run, h]

theorem ESRel.length {es : List ME} {es' : List MapEntry} (h : ESRel μ ν es es') : es.length = es'.length := by
  induction h with
  | nil => rfl
  | cons _ _ _ ih => simp [ih]

theorem sim_len {t : TypeId} {x v : V} {x' : Value} {ts : Array TypeId} {ty : TypeId} (hr : Rel P μ ν s.heap w.heap) (ht : ts[0]? = some t) (hx : VRel μ ν x x') (h : lenM P t x s = .ok v s') : SimV P μ ν s s' w (Builtin.len_ ts ty #[x']) v := by
  have e0 : (#[x'] : Array Value)[0]? = some x' := rfl
  unfold lenM at h
  cases hd : P.underlying t with
  | none => simp only [hd] at h; exact (err_ok h).elim
  | some d =>
    cases d
    case array n e =>
      simp only [hd] at h
      obtain ⟨rfl, rfl⟩ := ret_ok h
      refine .quiet (r := .int .i64 n) hr ?_ (.int _ _) rfl rfl
      simp only [Builtin.len_, ht, e0, Sem.run_bind, run_underlying hd, Result.andThen_ok, goInt, Sem.run_pure]
    case pointer ar =>
      simp only [hd] at h
      cases ha : P.underlying ar with
      | none => simp only [ha] at h; exact (err_ok h).elim
      | some da =>
        cases da <;> simp only [ha] at h <;> try exact (err_ok h).elim
        rename_i n e
        obtain ⟨rfl, rfl⟩ := ret_ok h
        refine .quiet (r := .int .i64 n) hr ?_ (.int _ _) rfl rfl
        simp only [Builtin.len_, ht, e0, Sem.run_bind, run_underlying hd, run_underlying ha, Result.andThen_ok, goInt, Sem.run_pure]
    all_goals
      simp only [hd] at h
      cases hx <;> (try simp only at h) <;> try exact (err_ok h).elim
    case string.str b =>
      obtain ⟨rfl, rfl⟩ := ret_ok h
      refine .quiet (r := .int .i64 b.size) hr ?_ (by rw [toNats_length]; exact .int _ _) rfl rfl
      simp only [Builtin.len_, ht, e0, Sem.run_bind, run_underlying hd, Result.andThen_ok, goInt, Sem.run_pure]
    case slice.nilslice e =>
      obtain ⟨rfl, rfl⟩ := ret_ok h
      refine .quiet (r := .int .i64 (0 : Nat)) hr ?_ (.int _ _) rfl rfl
      simp only [Builtin.len_, ht, e0, Sem.run_bind, run_underlying hd, Result.andThen_ok, goInt, Sem.run_pure]
    case slice.slice e k o len cap cap' p a hp hl hs =>
      obtain ⟨rfl, rfl⟩ := ret_ok h
      refine .quiet (r := .int .i64 len) hr ?_ (.int _ _) rfl rfl
      simp only [Builtin.len_, ht, e0, Sem.run_bind, run_underlying hd, Result.andThen_ok, goInt, Sem.run_pure]
    case map.nilmap k e =>
      obtain ⟨rfl, rfl⟩ := ret_ok h
      refine .quiet (r := .int .i64 (0 : Nat)) hr ?_ (.int _ _) rfl rfl
      simp only [Builtin.len_, ht, e0, Sem.run_bind, run_underlying hd, Result.andThen_ok, goInt, Sem.run_pure]
      rfl
    case map.map kt e r p hp =>
      obtain ⟨ob, s1, h1, h2⟩ := bnd_ok h
      obtain ⟨g1, g2, rfl⟩ := getO_ok h1
      cases ob <;> (try simp only at h2) <;> try exact (err_ok h2).elim
      rename_i es clock
      obtain ⟨rfl, rfl⟩ := ret_ok h2
      obtain ⟨res, h3, h4⟩ := getO_rel hr hp g1
      refine .quiet (r := .int .i64 es.length) hr ?_ (.int _ _) rfl rfl
      simp only [Builtin.len_, ht, e0, Sem.run_bind, run_underlying hd, Result.andThen_ok, run_getObj_map h3, goInt, Sem.run_pure]
      rw [h4.length]
      rfl

theorem sim_cap {t : TypeId} {x v : V} {x' : Value} {ts : Array TypeId} {ty : TypeId} (hr : Rel P μ ν s.heap w.heap) (ht : ts[0]? = some t) (hx : VRel μ ν x x') (h : capM P t x s = .ok v s') : SimV P μ ν s s' w (Builtin.cap_ ts ty #[x']) v := by
  have e0 : (#[x'] : Array Value)[0]? = some x' := rfl
  unfold capM at h
  cases hd : P.underlying t with
  | none => simp only [hd] at h; exact (err_ok h).elim
  | some d =>
    cases d <;> simp only [hd] at h <;> try exact (err_ok h).elim
    rename_i e
    cases hx <;> (try simp only at h) <;> try exact (err_ok h).elim
    case nilslice =>
      obtain ⟨rfl, rfl⟩ := ret_ok h
      refine .quiet (r := .int .i64 (0 : Nat)) hr ?_ (.int _ _) rfl rfl
      simp only [Builtin.cap_, ht, e0, Sem.run_bind, run_underlying hd, Result.andThen_ok, goInt, Sem.run_pure]
    case slice k o len cap cap' p a hp hl hs =>
      obtain ⟨⟨n, e', q⟩, s1, h1, h2⟩ := bnd_ok h
      obtain ⟨c, e1, q1, hg, hq, rfl⟩ := blk_ok h1
      injection hq with hq1 hq2
      injection hq2 with hq2 hq3
      subst hq2; subst hq3
      cases q
      · simp only [cond_false] at h2
        obtain ⟨rfl, rfl⟩ := ret_ok h2
        have ho := (getO_rel hr hp hg).1
        have hcap : cap' = cap := by
          rcases hs with ⟨h0, h1⟩ | ⟨h0, h1 | ⟨h1, _⟩⟩
          · omega
          · exact h1
          · rw [h1] at ho; cases ho
        subst hcap
        refine .quiet (r := .int .i64 cap') hr ?_ (.int _ _) rfl rfl
        simp only [Builtin.cap_, ht, e0, Sem.run_bind, run_underlying hd, Result.andThen_ok, goInt, Sem.run_pure]
      · simp only [cond_true] at h2; exact (err_ok h2).elim

theorem stores_nil {a : Addr} : (storeCells a []).run P w = .ok () w := by simp [storeCells]

theorem sim_stc_at {k o : Nat} {vs : List V} {rs : List Value} {pl : Pl} {u : Unit} {a : Addr} (hr : Rel P μ ν s.heap w.heap) (hp : μ k = some pl) (ha : vs = [] ∨ a = ⟨pl.blk, pl.off + o, none⟩) (hv : VsRel μ ν vs rs) (h : stc k o vs s = .ok u s') :
    ∃ w', (storeCells a rs).run P w = .ok () w' ∧ StepOk P μ ν s.heap s.next w μ s'.heap s'.next w' := by
  obtain ⟨w', h1, h2⟩ := sim_stc (P := P) hr hp hv h
  rcases ha with ha | ha
  · subst ha
    cases hv
    rw [stores_nil] at h1
    injection h1 with _ h1; subst h1
    exact ⟨w, stores_nil, h2⟩
  · subst ha; exact ⟨w', h1, h2⟩

theorem sim_copy {t : TypeId} {d x v : V} {d' x' : Value} {ts : Array TypeId} {ty : TypeId} (hr : Rel P μ ν s.heap w.heap) (ht : ts[0]? = some t) (hdv : VRel μ ν d d') (hx : VRel μ ν x x') (h : copyM P t d x s = .ok v s') : SimV P μ ν s s' w (Builtin.copy_ ts ty #[d', x']) v := by
  have e0 : (#[d', x'] : Array Value)[0]? = some d' := rfl
  have e1 : (#[d', x'] : Array Value)[1]? = some x' := rfl
  unfold copyM at h
  cases hd : P.underlying t with
  | none => simp only [hd] at h; exact (err_ok h).elim
  | some dd =>
    cases dd <;> simp only [hd] at h <;> try exact (err_ok h).elim
    rename_i e
    cases hn : szT P e with
    | none => simp only [hn] at h; exact (err_ok h).elim
    | some size =>
      simp only [hn] at h
      cases hdv <;> (try simp only at h) <;> try exact (err_ok h).elim
      case nilslice =>
        cases hx <;> (try simp only at h) <;> try exact (err_ok h).elim
        case nilslice =>
          obtain ⟨rfl, rfl⟩ := ret_ok h
          refine .quiet (r := .int .i64 (0 : Nat)) hr ?_ (.int _ _) rfl rfl
          simp only [Builtin.copy_, ht, e0, e1, Sem.run_bind, run_underlying hd, Result.andThen_ok, Builtin.lenOf, Builtin.firstCells, run_sizeOf hn, goInt, Sem.run_pure]
          rfl
        case str b =>
          obtain ⟨rfl, rfl⟩ := ret_ok h
          refine .quiet (r := .int .i64 (0 : Nat)) hr ?_ (.int _ _) rfl rfl
          simp only [Builtin.copy_, ht, e0, e1, Sem.run_bind, run_underlying hd, Result.andThen_ok, Builtin.lenOf, Builtin.firstCells, run_sizeOf hn, goInt, Sem.run_pure]
          simp
        case slice k o len cap cap' p a hp hl hs =>
          obtain ⟨cs, s1, h1, h2⟩ := bnd_ok h
          obtain ⟨rfl, rfl⟩ := ret_ok h2
          obtain ⟨c, hg, hq, rfl, rfl⟩ := ld_ok h1
          refine .quiet (r := .int .i64 (0 : Nat)) hr ?_ (.int _ _) rfl rfl
          simp only [Builtin.copy_, ht, e0, e1, Sem.run_bind, run_underlying hd, Result.andThen_ok, Builtin.lenOf, Builtin.firstCells, run_sizeOf hn, goInt, Sem.run_pure]
          simp [loadCells, loadCellsFrom]
      case slice k o len cap cap' p a hp hl hs =>
        have hat : ∀ {m : Nat} {cs : List V}, cs.length = m → m ≤ len * size → cs = [] ∨ a = ⟨p.blk, p.off + o, none⟩ := by
          intro m cs h1 h2
          rcases hs with ⟨h0, _⟩ | ⟨h0, _⟩
          · left
            have : len = 0 := by omega
            subst this
            rw [Nat.zero_mul] at h2
            exact List.length_eq_zero_iff.1 (by omega)
          · exact .inr h0
        cases hx <;> (try simp only at h) <;> try exact (err_ok h).elim
        case nilslice =>
          obtain ⟨rfl, rfl⟩ := ret_ok h
          refine .quiet (r := .int .i64 (0 : Nat)) hr ?_ (.int _ _) rfl rfl
          simp only [Builtin.copy_, ht, e0, e1, Sem.run_bind, run_underlying hd, Result.andThen_ok, Builtin.lenOf, Builtin.firstCells, run_sizeOf hn, goInt, Sem.run_pure, stores_nil]
          simp
        case str b =>
          cases hs1 : Nat.beq size 1
          · rw [hs1, cond_false] at h; exact (err_ok h).elim
          rw [hs1, cond_true] at h
          rw [nbeq_iff] at hs1; subst hs1
          obtain ⟨u, s1, h1, h2⟩ := bnd_ok h
          obtain ⟨rfl, rfl⟩ := ret_ok h2
          have hcut : (toNats b).take (min (toNats b).length len) = (b.extract 0 (min b.size len)).data.toList.map (·.toNat) := by
            rw [toNats_length, ByteArray.data_extract]
            simp [toNats, List.map_take]
          have hlen : (bytesV ((toNats b).take (min (toNats b).length len))).length = min b.size len := by simp [bytesV, toNats_length]
          obtain ⟨w', g1, g2⟩ := sim_stc_at (P := P) hr hp (hat hlen (by omega)) (by rw [hcut]; exact bytesV_rel _) h1
          refine ⟨μ, w', .int .i64 (min b.size len : Nat), ?_, by rw [toNats_length]; exact .int _ _, g2⟩
          simp only [Builtin.copy_, ht, e0, e1, Sem.run_bind, run_underlying hd, Result.andThen_ok, Builtin.lenOf, Builtin.firstCells, run_sizeOf hn, goInt, Sem.run_pure]
          have : Nat.min b.size len = min b.size len := rfl
          have hm : ((b.extract 0 (min b.size len)).data.map fun x => Value.int .u8 x.toNat).toList = (b.extract 0 (min b.size len)).data.toList.map fun x => Value.int .u8 x.toNat := by simp
          rw [this, hm, g1]
          simp only [Result.andThen_ok]
        case slice k2 o2 len2 cap2 cap2' p2 a2 hp2 hl2 hs2 =>
          obtain ⟨cs, s1, h1, h2⟩ := bnd_ok h
          obtain ⟨u, s2, h3, h4⟩ := bnd_ok h2
          obtain ⟨rfl, rfl⟩ := ret_ok h4
          obtain ⟨c, hg, hq, rfl, rfl⟩ := ld_ok h1
          obtain ⟨rs, g1, g2⟩ := run_loads (P := P) hr hg hp2 hq
          have hload : (loadCells a2 (min len2 len * size)).run P w = .ok ⟨rs⟩ w := by
            rcases hs2 with ⟨h0, _⟩ | ⟨h0, _⟩
            · have : len2 = 0 := by omega
              subst this
              have hrs : rs = [] := by
                have := g2.length
                rw [sub_length hq] at this; simp at this
                exact List.length_eq_zero_iff.1 this.symm
              subst hrs
              simp [loadCells, loadCellsFrom]
            · subst h0; exact g1
          obtain ⟨w', g3, g4⟩ := sim_stc_at (P := P) (s := { s with log := .rd k2 o2 (min len2 len * size) :: s.log }) hr hp (hat (sub_length hq) (Nat.mul_le_mul_right _ (Nat.min_le_right _ _))) g2 h3
          refine ⟨μ, w', .int .i64 (min len2 len : Nat), ?_, .int _ _, g4⟩
          simp only [Builtin.copy_, ht, e0, e1, Sem.run_bind, run_underlying hd, Result.andThen_ok, Builtin.lenOf, Builtin.firstCells, run_sizeOf hn, goInt, Sem.run_pure]
          have : Nat.min len2 len = min len2 len := rfl
          rw [this, hload]
          simp only [Result.andThen_ok, Sem.run_bind, g3, Sem.run_pure]

end
end Go.Lx

/-
  Each of the machine's operations is the model's, through the relation: maps.
-/
set_option linter.unusedSimpArgs false
set_option linter.unusedVariables false
namespace Go.Lx
noncomputable section
section
variable {P : Program} {μ : Mu} {ν : Nat → Value} {s s' : St} {w : World}

theorem run_checkKey {t : TypeId} {d : TypeDesc} {k : V} {k' : Value} {b : Bool} {w2 : World} (hd : P.underlying t = some d) (hk : VRel μ ν k k') (ho : keyOk d k = true) : (Instr.checkKey b 10000 t k').run P w2 = .ok () w2 := by
  have e : (10000 : Nat) = 9999 + 1 := rfl
  rw [e]
  unfold Instr.checkKey
  rw [run_pure_bind (run_underlying hd)]
  cases d <;> cases k <;> simp [keyOk] at ho <;> cases hk <;> rfl

theorem sameKey_rel {d : TypeDesc} {x y : V} {x' y' : Value} {b : Bool} (hx : VRel μ ν x x') (hy : VRel μ ν y y') (h : sameKey d x y = some b) : Instr.sameNow d x' y' = some b := by
  cases d <;> cases x <;> cases y <;> simp only [sameKey] at h <;> try (cases h; done)
  case int.int.int k k1 n k2 m =>
    cases hx; cases hy
    simp only [Instr.sameNow]
    exact h
  case string.str.str a b =>
    cases hx; cases hy
    simp only [Instr.sameNow]
    rw [← h, eqNats_toNats]
  case bool.bool.bool a b =>
    cases hx; cases hy
    simp only [Instr.sameNow]
    exact h
def FRel (μ : Mu) (ν : Nat → Value) (d : TypeDesc) (k : V) (i : Nat) (es : List ME) : Option (Nat × V) → Option (Nat × Value) → Prop
  | none, none => True
  | some (j, v), some (j', v') => j = j' ∧ VRel μ ν v v' ∧ i ≤ j ∧ (∃ e, es[j - i]? = some e ∧ e.val = v ∧ sameKey d k e.key = some true)
  | _, _ => False

theorem findV_rel {d : TypeDesc} {k : V} {k' : Value} (hk : VRel μ ν k k') : ∀ {es : List ME} {es' : List MapEntry} {i : Nat} {r : Option (Nat × V)}, ESRel μ ν es es' → findV d k es i = some r →
    ∃ r', Instr.findNow d k' es' i = some r' ∧ FRel μ ν d k i es r r'
  | [], _, i, r, h, hf => by
    cases h
    injection hf with hf; subst hf
    exact ⟨none, rfl, trivial⟩
  | _ :: es, _, i, r, h, hf => by
    cases h with
    | cons hkk hv hs =>
      rename_i k2 v2 k2' v2' b es'
      unfold findV at hf
      cases hq : sameKey d k k2 with
      | none => simp only [hq] at hf; cases hf
      | some q =>
        have hn := sameKey_rel hk hkk hq
        cases q with
        | true =>
          simp only [hq] at hf
          injection hf with hf; subst hf
          refine ⟨some (i, v2'), by simp only [Instr.findNow, hn], rfl, hv, Nat.le_refl _, ⟨k2, v2, b⟩, by simp, rfl, hq⟩
        | false =>
          simp only [hq] at hf
          obtain ⟨r', g1, g2⟩ := findV_rel hk hs hf
          refine ⟨r', by simp only [Instr.findNow, hn]; exact g1, ?_⟩
          cases r with
          | none => cases r' <;> exact g2
          | some p =>
            obtain ⟨j, v⟩ := p
            cases r' with
            | none => exact g2
            | some p' =>
              obtain ⟨j', v'⟩ := p'
              obtain ⟨q1, q2, q3, e, q4, q5, q6⟩ := g2
              exact ⟨q1, q2, by omega, e, by rw [show j - i = (j - (i + 1)) + 1 by omega]; simpa using q4, q5, q6⟩

theorem run_findKey {t : TypeId} {d : TypeDesc} {k' : Value} {es' : List MapEntry} {r' : Option (Nat × Value)} {w2 : World} (hd : P.underlying t = some d) (h : Instr.findNow d k' es' 0 = some r') : (Instr.findKey t k' es').run P w2 = .ok r' w2 := by
  unfold Instr.findKey
  rw [run_pure_bind (run_underlying hd)]
  simp only [h]
  rfl

theorem sim_lookup {t : TypeId} {x k v : V} {x' k' : Value} {ok : Bool} (hr : Rel P μ ν s.heap w.heap) (hx : VRel μ ν x x') (hk : VRel μ ν k k') (h : lookupM P t x k ok s = .ok v s') : SimV P μ ν s s' w (Instr.lookup t x' k' ok) v := by
  unfold lookupM at h
  cases hd : P.underlying t with
  | none => simp only [hd] at h; exact (err_ok h).elim
  | some d =>
    cases d <;> simp only [hd] at h <;> try exact (err_ok h).elim
    rename_i key elem
    cases hdk : P.underlying key <;> cases hz : zeroT P elem <;> simp only [hdk, hz] at h <;> try exact (err_ok h).elim
    rename_i dk z
    cases hko : keyOk dk k
    · rw [hko, cond_false] at h; exact (err_ok h).elim
    rw [hko, cond_true] at h
    obtain ⟨es, s1, h1, h2⟩ := bnd_ok h
    obtain ⟨z', hz1, hz2⟩ := zeroT_run (μ := μ) (ν := ν) (w := w) hz
    have tail : ∀ {res : List MapEntry} (b : Bool), ESRel μ ν es res → ∃ r, (do
            Instr.checkKey b 10000 key k'
            match ← Instr.findKey key k' res with
              | some (_, v) => (do
                let x ← pure (v, true)
                pure (if ok = true then .tuple #[x.fst, .bool x.snd] else x.fst))
              | none => (do
                let z ← zeroValue elem
                let x ← pure (z, false)
                pure (if ok = true then .tuple #[x.fst, .bool x.snd] else x.fst)) : Sem Value).run P w = .ok r w ∧ VRel μ ν v r ∧ s' = s1 := by
      intro res b e2
      have hck := run_checkKey (P := P) (b := b) (w2 := w) hdk hk hko
      cases hfv : findV dk k es 0 with
      | none => simp only [hfv] at h2; exact (err_ok h2).elim
      | some r =>
        obtain ⟨r', f1, f2⟩ := findV_rel hk e2 hfv
        have hfk := run_findKey (P := P) (w2 := w) hdk f1
        simp only [hfv] at h2
        simp only [Sem.run_bind, hck, Result.andThen_ok, hfk]
        cases r with
        | none =>
          cases r' with
          | none =>
            simp only at h2
            obtain ⟨rfl, rfl⟩ := ret_ok h2
            refine ⟨if ok = true then .tuple #[z', .bool false] else z', by simp only [Sem.run_bind, hz1, Result.andThen_ok, Sem.run_pure], ?_, rfl⟩
            cases ok
            · exact hz2
            · exact .tuple (.cons hz2 (.cons (.bool _) .nil))
          | some p' => exact f2.elim
        | some p =>
          obtain ⟨j, v1⟩ := p
          cases r' with
          | none => exact f2.elim
          | some p' =>
            obtain ⟨j', v1'⟩ := p'
            simp only at h2
            obtain ⟨rfl, rfl⟩ := ret_ok h2
            refine ⟨if ok = true then .tuple #[v1', .bool true] else v1', by simp only [Sem.run_bind, Result.andThen_ok, Sem.run_pure], ?_, rfl⟩
            cases ok
            · exact f2.2.1
            · exact .tuple (.cons f2.2.1 (.cons (.bool _) .nil))
    unfold entriesOf at h1
    cases hx <;> (try simp only at h1) <;> try exact (err_ok h1).elim
    case nilmap =>
      obtain ⟨rfl, rfl⟩ := ret_ok h1
      obtain ⟨r, g1, g2, rfl⟩ := tail (Array.isEmpty (#[] : Array MapEntry)) ESRel.nil
      refine .quiet hr ?_ g2 rfl rfl
      unfold Instr.lookup
      rw [run_pure_bind (run_underlying hd)]
      simp only [pure_bind]
      exact g1
    case map r p hp =>
      obtain ⟨ob, s2, g1, g2⟩ := bnd_ok h1
      obtain ⟨k1, k2, rfl⟩ := getO_ok g1
      cases ob <;> (try simp only at g2) <;> try exact (err_ok g2).elim
      obtain ⟨rfl, rfl⟩ := ret_ok g2
      obtain ⟨res, h3, h4⟩ := getO_rel hr hp k1
      obtain ⟨r, q1, q2, rfl⟩ := tail (Array.isEmpty (⟨res⟩ : Array MapEntry)) h4
      refine .quiet hr ?_ q2 rfl rfl
      unfold Instr.lookup
      rw [run_pure_bind (run_underlying hd)]
      simp only []
      rw [run_pure_bind (run_getObj_map h3)]
      simp only [pure_bind]
      exact q1

theorem run_setObj {r : Nat} {o : Obj} {o' : Obj} (h : w.heap[r]? = some o) (hc : ∀ c e f, o ≠ .cells c e f) : (setObj r o').run P w = .ok () { w with heap := w.heap.setIfInBounds r o' } := by
  simp only [setObj, Sem.run, h]

theorem run_getObj {r : Nat} {o : Obj} (h : w.heap[r]? = some o) (hc : ∀ c e f, o ≠ .cells c e f) : (getObj r).run P w = .ok o w := by
  simp only [getObj, Sem.run, h]

theorem wrote_set {r : Nat} {o : Obj} : Wrote w { w with heap := w.heap.setIfInBounds r o } r :=
  ⟨rfl, rfl, rfl, by simp, fun b hb => by simp only [Array.getElem?_setIfInBounds_ne (Ne.symm hb)]⟩

theorem set_at {r : Nat} {o o' : Obj} (h : w.heap[r]? = some o) : (w.heap.setIfInBounds r o')[r]? = some o' := by
  have := (Array.getElem?_eq_some_iff.1 h).1
  simp [this]
theorem step_map {r : Nat} {p : Pl} {ob : Ob} {es : List ME} {res : List MapEntry} {clock : Nat} {o : Obj} {n : Nat} (hr : Rel P μ ν s.heap w.heap) (hg : s.heap.get r = some ob) (hp : μ r = some p) (hw : w.heap[p.blk]? = some o) (he : ESRel μ ν es res) (h0r : ob.isRo = false := by rfl) :
    StepOk P μ ν s.heap n w μ (s.heap.set r (some (.map es clock))) n { w with heap := w.heap.setIfInBounds p.blk (.map ⟨res⟩ clock) } :=
  StepOk.wrote hr hg hp wrote_set ⟨res, set_at hw, he⟩

theorem modifyE_rel {f : ME → ME} {g : MapEntry → MapEntry} (hfg : ∀ {k v : V} {k' v' : Value} {b : Nat}, VRel μ ν k k' → VRel μ ν v v' → VRel μ ν (f ⟨k, v, b⟩).key (g ⟨k', v', b⟩).key ∧ VRel μ ν (f ⟨k, v, b⟩).val (g ⟨k', v', b⟩).val ∧ (f ⟨k, v, b⟩).born = b ∧ (g ⟨k', v', b⟩).born = b) :
    ∀ {es : List ME} {es' : List MapEntry} (i : Nat), ESRel μ ν es es' → ESRel μ ν (modifyE es i f) ((⟨es'⟩ : Array MapEntry).modify i g).toList := by
  intro es es' i h
  rw [Array.toList_modify]
  induction h generalizing i with
  | nil => cases i <;> exact .nil
  | @cons k v k' v' b es es' hk hv hs ih =>
    cases i with
    | zero =>
      simp only [modifyE]
      obtain ⟨h1, h2, h3, h4⟩ := hfg (b := b) hk hv
      have e1 : f ⟨k, v, b⟩ = ⟨(f ⟨k, v, b⟩).key, (f ⟨k, v, b⟩).val, b⟩ := by
        conv => lhs; rw [show f ⟨k, v, b⟩ = ⟨(f ⟨k, v, b⟩).key, (f ⟨k, v, b⟩).val, (f ⟨k, v, b⟩).born⟩ from rfl, h3]
      have e2 : g ⟨k', v', b⟩ = ⟨(g ⟨k', v', b⟩).key, (g ⟨k', v', b⟩).val, b⟩ := by
        conv => lhs; rw [show g ⟨k', v', b⟩ = ⟨(g ⟨k', v', b⟩).key, (g ⟨k', v', b⟩).val, (g ⟨k', v', b⟩).born⟩ from rfl, h4]
      show ESRel μ ν _ (g ⟨k', v', b⟩ :: es')
      rw [e1, e2]
      exact .cons h1 h2 hs
    | succ i =>
      simp only [modifyE]
      exact .cons hk hv (ih i)

theorem eraseE_rel : ∀ {es : List ME} {es' : List MapEntry} (i : Nat), ESRel μ ν es es' → ESRel μ ν (eraseE es i) ((⟨es'⟩ : Array MapEntry).eraseIdxIfInBounds i).toList := by
  intro es es' i h
  have e : ((⟨es'⟩ : Array MapEntry).eraseIdxIfInBounds i).toList = es'.eraseIdx i := by simp
  rw [e]
  induction h generalizing i with
  | nil => cases i <;> exact .nil
  | @cons k v k' v' b es es' hk hv hs ih =>
    cases i with
    | zero => exact hs
    | succ i => exact .cons hk hv (ih i (by simp))

theorem ESRel.snoc {es : List ME} {es' : List MapEntry} {k v : V} {k' v' : Value} {b : Nat} (h : ESRel μ ν es es') (hk : VRel μ ν k k') (hv : VRel μ ν v v') : ESRel μ ν (es ++ [⟨k, v, b⟩]) (es' ++ [⟨k', v', b⟩]) := by
  induction h with
  | nil => exact .cons hk hv .nil
  | cons hk' hv' _ ih => exact .cons hk' hv' ih

theorem ESRel.get {es : List ME} {es' : List MapEntry} (h : ESRel μ ν es es') : ∀ {i : Nat} {e : ME}, es[i]? = some e → ∃ e', es'[i]? = some e' ∧ VRel μ ν e.key e'.key ∧ VRel μ ν e.val e'.val ∧ e.born = e'.born := by
  induction h with
  | nil => intro i e h; simp at h
  | cons hk hv _ ih =>
    intro i e h
    cases i with
    | zero => simp at h; subst h; exact ⟨⟨_, _, _⟩, rfl, hk, hv, rfl⟩
    | succ i => simpa using ih (by simpa using h)
theorem run_keyStays {d : TypeDesc} {k k2 : V} {k' k2' : Value} (hk : VRel μ ν k k') (hk2 : VRel μ ν k2 k2') (h : sameKey d k k2 = some true) : (Instr.keyThatStays k2' k').run P w = .ok k' w := by
  have hb : Instr.sameBits 10000 k2' k' = true := by
    have e : (10000 : Nat) = 9999 + 1 := rfl
    rw [e]
    cases d <;> cases k <;> cases k2 <;> simp only [sameKey] at h <;> try (cases h; done)
    case int.int.int kd k1 n k2 m =>
      cases hk; cases hk2
      split at h
      · rename_i e; subst e
        injection h with h
        have : n = m := by simpa using h
        subst this
        simp [Instr.sameBits]
      · cases h
    case string.str.str =>
      cases hk; cases hk2
      rename_i a b
      injection h with h
      rw [eqNats_iff, toNats_inj] at h
      subst h
      simp only [Instr.sameBits]
      have hb : (a == a) = (a.data == a.data) := rfl
      rw [hb]; simp
    case bool.bool.bool a b =>
      cases hk; cases hk2
      injection h with h
      have : a = b := by simpa using h
      subst this
      simp [Instr.sameBits]
  simp only [Instr.keyThatStays, hb, if_true, Sem.run_pure]

theorem sim_mapUpdate {t : TypeId} {m k v u : V} {m' k' v' : Value} (hr : Rel P μ ν s.heap w.heap) (hm : VRel μ ν m m') (hk : VRel μ ν k k') (hv : VRel μ ν v v') (h : mapUpdateM P t m k v s = .ok u s') :
    u = undefV ∧ ∃ w', (Instr.mapUpdate t m' k' v').run P w = .ok () w' ∧ StepOk P μ ν s.heap s.next w μ s'.heap s'.next w' := by
  unfold mapUpdateM at h
  cases hd : P.underlying t with
  | none => simp only [hd] at h; exact (err_ok h).elim
  | some d =>
    cases d <;> simp only [hd] at h <;> try exact (err_ok h).elim
    rename_i key elem
    cases hdk : P.underlying key <;> simp only [hdk] at h <;> try exact (err_ok h).elim
    rename_i dk
    cases hm <;> (try simp only at h) <;> try exact (err_ok h).elim
    rename_i r p hp
    cases hko : keyOk dk k
    · rw [hko, cond_false] at h; exact (err_ok h).elim
    rw [hko, cond_true] at h
    obtain ⟨ob, s1, h1, h2⟩ := bnd_ok h
    obtain ⟨g1, g2, rfl⟩ := getO_ok h1
    cases ob <;> (try simp only at h2) <;> try exact (err_ok h2).elim
    rename_i es clock
    obtain ⟨res, h3, h4⟩ := getO_rel hr hp g1
    have hck := run_checkKey (P := P) (b := false) (w2 := w) hdk hk hko
    cases hfv : findV dk k es 0 with
    | none => simp only [hfv] at h2; exact (err_ok h2).elim
    | some q =>
      obtain ⟨q', f1, f2⟩ := findV_rel hk h4 hfv
      have hfk := run_findKey (P := P) (w2 := w) hdk f1
      simp only [hfv] at h2
      cases q with
      | none =>
        cases q' with
        | some p' => exact f2.elim
        | none =>
          simp only at h2
          obtain ⟨u1, s2, h5, h6⟩ := bnd_ok h2
          obtain ⟨rfl, rfl⟩ := ret_ok h6
          obtain ⟨o', k1, k2, k3, rfl⟩ := setO_ok h5
          refine ⟨rfl, _, ?_, step_map (clock := clock + 1) hr g1 hp h3 (h4.snoc hk hv)⟩
          unfold Instr.mapUpdate
          rw [run_pure_bind (run_underlying hd)]
          simp only []
          rw [run_pure_bind (run_getObj_map h3)]
          simp only []
          rw [run_pure_bind hck]
          rw [run_pure_bind hfk]
          simp only []
          rw [run_setObj h3 (by intro _ _ _ e; cases e)]
          simp
      | some q =>
        obtain ⟨j, v1⟩ := q
        cases q' with
        | none => exact f2.elim
        | some p' =>
          obtain ⟨j', v1'⟩ := p'
          obtain ⟨rfl, _, _, e, e1, e2, e3⟩ := f2
          rw [Nat.sub_zero] at e1
          obtain ⟨e', e4, e5, e6, e7⟩ := h4.get e1
          simp only at h2
          obtain ⟨u1, s2, h5, h6⟩ := bnd_ok h2
          obtain ⟨rfl, rfl⟩ := ret_ok h6
          obtain ⟨o', k1, k2, k3, rfl⟩ := setO_ok h5
          have hmod := modifyE_rel (μ := μ) (ν := ν) (f := fun e => { e with key := k, val := v }) (g := fun e => { e with key := k', val := v' }) (fun _ _ => ⟨hk, hv, rfl, rfl⟩) j h4
          refine ⟨rfl, _, ?_, step_map (clock := clock) hr g1 hp h3 hmod⟩
          unfold Instr.mapUpdate
          rw [run_pure_bind (run_underlying hd)]
          simp only []
          rw [run_pure_bind (run_getObj_map h3)]
          simp only []
          rw [run_pure_bind hck]
          rw [run_pure_bind hfk]
          simp only []
          have hold : (((⟨res⟩ : Array MapEntry)[j]?).map (·.key)).getD k' = e'.key := by
            have : (⟨res⟩ : Array MapEntry)[j]? = some e' := by simpa using e4
            rw [this]; rfl
          rw [hold, run_pure_bind (run_keyStays hk e5 e3)]
          rw [run_setObj h3 (by intro _ _ _ e; cases e)]

theorem sim_delete {t : TypeId} {m k u : V} {m' k' : Value} {ts : Array TypeId} {ty : TypeId} (hr : Rel P μ ν s.heap w.heap) (ht : ts[0]? = some t) (hm : VRel μ ν m m') (hk : VRel μ ν k k') (h : deleteM P t m k s = .ok u s') :
    SimV P μ ν s s' w (Builtin.delete_ ts ty #[m', k']) u := by
  have a0 : (#[m', k'] : Array Value)[0]? = some m' := rfl
  have a1 : (#[m', k'] : Array Value)[1]? = some k' := rfl
  unfold deleteM at h
  cases hd : P.underlying t with
  | none => simp only [hd] at h; exact (err_ok h).elim
  | some d =>
    cases d <;> simp only [hd] at h <;> try exact (err_ok h).elim
    rename_i key elem
    cases hdk : P.underlying key <;> simp only [hdk] at h <;> try exact (err_ok h).elim
    rename_i dk
    cases hm <;> (try simp only at h) <;> try exact (err_ok h).elim
    case nilmap =>
      cases hko : keyOk dk k
      · rw [hko, cond_false] at h; exact (err_ok h).elim
      rw [hko, cond_true] at h
      obtain ⟨rfl, rfl⟩ := ret_ok h
      refine .quiet (r := .tuple #[]) hr ?_ (.tuple .nil) rfl rfl
      have hck := run_checkKey (P := P) (b := true) (w2 := w) hdk hk hko
      unfold Builtin.delete_
      simp only [ht, a0, a1]
      rw [run_pure_bind (run_underlying hd)]
      simp only []
      rw [run_pure_bind hck]
      rfl
    case map r p hp =>
      cases hko : keyOk dk k
      · rw [hko, cond_false] at h; exact (err_ok h).elim
      rw [hko, cond_true] at h
      obtain ⟨ob, s1, h1, h2⟩ := bnd_ok h
      obtain ⟨g1, g2, rfl⟩ := getO_ok h1
      cases ob <;> (try simp only at h2) <;> try exact (err_ok h2).elim
      rename_i es clock
      obtain ⟨res, h3, h4⟩ := getO_rel hr hp g1
      cases hfv : findV dk k es 0 with
      | none => simp only [hfv] at h2; exact (err_ok h2).elim
      | some q =>
        obtain ⟨q', f1, f2⟩ := findV_rel hk h4 hfv
        have hck := fun b => run_checkKey (P := P) (b := b) (w2 := w) hdk hk hko
        have hfk := run_findKey (P := P) (w2 := w) hdk f1
        simp only [hfv] at h2
        cases q with
        | none =>
          cases q' with
          | some p' => exact f2.elim
          | none =>
            simp only at h2
            obtain ⟨u1, s2, h5, h6⟩ := bnd_ok h2
            obtain ⟨rfl, rfl⟩ := ret_ok h6
            obtain ⟨o', k1, k2, k3, rfl⟩ := setO_ok h5
            refine ⟨μ, _, .tuple #[], ?_, .tuple .nil, step_map (clock := clock) hr g1 hp h3 h4⟩
            unfold Builtin.delete_
            simp only [ht, a0, a1]
            rw [run_pure_bind (run_underlying hd)]
            simp only []
            rw [run_pure_bind (run_getObj_map h3)]
            simp only []
            rw [run_pure_bind (hck _), run_pure_bind hfk]
            simp only []
            rw [run_pure_bind (run_setObj h3 (by intro _ _ _ e; cases e))]
            rfl
        | some q =>
          obtain ⟨j, v1⟩ := q
          cases q' with
          | none => exact f2.elim
          | some p' =>
            obtain ⟨j', v1'⟩ := p'
            obtain ⟨rfl, _, _, e, e1, e2, e3⟩ := f2
            simp only at h2
            obtain ⟨u1, s2, h5, h6⟩ := bnd_ok h2
            obtain ⟨rfl, rfl⟩ := ret_ok h6
            obtain ⟨o', k1, k2, k3, rfl⟩ := setO_ok h5
            refine ⟨μ, _, .tuple #[], ?_, .tuple .nil, step_map (clock := clock) hr g1 hp h3 (eraseE_rel j h4)⟩
            unfold Builtin.delete_
            simp only [ht, a0, a1]
            rw [run_pure_bind (run_underlying hd)]
            simp only []
            rw [run_pure_bind (run_getObj_map h3)]
            simp only []
            rw [run_pure_bind (hck _), run_pure_bind hfk]
            simp only []
            rw [run_pure_bind (run_setObj h3 (by intro _ _ _ e; cases e))]
            rfl

end
end
end Go.Lx

/-
  Each of the machine's operations is the model's, through the relation: clear, ranges.
-/
set_option linter.unusedSimpArgs false
set_option linter.unusedVariables false
namespace Go.Lx

theorem dec_eq (b : ByteArray) (pos : Nat) : Utf8.decode b pos = dec ((toNats b).drop pos) := by
  have h1 : ∀ k, (b.get! (pos + k)).toNat = ((toNats b).drop pos).getD k 0 := by
    intro k
    rw [List.getD_eq_getElem?_getD, List.getElem?_drop, toNats_get]
    by_cases h : pos + k < b.size
    · have hd : pos + k < b.data.size := h
      have e : b[pos + k]? = some b[pos + k] := getElem?_pos b _ h
      rw [e]
      show (b.data[pos + k]!).toNat = _
      rw [getElem!_pos b.data (pos + k) hd]
      rfl
    · have hd : ¬ pos + k < b.data.size := h
      have e : b[pos + k]? = none := getElem?_neg b _ h
      rw [e]
      show (b.data[pos + k]!).toNat = _
      rw [getElem!_neg b.data (pos + k) hd]
      rfl
  have h2 : ∀ k, (pos + k < b.size) = (k < ((toNats b).drop pos).length) := by
    intro k; rw [List.length_drop, toNats_length]; apply propext; omega
  unfold Utf8.decode dec
  simp only [h1, h2]
  generalize (toNats b).drop pos = l
  have e1 : ∀ a c : Nat, Nat.beq a c = (a == c) := fun a c => by rw [Bool.eq_iff_iff, nbeq_iff, beq_iff_eq]
  have e2 : ∀ a c : Nat, Nat.blt a c = decide (a < c) := fun a c => by rw [Bool.eq_iff_iff, blt_iff, decide_eq_true_eq]
  have e3 : ∀ a c : Nat, Nat.ble a c = decide (a ≤ c) := fun a c => by rw [Bool.eq_iff_iff, ble_iff, decide_eq_true_eq]
  simp only [e1, e2, e3, Bool.cond_eq_ite, decide_eq_true_eq, Bool.and_eq_true, beq_iff_eq, ge_iff_le]

section
variable {P : Program} {μ : Mu} {ν : Nat → Value} {s s' : St} {w : World}

theorem sim_newIter {ob : Ob} {O : Obj} {v : V} (hr : Rel P μ ν s.heap w.heap) (hf : Fresh μ s s') (ho : ∀ μ' H, Mu.le μ μ' → H[w.heap.size]? = some O → ORel P μ' ν ⟨w.heap.size, 0, false, 0, 0⟩ H ob) (h : bnd (alloc ob) (fun k => ret (.ptr k 0)) s = .ok v s') :
    ∃ μ', VRel μ' ν v (.pointer (some ⟨w.heap.size, 0, none⟩)) ∧ StepOk P μ ν s.heap s.next w μ' s'.heap s'.next { w with heap := w.heap.push O } := by
  obtain ⟨k, s1, h1, h2⟩ := bnd_ok h
  obtain ⟨rfl, rfl⟩ := ret_ok h2
  obtain ⟨rfl, rfl⟩ := alloc_ok h1
  have hk : μ s.next = none := hf _ (Nat.le_refl _) (Nat.lt_succ_self _)
  exact ⟨_, ptr_new rfl rfl, StepOk.alloc (d := w.drawn) hr hk rfl (ho _ _ (upd_le _ hk) (by simp))⟩

theorem sim_range {t : TypeId} {x v : V} {x' : Value} (hr : Rel P μ ν s.heap w.heap) (hf : Fresh μ s s') (hx : VRel μ ν x x') (h : rangeM P t x s = .ok v s') : SimV P μ ν s s' w (Instr.range t x') v := by
  unfold rangeM at h
  cases hd : P.underlying t with
  | none => simp only [hd] at h; exact (err_ok h).elim
  | some d =>
    cases d <;> simp only [hd] at h <;> try exact (err_ok h).elim
    case string =>
      cases hx <;> (try simp only at h) <;> try exact (err_ok h).elim
      rename_i b
      obtain ⟨μ', g1, g2⟩ := sim_newIter (ob := .siter (toNats b) 0) (O := .stringIter b 0) hr hf (fun μ' H _ hH => ⟨rfl, b, rfl, hH⟩) h
      refine ⟨μ', _, _, ?_, g1, g2⟩
      unfold Instr.range
      rw [run_pure_bind (run_underlying hd)]
      simp only [pure_bind, Sem.run_bind, run_newObj, Result.andThen_ok, Sem.run_pure]
    case map kt et =>
      cases hx <;> (try simp only at h) <;> try exact (err_ok h).elim
      case nilmap =>
        obtain ⟨μ', g1, g2⟩ := sim_newIter (ob := .miter none 0 [] 0) (O := .mapIter none 0 #[] 0) hr hf (fun μ' H _ hH => ⟨rfl, hH⟩) h
        refine ⟨μ', _, _, ?_, g1, g2⟩
        unfold Instr.range
        rw [run_pure_bind (run_underlying hd)]
        simp only [pure_bind, Sem.run_bind, run_newObj, Result.andThen_ok, Sem.run_pure]
      case map m p hp =>
        obtain ⟨ob, s1, h1, h2⟩ := bnd_ok h
        obtain ⟨g1, g2, rfl⟩ := getO_ok h1
        cases ob <;> (try simp only at h2) <;> try exact (err_ok h2).elim
        rename_i es clock
        obtain ⟨res, h3, h4⟩ := getO_rel hr hp g1
        obtain ⟨μ', k1, k2⟩ := sim_newIter (s := { s with log := .rdd m :: s.log }) (ob := .miter (some m) clock [] clock) (O := .mapIter (some p.blk) clock #[] clock) hr hf (fun μ' H hm hH => ⟨rfl, p, hm _ _ hp, hH⟩) h2
        refine ⟨μ', _, _, ?_, k1, k2⟩
        unfold Instr.range
        rw [run_pure_bind (run_underlying hd)]
        simp only []
        rw [run_pure_bind (run_getObj_map h3)]
        simp only [pure_bind, Sem.run_bind, run_newObj, Result.andThen_ok, Sem.run_pure]

theorem memNat_eq : ∀ (l : List Nat) (n : Nat), memNat n l = l.contains n
  | [], n => rfl
  | m :: l, n => by
    simp only [memNat, List.contains_cons, memNat_eq l n]
    congr 1
    rw [Bool.eq_iff_iff, nbeq_iff, beq_iff_eq]

theorem unseen_rel {seen : List Nat} {es : List ME} {es' : List MapEntry} (h : ESRel μ ν es es') : ESRel μ ν (unseen seen es) (es'.filter fun e => !(⟨seen⟩ : Array Nat).contains e.born) := by
  induction h with
  | nil => exact .nil
  | @cons k v k' v' b es es' hk hv hs ih =>
    have hc : (⟨seen⟩ : Array Nat).contains b = memNat b seen := by rw [memNat_eq]; simp
    simp only [unseen, List.filter_cons, hc]
    cases hb : memNat b seen
    · simp only [cond_false, Bool.not_false, if_true]; exact .cons hk hv ih
    · simp only [cond_true, Bool.not_true, Bool.false_eq_true, if_false]; exact ih

theorem allFrom_rel {last : Nat} {es : List ME} {es' : List MapEntry} (h : ESRel μ ν es es') : allFrom last es = es'.all fun e => decide (e.born ≥ last) := by
  induction h with
  | nil => rfl
  | @cons k v k' v' b es es' hk hv hs ih =>
    simp only [allFrom, List.all_cons, ih]
    congr 1
    rw [Bool.eq_iff_iff, ble_iff, decide_eq_true_eq]

theorem ESRel.isEmpty {es : List ME} {es' : List MapEntry} (h : ESRel μ ν es es') : es.isEmpty = es'.isEmpty := by cases h <;> rfl

theorem sim_next {it v : V} {it' : Value} {isString : Bool} {t : TypeId} (hr : Rel P μ ν s.heap w.heap) (hx : VRel μ ν it it') (h : nextM it isString s = .ok v s') : SimV P μ ν s s' w (Instr.next it' isString t) v := by
  unfold nextM at h
  cases hx <;> (try simp only at h) <;> try exact (err_ok h).elim
  rename_i r o p hp
  cases o with
  | succ o => exact (err_ok h).elim
  | zero =>
    simp only at h
    obtain ⟨ob, s1, h1, h2⟩ := bnd_ok h
    obtain ⟨g1, g2, rfl⟩ := getO_ok h1
    have ho := getO_rel hr hp g1
    cases ob <;> cases isString <;> (try simp only at h2) <;> try exact (err_ok h2).elim
    case siter.true l pos =>
      obtain ⟨h0, b, rfl, hb⟩ := ho
      have hgo := run_getObj (P := P) hb (by intro _ _ _ e; cases e)
      cases hlt : Nat.blt pos (toNats b).length
      · rw [hlt, cond_false] at h2
        obtain ⟨rfl, rfl⟩ := ret_ok h2
        rw [blt_false, toNats_length] at hlt
        refine .quiet (r := .tuple #[.bool false]) hr ?_ (.tuple (.cons (.bool _) .nil)) rfl rfl
        unfold Instr.next
        simp only [h0]
        rw [run_pure_bind hgo]
        simp only [Sem.run_ite]
        rw [if_neg (by omega)]
        rfl
      · rw [hlt, cond_true] at h2
        rw [blt_iff, toNats_length] at hlt
        obtain ⟨u, s2, h3, h4⟩ := bnd_ok h2
        obtain ⟨rfl, rfl⟩ := ret_ok h4
        obtain ⟨o', k1, k2, k3, rfl⟩ := setO_ok h3
        refine ⟨μ, { w with heap := w.heap.setIfInBounds p.blk (.stringIter b (pos + (dec ((toNats b).drop pos)).2)) }, .tuple #[.bool true, .int .i64 pos, .int .i32 (dec ((toNats b).drop pos)).1], ?_, .tuple (.cons (.bool _) (.cons (.int _ _) (.cons (.int _ _) .nil))), ?_⟩
        · unfold Instr.next
          simp only [h0]
          rw [run_pure_bind hgo]
          simp only [Sem.run_ite]
          rw [if_pos hlt, dec_eq]
          rw [run_pure_bind (run_setObj hb (by intro _ _ _ e; cases e))]
          rfl
        · exact StepOk.wrote hr g1 hp wrote_set ⟨h0, b, rfl, set_at hb⟩
    case miter.false m since seen last =>
      cases m with
      | none =>
        simp only at h2
        obtain ⟨rfl, rfl⟩ := ret_ok h2
        obtain ⟨h0, hb⟩ := ho
        have hgo := run_getObj (P := P) hb (by intro _ _ _ e; cases e)
        refine .quiet (r := .tuple #[.bool false]) hr ?_ (.tuple (.cons (.bool _) .nil)) rfl rfl
        unfold Instr.next
        simp only [h0]
        rw [run_pure_bind hgo]
        rfl
      | some m =>
        simp only at h2
        obtain ⟨h0, q, hq, hb⟩ := ho
        have hgo := run_getObj (P := P) hb (by intro _ _ _ e; cases e)
        obtain ⟨ob2, s2, h3, h4⟩ := bnd_ok h2
        obtain ⟨g3, g4, rfl⟩ := getO_ok h3
        have ho2 := getO_rel hr hq g3
        cases ob2 <;> (try simp only at h4) <;> try exact (err_ok h4).elim
        rename_i es clock
        obtain ⟨res, h5, h6⟩ := ho2
        have hgm := run_getObj_map (P := P) h5
        cases hgone : (!seen.isEmpty && !es.isEmpty && allFrom last es)
        case true => rw [hgone, cond_true] at h4; exact (err_ok h4).elim
        rw [hgone, cond_false] at h4
        have hgone' : (!(⟨seen⟩ : Array Nat).isEmpty && !(⟨res⟩ : Array MapEntry).isEmpty && (⟨res⟩ : Array MapEntry).all fun x => decide (x.born ≥ last)) = false := by
          have e1 : (⟨seen⟩ : Array Nat).isEmpty = seen.isEmpty := by cases seen <;> simp
          have e2 : (⟨res⟩ : Array MapEntry).isEmpty = es.isEmpty := by rw [h6.isEmpty]; cases res <;> simp
          have e3 : ((⟨res⟩ : Array MapEntry).all fun x => decide (x.born ≥ last)) = allFrom last es := by rw [allFrom_rel h6]; simp
          rw [e1, e2, e3]; exact hgone
        have hun := unseen_rel (μ := μ) (ν := ν) (seen := seen) h6
        have hleft : (⟨res⟩ : Array MapEntry).filter (fun e => !(⟨seen⟩ : Array Nat).contains e.born) = ⟨res.filter fun e => !(⟨seen⟩ : Array Nat).contains e.born⟩ := by
          apply Array.ext'; simp
        have hch : (Question.mapNext 1).forced = true := rfl
        unfold Instr.next
        simp only [h0]
        cases hus : unseen seen es with
        | nil =>
          simp only [hus] at h4
          obtain ⟨rfl, rfl⟩ := ret_ok h4
          rw [hus] at hun
          cases hl : res.filter (fun e => !(⟨seen⟩ : Array Nat).contains e.born) with
          | cons a l => rw [hl] at hun; cases hun
          | nil =>
            refine .quiet (r := .tuple #[.bool false]) hr ?_ (.tuple (.cons (.bool _) .nil)) rfl rfl
            rw [run_pure_bind hgo]
            simp only []
            rw [run_pure_bind hgm]
            simp only [hgone', hleft, hl, Bool.false_eq_true, if_false]
            simp [Question.forced]
        | cons e rest =>
          cases rest with
          | cons e2 rest => simp only [hus] at h4; exact (err_ok h4).elim
          | nil =>
            simp only [hus] at h4
            cases hbs : Nat.blt e.born since
            · rw [hbs, cond_false] at h4; exact (err_ok h4).elim
            rw [hbs, cond_true] at h4
            rw [blt_iff] at hbs
            obtain ⟨u, s3, h7, h8⟩ := bnd_ok h4
            obtain ⟨rfl, rfl⟩ := ret_ok h8
            obtain ⟨o', k1, k2, k3, rfl⟩ := setO_ok h7
            rw [hus] at hun
            cases hl : res.filter (fun e => !(⟨seen⟩ : Array Nat).contains e.born) with
            | nil => rw [hl] at hun; cases hun
            | cons a l =>
              rw [hl] at hun
              cases hun with
              | cons hk hv hs =>
                rename_i k v1 k' v1' b
                cases hs
                refine ⟨μ, { w with heap := w.heap.setIfInBounds p.blk (.mapIter (some q.blk) since ((⟨seen⟩ : Array Nat).push b) clock) }, .tuple #[.bool true, k', v1'], ?_, .tuple (.cons (.bool _) (.cons hk (.cons hv .nil))), ?_⟩
                · rw [run_pure_bind hgo]
                  simp only []
                  rw [run_pure_bind hgm]
                  simp only [hgone', hleft, hl, Bool.false_eq_true, if_false]
                  have ho1 : (⟨[⟨k', v1', b⟩]⟩ : Array MapEntry).filter (fun x => decide (x.born < since)) = #[⟨k', v1', b⟩] := by
                    apply Array.ext'; simp; exact hbs
                  have ho2 : (⟨[⟨k', v1', b⟩]⟩ : Array MapEntry).filter (fun x => decide (x.born ≥ since)) = #[] := by
                    apply Array.ext'; simp; exact hbs
                  rw [ho1, ho2]
                  simp [Question.forced]
                  rw [run_setObj hb (by intro _ _ _ e; cases e)]
                  rfl
                · refine StepOk.wrote hr g1 hp wrote_set ⟨h0, q, hq, ?_⟩
                  rw [set_at hb]
                  simp

theorem findBorn_rel {b : Nat} {es : List ME} {es' : List MapEntry} (h : ESRel μ ν es es') {e : ME} (hf : findBorn b es = some e) : ∃ e', es'.find? (fun x => x.born == b) = some e' ∧ VRel μ ν e.key e'.key ∧ VRel μ ν e.val e'.val := by
  induction h with
  | nil => cases hf
  | @cons k v k' v' c es es' hk hv hs ih =>
    simp only [findBorn] at hf
    cases hb : Nat.beq c b
    · rw [hb, cond_false] at hf
      rw [nbeq_false] at hb
      obtain ⟨e', h1, h2⟩ := ih hf
      refine ⟨e', ?_, h2⟩
      rw [List.find?_cons_of_neg (by simpa using hb)]
      exact h1
    · rw [hb, cond_true] at hf
      rw [nbeq_iff] at hb
      injection hf with hf; subst hf
      exact ⟨⟨k', v', c⟩, by rw [List.find?_cons_of_pos (by simpa using hb)], hk, hv⟩

theorem lastN_eq : ∀ (l : List Nat), lastN l = l.getLast?
  | [] => rfl
  | [a] => rfl
  | a :: b :: l => by rw [lastN, lastN_eq (b :: l), List.getLast?_cons_cons]; intro h; cases h

theorem sim_entry {it v : V} {it' : Value} (hr : Rel P μ ν s.heap w.heap) (hx : VRel μ ν it it') (h : entryM it s = .ok v s') : SimV P μ ν s s' w (Instr.entry it') v := by
  unfold entryM at h
  cases hx <;> (try simp only at h) <;> try exact (err_ok h).elim
  rename_i r o p hp
  cases o with
  | succ o => exact (err_ok h).elim
  | zero =>
    simp only at h
    obtain ⟨ob, s1, h1, h2⟩ := bnd_ok h
    obtain ⟨g1, g2, rfl⟩ := getO_ok h1
    have ho := getO_rel hr hp g1
    cases ob <;> (try simp only at h2) <;> try exact (err_ok h2).elim
    rename_i m since seen stepped
    cases m <;> (try simp only at h2) <;> try exact (err_ok h2).elim
    rename_i m
    obtain ⟨h0, q, hq, hb⟩ := ho
    have hgo := run_getObj (P := P) hb (by intro _ _ _ e; cases e)
    cases hl : lastN seen with
    | none => simp only [hl] at h2; exact (err_ok h2).elim
    | some b =>
      simp only [hl] at h2
      obtain ⟨ob2, s2, h3, h4⟩ := bnd_ok h2
      obtain ⟨g3, g4, rfl⟩ := getO_ok h3
      have ho2 := getO_rel hr hq g3
      cases ob2 <;> (try simp only at h4) <;> try exact (err_ok h4).elim
      rename_i es clock
      obtain ⟨res, h5, h6⟩ := ho2
      have hgm := run_getObj_map (P := P) h5
      cases hcl : Nat.beq clock stepped
      · rw [hcl, cond_false] at h4; exact (err_ok h4).elim
      rw [hcl, cond_true] at h4
      rw [nbeq_iff] at hcl; subst hcl
      cases hfb : findBorn b es with
      | none => simp only [hfb] at h4; exact (err_ok h4).elim
      | some e =>
        simp only [hfb] at h4
        obtain ⟨rfl, rfl⟩ := ret_ok h4
        obtain ⟨e', k1, k2, k3⟩ := findBorn_rel h6 hfb
        refine .quiet (r := .tuple #[e'.key, e'.val]) hr ?_ (.tuple (.cons k2 (.cons k3 .nil))) rfl rfl
        unfold Instr.entry
        simp only [h0]
        rw [run_pure_bind hgo]
        simp only []
        have hbk : (⟨seen⟩ : Array Nat).back? = some b := by rw [← hl, lastN_eq]; simp
        rw [hbk]
        simp only []
        rw [run_pure_bind hgm]
        have hfa : (⟨res⟩ : Array MapEntry).find? (fun x => x.born == b) = some e' := by simpa using k1
        simp only [bne_self_eq_false, Bool.false_eq_true, if_false, hfa]
        rfl

theorem sim_clear {t : TypeId} {x v : V} {x' : Value} {ts : Array TypeId} {ty : TypeId} (hr : Rel P μ ν s.heap w.heap) (ht : ts[0]? = some t) (hx : VRel μ ν x x') (h : clearM P t x s = .ok v s') : SimV P μ ν s s' w (Builtin.clear_ ts ty #[x']) v := by
  have e0 : (#[x'] : Array Value)[0]? = some x' := rfl
  unfold clearM at h
  cases hd : P.underlying t with
  | none => simp only [hd] at h; exact (err_ok h).elim
  | some d =>
    simp only [hd] at h
    cases hx
    case nilmap =>
      have h' : ret undefV s = .ok v s' := by cases d <;> exact h
      obtain ⟨rfl, rfl⟩ := ret_ok h'
      refine .quiet (r := .tuple #[]) hr ?_ (.tuple .nil) rfl rfl
      unfold Builtin.clear_
      simp only [ht, e0]
      rw [run_pure_bind (run_underlying hd)]
      cases d <;> rfl
    case nilslice =>
      have h' : ret undefV s = .ok v s' := by cases d <;> exact h
      obtain ⟨rfl, rfl⟩ := ret_ok h'
      refine .quiet (r := .tuple #[]) hr ?_ (.tuple .nil) rfl rfl
      unfold Builtin.clear_
      simp only [ht, e0]
      rw [run_pure_bind (run_underlying hd)]
      cases d <;> rfl
    case map r p hp =>
      have h' : bnd (getO r) (fun o => match o with
        | .map _ clock => bnd (setO r (.map [] clock)) fun _ => ret undefV
        | _ => err "clear") s = .ok v s' := by cases d <;> exact h
      obtain ⟨ob, s1, h1, h2⟩ := bnd_ok h'
      obtain ⟨g1, g2, rfl⟩ := getO_ok h1
      cases ob <;> (try simp only at h2) <;> try exact (err_ok h2).elim
      rename_i es clock
      obtain ⟨u1, s2, h5, h6⟩ := bnd_ok h2
      obtain ⟨rfl, rfl⟩ := ret_ok h6
      obtain ⟨o', k1, k2, k3, rfl⟩ := setO_ok h5
      obtain ⟨res, h3, h4⟩ := getO_rel hr hp g1
      refine ⟨μ, _, .tuple #[], ?_, .tuple .nil, step_map (clock := clock) hr g1 hp h3 .nil⟩
      unfold Builtin.clear_
      simp only [ht, e0]
      rw [run_pure_bind (run_underlying hd)]
      cases d <;>
      · try simp only []
        rw [run_pure_bind (run_getObj_map h3)]
        try simp only []
        rw [run_pure_bind (run_setObj h3 (by intro _ _ _ e; cases e))]
        rfl
    case slice k o n cap cap' p a hp hl hs =>
      cases d <;> (try simp only at h) <;> try exact (err_ok h).elim
      rename_i e
      cases hz : zeroT P e <;> cases hn : szT P e <;> simp only [hz, hn] at h <;> try exact (err_ok h).elim
      rename_i z size
      cases hb : (Nat.beq z.cells.length size && !(Nat.beq n 0))
      · rw [hb, cond_false] at h; exact (err_ok h).elim
      rw [hb, cond_true] at h
      rw [Bool.and_eq_true, nbeq_iff] at hb
      obtain ⟨hb1, hb2⟩ := hb
      have hn0 : n ≠ 0 := by
        intro e; subst e; simp at hb2
      obtain ⟨u, s1, h1, h2⟩ := bnd_ok h
      obtain ⟨rfl, rfl⟩ := ret_ok h2
      obtain ⟨z', hz1, hz2⟩ := zeroT_run (μ := μ) (ν := ν) (w := w) hz
      have ha : a = ⟨p.blk, p.off + o, none⟩ := by
        rcases hs with ⟨h0, _⟩ | ⟨h0, _⟩
        · omega
        · exact h0
      subst ha
      obtain ⟨w', g1, g2⟩ := sim_stc (P := P) hr hp (rep_rel hz2.cells n) h1
      refine ⟨μ, w', .tuple #[], ?_, .tuple .nil, g2⟩
      obtain ⟨m, rfl⟩ : ∃ m, n = m + 1 := ⟨n - 1, by omega⟩
      unfold Builtin.clear_
      simp only [ht, e0]
      rw [run_pure_bind (run_underlying hd)]
      simp only []
      rw [run_pure_bind hz1]
      have hzc : (Builtin.zeroCells z'.cells (m + 1)).toList = ((Array.range ((m + 1) * z'.cells.size)).map fun j => z'.cells[j % z'.cells.size]!).toList := rfl
      rw [hzc, run_pure_bind g1]
      rfl
    all_goals (cases d <;> exact (err_ok h).elim)

end
end Go.Lx
