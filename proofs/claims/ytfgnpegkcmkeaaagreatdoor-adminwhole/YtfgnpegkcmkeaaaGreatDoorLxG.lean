/-
  Each of the machine's operations is the model's, through the relation: literals, slices, addresses, conversions.
-/
import Derived.Test.YtfgnpegkcmkeaaaGreatDoorLxF
set_option linter.unusedSimpArgs false
set_option linter.unusedVariables false
namespace Go.Lx
section
variable {P : Program} {μ : Mu} {ν : Nat → Value} {s s' : St} {w : World}
theorem run_placesL : ∀ (fs : List Field), fieldsSized P fs = true →
  (fs.mapM fun f => (do pure (f.offset, ← sizeOf f.type) : Sem (Nat × Nat))).run P w = .ok (fs.map fun f => (f.offset, ((szT P f.type).getD 0))) w
 | [], _ => by simp
 | f :: fs, h => by
   simp only [fieldsSized, Bool.and_eq_true] at h
   cases hi : P.info? f.type with
   | none => simp [hi] at h
   | some i =>
     have hs : szT P f.type = some i.size := by simp [szT, hi]
     have ih := run_placesL fs h.2
     simp only [List.mapM_cons, Sem.run_bind, run_sizeOf hs, Result.andThen_ok, Sem.run_pure, List.map_cons, hs, Option.getD_some]
     rw [ih]
     rfl
theorem structPlaces_get {fs : Array Field} : ∀ {l : List (Nat × List V)} {ps : List (Nat × Nat × List V)}, structPlaces P fs l = some ps →
  ps.length = l.length ∧ ∀ (i : Nat) (vs : Nat × Nat × List V), ps[i]? = some vs → ∃ p : Nat × List V, l[i]? = some p ∧ p.2 = vs.2.2 ∧ ∃ f, fs[p.1]? = some f ∧ f.offset = vs.1 ∧ szT P f.type = some vs.2.1
 | [], ps, h => by injection h with h; subst h; simp
 | (i, v) :: l, ps, h => by
   unfold structPlaces at h
   cases hf : fs[i]? with
   | none => simp [hf] at h
   | some f =>
     simp only [hf] at h
     cases hn : szT P f.type <;> cases hr : structPlaces P fs l <;> simp only [hn, hr] at h <;> try (cases h; done)
     rename_i n r
     injection h with h; subst h
     obtain ⟨e1, e2⟩ := structPlaces_get hr
     refine ⟨by simp [e1], fun j vs hj => ?_⟩
     cases j with
     | zero => simp at hj; subst hj; exact ⟨(i, v), by simp, rfl, f, hf, rfl, hn⟩
     | succ j => simpa using e2 j vs (by simpa using hj)
theorem sim_build {t : TypeId} {l : List (Nat × List V)} {l' : List (Nat × Value)} {v : V} (hr : Rel P μ ν s.heap w.heap) (hl : PRel μ ν l l') (h : buildM P t l s = .ok v s') : SimV P μ ν s s' w (Instr.build t ⟨l'⟩) v := by
 unfold buildM at h
 cases hd : P.underlying t with
 | none => simp only [hd] at h; exact (err_ok h).elim
 | some d =>
   cases hz : zeroT P t with
   | none => simp only [hd, hz] at h; cases d <;> exact (err_ok h).elim
   | some z =>
     obtain ⟨z', hz1, hz2⟩ := zeroT_run (μ := μ) (ν := ν) (w := w) hz
     cases d <;> simp only [hd, hz] at h <;> try exact (err_ok h).elim
     case struct fs =>
      cases hs : fieldsSized P fs.toList
      ·rw [hs, cond_false] at h; exact (err_ok h).elim
      ·rw [hs, cond_true] at h
       cases hp : structPlaces P fs l <;> simp only [hp] at h
       ·exact (err_ok h).elim
       ·rename_i ps
        cases hc : fillV ps z.cells <;> simp only [hc] at h
        ·exact (err_ok h).elim
        ·obtain ⟨rfl, rfl⟩ := ret_ok h
         obtain ⟨e1, e2⟩ := structPlaces_get hp
         obtain ⟨cs', g1, g2⟩ := sim_fill (place := fun i => (fs.map fun f => (f.offset, (szT P f.type).getD 0))[i]?) hl (fun i vs hi => by
          obtain ⟨p, q1, q2, f, q3, q4, q5⟩ := e2 i vs hi
          exact ⟨p, q1, q2, by simp [q3, q4, q5]⟩) e1 hz2.cells hc
         refine .quiet (r := .agg ⟨cs'⟩) hr ?_ (.agg g2) rfl rfl
         have hm := run_placesL (P := P) (w := w) fs.toList hs
         have g1' : Instr.fill (fun i => (fs.map fun f => (f.offset, (szT P f.type).getD 0))[i]?) z'.cells l' = some ⟨cs'⟩ := g1
         simp only [Instr.build, Sem.run_bind, hz1, Result.andThen_ok, run_underlying hd, Array.mapM_eq_mapM_toList, Sem.run_map, hm]
         have e3 : (List.map (fun f => (f.offset, (szT P f.type).getD 0)) fs.toList).toArray = fs.map fun f => (f.offset, (szT P f.type).getD 0) := by
          apply Array.ext'; simp
         rw [e3, g1']
         rfl
     case array n e =>
      cases hs : szT P e <;> simp only [hs] at h
      ·exact (err_ok h).elim
      ·rename_i size
       cases hc : fillV (l.map fun p => (p.1 * size, size, p.2)) z.cells <;> simp only [hc] at h
       ·exact (err_ok h).elim
       ·obtain ⟨rfl, rfl⟩ := ret_ok h
        obtain ⟨cs', g1, g2⟩ := sim_fill (place := fun i => some (i * size, size)) hl (fun i vs hi => by
         simp only [List.getElem?_map, Option.map_eq_some_iff] at hi
         obtain ⟨p, q1, rfl⟩ := hi
         exact ⟨p, q1, rfl, rfl⟩) (by simp) hz2.cells hc
        refine .quiet (r := .agg ⟨cs'⟩) hr ?_ (.agg g2) rfl rfl
        have g1' : Instr.fill (fun i => some (i * size, size)) z'.cells l' = some ⟨cs'⟩ := g1
        simp only [Instr.build, Sem.run_bind, hz1, Result.andThen_ok, run_underlying hd, run_sizeOf hs]
        rw [g1']; rfl
theorem rep_length {z : List V} : ∀ n, (rep z n).length = n * z.length
 | 0 => by simp [rep]
 | n + 1 => by simp [rep, rep_length n, Nat.add_mul]; omega
theorem mod_get {α : Type} [Inhabited α] (z : Array α) (n : Nat) (i : Nat) (hz : z.size ≠ 0) (hi : i < n * z.size) : ((Array.range (n * z.size)).map fun j => z[j % z.size]!)[i]? = z[i % z.size]? := by
 have : i % z.size < z.size := Nat.mod_lt _ (by omega)
 simp [hi, this]
theorem rep_get {z : List V} : ∀ (n i : Nat), i < n * z.length → (rep z n)[i]? = z[i % z.length]?
 | 0, i, h => by simp at h
 | n + 1, i, h => by
   simp only [rep]
   by_cases hi : i < z.length
   ·rw [List.getElem?_append_left hi, Nat.mod_eq_of_lt hi]
   ·rw [List.getElem?_append_right (by omega), rep_get n (i - z.length) (by rw [Nat.add_mul] at h; omega)]
    congr 1
    exact (Nat.mod_eq_sub_mod (by omega)).symm
theorem rep_rel {z : List V} {z' : Array Value} (hz : VsRel μ ν z z'.toList) (n : Nat) : VsRel μ ν (rep z n) ((Array.range (n * z'.size)).map fun j => z'[j % z'.size]!).toList := by
 have hl := hz.length
 simp only [Array.length_toList] at hl
 refine VsRel.of_get (by rw [rep_length, hl]; simp) fun i v hi => ?_
 have hlt : i < n * z.length := by rw [← rep_length]; exact (List.getElem?_eq_some_iff.1 hi).1
 rw [rep_get n i hlt] at hi
 obtain ⟨r, hr, hv⟩ := hz.get hi
 refine ⟨r, ?_, hv⟩
 rw [Array.getElem?_toList, mod_get z' n i (by intro e; rw [← hl] at e; rw [e] at hlt; simp at hlt) (by rw [← hl]; exact hlt)]
 rw [hl] at hr
 simpa using hr
theorem sim_buildSlice {t : TypeId} {len : Nat} {l : List (Nat × List V)} {l' : List (Nat × Value)} {v : V} (hr : Rel P μ ν s.heap w.heap) (hf : Fresh μ s s') (hl : PRel μ ν l l') (h : buildSliceM P t len l s = .ok v s') :
  SimV P μ ν s s' w (Instr.buildSlice t len ⟨l'⟩) v := by
 unfold buildSliceM at h
 cases hd : P.underlying t with
 | none => simp only [hd] at h; exact (err_ok h).elim
 | some d =>
   cases d <;> simp only [hd] at h <;> try exact (err_ok h).elim
   rename_i e
   cases hn : szT P e <;> cases hz : zeroT P e <;> simp only [hn, hz] at h <;> try exact (err_ok h).elim
   rename_i n z
   cases hb : (Nat.ble (len * n) 16777216 && Nat.beq z.cells.length n)
   ·rw [hb, cond_false] at h; exact (err_ok h).elim
   ·rw [hb, cond_true] at h
    rw [Bool.and_eq_true, ble_iff, nbeq_iff] at hb
    obtain ⟨hb1, hb2⟩ := hb
    cases hc : fillV (l.map fun p => (p.1 * n, n, p.2)) (rep z.cells len) <;> simp only [hc] at h
    ·exact (err_ok h).elim
    ·rename_i cs
     obtain ⟨k, s1, h1, h2⟩ := bnd_ok h
     obtain ⟨rfl, rfl⟩ := ret_ok h2
     obtain ⟨z', hz1, hz2⟩ := zeroT_run (μ := μ) (ν := ν) (w := w) hz
     have hzl := hz2.cells.length
     simp only [Array.length_toList] at hzl
     have hrep : VsRel μ ν (rep z.cells len) ((Array.range (len * n)).map fun j => z'.cells[j % z'.cells.size]!).toList := by
      have := rep_rel hz2.cells len
      have e0 : len * z'.cells.size = len * n := by rw [← hzl, hb2]
      rwa [e0] at this
     obtain ⟨cs', g1, g2⟩ := sim_fill (place := fun i => some (i * n, n)) hl (fun i vs hi => by
      simp only [List.getElem?_map, Option.map_eq_some_iff] at hi
      obtain ⟨p, q1, rfl⟩ := hi
      exact ⟨p, q1, rfl, rfl⟩) (by simp) hrep hc
     obtain ⟨pl, p1, p2, p3, p4, p5, p6⟩ := sim_newRow hr hf g2 h1
     refine ⟨_, _, .slice (some ⟨w.heap.size, 0, none⟩) len len, ?_, slice_new p1 p2 (Nat.le_refl _), p6⟩
     have hlt : ¬ (len * n > 2 ^ 24) := by omega
     unfold Instr.buildSlice
     rw [run_pure_bind (run_underlying hd)]
     simp only []
     rw [run_pure_bind (run_sizeOf hn), if_neg hlt]
     by_cases h0 : len * n = 0
     ·rw [if_pos h0]
      have hcells : (Array.range (len * n)).map (fun x => (#[] : Array Value)[x % (#[] : Array Value).size]!) = ⟨((Array.range (len * n)).map fun j => z'.cells[j % z'.cells.size]!).toList⟩ := by
       rw [h0]; simp
      simp only [pure_bind]
      rw [hcells, g1]
      simp only [Sem.run_bind]
      rw [p5]
      rfl
     ·rw [if_neg h0, run_pure_bind hz1]
      simp only [pure_bind]
      have hcells : (Array.range (len * n)).map (fun x => z'.cells[x % z'.cells.size]!) = ⟨((Array.range (len * n)).map fun j => z'.cells[j % z'.cells.size]!).toList⟩ := rfl
      rw [hcells, g1]
      simp only [Sem.run_bind]
      rw [p5]
      rfl
theorem sim_fieldAddr {t : TypeId} {f k o : Nat} {fs : Array Field} {fd : Field} {n : Nat} {a : Value} (hr : Rel P μ ν s.heap w.heap) (hd : P.underlying t = some (.struct fs)) (hfd : fs[f]? = some fd) (hn : szT P fd.type = some (n + 1))
  (ha : VRel μ ν (.ptr k o) a) : SimV P μ ν s s w (Instr.fieldAt t a f) (.ptr k (o + fd.offset)) := by
 cases ha with
 | ptr hp =>
   rename_i p
   refine .quiet (r := .pointer (some ⟨p.blk, p.off + (o + fd.offset), none⟩)) hr ?_ (.ptr hp) rfl rfl
   simp only [Instr.fieldAt, Instr.sureAddr, fieldPlace, Sem.run_bind, run_underlying hd, Result.andThen_ok, hfd, Sem.run_pure, run_sizeOf hn, Sem.run_ite]
   rw [if_neg (by omega)]
   simp only [Sem.run_pure, Result.andThen_ok, add_none, Nat.add_assoc]
theorem sim_indexAddr_array {t e : TypeId} {n k o i sz : Nat} {ki : IntKind} {a : Value} (hr : Rel P μ ν s.heap w.heap) (hd : P.underlying t = some (.array n e)) (hn : szT P e = some sz) (hi : i < n)
  (ha : VRel μ ν (.ptr k o) a) : SimV P μ ν s s w (Instr.indexAt t a (.int ki (i : Nat))) (.ptr k (o + i * sz)) := by
 cases ha with
 | ptr hp =>
   rename_i p
   refine .quiet (r := .pointer (some ⟨p.blk, p.off + (o + i * sz), none⟩)) hr ?_ (.ptr hp) rfl rfl
   simp only [Instr.indexAt, Instr.sureAddr, asIntOf, Sem.run_bind, run_underlying hd, Result.andThen_ok, Sem.run_pure, Sem.run_ite]
   rw [if_pos (by omega)]
   simp only [Sem.run_bind, run_sizeOf hn, Sem.run_pure, Result.andThen_ok, add_none, Int.toNat_natCast, Nat.add_assoc]
theorem sim_indexAddr_const {t e : TypeId} {n g o i sz : Nat} {ki : IntKind} {a : Value} (hr : Rel P μ ν s.heap w.heap) (hd : P.underlying t = some (.array n e)) (hn : szT P e = some sz) (hi : i < n)
  (ha : VRel μ ν (.gptr g o) a) : SimV P μ ν s s w (Instr.indexAt t a (.int ki (i : Nat))) (.gptr g (o + i * sz)) := by
 cases ha with
 | gptr =>
   refine .quiet (r := .pointer (some ⟨g, o + i * sz, none⟩)) hr ?_ (.gptr _ _) rfl rfl
   simp only [Instr.indexAt, Instr.sureAddr, asIntOf, Sem.run_bind, run_underlying hd, Result.andThen_ok, Sem.run_pure, Sem.run_ite]
   rw [if_pos (by omega)]
   simp only [Sem.run_bind, run_sizeOf hn, Sem.run_pure, Result.andThen_ok, add_none, Int.toNat_natCast]
theorem sim_indexAddr_slice {t e : TypeId} {n c k o i sz : Nat} {ki : IntKind} {a : Value} (hr : Rel P μ ν s.heap w.heap) (hd : P.underlying t = some (.slice e)) (hn : szT P e = some sz) (hi : i < n)
  (ha : VRel μ ν (.slice k o n c) a) : SimV P μ ν s s w (Instr.indexAt t a (.int ki (i : Nat))) (.ptr k (o + i * sz)) := by
 cases ha with
 | slice hp hl hs =>
   rename_i c' p ad
   have had : ad = ⟨p.blk, p.off + o, none⟩ := by
    rcases hs with ⟨h0, _⟩ | ⟨h1, _⟩
    ·omega
    ·exact h1
   subst had
   refine .quiet (r := .pointer (some ⟨p.blk, p.off + (o + i * sz), none⟩)) hr ?_ (.ptr hp) rfl rfl
   simp only [Instr.indexAt, asIntOf, Sem.run_bind, run_underlying hd, Result.andThen_ok, Sem.run_pure, Sem.run_ite]
   rw [if_pos (by omega)]
   simp only [Sem.run_bind, run_sizeOf hn, Sem.run_pure, Result.andThen_ok, add_none, Int.toNat_natCast, Nat.add_assoc]
theorem sim_field {t : TypeId} {f : Nat} {fs : Array Field} {fd : Field} {cs : List V} {v : V} {a : Value} (hr : Rel P μ ν s.heap w.heap) (hd : P.underlying t = some (.struct fs)) (hfd : fs[f]? = some fd)
  (ha : VRel μ ν (.agg cs) a) (h : partM P fd.type cs fd.offset s = .ok v s') : SimV P μ ν s s' w (Instr.field t a f) v := by
 cases ha with
 | agg hc =>
   obtain ⟨μ', w', r, h1, h2, h3⟩ := sim_part hr hc h
   refine ⟨μ', w', r, ?_, h2, h3⟩
   simp only [Instr.field, Sem.run_bind, run_underlying hd, Result.andThen_ok, hfd, asAgg, Sem.run_pure]
   exact h1
theorem sim_index_array {t e : TypeId} {n i sz : Nat} {ki : IntKind} {cs : List V} {v : V} {a : Value} (hr : Rel P μ ν s.heap w.heap) (hd : P.underlying t = some (.array n e)) (hn : szT P e = some sz) (hi : i < n)
  (ha : VRel μ ν (.agg cs) a) (h : partM P e cs (i * sz) s = .ok v s') : SimV P μ ν s s' w (Instr.index t a (.int ki (i : Nat))) v := by
 cases ha with
 | agg hc =>
   obtain ⟨μ', w', r, h1, h2, h3⟩ := sim_part hr hc h
   refine ⟨μ', w', r, ?_, h2, h3⟩
   simp only [Instr.index, asIntOf, Sem.run_bind, Sem.run_pure, run_underlying hd, Result.andThen_ok, Sem.run_ite]
   rw [if_pos (by omega)]
   simp only [Sem.run_bind, run_sizeOf hn, Result.andThen_ok, Int.toNat_natCast]
   exact h1
theorem toNats_length (b : ByteArray) : (toNats b).length = b.size := by simp [toNats]
theorem toNats_get (b : ByteArray) (i : Nat) : (toNats b)[i]? = (b[i]?).map (·.toNat) := by
 simp only [toNats, List.getElem?_map]
 by_cases h : i < b.size
 ·have h' : i < b.data.size := h
  rw [Array.getElem?_toList, getElem?_pos b i h, getElem?_pos b.data i h']
  rfl
 ·have h' : ¬ i < b.data.size := h
  rw [Array.getElem?_toList, getElem?_neg b i h, getElem?_neg b.data i h']
theorem sim_index_string {t : TypeId} {i n : Nat} {ki : IntKind} {l : List Nat} {a : Value} (hr : Rel P μ ν s.heap w.heap) (hd : P.underlying t = some .string) (hi : l[i]? = some n)
  (ha : VRel μ ν (.str l) a) : SimV P μ ν s s w (Instr.index t a (.int ki (i : Nat))) (.int .u8 n) := by
 cases ha with
 | str b =>
   rw [toNats_get] at hi
   cases hb : b[i]? with
   | none => rw [hb] at hi; cases hi
   | some x =>
     rw [hb] at hi
     injection hi with hi; subst hi
     refine .quiet (r := .int .u8 x.toNat) hr ?_ (.int _ _) rfl rfl
     have h0 : (0 : Int) ≤ (i : Nat) := Int.natCast_nonneg i
     simp only [Instr.index, asIntOf, Sem.run_bind, Sem.run_pure, run_underlying hd, Result.andThen_ok, if_pos h0, Int.toNat_natCast, hb]
end
end Go.Lx
