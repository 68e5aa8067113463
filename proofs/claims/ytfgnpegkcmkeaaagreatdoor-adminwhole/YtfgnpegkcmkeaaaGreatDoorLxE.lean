/-
  Reading and writing the model's memory through the relation; the program's types; values of the program's text.
-/
import Derived.Test.YtfgnpegkcmkeaaaGreatDoorLxD
set_option linter.unusedSimpArgs false
set_option linter.unusedVariables false
namespace Go.Lx
section
variable {α β : Type}
theorem bnd_ok {x : M α} {f : α → M β} {s s' : St} {b : β} (h : bnd x f s = .ok b s') : ∃ a s1, x s = .ok a s1 ∧ f a s1 = .ok b s' := by
 unfold bnd at h
 cases hx : x s with
 | ok a s1 => rw [hx] at h; exact ⟨a, s1, rfl, h⟩
 | fail w => rw [hx] at h; cases h
theorem ret_ok {a b : α} {s s' : St} (h : ret a s = .ok b s') : b = a ∧ s' = s := by
 unfold ret at h; injection h with h1 h2; exact ⟨h1.symm, h2.symm⟩
theorem err_ok {w : String} {s s' : St} {a : α} (h : err w s = .ok a s') : False := by
 unfold err at h; cases h
theorem opt_ok {o : Option α} {w : String} {s s' : St} {a : α} (h : opt o w s = .ok a s') : o = some a ∧ s' = s := by
 cases o with
 | none => simp only [opt] at h; exact (err_ok h).elim
 | some x => simp only [opt] at h; have := ret_ok h; exact ⟨by rw [this.1], this.2⟩
end
theorem ble_iff {a b : Nat} : Nat.ble a b = true ↔ a ≤ b := by rw [Nat.ble_eq]
theorem blt_iff {a b : Nat} : Nat.blt a b = true ↔ a < b := by unfold Nat.blt; rw [Nat.ble_eq]; omega
theorem nbeq_iff {a b : Nat} : Nat.beq a b = true ↔ a = b := ⟨Nat.eq_of_beq_eq_true, fun h => by subst h; exact Nat.beq_refl a⟩
theorem nbeq_false {a b : Nat} : Nat.beq a b = false ↔ a ≠ b := ⟨(fun h e => by subst e; rw [Nat.beq_refl] at h; cases h), nbeq_ne⟩
theorem ble_false {a b : Nat} : Nat.ble a b = false ↔ b < a := by
 constructor
 ·intro h
  rcases Nat.lt_or_ge b a with h' | h'
  ·exact h'
  ·rw [ble_iff.2 h'] at h; cases h
 ·intro h
  cases hb : Nat.ble a b
  ·rfl
  ·rw [ble_iff] at hb; omega
theorem blt_false {a b : Nat} : Nat.blt a b = false ↔ b ≤ a := by
 unfold Nat.blt; rw [ble_false]; omega
theorem ld_ok {k o n : Nat} {s s' : St} {cs : List V} (h : ld k o n s = .ok cs s') :
  ∃ c, HasRow s.heap k c ∧ o + n ≤ c.length ∧ cs = sub c o n ∧ s' = { s with log := .rd k o n :: s.log } := by
 unfold ld at h
 split at h
 ·rename_i c e p hg
  cases hb : Nat.ble (o + n) c.length
  ·rw [hb] at h; cases h
  ·rw [hb] at h
   injection h with h1 h2
   exact ⟨c, ⟨_, hg, rfl⟩, ble_iff.1 hb, h1.symm, h2.symm⟩
 ·rename_i c hg
  cases hb : Nat.ble (o + n) c.length
  ·rw [hb] at h; cases h
  ·rw [hb] at h
   injection h with h1 h2
   exact ⟨c, ⟨_, hg, rfl⟩, ble_iff.1 hb, h1.symm, h2.symm⟩
 ·cases h
theorem HasRow.cells {h : T Ob} {k : Nat} {c c' : List V} {e : TypeId} {p : Bool} (hr : HasRow h k c') (hk : h.get k = some (.cells c e p)) : c' = c := by
 obtain ⟨ob, h1, h2⟩ := hr
 rw [hk] at h1
 cases h1
 cases h2
 rfl
theorem HasRow.of_cells {h : T Ob} {k : Nat} {c : List V} {e : TypeId} {p : Bool} (hk : h.get k = some (.cells c e p)) : HasRow h k c := ⟨_, hk, rfl⟩
theorem stc_ok {k o : Nat} {vs : List V} {s s' : St} {u : Unit} (h : stc k o vs s = .ok u s') :
  ∃ c e p, s.heap.get k = some (.cells c e p) ∧ o + vs.length ≤ c.length ∧ vs.all V.isCell = true ∧
   s' = { s with heap := s.heap.set k (some (.cells (listPut c o vs) e p)), log := .wr k o vs.length :: s.log } := by
 unfold stc at h
 split at h
 ·rename_i c e p hg
  cases hb : (Nat.ble (o + vs.length) c.length && vs.all V.isCell)
  ·rw [hb] at h; cases h
  ·rw [hb] at h
   injection h with h1 h2
   rw [Bool.and_eq_true] at hb
   exact ⟨c, e, p, hg, ble_iff.1 hb.1, hb.2, h2.symm⟩
 ·cases h
theorem blk_ok {k : Nat} {x : Nat × TypeId × Bool} {s s' : St} (h : blk k s = .ok x s') :
  ∃ c e p, s.heap.get k = some (.cells c e p) ∧ x = (c.length, e, p) ∧ s' = { s with log := .rdd k :: s.log } := by
 unfold blk at h
 split at h
 ·rename_i c e p hg
  injection h with h1 h2
  exact ⟨c, e, p, hg, h1.symm, h2.symm⟩
 ·cases h
theorem blkS_ok {k : Nat} {x : Nat × TypeId × Bool} {s s' : St} (h : blkS k s = .ok x s') :
  ((∃ c, s.heap.get k = some (.cells c x.2.1 x.2.2) ∧ x.1 = c.length) ∨ (∃ c, s.heap.get k = some (.ro c) ∧ x.1 = c.length ∧ x.2.1 = 0 ∧ x.2.2 = false)) ∧ s' = { s with log := .rdd k :: s.log } := by
 unfold blkS at h
 split at h
 ·rename_i c e p hg
  injection h with h1 h2
  subst h1
  exact ⟨.inl ⟨c, hg, rfl⟩, h2.symm⟩
 ·rename_i c hg
  injection h with h1 h2
  subst h1
  exact ⟨.inr ⟨c, hg, rfl, rfl, rfl⟩, h2.symm⟩
 ·cases h
theorem getO_ok {k : Nat} {o : Ob} {s s' : St} (h : getO k s = .ok o s') : s.heap.get k = some o ∧ o.isCells = false ∧ s' = { s with log := .rdd k :: s.log } := by
 unfold getO at h
 split at h
 ·rename_i o' hg
  cases hc : o'.isCells
  ·rw [hc] at h; injection h with h1 h2; subst h1; exact ⟨hg, hc, h2.symm⟩
  ·rw [hc] at h; cases h
 ·cases h
theorem setO_ok {k : Nat} {o : Ob} {s s' : St} {u : Unit} (h : setO k o s = .ok u s') :
  ∃ o', s.heap.get k = some o' ∧ o'.isCells = false ∧ o.isCells = false ∧ s' = { s with heap := s.heap.set k (some o), log := .wrd k :: .rdd k :: s.log } := by
 unfold setO at h
 split at h
 ·rename_i o' hg
  cases hc : o'.isCells <;> cases hc' : o.isCells <;> rw [hc, hc'] at h <;> first | (cases h; done) | skip
  injection h with h1 h2
  exact ⟨o', hg, hc, rfl, h2.symm⟩
 ·cases h
theorem kill_ok {k : Nat} {s s' : St} {u : Unit} (h : kill k s = .ok u s') :
  ∃ c e p, s.heap.get k = some (.cells c e p) ∧ s' = { s with heap := s.heap.set k none, log := .wrd k :: .rdd k :: s.log } := by
 unfold kill at h
 split at h
 ·rename_i c e p hg
  injection h with h1 h2
  exact ⟨c, e, p, hg, h2.symm⟩
 ·cases h
theorem alloc_ok {ob : Ob} {k : Nat} {s s' : St} (h : alloc ob s = .ok k s') :
  k = s.next ∧ s' = { heap := s.heap.set s.next (some ob), next := s.next + 1, log := .wrd s.next :: s.log } := by
 unfold alloc at h; injection h with h1 h2; exact ⟨h1.symm, h2.symm⟩
section
variable {P : Program} {w : World} {t : TypeId}
theorem run_underlying {d : TypeDesc} (h : P.underlying t = some d) : (underlying t).run P w = .ok d w := by
 simp [underlying, h]
theorem run_typeInfo {i : TypeInfo} (h : P.info? t = some i) : (typeInfo t).run P w = .ok i w := by
 simp [typeInfo, h]
theorem szT_info {n : Nat} (h : szT P t = some n) : ∃ i, P.info? t = some i ∧ i.size = n := by
 unfold szT at h
 cases hi : P.info? t with
 | none => rw [hi] at h; cases h
 | some i => rw [hi] at h; injection h with h; exact ⟨i, rfl, h⟩
theorem run_sizeOf {n : Nat} (h : szT P t = some n) : (sizeOf t).run P w = .ok n w := by
 obtain ⟨i, hi, rfl⟩ := szT_info h
 simp [sizeOf, run_typeInfo hi]
theorem run_isAgg {d : TypeDesc} (h : P.underlying t = some d) : (isAgg t).run P w = .ok (isAggD d) w := by
 simp only [isAgg, Sem.run_bind, run_underlying h, Result.andThen_ok]
 cases d <;> rfl
end
section
variable {μ : Mu} {ν : Nat → Value}
theorem ofS_rel {v : Value} {x : V} (h : ofS v = some x) : VRel μ ν x v := by
 cases v with
 | bool b => injection h with h; subst h; exact .bool b
 | int k n => injection h with h; subst h; exact .int k n
 | string s => injection h with h; subst h; exact .str s
 | pointer a =>
   cases a with
   | none => injection h with h; subst h; exact .nilptr
   | some a => cases h
 | slice a len cap =>
   cases a with
   | none =>
     cases len with
     | zero =>
       cases cap with
       | zero => injection h with h; subst h; exact .nilslice
       | succ n => cases h
     | succ n => cases h
   | some a => cases h
 | map r =>
   cases r with
   | none => injection h with h; subst h; exact .nilmap
   | some r => cases h
 | func fn first captured =>
   cases fn with
   | func f =>
     have h' : (bif first.isEmpty && captured.isEmpty then some (V.func f [] []) else none) = some x := h
     cases hb : (first.isEmpty && captured.isEmpty)
     ·rw [hb] at h'; cases h'
     ·rw [hb] at h'; injection h' with h'; subst h'
      rw [Bool.and_eq_true] at hb
      have e1 : first = #[] := by simpa using hb.1
      have e2 : captured = #[] := by simpa using hb.2
      subst e1; subst e2
      exact .func .nil .nil
   | _ => cases h
 | nilFunc => injection h with h; subst h; exact .nilfunc
 | nilIface => injection h with h; subst h; exact .nilIface
 | _ => cases h
theorem ofL_rel : ∀ {l : List Value} {xs : List V}, ofL l = some xs → VsRel μ ν xs l
 | [], xs, h => by injection h with h; subst h; exact .nil
 | v :: l, xs, h => by
   unfold ofL at h
   split at h
   ·rename_i x ys hx hy; injection h with h; subst h; exact .cons (ofS_rel hx) (ofL_rel hy)
   ·cases h
theorem ofV_rel {v : Value} {x : V} (h : ofV v = some x) : VRel μ ν x v := by
 unfold ofV at h
 split at h
 ·rename_i cs
  cases hl : ofL cs.toList with
  | none => rw [hl] at h; cases h
  | some l => rw [hl] at h; injection h with h; subst h; exact .agg (ofL_rel hl)
 ·rename_i cs
  cases hl : ofL cs.toList with
  | none => rw [hl] at h; cases h
  | some l => rw [hl] at h; injection h with h; subst h; exact .tuple (ofL_rel hl)
 ·rename_i t u
  cases hl : ofS u with
  | none => rw [hl] at h; cases h
  | some y => rw [hl] at h; injection h with h; subst h; exact .iface (ofS_rel hl)
 ·exact ofS_rel h
theorem zeroT_run {P : Program} {w : World} {t : TypeId} {z : V} (h : zeroT P t = some z) : ∃ r, (zeroValue t).run P w = .ok r w ∧ VRel μ ν z r := by
 unfold zeroT at h
 cases hi : P.info? t with
 | none => rw [hi] at h; cases h
 | some i =>
   rw [hi] at h
   simp only [Option.bind_some] at h
   cases hz : i.zero with
   | none => rw [hz] at h; cases h
   | some v =>
     rw [hz] at h
     exact ⟨v, by simp [zeroValue, run_typeInfo hi, hz], ofV_rel h⟩
end
theorem add_none (b i n : Nat) : (⟨b, i, none⟩ : Addr).add n = ⟨b, i + n, none⟩ := by
 unfold Addr.add; split
 ·rename_i h; subst h; rfl
 ·rfl
theorem cell_at {w : World} {b i : Nat} {rc : Array Value} {e : TypeId} {frz : Nat × Nat} (h : w.heap[b]? = some (.cells rc e frz)) : w.cell? ⟨b, i, none⟩ = rc[i]? := by
 simp [World.cell?, h]
theorem frozen_at {w : World} {b i : Nat} {rc : Array Value} {e : TypeId} {frz : Nat × Nat} (h : w.heap[b]? = some (.cells rc e frz)) (hf : ¬ (frz.1 ≤ i ∧ i < frz.2)) : w.frozen? ⟨b, i, none⟩ = false := by
 obtain ⟨lo, hi⟩ := frz
 simp only [World.frozen?, h]
 cases hb : (decide (lo ≤ i) && decide (i < hi))
 ·rfl
 ·rw [Bool.and_eq_true, decide_eq_true_eq, decide_eq_true_eq] at hb; exact absurd hb hf
theorem sub_length {α : Type} {l : List α} {a n : Nat} (h : a + n ≤ l.length) : (sub l a n).length = n := by
 simp [sub]; omega
theorem sub_get {α : Type} {l : List α} {a n j : Nat} (hj : j < n) : (sub l a n)[j]? = l[a + j]? := by
 simp [sub, List.getElem?_drop, hj]
section
variable {P : Program} {μ : Mu} {ν : Nat → Value} {w : World}
theorem row_rel {h : T Ob} (hr : Rel P μ ν h w.heap) {k : Nat} {c : List V} (hk : HasRow h k c) {pl : Pl} (hp : μ k = some pl) :
  ∃ rc e frz, w.heap[pl.blk]? = some (.cells rc e frz) ∧ ∀ i v, c[i]? = some v → ∃ r, rc[pl.off + i]? = some r ∧ VRel μ ν v r := by
 obtain ⟨ob, hk, hrow⟩ := hk
 obtain ⟨q, hq, ho⟩ := hr.ob k _ hk
 rw [hp] at hq; cases hq
 cases ob with
 | cells c' e p =>
   cases hrow
   obtain ⟨h1, _, rc, frz, h3, _, h4, h5, h6, h7⟩ := ho
   exact ⟨rc, e, frz, h3, h7⟩
 | ro c' => cases hrow; exact ho.2
 | map es clock => cases hrow
 | siter s pos => cases hrow
 | miter m since seen last => cases hrow
theorem run_loads_d {h : T Ob} (hr : Rel P μ ν h w.heap) {k : Nat} {c : List V} (hk : HasRow h k c) {pl : Pl} (hp : μ k = some pl) {o n : Nat} (hn : o + n ≤ c.length) :
  ∃ rs, (∀ d, (loadCells ⟨pl.blk, pl.off + o, none⟩ n).run P { w with drawn := d } = .ok ⟨rs⟩ { w with drawn := d }) ∧ VsRel μ ν (sub c o n) rs := by
 obtain ⟨rc, e, frz, h3, h7⟩ := row_rel hr hk hp
 have hsz : n = 0 ∨ pl.off + o + n ≤ rc.size := by
  rcases Nat.eq_zero_or_pos n with h0 | h0
  ·exact .inl h0
  ·obtain ⟨r, h8, _⟩ := h7 (o + n - 1) _ (List.getElem?_eq_getElem (by omega))
   have := (Array.getElem?_eq_some_iff.1 h8).1
   exact .inr (by omega)
 have hlen : (sub rc.toList (pl.off + o) n).length = n := by
  rcases hsz with rfl | h0
  ·simp [sub]
  ·exact sub_length (by simp; omega)
 refine ⟨sub rc.toList (pl.off + o) n, fun d => ?_, ?_⟩
 ·have := run_loadCells_list (P := P) { w with drawn := d } ⟨pl.blk, pl.off + o, none⟩ (sub rc.toList (pl.off + o) n) (fun j v hv => by
   have hj : j < n := by rw [← hlen]; exact (List.getElem?_eq_some_iff.1 hv).1
   rw [sub_get hj] at hv
   rw [add_none, cell_at (w := { w with drawn := d }) h3]
   simpa using hv)
  rw [hlen] at this
  simpa using this
 ·refine VsRel.of_get (by rw [hlen, sub_length hn]) fun i v hv => ?_
  have hi : i < n := by rw [← sub_length hn]; exact (List.getElem?_eq_some_iff.1 hv).1
  rw [sub_get hi] at hv
  obtain ⟨r, hr', hvr⟩ := h7 (o + i) v hv
  exact ⟨r, by rw [sub_get hi]; simpa [Nat.add_assoc] using hr', hvr⟩
theorem run_loads {h : T Ob} (hr : Rel P μ ν h w.heap) {k : Nat} {c : List V} (hk : HasRow h k c) {pl : Pl} (hp : μ k = some pl) {o n : Nat} (hn : o + n ≤ c.length) :
  ∃ rs, (loadCells ⟨pl.blk, pl.off + o, none⟩ n).run P w = .ok ⟨rs⟩ w ∧ VsRel μ ν (sub c o n) rs :=
 let ⟨rs, h1, h2⟩ := run_loads_d hr hk hp hn
 ⟨rs, h1 w.drawn, h2⟩
theorem run_loadCell {h : T Ob} (hr : Rel P μ ν h w.heap) {k : Nat} {c : List V} (hk : HasRow h k c) {pl : Pl} (hp : μ k = some pl) {o : Nat} {v : V} (hv : c[o]? = some v) :
  ∃ r, (load ⟨pl.blk, pl.off + o, none⟩).run P w = .ok r w ∧ VRel μ ν v r := by
 obtain ⟨rc, e, frz, h3, h7⟩ := row_rel hr hk hp
 obtain ⟨r, hr', hvr⟩ := h7 o v hv
 exact ⟨r, by rw [run_load, cell_at h3, hr'], hvr⟩
structure Wrote (w w' : World) (b : Nat) : Prop where
 os : w'.os = w.os
 tape : w'.tape = w.tape
 output : w'.output = w.output
 size : w'.heap.size = w.heap.size
 other : ∀ b', b' ≠ b → w'.heap[b']? = w.heap[b']?
theorem run_stores {b o : Nat} {e : TypeId} {frz : Nat × Nat} : ∀ (vs : List Value) (i : Nat) (w : World) (rc : Array Value), w.heap[b]? = some (.cells rc e frz) →
  o + i + vs.length ≤ rc.size → (∀ j, j < vs.length → ¬ (frz.1 ≤ o + i + j ∧ o + i + j < frz.2)) → (∀ v ∈ vs, v.oneCell' = true) →
  ∃ w' rc', (storeCells ⟨b, o, none⟩ vs i).run P w = .ok () w' ∧ w'.heap[b]? = some (.cells rc' e frz) ∧ rc'.size = rc.size ∧
   (∀ j, rc'[j]? = if o + i ≤ j ∧ j < o + i + vs.length then vs[j - (o + i)]? else rc[j]?) ∧ Wrote w w' b
 | [], i, w, rc, hb, _, _, _ => ⟨w, rc, by simp [storeCells], hb, rfl, fun j => by rw [if_neg (by simp only [List.length_nil]; omega)], ⟨rfl, rfl, rfl, rfl, fun _ _ => rfl⟩⟩
 | v :: vs, i, w, rc, hb, hs, hf, hc => by
   have hlt : o + i < rc.size := by simp at hs; omega
   have hcell : w.cell? ⟨b, o + i, none⟩ = some rc[o + i] := by rw [cell_at hb]; simp [hlt]
   have hfr : w.frozen? ⟨b, o + i, none⟩ = false := frozen_at hb (by simpa using hf 0 (by simp))
   have hset : (w.setCell ⟨b, o + i, none⟩ v).heap[b]? = some (.cells (rc.setIfInBounds (o + i) v) e frz) := by
    simp [World.setCell, Array.getElem?_modify, hb]
   obtain ⟨w', rc', h1, h2, h3, h4, h5⟩ := run_stores (b := b) (o := o) (e := e) (frz := frz) vs (i + 1) (w.setCell ⟨b, o + i, none⟩ v) _ hset (by simp at hs ⊢; omega)
    (fun j hj => by have := hf (j + 1) (by simp; omega); rwa [show o + i + (j + 1) = o + (i + 1) + j by omega] at this) (fun x hx => hc x (by simp [hx]))
   refine ⟨w', rc', ?_, h2, by simpa using h3, fun j => ?_, ⟨h5.os, h5.tape, h5.output, by rw [h5.size]; simp [World.setCell], fun b' hb' => ?_⟩⟩
   ·simp only [storeCells, Sem.run_bind, add_none, run_store P w _ v _ (hc v (by simp)), hcell, hfr, Bool.false_eq_true, if_false, Result.andThen_ok]
    exact h1
   ·rw [h4]
    by_cases h : o + (i + 1) ≤ j ∧ j < o + (i + 1) + vs.length
    ·rw [if_pos h, if_pos (by simp; omega)]
     rw [show j - (o + i) = (j - (o + (i + 1))) + 1 by omega]; simp
    ·rw [if_neg h]
     by_cases hj : j = o + i
     ·subst hj
      rw [if_pos (by simp)]
      simp [hlt]
     ·rw [if_neg (by simp; omega), Array.getElem?_setIfInBounds_ne (by omega)]
   ·rw [h5.other b' hb']
    simp only [World.setCell, Array.getElem?_modify]
    rw [if_neg (by simpa using fun e => hb' e.symm)]
end
theorem listPut_length {α : Type} : ∀ (l : List α) (n : Nat) (vs : List α), (listPut l n vs).length = l.length
 | l, _, [] => by simp [listPut]
 | [], _, _ :: _ => by simp [listPut]
 | _ :: l, 0, v :: vs => by simp [listPut, listPut_length l 0 vs]
 | x :: l, n + 1, v :: vs => by simp [listPut, listPut_length l n (v :: vs)]
theorem listPut_get {α : Type} : ∀ (l : List α) (n : Nat) (vs : List α) (j : Nat), n + vs.length ≤ l.length → (listPut l n vs)[j]? = if n ≤ j ∧ j < n + vs.length then vs[j - n]? else l[j]?
 | l, n, [], j, _ => by simp only [listPut, List.length_nil]; rw [if_neg (by omega)]
 | [], n, _ :: _, j, h => by simp at h
 | x :: l, 0, v :: vs, j, h => by
   simp only [listPut]
   cases j with
   | zero => simp
   | succ j =>
     have := listPut_get l 0 vs j (by simp at h ⊢; omega)
     simp only [List.getElem?_cons_succ, this, Nat.zero_le, true_and, Nat.zero_add, List.length_cons, Nat.sub_zero]
     by_cases hj : j < vs.length
     ·rw [if_pos hj, if_pos (by omega)]
     ·rw [if_neg hj, if_neg (by omega)]
 | x :: l, n + 1, v :: vs, j, h => by
   simp only [listPut]
   cases j with
   | zero => rw [if_neg (by omega)]; simp
   | succ j =>
     have := listPut_get l n (v :: vs) j (by simp at h ⊢; omega)
     simp only [List.getElem?_cons_succ, this]
     by_cases hj : n ≤ j ∧ j < n + (v :: vs).length
     ·rw [if_pos hj, if_pos (by omega), show j + 1 - (n + 1) = j - n by omega]
     ·rw [if_neg hj, if_neg (by omega)]
structure Globs (gl : T (List V)) (μ : Mu) (h : T Ob) (w : World) : Prop where
 there : ∀ g c, gl.get g = some c → ∃ rc e frz, w.heap[g]? = some (.cells rc e frz) ∧ ∀ (i : Nat) (v : V), c[i]? = some v → ∃ r, rc[i]? = some r ∧ ∀ μ ν, VRel μ ν v r
 apart : ∀ g c k p, gl.get g = some c → μ k = some p → p.blk ≠ g ∨ ∃ j q x, μ j = some q ∧ q.blk = g ∧ h.get j = some (.ro x)
 face : ∀ g, gl.get g = some [] → ∃ ev, w.cell? ⟨g, 0, none⟩ = some ev ∧ (ev = .nilIface ∨ ∃ te pe, ev = .iface te pe)
 tab : ∀ g c rc e frz, gl.get g = some c → c.length = 20 → w.heap[g]? = some (.cells rc e frz) → rc.size = 20
theorem Globs.block {gl : T (List V)} {P : Program} {μ μ' : Mu} {ν : Nat → Value} {h h' : T Ob} {n n' : Nat} {w w' : World} (hg : Globs gl μ h w) (st : StepOk P μ ν h n w μ' h' n' w') {g : Nat} {c : List V} (hc : gl.get g = some c) : w'.heap[g]? = w.heap[g]? := by
 obtain ⟨rc, e, frz, h1, _⟩ := hg.there g c hc
 by_cases hx : ∃ k p, μ k = some p ∧ p.blk = g
 ·obtain ⟨k, p, hk, hp⟩ := hx
  rcases hg.apart g c k p hc hk with q | ⟨j, q, x, q1, q2, q3⟩
  ·exact absurd hp q
  ·rw [← q2]; exact (st.ro j x q q3 q1).2
 ·exact st.block g (Array.getElem?_eq_some_iff.1 h1).1 fun k p hk hp => hx ⟨k, p, hk, hp⟩
theorem Globs.step {gl : T (List V)} {P : Program} {μ μ' : Mu} {ν : Nat → Value} {h h' : T Ob} {n n' : Nat} {w w' : World} (hg : Globs gl μ h w) (st : StepOk P μ ν h n w μ' h' n' w') : Globs gl μ' h' w' where
 there := fun g c hc => by
  obtain ⟨rc, e, frz, h1, h2⟩ := hg.there g c hc
  exact ⟨rc, e, frz, (hg.block st hc).trans h1, h2⟩
 apart := fun g c k p hc hk => by
  obtain ⟨rc, e, frz, h1, h2⟩ := hg.there g c hc
  have hlt := (Array.getElem?_eq_some_iff.1 h1).1
  have up : ∀ {b : Nat}, (b ≠ g ∨ ∃ j q x, μ j = some q ∧ q.blk = g ∧ h.get j = some (.ro x)) → b ≠ g ∨ ∃ j q x, μ' j = some q ∧ q.blk = g ∧ h'.get j = some (.ro x) := by
   rintro b (q | ⟨j, q, x, q1, q2, q3⟩)
   ·exact .inl q
   ·exact .inr ⟨j, q, x, st.le j q q1, q2, (st.ro j x q q3 q1).1⟩
  cases hm : μ k with
  | some q =>
    have := st.le k q hm
    rw [this] at hk; cases hk
    exact up (hg.apart g c k _ hc hm)
  | none =>
    rcases st.newblk k p hk hm with hs | ⟨j, q, hj, hq⟩
    ·exact .inl (by omega)
    ·rw [← hq]; exact up (hg.apart g c j q hc hj)
 face := fun g hc => by
  obtain ⟨ev, h3, h4⟩ := hg.face g hc
  refine ⟨ev, ?_, h4⟩
  rw [← h3]
  unfold World.cell?
  rw [hg.block st hc]
 tab := fun g c rc e frz hc hl hw => by
  rw [hg.block st hc] at hw
  exact hg.tab g c rc e frz hc hl hw
theorem Globs.none {μ : Mu} {h : T Ob} {w : World} : Globs .leaf μ h w := ⟨fun g c h => (by cases h), fun g c k p h => (by cases h), fun g h => (by cases h), fun g c rc e frz h => (by cases h)⟩
theorem Globs.any {gl : T (List V)} {h h' : T Ob} {w : World} (a : Globs gl (fun _ => Option.none) h w) : Globs gl (fun _ => Option.none) h' w := ⟨a.there, fun g c k p h1 h2 => (by cases h2), a.face, a.tab⟩
theorem Globs.ros {gl : T (List V)} {μ μ' : Mu} {h h' : T Ob} {w : World} (a : Globs gl μ h w) (hro : ∀ k p, μ' k = some p → ∃ x, h'.get k = some (.ro x)) : Globs gl μ' h' w :=
 ⟨a.there, fun g c k p h1 h2 => (by
   obtain ⟨x, hx⟩ := hro k p h2
   by_cases e : p.blk = g
   ·exact .inr ⟨k, p, x, h2, e, hx⟩
   ·exact .inl e), a.face, a.tab⟩
theorem StepOk.wrote {P : Program} {μ : Mu} {ν : Nat → Value} {h : T Ob} {n : Nat} {w w' : World} {k : Nat} {p : Pl} {ob0 ob : Ob} (hr : Rel P μ ν h w.heap) (h0 : h.get k = some ob0) (hp : μ k = some p)
  (hw : Wrote w w' p.blk) (ho : ORel P μ ν p w'.heap ob) (h0r : ob0.isRo = false := by first | rfl | assumption) : StepOk P μ ν h n w μ (h.set k (some ob)) n w' where
 le := Mu.le_refl _
 new := fun _ _ => rfl
 rel := hr.setOb h0 h0r hp ho hw.other
 os := hw.os
 tape := hw.tape
 output := hw.output
 size := Nat.le_of_eq hw.size.symm
 block := fun b _ hf => hw.other b fun e => hf k p hp e.symm
 newblk := fun k p h1 h2 => by rw [h1] at h2; cases h2
 ro := fun j c q h1 hq => by
  have hne : j ≠ k := fun e => by
   subst e
   rw [h0] at h1
   cases h1
   cases h0r
  exact ⟨by rw [T.get_set, if_neg hne]; exact h1, hw.other _ (hr.sep j k _ ob0 q p h1 h0 hne (by rw [h0r, Bool.and_false]) hq hp)⟩
theorem StepOk.alloc {P : Program} {μ : Mu} {ν : Nat → Value} {h : T Ob} {n : Nat} {w : World} {ob : Ob} {O : Obj} {d : Nat} {pl : Pl} (hr : Rel P μ ν h w.heap) (hk : μ n = none) (hb : pl.blk = w.heap.size)
  (ho : ORel P (upd μ n pl) ν pl (w.heap.push O) ob) : StepOk P μ ν h n w (upd μ n pl) (h.set n (some ob)) (n + 1) { w with heap := w.heap.push O, drawn := d } where
 le := upd_le _ hk
 new := fun k hk' => upd_ne _ _ (by omega)
 rel := hr.alloc hk hb ho
 os := rfl
 tape := rfl
 output := rfl
 size := by simp
 block := fun b hb' _ => by show (w.heap.push O)[b]? = _; rw [Array.getElem?_push, if_neg (by omega)]
 newblk := fun k p h1 h2 => by
  by_cases e : k = n
  ·subst e; rw [upd_same] at h1; cases h1; exact .inl (by omega)
  ·rw [upd_ne _ _ e] at h1; rw [h1] at h2; cases h2
 ro := fun j c q h1 hq => by
  have hne : j ≠ n := fun e => by rw [e, hk] at hq; cases hq
  obtain ⟨p', hp', hor⟩ := hr.ob j _ h1
  rw [hq] at hp'; cases hp'
  have := hor.there
  exact ⟨by rw [T.get_set, if_neg hne]; exact h1, by show (w.heap.push O)[q.blk]? = _; rw [Array.getElem?_push, if_neg (by omega)]⟩
theorem ORel.cells_new {P : Program} {μ : Mu} {ν : Nat → Value} {H : Array Obj} {c : List V} {e : TypeId} {rc : List Value} (hv : VsRel μ ν c rc) :
  ORel P μ ν ⟨H.size, 0, false, 0, rc.length⟩ (H.push (.cells ⟨rc⟩ e)) (.cells c e false) := by
 refine ⟨rfl, by simp, ⟨rc⟩, (0, 0), by simp, fun _ => rfl, by simp [hv.length], by simp, by simp, fun i v h => ?_⟩
 obtain ⟨r, hr, hv⟩ := hv.get h
 exact ⟨r, by simpa using hr, hv⟩
end Go.Lx
