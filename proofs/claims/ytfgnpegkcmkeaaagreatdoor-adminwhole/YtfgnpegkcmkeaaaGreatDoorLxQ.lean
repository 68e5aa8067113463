/-
  One operation of the machine is one of the model's.
-/
import Derived.Test.YtfgnpegkcmkeaaaGreatDoorLxP
import Derived.Lib.UnsafeStr
import Derived.Calls
set_option linter.unusedSimpArgs false
set_option linter.unusedVariables false
namespace Go.Lx
noncomputable section
section
variable {P : Program} {μ : Mu} {ν : Nat → Value} {s s' : St} {w : World}
def SimN (P : Program) (μ : Mu) (ν : Nat → Value) (s s' : St) (w : World) (m : Sem Next) (v : V) : Prop :=
 ∃ μ' w' r, (m.run P w = .ok (.value r) w' ∨ (m.run P w = .ok .skip w' ∧ r = undef)) ∧ VRel μ' ν v r ∧ StepOk P μ ν s.heap s.next w μ' s'.heap s'.next w'
theorem SimV.next {m : Sem Value} {v : V} (h : SimV P μ ν s s' w m v) : SimN P μ ν s s' w (do pure (.value (← m))) v := by
 obtain ⟨μ', w', r, h1, h2, h3⟩ := h
 exact ⟨μ', w', r, .inl (by rw [run_pure_bind h1]; rfl), h2, h3⟩
theorem SimN.value {v : V} {r : Value} (hr : Rel P μ ν s.heap w.heap) (hv : VRel μ ν v r) : SimN P μ ν s s w (pure (.value r)) v :=
 ⟨μ, w, r, .inl rfl, hv, StepOk.refl hr⟩
theorem sim_minInts {k : IntKind} : ∀ {l : List V} {rs : List Value} {a : Int} {v : V}, VsRel μ ν l rs → minInts k a l = some v → ∃ r, (rs.foldlM Builtin.min2 (.int k a)).run P w = .ok r w ∧ VRel μ ν v r
 | [], _, a, v, h, hv => by cases h; injection hv with hv; subst hv; exact ⟨_, rfl, .int _ _⟩
 | x :: l, _, a, v, h, hv => by
   cases h with
   | cons h hs =>
     cases x <;> simp only [minInts] at hv <;> try (cases hv; done)
     cases h
     obtain ⟨r, g1, g2⟩ := sim_minInts hs hv
     refine ⟨r, ?_, g2⟩
     simp only [List.foldlM_cons, Builtin.min2, pure_bind]
     exact g1
theorem sim_maxInts {k : IntKind} : ∀ {l : List V} {rs : List Value} {a : Int} {v : V}, VsRel μ ν l rs → maxInts k a l = some v → ∃ r, (rs.foldlM Builtin.max2 (.int k a)).run P w = .ok r w ∧ VRel μ ν v r
 | [], _, a, v, h, hv => by cases h; injection hv with hv; subst hv; exact ⟨_, rfl, .int _ _⟩
 | x :: l, _, a, v, h, hv => by
   cases h with
   | cons h hs =>
     cases x <;> simp only [maxInts] at hv <;> try (cases hv; done)
     cases h
     obtain ⟨r, g1, g2⟩ := sim_maxInts hs hv
     refine ⟨r, ?_, g2⟩
     simp only [List.foldlM_cons, Builtin.max2, pure_bind]
     exact g1
theorem liesAt_row {e u : TypeId} (hc : P.cellsOf e = 1) (hs : sameLayout P P.depth e u = true) (count off n : Nat) (hn : off + n ≤ count) : liesAt P P.depth e count off u n = true := by
 obtain ⟨D, hD⟩ : ∃ D, P.depth = D + 1 := ⟨_, rfl⟩
 have r : rowAt P (fun t => sameLayout P P.depth t u) (D + 1) e count off n = true := by
  unfold rowAt
  simp [hc, hn, hs]
  exact .inl (Nat.mod_one off)
 have r2 : rowAt P (fun t => sameLayout P P.depth t u) P.depth e count off n = true := (congrArg (fun d => rowAt P (fun t => sameLayout P P.depth t u) d e count off n) hD).trans r
 have key : ∀ d, liesAt P (d + 1) e count off u n = true := by
  intro d
  unfold liesAt
  rw [r2]
  rfl
 rw [hD]
 exact key D
theorem unsafeString_some {ts : Array TypeId} {ty : TypeId} {ky : IntKind} {n : Int} (a : Addr) : ∃ (e1 : Sem Value) (e2 e3 : Sem PUnit) (e4 : Sem Value), Builtin.unsafeString_ ts ty #[.pointer (some a), .int ky n] = (do
  let n ← asInt (.int ky n)
  let some pt := ts[0]? | e1
  if n < 0 then e2
  if n > IntKind.i64.max then e3
  if n = 0 then pure (.string .empty)
  else if ← variablesAt a (← elemOf pt) n.toNat then do
   let s ← loadBytes a .empty n.toNat
   freeze a n.toNat
   pure (.string s)
  else e4) := ⟨_, _, _, _, rfl⟩
theorem unsafeString_none {ts : Array TypeId} {ty : TypeId} {ky : IntKind} {n : Int} : ∃ (e1 : Sem Value) (e2 e3 : Sem PUnit) (e4 : Sem Value), Builtin.unsafeString_ ts ty #[.pointer none, .int ky n] = (do
  let n ← asInt (.int ky n)
  let some pt := ts[0]? | e1
  if n < 0 then e2
  if n > IntKind.i64.max then e3
  if n = 0 then pure (.string .empty)
  else e4) := ⟨_, _, _, _, rfl⟩
theorem natsV_get : ∀ {vs : List V} {l : List Nat} {j : Nat} {v : V}, natsV vs = some l → vs[j]? = some v → ∃ m : Nat, v = .int .u8 (Int.ofNat m)
 | [], l, j, v, _, h => by simp at h
 | x :: vs, l, j, v, hn, h => by
   unfold natsV at hn
   split at hn
   ·simp_all
   ·rename_i n rest heq
    injection heq with h1 h2
    subst h1; subst h2
    cases j with
    | zero => simp at h; exact ⟨n, h.symm⟩
    | succ j =>
      cases hr : natsV vs with
      | none => rw [hr] at hn; cases hn
      | some r => exact natsV_get hr (by simpa using h)
   ·cases hn
theorem freeze_block {a : Addr} {n : Nat} {b : Nat} (h : b ≠ a.block) : (w.freeze a n).heap[b]? = w.heap[b]? := by
 unfold World.freeze
 split
 ·rfl
 ·simp only [Array.getElem?_modify]
  rw [if_neg (Ne.symm h)]
theorem freeze_size {a : Addr} {n : Nat} : (w.freeze a n).heap.size = w.heap.size := by
 unfold World.freeze
 split
 ·rfl
 ·simp
theorem freeze_rest {a : Addr} {n : Nat} : (w.freeze a n).os = w.os ∧ (w.freeze a n).tape = w.tape ∧ (w.freeze a n).output = w.output := by
 unfold World.freeze
 split <;> exact ⟨rfl, rfl, rfl⟩
theorem StepOk.frozen {h : T Ob} {n : Nat} {k : Nat} {p : Pl} {ob : Ob} {m : Nat} {o : Nat} (hr : Rel P μ ν h w.heap) (hk : h.get k = some ob) (hp : μ k = some p) (h0r : ob.isRo = false := by rfl) :
  StepOk P μ ν h n w μ (h.set k none) n (w.freeze ⟨p.blk, o, none⟩ m) where
 le := Mu.le_refl _
 new := fun _ _ => rfl
 rel := by
  refine ⟨fun j ob' hj => ?_, (hr.drop k).sep⟩
  rw [T.get_set] at hj
  split at hj
  ·cases hj
  ·rename_i e
   obtain ⟨q, hq, hor⟩ := hr.ob j ob' hj
   exact ⟨q, hq, hor.mono (Mu.le_refl _) (freeze_block (hr.sep j k ob' ob q p hj hk e (by rw [h0r, Bool.and_false]) hq hp))⟩
 os := freeze_rest.1
 tape := freeze_rest.2.1
 output := freeze_rest.2.2
 size := Nat.le_of_eq freeze_size.symm
 block := fun b _ hf => freeze_block fun e => hf k p hp e.symm
 newblk := fun k p h1 h2 => by rw [h1] at h2; cases h2
 ro := fun j c q h1 hq => by
  have hne : j ≠ k := fun e => by
   subst e
   rw [hk] at h1
   cases h1
   cases h0r
  exact ⟨by rw [T.get_set, if_neg hne]; exact h1, freeze_block (hr.sep j k _ ob q p h1 hk hne (by rw [h0r, Bool.and_false]) hq hp)⟩
theorem sim_unsafeString {t : TypeId} {x v : V} {x' : Value} {n : Nat} {ky : IntKind} {ts : Array TypeId} {ty : TypeId} (hr : Rel P μ ν s.heap w.heap) (ht : ts[0]? = some t) (hx : VRel μ ν x x') (h : unsafeStringM P t x n s = .ok v s') :
  SimV P μ ν s s' w (Builtin.unsafeString_ ts ty #[x', .int ky (n : Int)]) v := by
 unfold unsafeStringM at h
 cases hd : P.underlying t <;> simp only [hd] at h <;> try exact (err_ok h).elim
 rename_i d
 have hneg : ¬ ((n : Int) < 0) := by omega
 have hel : ∀ u, d = .pointer u → ∀ w2, (elemOf t).run P w2 = .ok u w2 := by
  intro u e w2; subst e
  simp only [elemOf, Sem.run_bind, run_underlying hd, Result.andThen_ok, Sem.run_pure]
 cases d <;> (try simp only at h) <;> try exact (err_ok h).elim
 rename_i u
 have hu := hel u rfl
 cases hx <;> (try simp only at h) <;> try exact (err_ok h).elim
 case nilptr =>
  cases h0 : Nat.beq n 0
  ·rw [h0, cond_false] at h; exact (err_ok h).elim
  rw [h0, cond_true] at h
  rw [nbeq_iff] at h0; subst h0
  obtain ⟨rfl, rfl⟩ := ret_ok h
  refine .quiet (r := .string .empty) hr ?_ (.str .empty) rfl rfl
  obtain ⟨e1', e2', e3', e4', he⟩ := unsafeString_none (ts := ts) (ty := ty) (ky := ky) (n := ((0 : Nat) : Int))
  rw [he]
  simp only [asInt, asIntOf, ht, Sem.run_bind, Sem.run_pure, Result.andThen_ok]
  rfl
 case ptr k o p hp =>
  cases h0 : Nat.beq n 0
  case true =>
   rw [h0, cond_true] at h
   rw [nbeq_iff] at h0; subst h0
   obtain ⟨rfl, rfl⟩ := ret_ok h
   refine .quiet (r := .string .empty) hr ?_ (.str .empty) rfl rfl
   obtain ⟨e1', e2', e3', e4', he⟩ := unsafeString_some (ts := ts) (ty := ty) (ky := ky) (n := ((0 : Nat) : Int)) ⟨p.blk, p.off + o, none⟩
   rw [he]
   simp only [asInt, asIntOf, ht, Sem.run_bind, Sem.run_pure, Result.andThen_ok]
   rfl
  rw [h0, cond_false] at h
  rw [nbeq_false] at h0
  obtain ⟨⟨len, e, q⟩, s1, h1, h2⟩ := bnd_ok h
  obtain ⟨c, e1, q1, hg, hq, rfl⟩ := blk_ok h1
  injection hq with hq1 hq2
  injection hq2 with hq2 hq3
  subst hq1; subst hq2; subst hq3
  simp only at h2
  cases hc : (Nat.ble n 9223372036854775807 && Nat.blt 0 P.depth && Nat.beq (P.cellsOf e) 1 && sameLayout P P.depth e u)
  ·rw [hc, cond_false] at h2; exact (err_ok h2).elim
  rw [hc, cond_true] at h2
  rw [Bool.and_eq_true, Bool.and_eq_true, Bool.and_eq_true, ble_iff, nbeq_iff] at hc
  obtain ⟨⟨⟨c1, _⟩, c2⟩, c3⟩ := hc
  obtain ⟨cs, s2, h3, h4⟩ := bnd_ok h2
  obtain ⟨c', hg', hq', rfl, rfl⟩ := ld_ok h3
  have hg1 : s.heap.get k = some (.cells c e q) := hg
  obtain rfl : c = c' := (HasRow.cells hg' hg1).symm
  cases hn : natsV (sub c o n) <;> simp only [hn] at h4
  ·exact (err_ok h4).elim
  rename_i l
  obtain ⟨u', s3, h5, h6⟩ := bnd_ok h4
  obtain ⟨c3', e3, q3, hg3, rfl⟩ := kill_ok h5
  obtain ⟨rfl, rfl⟩ := ret_ok h6
  obtain ⟨rs, g1, g2⟩ := run_loads (P := P) hr (.of_cells hg1) hp hq'
  obtain ⟨f1, f2⟩ := natsV_rel g2 hn
  obtain ⟨p', hp', hor⟩ := hr.ob k _ hg1
  rw [hp] at hp'; cases hp'
  obtain ⟨_, _, rc, frz, r3, _, r4, r5, _, r7⟩ := hor
  have hshape : w.shape? p.blk = some (e, rc.size) := by simp [World.shape?, r3]
  have hlies : liesAt P P.depth e (rc.size / P.cellsOf e) (p.off + o) u n = true := by
   rw [c2, Nat.div_one]
   exact liesAt_row c2 c3 _ _ _ (by omega)
  have hll : l.length = n := by
   have := congrArg List.length f1
   rw [← g2.length, sub_length hq'] at this
   simpa using this.symm
  have hbytes : (loadBytes ⟨p.blk, p.off + o, none⟩ .empty n).run P w = .ok ⟨(l.map UInt8.ofNat).toArray⟩ w := by
   have := Lib.run_loadBytes (P := P) w (l.map UInt8.ofNat) ⟨p.blk, p.off + o, none⟩ .empty (fun j x hj => by
    rw [add_none, cell_at r3]
    rw [List.getElem?_map] at hj
    cases hlj : l[j]? with
    | none => rw [hlj] at hj; cases hj
    | some m =>
      rw [hlj] at hj
      injection hj with hj; subst hj
      have hjn : j < n := by rw [← hll]; exact (List.getElem?_eq_some_iff.1 hlj).1
      have hrs : rs[j]? = some (.int .u8 (Int.ofNat m)) := by rw [f1]; simp [hlj]
      obtain ⟨v0, hv0⟩ : ∃ v0, (sub c o n)[j]? = some v0 := ⟨_, List.getElem?_eq_getElem (by rw [sub_length hq']; exact hjn)⟩
      obtain ⟨r0, hr0, hv1⟩ := g2.get hv0
      rw [hrs] at hr0; injection hr0 with hr0; subst hr0
      rw [sub_get hjn] at hv0
      obtain ⟨r1, hr1, hv2⟩ := r7 _ _ hv0
      obtain ⟨m', rfl⟩ := natsV_get hn (show (sub c o n)[j]? = some v0 by rw [sub_get hjn]; exact hv0)
      cases hv1
      cases hv2
      rw [Nat.add_assoc]
      rw [hr1]
      have hm : m < 256 := f2 m (List.mem_of_getElem? hlj)
      have : (UInt8.ofNat m).toNat = m := by simp; omega
      rw [this]; rfl)
   rw [List.length_map, hll] at this
   rw [this]
   have e0 : (ByteArray.empty.data ++ (l.map UInt8.ofNat).toArray) = (l.map UInt8.ofNat).toArray := by
    show (#[] : Array UInt8) ++ _ = _
    simp
   rw [e0]
  have hmax : ¬ ((n : Int) > IntKind.i64.max) := by
   have : IntKind.i64.max = 9223372036854775807 := by decide
   rw [this]; omega
  refine ⟨μ, w.freeze ⟨p.blk, p.off + o, none⟩ n, .string ⟨(l.map UInt8.ofNat).toArray⟩, ?_, ?_, StepOk.frozen hr hg1 hp⟩
  ·have hn0 : ¬ ((n : Int) = 0) := by omega
   obtain ⟨e1', e2', e3', e4', he⟩ := unsafeString_some (ts := ts) (ty := ty) (ky := ky) (n := (n : Int)) ⟨p.blk, p.off + o, none⟩
   rw [he]
   simp only [asInt, asIntOf, ht, Sem.run_bind, Sem.run_pure, Result.andThen_ok, hneg, hmax, if_false, hn0, hu, variablesAt, run_program, run_shape, hshape, Int.toNat_natCast, hlies, if_true, hbytes, run_freeze]
  ·have e0 : toNats ⟨(l.map UInt8.ofNat).toArray⟩ = l := by
    simp only [toNats, List.map_map]
    conv => rhs; rw [← List.map_id l]
    apply List.map_congr_left
    intro m hm
    have := f2 m hm
    simp only [Function.comp, id]
    simp; omega
   have hv := VRel.str (μ := μ) (ν := ν) ⟨(l.map UInt8.ofNat).toArray⟩
   rw [e0] at hv
   exact hv
theorem sim_builtin {b : Builtin} {ts : Array TypeId} {ty : TypeId} {cs : Array Bool} {args : List V} {args' : List Value} {v : V} (hr : Rel P μ ν s.heap w.heap) (hf : Fresh μ s s') (ha : VsRel μ ν args args') (h : builtinM P b ts args s = .ok v s') :
  SimN P μ ν s s' w (builtin b ts ty cs ⟨args'⟩) v := by
 unfold builtinM at h
 have one : ∀ {x : V} {l' : List Value}, VsRel μ ν [x] l' → ∃ x', l' = [x'] ∧ VRel μ ν x x' := by
  intro x l' hl; cases hl with | cons h hs => cases hs; exact ⟨_, rfl, h⟩
 have two : ∀ {x y : V} {l' : List Value}, VsRel μ ν [x, y] l' → ∃ x' y', l' = [x', y'] ∧ VRel μ ν x x' ∧ VRel μ ν y y' := by
  intro x y l' hl; cases hl with | cons h hs => cases hs with | cons h' hs => cases hs; exact ⟨_, _, rfl, h, h'⟩
 cases b
 case len =>
  rcases args with _ | ⟨x, _ | ⟨y, l⟩⟩ <;> cases ht : ts[0]? <;> simp only [ht] at h <;> try exact (err_ok h).elim
  obtain ⟨x', rfl, hx⟩ := one ha
  exact (sim_len hr ht hx h).next
 case cap =>
  rcases args with _ | ⟨x, _ | ⟨y, l⟩⟩ <;> cases ht : ts[0]? <;> simp only [ht] at h <;> try exact (err_ok h).elim
  obtain ⟨x', rfl, hx⟩ := one ha
  exact (sim_cap hr ht hx h).next
 case clear =>
  rcases args with _ | ⟨x, _ | ⟨y, l⟩⟩ <;> cases ht : ts[0]? <;> simp only [ht] at h <;> try exact (err_ok h).elim
  obtain ⟨x', rfl, hx⟩ := one ha
  exact (sim_clear hr ht hx h).next
 case append =>
  rcases args with _ | ⟨x, _ | ⟨y, _ | ⟨z, l⟩⟩⟩ <;> cases ht : ts[0]? <;> simp only [ht] at h <;> try exact (err_ok h).elim
  cases htx : ts[1]? <;> simp only [htx] at h
  ·exact (err_ok h).elim
  ·obtain ⟨x', y', rfl, hx, hy⟩ := two ha
   exact (sim_append hr hf ht htx hx hy h).next
 case copy =>
  rcases args with _ | ⟨x, _ | ⟨y, _ | ⟨z, l⟩⟩⟩ <;> cases ht : ts[0]? <;> simp only [ht] at h <;> try exact (err_ok h).elim
  obtain ⟨x', y', rfl, hx, hy⟩ := two ha
  exact (sim_copy hr ht hx hy h).next
 case delete =>
  rcases args with _ | ⟨x, _ | ⟨y, _ | ⟨z, l⟩⟩⟩ <;> cases ht : ts[0]? <;> simp only [ht] at h <;> try exact (err_ok h).elim
  obtain ⟨x', y', rfl, hx, hy⟩ := two ha
  exact (sim_delete hr ht hx hy h).next
 case min =>
  rcases args with _ | ⟨x, l⟩
  ·exact (err_ok h).elim
  ·cases x <;> (try simp only at h) <;> try exact (err_ok h).elim
   obtain ⟨h1, rfl⟩ := opt_ok h
   cases ha with
   | cons hx hs =>
     cases hx
     obtain ⟨r, g1, g2⟩ := sim_minInts (P := P) (w := w) hs h1
     refine SimV.next (m := Builtin.min_ ts ty _) (.quiet hr ?_ g2 rfl rfl)
     simp only [Builtin.min_]
     exact g1
 case max =>
  rcases args with _ | ⟨x, l⟩
  ·exact (err_ok h).elim
  ·cases x <;> (try simp only at h) <;> try exact (err_ok h).elim
   obtain ⟨h1, rfl⟩ := opt_ok h
   cases ha with
   | cons hx hs =>
     cases hx
     obtain ⟨r, g1, g2⟩ := sim_maxInts (P := P) (w := w) hs h1
     refine SimV.next (m := Builtin.max_ ts ty _) (.quiet hr ?_ g2 rfl rfl)
     simp only [Builtin.max_]
     exact g1
 case unsafeSliceData =>
  rcases args with _ | ⟨x, _ | ⟨y, l⟩⟩
  ·exact (err_ok h).elim
  ·obtain ⟨x', rfl, hx⟩ := one ha
   cases hx <;> (try simp only at h) <;> try exact (err_ok h).elim
   case nilslice =>
    obtain ⟨rfl, rfl⟩ := ret_ok h
    exact SimV.next (m := Builtin.unsafeSliceData_ ts ty _) (.quiet (r := .pointer none) hr rfl .nilptr rfl rfl)
   case slice k o len cap cap' p a hp hl hs =>
    cases cap with
    | zero => exact (err_ok h).elim
    | succ cap =>
      obtain ⟨rfl, rfl⟩ := ret_ok h
      obtain ⟨h1, h2⟩ : a = ⟨p.blk, p.off + o, none⟩ ∧ cap' ≠ 0 := by
       rcases hs with ⟨h0, _⟩ | ⟨h1, h2 | ⟨_, h2, _⟩⟩
       ·omega
       ·exact ⟨h1, by omega⟩
       ·exact ⟨h1, by omega⟩
      subst h1
      exact SimV.next (m := Builtin.unsafeSliceData_ ts ty _) (.quiet (r := .pointer (some ⟨p.blk, p.off + o, none⟩)) hr (Lib.run_unsafeSliceData_row w ts ty _ len cap' h2) (.ptr hp) rfl rfl)
  ·cases x <;> (try exact (err_ok h).elim)
   rename_i cap
   cases cap <;> exact (err_ok h).elim
 case unsafeString =>
  rcases args with _ | ⟨x, _ | ⟨y, _ | ⟨z, l⟩⟩⟩ <;> cases ht : ts[0]? <;> simp only [ht] at h <;> try exact (err_ok h).elim
  rename_i t
  cases y <;> (try simp only at h) <;> try exact (err_ok h).elim
  rename_i ky i
  cases i <;> (try simp only at h) <;> try exact (err_ok h).elim
  rename_i n
  obtain ⟨x', y', rfl, hx, hy⟩ := two ha
  cases hy
  exact (sim_unsafeString hr ht hx h).next
 all_goals exact (err_ok h).elim
def CallsTo (P : Program) (f : FuncId) (args : Array Value) (w : World) (K : Value → World → Prop) : Prop :=
 ((callFunc f args).run P w = .ok (.enter f args) w ∧ Calls P f args w fun e w' => ∃ r, e = .returned r ∧ K r w') ∨ ∃ r w', (callFunc f args).run P w = .ok (.value r) w' ∧ K r w'
def CallSim (P : Program) (gl : T (List V)) (call : FuncId → List V → M V) : Prop :=
 ∀ (f : FuncId) (vs : List V) (v : V) (s s' : St) (w : World) (μ : Mu) (ν : Nat → Value) (rs : List Value), call f vs s = .ok v s' → Rel P μ ν s.heap w.heap → Fresh μ s s' → Globs gl μ s.heap w → VsRel μ ν vs rs →
  CallsTo P f ⟨rs⟩ w fun r w' => ∃ μ', VRel μ' ν v r ∧ StepOk P μ ν s.heap s.next w μ' s'.heap s'.next w'
theorem VsRel.map_ev {ev : Operand → V} {ρ : Operand → Value} : ∀ {l : List Operand}, (∀ x ∈ l, VRel μ ν (ev x) (ρ x)) → VsRel μ ν (l.map ev) (l.map ρ)
 | [], _ => .nil
 | x :: l, h => .cons (h x (by simp)) (VsRel.map_ev fun y hy => h y (by simp [hy]))
theorem PRel.map_ev {ev : Operand → V} {ρ : Operand → Value} : ∀ {l : List (Nat × Operand)}, (∀ x ∈ l, VRel μ ν (ev x.2) (ρ x.2)) → PRel μ ν (l.map fun p => (p.1, (ev p.2).cells)) (l.map fun p => (p.1, ρ p.2))
 | [], _ => .nil
 | x :: l, h => .cons (h x (by simp)) (PRel.map_ev fun y hy => h y (by simp [hy]))
theorem opRel_map {ev : Operand → V} {ρ : Operand → Value} {o : Option Operand} (h : ∀ x, o = some x → VRel μ ν (ev x) (ρ x)) : OpRel μ ν (o.map ev) (o.map ρ) := by
 cases o with
 | none => exact .none
 | some x => exact .some (h x rfl)
theorem map_list {ρ : Operand → Value} (a : Array Operand) : a.map ρ = ⟨a.toList.map ρ⟩ := by apply Array.ext'; simp
theorem map_list2 {ρ : Operand → Value} (a : Array (Nat × Operand)) : (a.map fun (i, x) => (i, ρ x)) = ⟨a.toList.map fun p => (p.1, ρ p.2)⟩ := by apply Array.ext'; simp
def OpOk (P : Program) (μ : Mu) (ν : Nat → Value) (s s' : St) (w : World) (ρ : Operand → Value) (o : Oper) (v : V) : Prop :=
 SimN P μ ν s s' w (execOp ρ o) v ∨
 ∃ f args, (execOp ρ o).run P w = (callFunc f args).run P w ∧ CallsTo P f args w fun r w' => ∃ μ', VRel μ' ν v r ∧ StepOk P μ ν s.heap s.next w μ' s'.heap s'.next w'
theorem run_loads_const {rc : Array Value} {g : Nat} {e : TypeId} {frz : Nat × Nat} (h3 : w.heap[g]? = some (.cells rc e frz)) (o : Nat) (c : List V) : ∀ (n : Nat) (j : Nat) (acc : List Value), (∀ (i : Nat) (v : V), c[i]? = some v → ∃ r, rc[i]? = some r ∧ ∀ μ ν, VRel μ ν v r) → o + j + n ≤ c.length →
  ∃ rs, (loadCellsFrom ⟨g, o, none⟩ j n ⟨acc⟩).run P w = .ok ⟨acc ++ rs⟩ w ∧ VsRel μ ν (sub c (o + j) n) rs
 | 0, j, acc, h, hl => ⟨[], by simp [loadCellsFrom], by simp only [sub, List.take_zero]; exact .nil⟩
 | n + 1, j, acc, h, hl => by
   obtain ⟨v, hv⟩ : ∃ v, c[o + j]? = some v := ⟨_, List.getElem?_eq_getElem (by omega)⟩
   obtain ⟨r, hr1, hr2⟩ := h _ v hv
   obtain ⟨rs, h1, h2⟩ := run_loads_const h3 o c n (j + 1) (acc ++ [r]) h (by omega)
   refine ⟨r :: rs, ?_, ?_⟩
   ·simp only [loadCellsFrom, Sem.run_bind, run_load, add_none, cell_at h3, hr1, Result.andThen]
    have e1 : (⟨acc⟩ : Array Value).push r = ⟨acc ++ [r]⟩ := by apply Array.ext'; simp
    rw [e1, h1, List.append_assoc]
    rfl
   ·have e1 : sub c (o + j) (n + 1) = v :: sub c (o + (j + 1)) n := by
     unfold sub
     rw [List.drop_eq_getElem_cons (by omega : o + j < c.length), List.take_succ_cons]
     rw [List.getElem?_eq_getElem (by omega)] at hv
     injection hv with hv
     rw [hv]
     rfl
    rw [e1]
    exact .cons (hr2 μ ν) h2
theorem sim_const {gl : T (List V)} {t : TypeId} {g o : Nat} {v : V} {a : Value} (hr : Rel P μ ν s.heap w.heap) (hg : Globs gl μ s.heap w) (ha : VRel μ ν (.gptr g o) a) (h : constM P gl t g o s = .ok v s') : SimV P μ ν s s' w (Instr.loadAt t a) v := by
 cases ha
 unfold constM at h
 cases hc : gl.get g <;> cases hd : P.underlying t <;> cases hn : szT P t <;> simp only [hc, hd, hn] at h <;> try exact (err_ok h).elim
 rename_i c d n
 obtain ⟨rc, e, frz, h3, h4⟩ := hg.there g c hc
 cases hag : isAggD d
 ·rw [hag, cond_false] at h
  cases hv : c[o]? with
  | none => rw [hv] at h; exact (err_ok h).elim
  | some x =>
    rw [hv] at h
    obtain ⟨rfl, rfl⟩ := ret_ok h
    obtain ⟨r, hr1, hr2⟩ := h4 o v hv
    refine .quiet (r := r) hr ?_ (hr2 μ ν) rfl rfl
    simp only [Instr.loadAt, Instr.sureAddr, loadVar, Sem.run_bind, Sem.run_pure, run_isAgg hd, hag, Result.andThen_ok, Result.andThen, Bool.false_eq_true, if_false, run_load, cell_at h3, hr1]
 ·rw [hag, cond_true] at h
  cases hb : Nat.ble (o + n) c.length
  ·rw [hb, cond_false] at h; exact (err_ok h).elim
  rw [hb, cond_true] at h
  rw [ble_iff] at hb
  obtain ⟨rfl, rfl⟩ := ret_ok h
  obtain ⟨rs, h5, h6⟩ := run_loads_const (P := P) (μ := μ) (ν := ν) h3 o c n 0 [] h4 (by omega)
  refine .quiet (r := .agg ⟨rs⟩) hr ?_ (.agg (by rw [Nat.add_zero] at h6; exact h6)) rfl rfl
  have h5' : (loadCells ⟨g, o, none⟩ n).run P w = .ok ⟨rs⟩ w := by unfold loadCells; simpa using h5
  simp only [Instr.loadAt, Instr.sureAddr, loadVar, Sem.run_bind, Sem.run_pure, run_isAgg hd, hag, Result.andThen_ok, Result.andThen, if_true, run_sizeOf hn, h5']
theorem sim_op {call : FuncId → List V → M V} {gl : T (List V)} (hc : CallSim P gl call) {ev : Operand → V} {ρ : Operand → Value} {o : Oper} {v : V} (hr : Rel P μ ν s.heap w.heap) (hf : Fresh μ s s') (hg : Globs gl μ s.heap w)
  (hev : ∀ x ∈ o.op.operands, VRel μ ν (ev x) (ρ x)) (h : opM P gl call ev o.op s = .ok v s') : OpOk P μ ν s s' w ρ o v := by
 obtain ⟨dst, op, type, pos, after, guard⟩ := o
 simp only at hev h
 rw [opM_eq] at h
 cases op <;> (try simp only [opPick, opAlloc, opBox, opBuild, opBuildSlice, opLoad, opStore, opNilCheck, opMakeInterface, opMakeFunc, opMakeMap, opMakeSlice, opFieldAddr, opField, opIndexAddr, opIndex, opExtract, opCall] at h) <;> try exact (err_ok h).elim
 case move x =>
  obtain ⟨rfl, rfl⟩ := ret_ok h
  exact .inl (SimN.value hr (hev _ (by simp [Op.operands])))
 case assign x =>
  obtain ⟨rfl, rfl⟩ := ret_ok h
  exact .inl (SimN.value hr (hev _ (by simp [Op.operands])))
 case pick c a b =>
  have hvc := hev c (by simp [Op.operands])
  have hva := hev a (by simp [Op.operands])
  have hvb := hev b (by simp [Op.operands])
  cases hcv : ev c <;> (try simp only [hcv] at h) <;> try exact (err_ok h).elim
  rename_i t
  rw [hcv] at hvc
  obtain ⟨rfl, rfl⟩ := ret_ok h
  left
  refine ⟨μ, w, if t = true then ρ a else ρ b, .inl ?_, by cases t <;> assumption, StepOk.refl hr⟩
  cases hrc : ρ c <;> rw [hrc] at hvc <;> cases hvc
  simp only [execOp, hrc, asBool, pure_bind]
  rfl
 case alloc e =>
  cases hz : zeroT P e with
  | none => simp only [hz] at h; exact (err_ok h).elim
  | some z => simp only [hz] at h; exact .inl (sim_alloc hr hf hz h).next
 case box e x => exact .inl (sim_box hr hf (hev x (by simp [Op.operands])) h).next
 case build t parts =>
  left
  have hp := PRel.map_ev (l := parts.toList) (fun x hx => hev x.2 (by simp [Op.operands]; exact ⟨x.1, by simpa using hx⟩))
  have := (sim_build hr hp h).next
  simp only [execOp]
  rw [map_list2]
  exact this
 case buildSlice t len parts =>
  left
  have hp := PRel.map_ev (l := parts.toList) (fun x hx => hev x.2 (by simp [Op.operands]; exact ⟨x.1, by simpa using hx⟩))
  have := (sim_buildSlice hr hf hp h).next
  simp only [execOp]
  rw [map_list2]
  exact this
 case load t a =>
  have ha := hev a (by simp [Op.operands])
  cases hav : ev a <;> (try simp only [hav] at h) <;> try exact (err_ok h).elim
  ·rw [hav] at ha
   exact .inl (sim_load hr ha h).next
  ·rw [hav] at ha
   exact .inl (sim_const hr hg ha h).next
 case store t a x =>
  have ha := hev a (by simp [Op.operands])
  have hx := hev x (by simp [Op.operands])
  cases hav : ev a <;> (try simp only [hav] at h) <;> try exact (err_ok h).elim
  rw [hav] at ha
  obtain ⟨rfl, w', g1, g2⟩ := sim_store hr ha hx h
  left
  refine ⟨μ, w', undef, .inr ⟨?_, rfl⟩, VRel.undef, g2⟩
  simp only [execOp]
  rw [run_pure_bind g1]
  rfl
 case nilCheck x =>
  have hx := hev x (by simp [Op.operands])
  left
  cases hxv : ev x <;> (try simp only [hxv] at h) <;> try exact (err_ok h).elim
  all_goals
   rw [hxv] at hx
   obtain ⟨rfl, rfl⟩ := ret_ok h
   refine ⟨μ, w, ρ x, .inl ?_, hx, StepOk.refl hr⟩
   simp only [execOp]
   generalize ρ x = rx at hx
   cases hx
   rfl
 case binOp op t x y ty =>
  have hx := hev x (by simp [Op.operands])
  have hy := hev y (by simp [Op.operands])
  obtain ⟨h1, rfl⟩ := opt_ok h
  exact .inl (sim_bin hr hx hy h1).next
 case unOp op t x =>
  obtain ⟨h1, rfl⟩ := opt_ok h
  exact .inl (sim_un hr (hev x (by simp [Op.operands])) h1).next
 case convert src dst x => exact .inl (sim_convert hr hf (hev x (by simp [Op.operands])) h).next
 case makeInterface t x =>
  have hx := hev x (by simp [Op.operands])
  cases hd : P.underlying t with
  | none => simp only [hd] at h; exact (err_ok h).elim
  | some d =>
    simp only [hd] at h
    cases d <;> (try simp only at h) <;> first
     | exact (err_ok h).elim
     | (obtain ⟨rfl, rfl⟩ := ret_ok h
        left
        refine SimV.next (m := Instr.makeInterface t (ρ x)) (.quiet (r := .iface t (ρ x)) hr ?_ (.iface hx) rfl rfl)
        unfold Instr.makeInterface
        rw [run_pure_bind (run_underlying hd)]
        rfl)
 case makeFunc fn first captured =>
  cases fn <;> (try simp only at h) <;> try exact (err_ok h).elim
  rename_i f
  obtain ⟨rfl, rfl⟩ := ret_ok h
  left
  have h1 := VsRel.map_ev (μ := μ) (ν := ν) (l := first.toList) (ev := ev) (ρ := ρ) (fun x hx => hev x (by simp [Op.operands]; exact .inl (by simpa using hx)))
  have h2 := VsRel.map_ev (μ := μ) (ν := ν) (l := captured.toList) (ev := ev) (ρ := ρ) (fun x hx => hev x (by simp [Op.operands]; exact .inr (by simpa using hx)))
  refine SimV.next (m := Instr.makeFunc (.func f) (first.map ρ) (captured.map ρ)) (.quiet hr rfl ?_ rfl rfl)
  rw [map_list, map_list]
  exact .func h1 h2
 case makeMap t r =>
  left
  have key : ∀ (m : Sem Value), (m.run P w = .ok (.map (some w.heap.size)) { w with heap := w.heap.push (.map #[] 0) }) → bnd (alloc (.map [] 0)) (fun k => ret (.map k)) s = .ok v s' → SimV P μ ν s s' w m v := by
   intro m hm h
   obtain ⟨k, s1, h1, h2⟩ := bnd_ok h
   obtain ⟨rfl, rfl⟩ := ret_ok h2
   obtain ⟨rfl, rfl⟩ := alloc_ok h1
   have hk : μ s.next = none := hf _ (Nat.le_refl _) (Nat.lt_succ_self _)
   have hst := StepOk.alloc (P := P) (ν := ν) (d := w.drawn) (pl := ⟨w.heap.size, 0, false, 0, 0⟩) (O := .map #[] 0) (ob := .map [] 0) hr hk rfl ⟨[], by simp, .nil⟩
   exact ⟨_, _, _, hm, .map (upd_same _ _ _), hst⟩
  cases r with
  | none =>
    refine (key (Instr.makeMap t none) ?_ h).next
    simp [Instr.makeMap]
  | some x =>
    have hx := hev x (by simp [Op.operands])
    simp only [Option.map_some] at h
    cases hd : P.underlying t with
    | none => simp only [hd] at h; exact (err_ok h).elim
    | some d =>
      cases d <;> (try simp only [hd] at h) <;> try exact (err_ok h).elim
      cases hxv : ev x <;> (try simp only [hxv] at h) <;> try exact (err_ok h).elim
      rw [hxv] at hx
      refine (key (Instr.makeMap t (some (ρ x))) ?_ h).next
      generalize ρ x = rx at hx
      cases hx
      simp [Instr.makeMap, run_underlying hd, asInt, asIntOf]
 case makeSlice t l c =>
  have hl := hev l (by simp [Op.operands])
  have hcp := hev c (by simp [Op.operands])
  cases hd : P.underlying t with
  | none => simp only [hd] at h; exact (err_ok h).elim
  | some d =>
    cases d <;> (try simp only [hd] at h) <;> try exact (err_ok h).elim
    rename_i e
    cases hlv : ev l <;> (try simp only [hlv] at h) <;> try exact (err_ok h).elim
    rename_i kl il
    cases il <;> (try simp only at h) <;> try exact (err_ok h).elim
    rename_i nl
    cases hcv : ev c <;> (try simp only [hcv] at h) <;> try exact (err_ok h).elim
    rename_i kc ic
    cases ic <;> (try simp only at h) <;> try exact (err_ok h).elim
    rename_i nc
    rw [hlv] at hl; rw [hcv] at hcp
    cases hn : szT P e <;> cases hz : zeroT P e <;> cases hby : (P.info? e).map (·.bytes) <;> simp only [hn, hz, hby] at h <;> try exact (err_ok h).elim
    rename_i size z bytes
    cases hb : (Nat.ble nl nc && roomy nc bytes && Nat.beq z.cells.length size)
    ·rw [hb, cond_false] at h; exact (err_ok h).elim
    rw [hb, cond_true] at h
    rw [Bool.and_eq_true, Bool.and_eq_true, ble_iff, nbeq_iff] at hb
    obtain ⟨⟨hb1, hb2⟩, hb3⟩ := hb
    obtain ⟨hb4, hb5⟩ := roomy_le hb2
    left
    refine SimV.next (m := Instr.makeSlice t (ρ l) (ρ c)) ?_
    obtain ⟨k, s1, h1, h2⟩ := bnd_ok h
    obtain ⟨rfl, rfl⟩ := ret_ok h2
    obtain ⟨z', hz1, hz2⟩ := zeroT_run (μ := μ) (ν := ν) (w := w) hz
    have hzl := hz2.cells.length
    simp only [Array.length_toList] at hzl
    obtain ⟨pl, p1, p2, p3, p4, p5, p6⟩ := sim_newRow hr hf (rep_rel hz2.cells nc) h1
    refine ⟨_, _, .slice (some ⟨w.heap.size, 0, none⟩) nl nc, ?_, slice_new p1 p2 hb1, p6⟩
    obtain ⟨ti, hti, htb⟩ : ∃ i, P.info? e = some i ∧ i.bytes = bytes := by
     cases hi : P.info? e with
     | none => rw [hi] at hby; cases hby
     | some i => rw [hi] at hby; injection hby with hby; exact ⟨i, rfl, hby⟩
    generalize ρ l = rl at hl
    generalize ρ c = rc at hcp
    cases hl; cases hcp
    have hwl : IntKind.i64.wrap (Int.ofNat nl) = (nl : Int) := wrap_i64 nl (by omega)
    have hwc : IntKind.i64.wrap (Int.ofNat nc) = (nc : Int) := wrap_i64 nc (by omega)
    have hsz : nc * size = nc * z'.cells.size := by rw [← hzl, hb3]
    have hbm : ¬ ((bytes : Int) * (nc : Int) > 2 ^ 48) := by
     have h0 : ((nc * bytes : Nat) : Int) ≤ 140737488355328 := Int.ofNat_le.2 hb5
     have h1 : (bytes : Int) * (nc : Int) = ((nc * bytes : Nat) : Int) := by rw [Int.natCast_mul, Int.mul_comm]
     rw [h1]; omega
    unfold Instr.makeSlice
    rw [run_pure_bind (run_underlying hd)]
    simp only [asInt, asIntOf, pure_bind, bind_assoc]
    rw [run_pure_bind (run_typeInfo hti), htb]
    simp only [hwl, hwc]
    have hcond : ¬ ((decide ((nc : Int) < 0) || decide ((bytes : Int) * (nc : Int) > 2 ^ 48) || decide ((nl : Int) < 0) || decide ((nl : Int) > (nc : Int))) = true) := by
     simp only [Bool.or_eq_true, decide_eq_true_eq]
     omega
    rw [if_neg hcond]
    rw [run_pure_bind (run_askRoom _ _ _), run_pure_bind (run_sizeOf hn)]
    simp only [Int.toNat_natCast]
    by_cases h0 : nc * size = 0
    ·rw [if_pos h0]
     have hcells : (Array.range (nc * size)).map (fun x => (#[] : Array Value)[x % (#[] : Array Value).size]!) = ⟨((Array.range (nc * z'.cells.size)).map fun j => z'.cells[j % z'.cells.size]!).toList⟩ := by
      rw [← hsz, h0]; simp
     rw [hcells]
     rw [run_pure_bind p5]
     rfl
    ·rw [if_neg h0, run_pure_bind hz1]
     have hcells : (Array.range (nc * size)).map (fun x => z'.cells[x % z'.cells.size]!) = ⟨((Array.range (nc * z'.cells.size)).map fun j => z'.cells[j % z'.cells.size]!).toList⟩ := by
      rw [hsz]
     rw [hcells]
     rw [run_pure_bind p5]
     rfl
 case slice t x lo hi mx =>
  have hx := hev x (by simp [Op.operands])
  left
  exact (sim_slice hr hx (opRel_map fun y hy => hev y (by subst hy; simp [Op.operands])) (opRel_map fun y hy => hev y (by subst hy; simp [Op.operands])) (opRel_map fun y hy => hev y (by subst hy; simp [Op.operands])) h).next
 case fieldAddr t x f =>
  have hx := hev x (by simp [Op.operands])
  cases hd : P.underlying t with
  | none => simp only [hd] at h; exact (err_ok h).elim
  | some d =>
    cases d <;> (try simp only [hd] at h) <;> try exact (err_ok h).elim
    rename_i fs
    cases hxv : ev x <;> (try simp only [hxv] at h) <;> try exact (err_ok h).elim
    rw [hxv] at hx
    cases hfd : fs[f]? with
    | none => simp only [hfd] at h; exact (err_ok h).elim
    | some fd =>
      simp only [hfd] at h
      cases hn : szT P fd.type with
      | none => simp only [hn] at h; exact (err_ok h).elim
      | some n =>
        cases n with
        | zero => simp only [hn] at h; exact (err_ok h).elim
        | succ n =>
          simp only [hn] at h
          obtain ⟨rfl, rfl⟩ := ret_ok h
          exact .inl (sim_fieldAddr hr hd hfd hn hx).next
 case field t x f =>
  have hx := hev x (by simp [Op.operands])
  cases hd : P.underlying t with
  | none => simp only [hd] at h; exact (err_ok h).elim
  | some d =>
    cases d <;> (try simp only [hd] at h) <;> try exact (err_ok h).elim
    rename_i fs
    cases hxv : ev x <;> (try simp only [hxv] at h) <;> try exact (err_ok h).elim
    rw [hxv] at hx
    cases hfd : fs[f]? with
    | none => simp only [hfd] at h; exact (err_ok h).elim
    | some fd => simp only [hfd] at h; exact .inl (sim_field hr hd hfd hx h).next
 case indexAddr t x ix =>
  have hx := hev x (by simp [Op.operands])
  have hi := hev ix (by simp [Op.operands])
  cases hd : P.underlying t with
  | none => simp only [hd] at h; exact (err_ok h).elim
  | some d =>
    cases d <;> (try simp only [hd] at h) <;> try exact (err_ok h).elim
    case array n e =>
     cases hxv : ev x <;> (try simp only [hxv] at h) <;> try exact (err_ok h).elim
     all_goals cases hiv : ev ix <;> (try simp only [hiv] at h) <;> try exact (err_ok h).elim
     ·rename_i k o ki i
      cases i <;> (try simp only at h) <;> try exact (err_ok h).elim
      rename_i i
      rw [hxv] at hx; rw [hiv] at hi
      generalize hri : ρ ix = ri at hi
      cases hi
      cases hn : szT P e with
      | none => simp only [hn] at h; exact (err_ok h).elim
      | some sz =>
        simp only [hn] at h
        cases hlt : Nat.blt i n
        ·rw [hlt, cond_false] at h; exact (err_ok h).elim
        ·rw [hlt, cond_true] at h
         rw [blt_iff] at hlt
         obtain ⟨rfl, rfl⟩ := ret_ok h
         left
         have := (sim_indexAddr_array (ki := ki) hr hd hn hlt hx).next
         simp only [execOp, hri]
         exact this
     ·rename_i k o ki i
      cases i <;> (try simp only at h) <;> try exact (err_ok h).elim
      rename_i i
      rw [hxv] at hx; rw [hiv] at hi
      generalize hri : ρ ix = ri at hi
      cases hi
      cases hn : szT P e with
      | none => simp only [hn] at h; exact (err_ok h).elim
      | some sz =>
        simp only [hn] at h
        cases hlt : Nat.blt i n
        ·rw [hlt, cond_false] at h; exact (err_ok h).elim
        ·rw [hlt, cond_true] at h
         rw [blt_iff] at hlt
         obtain ⟨rfl, rfl⟩ := ret_ok h
         left
         have := (sim_indexAddr_const (ki := ki) hr hd hn hlt hx).next
         simp only [execOp, hri]
         exact this
    case slice e =>
     cases hxv : ev x <;> (try simp only [hxv] at h) <;> try exact (err_ok h).elim
     cases hiv : ev ix <;> (try simp only [hiv] at h) <;> try exact (err_ok h).elim
     rename_i k o n c ki i
     cases i <;> (try simp only at h) <;> try exact (err_ok h).elim
     rename_i i
     rw [hxv] at hx; rw [hiv] at hi
     generalize hri : ρ ix = ri at hi
     cases hi
     cases hn : szT P e with
     | none => simp only [hn] at h; exact (err_ok h).elim
     | some sz =>
       simp only [hn] at h
       cases hlt : Nat.blt i n
       ·rw [hlt, cond_false] at h; exact (err_ok h).elim
       ·rw [hlt, cond_true] at h
        rw [blt_iff] at hlt
        obtain ⟨rfl, rfl⟩ := ret_ok h
        left
        have := (sim_indexAddr_slice (ki := ki) hr hd hn hlt hx).next
        simp only [execOp, hri]
        exact this
 case index t x ix =>
  have hx := hev x (by simp [Op.operands])
  have hi := hev ix (by simp [Op.operands])
  cases hd : P.underlying t with
  | none => simp only [hd] at h; exact (err_ok h).elim
  | some d =>
    cases d <;> (try simp only [hd] at h) <;> try exact (err_ok h).elim
    case array n e =>
     cases hxv : ev x <;> (try simp only [hxv] at h) <;> try exact (err_ok h).elim
     cases hiv : ev ix <;> (try simp only [hiv] at h) <;> try exact (err_ok h).elim
     rename_i cs ki i
     cases i <;> (try simp only at h) <;> try exact (err_ok h).elim
     rename_i i
     rw [hxv] at hx; rw [hiv] at hi
     generalize hri : ρ ix = ri at hi
     cases hi
     cases hn : szT P e with
     | none => simp only [hn] at h; exact (err_ok h).elim
     | some sz =>
       simp only [hn] at h
       cases hlt : Nat.blt i n
       ·rw [hlt, cond_false] at h; exact (err_ok h).elim
       ·rw [hlt, cond_true] at h
        rw [blt_iff] at hlt
        left
        have := (sim_index_array (ki := ki) hr hd hn hlt hx h).next
        simp only [execOp, hri]
        exact this
    case string =>
     cases hxv : ev x <;> (try simp only [hxv] at h) <;> try exact (err_ok h).elim
     cases hiv : ev ix <;> (try simp only [hiv] at h) <;> try exact (err_ok h).elim
     rename_i l ki i
     cases i <;> (try simp only at h) <;> try exact (err_ok h).elim
     rename_i i
     rw [hxv] at hx; rw [hiv] at hi
     generalize hri : ρ ix = ri at hi
     cases hi
     cases hlb : l[i]? with
     | none => simp only [hlb] at h; exact (err_ok h).elim
     | some b =>
       simp only [hlb] at h
       obtain ⟨rfl, rfl⟩ := ret_ok h
       left
       have := (sim_index_string (ki := ki) hr hd hlb hx).next
       simp only [execOp, hri]
       exact this
 case lookup t x ix ok => exact .inl (sim_lookup hr (hev x (by simp [Op.operands])) (hev ix (by simp [Op.operands])) h).next
 case mapUpdate t m k x =>
  obtain ⟨rfl, w', g1, g2⟩ := sim_mapUpdate hr (hev m (by simp [Op.operands])) (hev k (by simp [Op.operands])) (hev x (by simp [Op.operands])) h
  left
  refine ⟨μ, w', undef, .inr ⟨?_, rfl⟩, VRel.undef, g2⟩
  simp only [execOp]
  rw [run_pure_bind g1]
  rfl
 case insert t m k x =>
  obtain ⟨rfl, w', g1, g2⟩ := sim_mapUpdate hr (hev m (by simp [Op.operands])) (hev k (by simp [Op.operands])) (hev x (by simp [Op.operands])) h
  left
  refine ⟨μ, w', undef, .inr ⟨?_, rfl⟩, VRel.undef, g2⟩
  simp only [execOp]
  rw [run_pure_bind g1]
  rfl
 case range t x => exact .inl (sim_range hr hf (hev x (by simp [Op.operands])) h).next
 case next it isString => exact .inl (sim_next hr (hev it (by simp [Op.operands])) h).next
 case entry it => exact .inl (sim_entry hr (hev it (by simp [Op.operands])) h).next
 case extract t i =>
  have hx := hev t (by simp [Op.operands])
  cases hxv : ev t <;> (try simp only [hxv] at h) <;> try exact (err_ok h).elim
  obtain ⟨h1, rfl⟩ := opt_ok h
  rw [hxv] at hx
  left
  refine SimV.next (m := Instr.extract (ρ t) i) ?_
  generalize ρ t = rt at hx
  cases hx with
  | tuple hs =>
    obtain ⟨r, g1, g2⟩ := hs.get h1
    refine .quiet hr ?_ g2 rfl rfl
    unfold Instr.extract
    rename_i cs'
    have e : (⟨cs'⟩ : Array Value)[i]? = some r := by simpa using g1
    simp only [e]
    rfl
 case call c =>
  cases hcal : c.callee <;> (try simp only [hcal] at h) <;> try exact (err_ok h).elim
  case value f =>
   have hvf := hev f (by simp [Op.operands, Call.operands, hcal])
   have hargs : VsRel μ ν (c.args.toList.map ev) (c.args.toList.map ρ) := VsRel.map_ev fun x hx => hev x (by simp [Op.operands, Call.operands, hcal]; exact .inr (by simpa using hx))
   unfold callV at h
   cases hfv : ev f <;> (try simp only [hfv] at h) <;> try exact (err_ok h).elim
   rename_i g first captured
   rw [hfv] at hvf
   generalize hrf : ρ f = rf at hvf
   cases hvf with
   | func h1 h2 =>
     rename_i first' captured'
     right
     refine ⟨g, ⟨first' ++ c.args.toList.map ρ ++ captured'⟩, ?_, hc g _ _ _ _ _ _ _ _ h hr hf hg ((h1.append hargs).append h2)⟩
     simp only [execOp, resolve, hcal, hrf, Deferred.ofValue, pure_bind, invoke]
     congr 2
     apply Array.ext'
     simp
  case builtin b =>
   have hargs : VsRel μ ν (c.args.toList.map ev) (c.args.toList.map ρ) := VsRel.map_ev fun x hx => hev x (by simp [Op.operands, Call.operands, hcal]; simpa using hx)
   left
   have := sim_builtin (ty := type) (cs := c.args.map fun | .const _ => true | _ => false) hr hf hargs h
   simp only [execOp, resolve, hcal, pure_bind, invoke]
   rw [map_list]
   exact this
end
end
end Go.Lx
