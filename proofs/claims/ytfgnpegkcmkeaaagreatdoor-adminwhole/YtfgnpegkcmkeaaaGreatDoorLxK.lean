/-
  Each of the machine's operations is the model's, through the relation: copy, clear, len, cap, maps, ranges.
-/
import Derived.Test.YtfgnpegkcmkeaaaGreatDoorLxJ
import Derived.Laws.Strings
set_option linter.unusedSimpArgs false
set_option linter.unusedVariables false
namespace Go.Lx
theorem eqNats_iff : ∀ {a b : List Nat}, eqNats a b = true ↔ a = b
 | [], [] => by simp [eqNats]
 | [], _ :: _ => by simp [eqNats]
 | _ :: _, [] => by simp [eqNats]
 | a :: x, b :: y => by
   simp only [eqNats, Bool.and_eq_true, nbeq_iff, List.cons.injEq]
   rw [eqNats_iff]
theorem toNats_inj {a b : ByteArray} : toNats a = toNats b ↔ a = b := by
 constructor
 ·intro h
  apply ByteArray.ext
  apply Array.ext'
  have := (List.map_inj_right (f := UInt8.toNat) (fun x y h => UInt8.toNat_inj.1 h)).1 h
  exact this
 ·intro h; rw [h]
theorem eqNats_toNats {a b : ByteArray} : eqNats (toNats a) (toNats b) = (a == b) := by
 have hb : (a == b) = (a.data == b.data) := rfl
 rw [Bool.eq_iff_iff, eqNats_iff, toNats_inj, hb, beq_iff_eq]
 constructor
 ·intro h; rw [h]
 ·intro h; exact ByteArray.ext h
theorem eqNats_lists {a b : ByteArray} : eqNats (toNats a) (toNats b) = (a.toList == b.toList) := by
 rw [Bool.eq_iff_iff, eqNats_iff, beq_iff_eq, Go.ByteArray.toList_eq, Go.ByteArray.toList_eq, toNats_inj]
 constructor
 ·intro h; rw [h]
 ·intro h; exact ByteArray.ext (Array.ext' h)
section
variable {P : Program} {μ : Mu} {ν : Nat → Value} {s s' : St} {w : World}
theorem getO_rel {k : Nat} {ob : Ob} {p : Pl} (hr : Rel P μ ν s.heap w.heap) (hp : μ k = some p) (h : s.heap.get k = some ob) : ORel P μ ν p w.heap ob := by
 obtain ⟨q, hq, ho⟩ := hr.ob k _ h
 rw [hp] at hq; cases hq; exact ho
theorem run_getObj_map {r : Nat} {res : List MapEntry} {clock : Nat} (h : w.heap[r]? = some (.map ⟨res⟩ clock)) : (getObj r).run P w = .ok (.map ⟨res⟩ clock) w := by
 simp only [getObj, Sem.run, h]
theorem ESRel.length {es : List ME} {es' : List MapEntry} (h : ESRel μ ν es es') : es.length = es'.length := by
 induction h with
 | nil => rfl
 | cons _ _ _ ih => simp [ih]
theorem sim_len {t : TypeId} {x v : V} {x' : Value} {ts : Array TypeId} {ty : TypeId} (hr : Rel P μ ν s.heap w.heap) (ht : ts[0]? = some t) (hx : VRel μ ν x x') (h : lenM P t x s = .ok v s') : SimV P μ ν s s' w (Builtin.len_ ts ty #[x']) v := by
 have e0 : (#[x'] : Array Value)[0]? = some x' := rfl
 unfold lenM at h
 cases hd : P.underlying t with
 | none => simp only [hd] at h; exact (err_ok h).elim
 | some d =>
   cases d
   case array n e =>
    simp only [hd] at h
    obtain ⟨rfl, rfl⟩ := ret_ok h
    refine .quiet (r := .int .i64 n) hr ?_ (.int _ _) rfl rfl
    simp only [Builtin.len_, ht, e0, Sem.run_bind, run_underlying hd, Result.andThen_ok, goInt, Sem.run_pure]
   case pointer ar =>
    simp only [hd] at h
    cases ha : P.underlying ar with
    | none => simp only [ha] at h; exact (err_ok h).elim
    | some da =>
      cases da <;> simp only [ha] at h <;> try exact (err_ok h).elim
      rename_i n e
      obtain ⟨rfl, rfl⟩ := ret_ok h
      refine .quiet (r := .int .i64 n) hr ?_ (.int _ _) rfl rfl
      simp only [Builtin.len_, ht, e0, Sem.run_bind, run_underlying hd, run_underlying ha, Result.andThen_ok, goInt, Sem.run_pure]
   all_goals
    simp only [hd] at h
    cases hx <;> (try simp only at h) <;> try exact (err_ok h).elim
   case string.str b =>
    obtain ⟨rfl, rfl⟩ := ret_ok h
    refine .quiet (r := .int .i64 b.size) hr ?_ (by rw [toNats_length]; exact .int _ _) rfl rfl
    simp only [Builtin.len_, ht, e0, Sem.run_bind, run_underlying hd, Result.andThen_ok, goInt, Sem.run_pure]
   case slice.nilslice e =>
    obtain ⟨rfl, rfl⟩ := ret_ok h
    refine .quiet (r := .int .i64 (0 : Nat)) hr ?_ (.int _ _) rfl rfl
    simp only [Builtin.len_, ht, e0, Sem.run_bind, run_underlying hd, Result.andThen_ok, goInt, Sem.run_pure]
   case slice.slice e k o len cap cap' p a hp hl hs =>
    obtain ⟨rfl, rfl⟩ := ret_ok h
    refine .quiet (r := .int .i64 len) hr ?_ (.int _ _) rfl rfl
    simp only [Builtin.len_, ht, e0, Sem.run_bind, run_underlying hd, Result.andThen_ok, goInt, Sem.run_pure]
   case map.nilmap k e =>
    obtain ⟨rfl, rfl⟩ := ret_ok h
    refine .quiet (r := .int .i64 (0 : Nat)) hr ?_ (.int _ _) rfl rfl
    simp only [Builtin.len_, ht, e0, Sem.run_bind, run_underlying hd, Result.andThen_ok, goInt, Sem.run_pure]
    rfl
   case map.map kt e r p hp =>
    obtain ⟨ob, s1, h1, h2⟩ := bnd_ok h
    obtain ⟨g1, g2, rfl⟩ := getO_ok h1
    cases ob <;> (try simp only at h2) <;> try exact (err_ok h2).elim
    rename_i es clock
    obtain ⟨rfl, rfl⟩ := ret_ok h2
    obtain ⟨res, h3, h4⟩ := getO_rel hr hp g1
    refine .quiet (r := .int .i64 es.length) hr ?_ (.int _ _) rfl rfl
    simp only [Builtin.len_, ht, e0, Sem.run_bind, run_underlying hd, Result.andThen_ok, run_getObj_map h3, goInt, Sem.run_pure]
    rw [h4.length]
    rfl
theorem sim_cap {t : TypeId} {x v : V} {x' : Value} {ts : Array TypeId} {ty : TypeId} (hr : Rel P μ ν s.heap w.heap) (ht : ts[0]? = some t) (hx : VRel μ ν x x') (h : capM P t x s = .ok v s') : SimV P μ ν s s' w (Builtin.cap_ ts ty #[x']) v := by
 have e0 : (#[x'] : Array Value)[0]? = some x' := rfl
 unfold capM at h
 cases hd : P.underlying t with
 | none => simp only [hd] at h; exact (err_ok h).elim
 | some d =>
   cases d <;> simp only [hd] at h <;> try exact (err_ok h).elim
   rename_i e
   cases hx <;> (try simp only at h) <;> try exact (err_ok h).elim
   case nilslice =>
    obtain ⟨rfl, rfl⟩ := ret_ok h
    refine .quiet (r := .int .i64 (0 : Nat)) hr ?_ (.int _ _) rfl rfl
    simp only [Builtin.cap_, ht, e0, Sem.run_bind, run_underlying hd, Result.andThen_ok, goInt, Sem.run_pure]
   case slice k o len cap cap' p a hp hl hs =>
    obtain ⟨⟨n, e', q⟩, s1, h1, h2⟩ := bnd_ok h
    obtain ⟨c, e1, q1, hg, hq, rfl⟩ := blk_ok h1
    injection hq with hq1 hq2
    injection hq2 with hq2 hq3
    subst hq2; subst hq3
    cases q
    ·simp only [cond_false] at h2
     obtain ⟨rfl, rfl⟩ := ret_ok h2
     have ho := (getO_rel hr hp hg).1
     have hcap : cap' = cap := by
      rcases hs with ⟨h0, h1⟩ | ⟨h0, h1 | ⟨h1, _⟩⟩
      ·omega
      ·exact h1
      ·rw [h1] at ho; cases ho
     subst hcap
     refine .quiet (r := .int .i64 cap') hr ?_ (.int _ _) rfl rfl
     simp only [Builtin.cap_, ht, e0, Sem.run_bind, run_underlying hd, Result.andThen_ok, goInt, Sem.run_pure]
    ·simp only [cond_true] at h2; exact (err_ok h2).elim
theorem stores_nil {a : Addr} : (storeCells a []).run P w = .ok () w := by simp [storeCells]
theorem sim_stc_at {k o : Nat} {vs : List V} {rs : List Value} {pl : Pl} {u : Unit} {a : Addr} (hr : Rel P μ ν s.heap w.heap) (hp : μ k = some pl) (ha : vs = [] ∨ a = ⟨pl.blk, pl.off + o, none⟩) (hv : VsRel μ ν vs rs) (h : stc k o vs s = .ok u s') :
  ∃ w', (storeCells a rs).run P w = .ok () w' ∧ StepOk P μ ν s.heap s.next w μ s'.heap s'.next w' := by
 obtain ⟨w', h1, h2⟩ := sim_stc (P := P) hr hp hv h
 rcases ha with ha | ha
 ·subst ha
  cases hv
  rw [stores_nil] at h1
  injection h1 with _ h1; subst h1
  exact ⟨w, stores_nil, h2⟩
 ·subst ha; exact ⟨w', h1, h2⟩
theorem sim_copy {t : TypeId} {d x v : V} {d' x' : Value} {ts : Array TypeId} {ty : TypeId} (hr : Rel P μ ν s.heap w.heap) (ht : ts[0]? = some t) (hdv : VRel μ ν d d') (hx : VRel μ ν x x') (h : copyM P t d x s = .ok v s') : SimV P μ ν s s' w (Builtin.copy_ ts ty #[d', x']) v := by
 have e0 : (#[d', x'] : Array Value)[0]? = some d' := rfl
 have e1 : (#[d', x'] : Array Value)[1]? = some x' := rfl
 unfold copyM at h
 cases hd : P.underlying t with
 | none => simp only [hd] at h; exact (err_ok h).elim
 | some dd =>
   cases dd <;> simp only [hd] at h <;> try exact (err_ok h).elim
   rename_i e
   cases hn : szT P e with
   | none => simp only [hn] at h; exact (err_ok h).elim
   | some size =>
     simp only [hn] at h
     cases hdv <;> (try simp only at h) <;> try exact (err_ok h).elim
     case nilslice =>
      cases hx <;> (try simp only at h) <;> try exact (err_ok h).elim
      case nilslice =>
       obtain ⟨rfl, rfl⟩ := ret_ok h
       refine .quiet (r := .int .i64 (0 : Nat)) hr ?_ (.int _ _) rfl rfl
       simp only [Builtin.copy_, ht, e0, e1, Sem.run_bind, run_underlying hd, Result.andThen_ok, Builtin.lenOf, Builtin.firstCells, run_sizeOf hn, goInt, Sem.run_pure]
       rfl
      case str b =>
       obtain ⟨rfl, rfl⟩ := ret_ok h
       refine .quiet (r := .int .i64 (0 : Nat)) hr ?_ (.int _ _) rfl rfl
       simp only [Builtin.copy_, ht, e0, e1, Sem.run_bind, run_underlying hd, Result.andThen_ok, Builtin.lenOf, Builtin.firstCells, run_sizeOf hn, goInt, Sem.run_pure]
       simp
      case slice k o len cap cap' p a hp hl hs =>
       obtain ⟨cs, s1, h1, h2⟩ := bnd_ok h
       obtain ⟨rfl, rfl⟩ := ret_ok h2
       obtain ⟨c, hg, hq, rfl, rfl⟩ := ld_ok h1
       refine .quiet (r := .int .i64 (0 : Nat)) hr ?_ (.int _ _) rfl rfl
       simp only [Builtin.copy_, ht, e0, e1, Sem.run_bind, run_underlying hd, Result.andThen_ok, Builtin.lenOf, Builtin.firstCells, run_sizeOf hn, goInt, Sem.run_pure]
       simp [loadCells, loadCellsFrom]
     case slice k o len cap cap' p a hp hl hs =>
      have hat : ∀ {m : Nat} {cs : List V}, cs.length = m → m ≤ len * size → cs = [] ∨ a = ⟨p.blk, p.off + o, none⟩ := by
       intro m cs h1 h2
       rcases hs with ⟨h0, _⟩ | ⟨h0, _⟩
       ·left
        have : len = 0 := by omega
        subst this
        rw [Nat.zero_mul] at h2
        exact List.length_eq_zero_iff.1 (by omega)
       ·exact .inr h0
      cases hx <;> (try simp only at h) <;> try exact (err_ok h).elim
      case nilslice =>
       obtain ⟨rfl, rfl⟩ := ret_ok h
       refine .quiet (r := .int .i64 (0 : Nat)) hr ?_ (.int _ _) rfl rfl
       simp only [Builtin.copy_, ht, e0, e1, Sem.run_bind, run_underlying hd, Result.andThen_ok, Builtin.lenOf, Builtin.firstCells, run_sizeOf hn, goInt, Sem.run_pure, stores_nil]
       simp
      case str b =>
       cases hs1 : Nat.beq size 1
       ·rw [hs1, cond_false] at h; exact (err_ok h).elim
       rw [hs1, cond_true] at h
       rw [nbeq_iff] at hs1; subst hs1
       obtain ⟨u, s1, h1, h2⟩ := bnd_ok h
       obtain ⟨rfl, rfl⟩ := ret_ok h2
       have hcut : (toNats b).take (min (toNats b).length len) = (b.extract 0 (min b.size len)).data.toList.map (·.toNat) := by
        rw [toNats_length, ByteArray.data_extract]
        simp [toNats, List.map_take]
       have hlen : (bytesV ((toNats b).take (min (toNats b).length len))).length = min b.size len := by simp [bytesV, toNats_length]
       obtain ⟨w', g1, g2⟩ := sim_stc_at (P := P) hr hp (hat hlen (by omega)) (by rw [hcut]; exact bytesV_rel _) h1
       refine ⟨μ, w', .int .i64 (min b.size len : Nat), ?_, by rw [toNats_length]; exact .int _ _, g2⟩
       simp only [Builtin.copy_, ht, e0, e1, Sem.run_bind, run_underlying hd, Result.andThen_ok, Builtin.lenOf, Builtin.firstCells, run_sizeOf hn, goInt, Sem.run_pure]
       have : Nat.min b.size len = min b.size len := rfl
       have hm : ((b.extract 0 (min b.size len)).data.map fun x => Value.int .u8 x.toNat).toList = (b.extract 0 (min b.size len)).data.toList.map fun x => Value.int .u8 x.toNat := by simp
       rw [this, hm, g1]
       simp only [Result.andThen_ok]
      case slice k2 o2 len2 cap2 cap2' p2 a2 hp2 hl2 hs2 =>
       obtain ⟨cs, s1, h1, h2⟩ := bnd_ok h
       obtain ⟨u, s2, h3, h4⟩ := bnd_ok h2
       obtain ⟨rfl, rfl⟩ := ret_ok h4
       obtain ⟨c, hg, hq, rfl, rfl⟩ := ld_ok h1
       obtain ⟨rs, g1, g2⟩ := run_loads (P := P) hr hg hp2 hq
       have hload : (loadCells a2 (min len2 len * size)).run P w = .ok ⟨rs⟩ w := by
        rcases hs2 with ⟨h0, _⟩ | ⟨h0, _⟩
        ·have : len2 = 0 := by omega
         subst this
         have hrs : rs = [] := by
          have := g2.length
          rw [sub_length hq] at this; simp at this
          exact List.length_eq_zero_iff.1 this.symm
         subst hrs
         simp [loadCells, loadCellsFrom]
        ·subst h0; exact g1
       obtain ⟨w', g3, g4⟩ := sim_stc_at (P := P) (s := { s with log := .rd k2 o2 (min len2 len * size) :: s.log }) hr hp (hat (sub_length hq) (Nat.mul_le_mul_right _ (Nat.min_le_right _ _))) g2 h3
       refine ⟨μ, w', .int .i64 (min len2 len : Nat), ?_, .int _ _, g4⟩
       simp only [Builtin.copy_, ht, e0, e1, Sem.run_bind, run_underlying hd, Result.andThen_ok, Builtin.lenOf, Builtin.firstCells, run_sizeOf hn, goInt, Sem.run_pure]
       have : Nat.min len2 len = min len2 len := rfl
       rw [this, hload]
       simp only [Result.andThen_ok, Sem.run_bind, g3, Sem.run_pure]
end
end Go.Lx
