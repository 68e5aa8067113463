/-
  Several texts, joined.
-/
import Derived.Test.YthhdkonpejmgcaaGreatDoorLx2
import Derived.Laws.Strings
/-
  Each of the machine's operations is the model's, through the relation: copy, clear, len, cap, maps, ranges.
-/
set_option linter.unusedSimpArgs false
set_option linter.unusedVariables false
namespace Go.Lx

theorem eqNats_iff : ∀ {a b : List Nat}, eqNats a b = true ↔ a = b
  | [], [] => by simp [eqNats]
  | [], _ :: _ => by simp [eqNats]
  | _ :: _, [] => by simp [eqNats]
  | a :: x, b :: y => by
    simp only [eqNats, Bool.and_eq_true, nbeq_iff, List.cons.injEq]
    rw [eqNats_iff]

theorem toNats_inj {a b : ByteArray} : toNats a = toNats b ↔ a = b := by
  constructor
  · intro h
    apply ByteArray.ext
    apply Array.ext'
    have := (List.map_inj_right (f := UInt8.toNat) (fun x y h => UInt8.toNat_inj.1 h)).1 h
    exact this
  · intro h; rw [h]

theorem eqNats_toNats {a b : ByteArray} : eqNats (toNats a) (toNats b) = (a == b) := by
  have hb : (a == b) = (a.data == b.data) := rfl
  rw [Bool.eq_iff_iff, eqNats_iff, toNats_inj, hb, beq_iff_eq]
  constructor
  · intro h; rw [h]
  · intro h; exact ByteArray.ext h

theorem eqNats_lists {a b : ByteArray} : eqNats (toNats a) (toNats b) = (a.toList == b.toList) := by
  rw [Bool.eq_iff_iff, eqNats_iff, beq_iff_eq, Go.ByteArray.toList_eq, Go.ByteArray.toList_eq, toNats_inj]
  constructor
  · intro h; rw [h]
  · intro h; exact ByteArray.ext (Array.ext' h)

section
variable {P : Program} {μ : Mu} {ν : Nat → Value} {s s' : St} {w : World}

/-! ### len, cap -/

theorem getO_rel {k : Nat} {ob : Ob} {p : Pl} (hr : Rel P μ ν s.heap w.heap) (hp : μ k = some p) (h : s.heap.get k = some ob) : ORel P μ ν p w.heap ob := by
  obtain ⟨q, hq, ho⟩ := hr.ob k _ h
  rw [hp] at hq; cases hq; exact ho

theorem run_getObj_map {r : Nat} {res : List MapEntry} {clock : Nat} (h : w.heap[r]? = some (.map ⟨res⟩ clock)) : (getObj r).run P w = .ok (.map ⟨res⟩ clock) w := by
  simp only [getObj, Sem.run, h]

theorem ESRel.length {es : List ME} {es' : List MapEntry} (h : ESRel μ ν es es') : es.length = es'.length := by
  induction h with
  | nil => rfl
  | cons _ _ _ ih => simp [ih]

theorem sim_len {t : TypeId} {x v : V} {x' : Value} {ts : Array TypeId} {ty : TypeId} (hr : Rel P μ ν s.heap w.heap) (ht : ts[0]? = some t) (hx : VRel μ ν x x') (h : lenM P t x s = .ok v s') : SimV P μ ν s s' w (Builtin.len_ ts ty #[x']) v := by
  have e0 : (#[x'] : Array Value)[0]? = some x' := rfl
  unfold lenM at h
  cases hd : P.underlying t with
  | none => simp only [hd] at h; exact (err_ok h).elim
  | some d =>
    cases d
    case array n e =>
      simp only [hd] at h
      obtain ⟨rfl, rfl⟩ := ret_ok h
      refine .quiet (r := .int .i64 n) hr ?_ (.int _ _) rfl rfl
      simp only [Builtin.len_, ht, e0, Sem.run_bind, run_underlying hd, Result.andThen_ok, goInt, Sem.run_pure]
    case pointer ar =>
      simp only [hd] at h
      cases ha : P.underlying ar with
      | none => simp only [ha] at h; exact (err_ok h).elim
      | some da =>
        cases da <;> simp only [ha] at h <;> try exact (err_ok h).elim
        rename_i n e
        obtain ⟨rfl, rfl⟩ := ret_ok h
        refine .quiet (r := .int .i64 n) hr ?_ (.int _ _) rfl rfl
        simp only [Builtin.len_, ht, e0, Sem.run_bind, run_underlying hd, run_underlying ha, Result.andThen_ok, goInt, Sem.run_pure]
    all_goals
      simp only [hd] at h
      cases hx <;> (try simp only at h) <;> try exact (err_ok h).elim
    case string.str b =>
      obtain ⟨rfl, rfl⟩ := ret_ok h
      refine .quiet (r := .int .i64 b.size) hr ?_ (by rw [toNats_length]; exact .int _ _) rfl rfl
      simp only [Builtin.len_, ht, e0, Sem.run_bind, run_underlying hd, Result.andThen_ok, goInt, Sem.run_pure]
    case slice.nilslice e =>
      obtain ⟨rfl, rfl⟩ := ret_ok h
      refine .quiet (r := .int .i64 (0 : Nat)) hr ?_ (.int _ _) rfl rfl
      simp only [Builtin.len_, ht, e0, Sem.run_bind, run_underlying hd, Result.andThen_ok, goInt, Sem.run_pure]
    case slice.slice e k o len cap cap' p a hp hl hs =>
      obtain ⟨rfl, rfl⟩ := ret_ok h
      refine .quiet (r := .int .i64 len) hr ?_ (.int _ _) rfl rfl
      simp only [Builtin.len_, ht, e0, Sem.run_bind, run_underlying hd, Result.andThen_ok, goInt, Sem.run_pure]
    case map.nilmap k e =>
      obtain ⟨rfl, rfl⟩ := ret_ok h
      refine .quiet (r := .int .i64 (0 : Nat)) hr ?_ (.int _ _) rfl rfl
      simp only [Builtin.len_, ht, e0, Sem.run_bind, run_underlying hd, Result.andThen_ok, goInt, Sem.run_pure]
      rfl
    case map.map kt e r p hp =>
      obtain ⟨ob, s1, h1, h2⟩ := bnd_ok h
      obtain ⟨g1, g2, rfl⟩ := getO_ok h1
      cases ob <;> (try simp only at h2) <;> try exact (err_ok h2).elim
      rename_i es clock
      obtain ⟨rfl, rfl⟩ := ret_ok h2
      obtain ⟨res, h3, h4⟩ := getO_rel hr hp g1
      refine .quiet (r := .int .i64 es.length) hr ?_ (.int _ _) rfl rfl
      simp only [Builtin.len_, ht, e0, Sem.run_bind, run_underlying hd, Result.andThen_ok, run_getObj_map h3, goInt, Sem.run_pure]
      rw [h4.length]
      rfl

theorem sim_cap {t : TypeId} {x v : V} {x' : Value} {ts : Array TypeId} {ty : TypeId} (hr : Rel P μ ν s.heap w.heap) (ht : ts[0]? = some t) (hx : VRel μ ν x x') (h : capM P t x s = .ok v s') : SimV P μ ν s s' w (Builtin.cap_ ts ty #[x']) v := by
  have e0 : (#[x'] : Array Value)[0]? = some x' := rfl
  unfold capM at h
  cases hd : P.underlying t with
  | none => simp only [hd] at h; exact (err_ok h).elim
  | some d =>
    cases d <;> simp only [hd] at h <;> try exact (err_ok h).elim
    rename_i e
    cases hx <;> (try simp only at h) <;> try exact (err_ok h).elim
    case nilslice =>
      obtain ⟨rfl, rfl⟩ := ret_ok h
      refine .quiet (r := .int .i64 (0 : Nat)) hr ?_ (.int _ _) rfl rfl
      simp only [Builtin.cap_, ht, e0, Sem.run_bind, run_underlying hd, Result.andThen_ok, goInt, Sem.run_pure]
    case slice k o len cap cap' p a hp hl hs =>
      obtain ⟨⟨n, e', q⟩, s1, h1, h2⟩ := bnd_ok h
      obtain ⟨c, e1, q1, hg, hq, rfl⟩ := blk_ok h1
      injection hq with hq1 hq2
      injection hq2 with hq2 hq3
      subst hq2; subst hq3
      cases q
      · simp only [cond_false] at h2
        obtain ⟨rfl, rfl⟩ := ret_ok h2
        have ho := (getO_rel hr hp hg).1
        have hcap : cap' = cap := by
          rcases hs with ⟨h0, h1⟩ | ⟨h0, h1 | ⟨h1, _⟩⟩
          · omega
          · exact h1
          · rw [h1] at ho; cases ho
        subst hcap
        refine .quiet (r := .int .i64 cap') hr ?_ (.int _ _) rfl rfl
        simp only [Builtin.cap_, ht, e0, Sem.run_bind, run_underlying hd, Result.andThen_ok, goInt, Sem.run_pure]
      · simp only [cond_true] at h2; exact (err_ok h2).elim

/-! ### copy, clear -/

theorem stores_nil {a : Addr} : (storeCells a []).run P w = .ok () w := by simp [storeCells]

theorem sim_stc_at {k o : Nat} {vs : List V} {rs : List Value} {pl : Pl} {u : Unit} {a : Addr} (hr : Rel P μ ν s.heap w.heap) (hp : μ k = some pl) (ha : vs = [] ∨ a = ⟨pl.blk, pl.off + o, none⟩) (hv : VsRel μ ν vs rs) (h : stc k o vs s = .ok u s') :
    ∃ w', (storeCells a rs).run P w = .ok () w' ∧ StepOk P μ ν s.heap s.next w μ s'.heap s'.next w' := by
  obtain ⟨w', h1, h2⟩ := sim_stc (P := P) hr hp hv h
  rcases ha with ha | ha
  · subst ha
    cases hv
    rw [stores_nil] at h1
    injection h1 with _ h1; subst h1
    exact ⟨w, stores_nil, h2⟩
  · subst ha; exact ⟨w', h1, h2⟩

theorem sim_copy {t : TypeId} {d x v : V} {d' x' : Value} {ts : Array TypeId} {ty : TypeId} (hr : Rel P μ ν s.heap w.heap) (ht : ts[0]? = some t) (hdv : VRel μ ν d d') (hx : VRel μ ν x x') (h : copyM P t d x s = .ok v s') : SimV P μ ν s s' w (Builtin.copy_ ts ty #[d', x']) v := by
  have e0 : (#[d', x'] : Array Value)[0]? = some d' := rfl
  have e1 : (#[d', x'] : Array Value)[1]? = some x' := rfl
  unfold copyM at h
  cases hd : P.underlying t with
  | none => simp only [hd] at h; exact (err_ok h).elim
  | some dd =>
    cases dd <;> simp only [hd] at h <;> try exact (err_ok h).elim
    rename_i e
    cases hn : szT P e with
    | none => simp only [hn] at h; exact (err_ok h).elim
    | some size =>
      simp only [hn] at h
      cases hdv <;> (try simp only at h) <;> try exact (err_ok h).elim
      case nilslice =>
        cases hx <;> (try simp only at h) <;> try exact (err_ok h).elim
        case nilslice =>
          obtain ⟨rfl, rfl⟩ := ret_ok h
          refine .quiet (r := .int .i64 (0 : Nat)) hr ?_ (.int _ _) rfl rfl
          simp only [Builtin.copy_, ht, e0, e1, Sem.run_bind, run_underlying hd, Result.andThen_ok, Builtin.lenOf, Builtin.firstCells, run_sizeOf hn, goInt, Sem.run_pure]
          rfl
        case str b =>
          obtain ⟨rfl, rfl⟩ := ret_ok h
          refine .quiet (r := .int .i64 (0 : Nat)) hr ?_ (.int _ _) rfl rfl
          simp only [Builtin.copy_, ht, e0, e1, Sem.run_bind, run_underlying hd, Result.andThen_ok, Builtin.lenOf, Builtin.firstCells, run_sizeOf hn, goInt, Sem.run_pure]
          simp
        case slice k o len cap cap' p a hp hl hs =>
          obtain ⟨cs, s1, h1, h2⟩ := bnd_ok h
          obtain ⟨rfl, rfl⟩ := ret_ok h2
          obtain ⟨c, hg, hq, rfl, rfl⟩ := ld_ok h1
          refine .quiet (r := .int .i64 (0 : Nat)) hr ?_ (.int _ _) rfl rfl
          simp only [Builtin.copy_, ht, e0, e1, Sem.run_bind, run_underlying hd, Result.andThen_ok, Builtin.lenOf, Builtin.firstCells, run_sizeOf hn, goInt, Sem.run_pure]
          simp [loadCells, loadCellsFrom]
      case slice k o len cap cap' p a hp hl hs =>
        have hat : ∀ {m : Nat} {cs : List V}, cs.length = m → m ≤ len * size → cs = [] ∨ a = ⟨p.blk, p.off + o, none⟩ := by
          intro m cs h1 h2
          rcases hs with ⟨h0, _⟩ | ⟨h0, _⟩
          · left
            have : len = 0 := by omega
            subst this
            rw [Nat.zero_mul] at h2
            exact List.length_eq_zero_iff.1 (by omega)
          · exact .inr h0
        cases hx <;> (try simp only at h) <;> try exact (err_ok h).elim
        case nilslice =>
          obtain ⟨rfl, rfl⟩ := ret_ok h
          refine .quiet (r := .int .i64 (0 : Nat)) hr ?_ (.int _ _) rfl rfl
          simp only [Builtin.copy_, ht, e0, e1, Sem.run_bind, run_underlying hd, Result.andThen_ok, Builtin.lenOf, Builtin.firstCells, run_sizeOf hn, goInt, Sem.run_pure, stores_nil]
          simp
        case str b =>
          cases hs1 : Nat.beq size 1
          · rw [hs1, cond_false] at h; exact (err_ok h).elim
          rw [hs1, cond_true] at h
          rw [nbeq_iff] at hs1; subst hs1
          obtain ⟨u, s1, h1, h2⟩ := bnd_ok h
          obtain ⟨rfl, rfl⟩ := ret_ok h2
          have hcut : (toNats b).take (min (toNats b).length len) = (b.extract 0 (min b.size len)).data.toList.map (·.toNat) := by
            rw [toNats_length, ByteArray.data_extract]
            simp [toNats, List.map_take]
          have hlen : (bytesV ((toNats b).take (min (toNats b).length len))).length = min b.size len := by simp [bytesV, toNats_length]
          obtain ⟨w', g1, g2⟩ := sim_stc_at (P := P) hr hp (hat hlen (by omega)) (by rw [hcut]; exact bytesV_rel _) h1
          refine ⟨μ, w', .int .i64 (min b.size len : Nat), ?_, by rw [toNats_length]; exact .int _ _, g2⟩
          simp only [Builtin.copy_, ht, e0, e1, Sem.run_bind, run_underlying hd, Result.andThen_ok, Builtin.lenOf, Builtin.firstCells, run_sizeOf hn, goInt, Sem.run_pure]
          have : Nat.min b.size len = min b.size len := rfl
          have hm : ((b.extract 0 (min b.size len)).data.map fun x => Value.int .u8 x.toNat).toList = (b.extract 0 (min b.size len)).data.toList.map fun x => Value.int .u8 x.toNat := by simp
          rw [this, hm, g1]
          simp only [Result.andThen_ok]
        case slice k2 o2 len2 cap2 cap2' p2 a2 hp2 hl2 hs2 =>
          obtain ⟨cs, s1, h1, h2⟩ := bnd_ok h
          obtain ⟨u, s2, h3, h4⟩ := bnd_ok h2
          obtain ⟨rfl, rfl⟩ := ret_ok h4
          obtain ⟨c, hg, hq, rfl, rfl⟩ := ld_ok h1
          obtain ⟨rs, g1, g2⟩ := run_loads (P := P) hr hg hp2 hq
          have hload : (loadCells a2 (min len2 len * size)).run P w = .ok ⟨rs⟩ w := by
            rcases hs2 with ⟨h0, _⟩ | ⟨h0, _⟩
            · have : len2 = 0 := by omega
              subst this
              have hrs : rs = [] := by
                have := g2.length
                rw [sub_length hq] at this; simp at this
                exact List.length_eq_zero_iff.1 this.symm
              subst hrs
              simp [loadCells, loadCellsFrom]
            · subst h0; exact g1
          obtain ⟨w', g3, g4⟩ := sim_stc_at (P := P) (s := { s with log := .rd k2 o2 (min len2 len * size) :: s.log }) hr hp (hat (sub_length hq) (Nat.mul_le_mul_right _ (Nat.min_le_right _ _))) g2 h3
          refine ⟨μ, w', .int .i64 (min len2 len : Nat), ?_, .int _ _, g4⟩
          simp only [Builtin.copy_, ht, e0, e1, Sem.run_bind, run_underlying hd, Result.andThen_ok, Builtin.lenOf, Builtin.firstCells, run_sizeOf hn, goInt, Sem.run_pure]
          have : Nat.min len2 len = min len2 len := rfl
          rw [this, hload]
          simp only [Result.andThen_ok, Sem.run_bind, g3, Sem.run_pure]

end
end Go.Lx

/-
  Each of the machine's operations is the model's, through the relation: maps.
-/
set_option linter.unusedSimpArgs false
set_option linter.unusedVariables false
namespace Go.Lx
noncomputable section
section
variable {P : Program} {μ : Mu} {ν : Nat → Value} {s s' : St} {w : World}

/-! ### Maps -/

theorem run_checkKey {t : TypeId} {d : TypeDesc} {k : V} {k' : Value} {b : Bool} {w2 : World} (hd : P.underlying t = some d) (hk : VRel μ ν k k') (ho : keyOk d k = true) : (Instr.checkKey b 10000 t k').run P w2 = .ok () w2 := by
  have e : (10000 : Nat) = 9999 + 1 := rfl
  rw [e]
  unfold Instr.checkKey
  rw [run_pure_bind (run_underlying hd)]
  cases d <;> cases k <;> simp [keyOk] at ho <;> cases hk <;> rfl

theorem sameKey_rel {d : TypeDesc} {x y : V} {x' y' : Value} {b : Bool} (hx : VRel μ ν x x') (hy : VRel μ ν y y') (h : sameKey d x y = some b) : Instr.sameNow d x' y' = some b := by
  cases d <;> cases x <;> cases y <;> simp only [sameKey] at h <;> try (cases h; done)
  case int.int.int k k1 n k2 m =>
    cases hx; cases hy
    simp only [Instr.sameNow]
    exact h
  case string.str.str a b =>
    cases hx; cases hy
    simp only [Instr.sameNow]
    rw [← h, eqNats_toNats]
  case bool.bool.bool a b =>
    cases hx; cases hy
    simp only [Instr.sameNow]
    exact h

/-- what a search tells, ours and the model's -/
def FRel (μ : Mu) (ν : Nat → Value) (d : TypeDesc) (k : V) (i : Nat) (es : List ME) : Option (Nat × V) → Option (Nat × Value) → Prop
  | none, none => True
  | some (j, v), some (j', v') => j = j' ∧ VRel μ ν v v' ∧ i ≤ j ∧ (∃ e, es[j - i]? = some e ∧ e.val = v ∧ sameKey d k e.key = some true)
  | _, _ => False

theorem findV_rel {d : TypeDesc} {k : V} {k' : Value} (hk : VRel μ ν k k') : ∀ {es : List ME} {es' : List MapEntry} {i : Nat} {r : Option (Nat × V)}, ESRel μ ν es es' → findV d k es i = some r →
    ∃ r', Instr.findNow d k' es' i = some r' ∧ FRel μ ν d k i es r r'
  | [], _, i, r, h, hf => by
    cases h
    injection hf with hf; subst hf
    exact ⟨none, rfl, trivial⟩
  | _ :: es, _, i, r, h, hf => by
    cases h with
    | cons hkk hv hs =>
      rename_i k2 v2 k2' v2' b es'
      unfold findV at hf
      cases hq : sameKey d k k2 with
      | none => simp only [hq] at hf; cases hf
      | some q =>
        have hn := sameKey_rel hk hkk hq
        cases q with
        | true =>
          simp only [hq] at hf
          injection hf with hf; subst hf
          refine ⟨some (i, v2'), by simp only [Instr.findNow, hn], rfl, hv, Nat.le_refl _, ⟨k2, v2, b⟩, by simp, rfl, hq⟩
        | false =>
          simp only [hq] at hf
          obtain ⟨r', g1, g2⟩ := findV_rel hk hs hf
          refine ⟨r', by simp only [Instr.findNow, hn]; exact g1, ?_⟩
          cases r with
          | none => cases r' <;> exact g2
          | some p =>
            obtain ⟨j, v⟩ := p
            cases r' with
            | none => exact g2
            | some p' =>
              obtain ⟨j', v'⟩ := p'
              obtain ⟨q1, q2, q3, e, q4, q5, q6⟩ := g2
              exact ⟨q1, q2, by omega, e, by rw [show j - i = (j - (i + 1)) + 1 by omega]; simpa using q4, q5, q6⟩

theorem run_findKey {t : TypeId} {d : TypeDesc} {k' : Value} {es' : List MapEntry} {r' : Option (Nat × Value)} {w2 : World} (hd : P.underlying t = some d) (h : Instr.findNow d k' es' 0 = some r') : (Instr.findKey t k' es').run P w2 = .ok r' w2 := by
  unfold Instr.findKey
  rw [run_pure_bind (run_underlying hd)]
  simp only [h]
  rfl

theorem sim_lookup {t : TypeId} {x k v : V} {x' k' : Value} {ok : Bool} (hr : Rel P μ ν s.heap w.heap) (hx : VRel μ ν x x') (hk : VRel μ ν k k') (h : lookupM P t x k ok s = .ok v s') : SimV P μ ν s s' w (Instr.lookup t x' k' ok) v := by
  unfold lookupM at h
  cases hd : P.underlying t with
  | none => simp only [hd] at h; exact (err_ok h).elim
  | some d =>
    cases d <;> simp only [hd] at h <;> try exact (err_ok h).elim
    rename_i key elem
    cases hdk : P.underlying key <;> cases hz : zeroT P elem <;> simp only [hdk, hz] at h <;> try exact (err_ok h).elim
    rename_i dk z
    cases hko : keyOk dk k
    · rw [hko, cond_false] at h; exact (err_ok h).elim
    rw [hko, cond_true] at h
    obtain ⟨es, s1, h1, h2⟩ := bnd_ok h
    obtain ⟨z', hz1, hz2⟩ := zeroT_run (μ := μ) (ν := ν) (w := w) hz
    have tail : ∀ {res : List MapEntry} (b : Bool), ESRel μ ν es res → ∃ r, (do
            Instr.checkKey b 10000 key k'
            match ← Instr.findKey key k' res with
              | some (_, v) => (do
                let x ← pure (v, true)
                pure (if ok = true then .tuple #[x.fst, .bool x.snd] else x.fst))
              | none => (do
                let z ← zeroValue elem
                let x ← pure (z, false)
                pure (if ok = true then .tuple #[x.fst, .bool x.snd] else x.fst)) : Sem Value).run P w = .ok r w ∧ VRel μ ν v r ∧ s' = s1 := by
      intro res b e2
      have hck := run_checkKey (P := P) (b := b) (w2 := w) hdk hk hko
      cases hfv : findV dk k es 0 with
      | none => simp only [hfv] at h2; exact (err_ok h2).elim
      | some r =>
        obtain ⟨r', f1, f2⟩ := findV_rel hk e2 hfv
        have hfk := run_findKey (P := P) (w2 := w) hdk f1
        simp only [hfv] at h2
        simp only [Sem.run_bind, hck, Result.andThen_ok, hfk]
        cases r with
        | none =>
          cases r' with
          | none =>
            simp only at h2
            obtain ⟨rfl, rfl⟩ := ret_ok h2
            refine ⟨if ok = true then .tuple #[z', .bool false] else z', by simp only [Sem.run_bind, hz1, Result.andThen_ok, Sem.run_pure], ?_, rfl⟩
            cases ok
            · exact hz2
            · exact .tuple (.cons hz2 (.cons (.bool _) .nil))
          | some p' => exact f2.elim
        | some p =>
          obtain ⟨j, v1⟩ := p
          cases r' with
          | none => exact f2.elim
          | some p' =>
            obtain ⟨j', v1'⟩ := p'
            simp only at h2
            obtain ⟨rfl, rfl⟩ := ret_ok h2
            refine ⟨if ok = true then .tuple #[v1', .bool true] else v1', by simp only [Sem.run_bind, Result.andThen_ok, Sem.run_pure], ?_, rfl⟩
            cases ok
            · exact f2.2.1
            · exact .tuple (.cons f2.2.1 (.cons (.bool _) .nil))
    unfold entriesOf at h1
    cases hx <;> (try simp only at h1) <;> try exact (err_ok h1).elim
    case nilmap =>
      obtain ⟨rfl, rfl⟩ := ret_ok h1
      obtain ⟨r, g1, g2, rfl⟩ := tail (Array.isEmpty (#[] : Array MapEntry)) ESRel.nil
      refine .quiet hr ?_ g2 rfl rfl
      unfold Instr.lookup
      rw [run_pure_bind (run_underlying hd)]
      simp only [pure_bind]
      exact g1
    case map r p hp =>
      obtain ⟨ob, s2, g1, g2⟩ := bnd_ok h1
      obtain ⟨k1, k2, rfl⟩ := getO_ok g1
      cases ob <;> (try simp only at g2) <;> try exact (err_ok g2).elim
      obtain ⟨rfl, rfl⟩ := ret_ok g2
      obtain ⟨res, h3, h4⟩ := getO_rel hr hp k1
      obtain ⟨r, q1, q2, rfl⟩ := tail (Array.isEmpty (⟨res⟩ : Array MapEntry)) h4
      refine .quiet hr ?_ q2 rfl rfl
      unfold Instr.lookup
      rw [run_pure_bind (run_underlying hd)]
      simp only []
      rw [run_pure_bind (run_getObj_map h3)]
      simp only [pure_bind]
      exact q1

theorem run_setObj {r : Nat} {o : Obj} {o' : Obj} (h : w.heap[r]? = some o) (hc : ∀ c e f, o ≠ .cells c e f) : (setObj r o').run P w = .ok () { w with heap := w.heap.setIfInBounds r o' } := by
  simp only [setObj, Sem.run, h]

theorem run_getObj {r : Nat} {o : Obj} (h : w.heap[r]? = some o) (hc : ∀ c e f, o ≠ .cells c e f) : (getObj r).run P w = .ok o w := by
  simp only [getObj, Sem.run, h]

theorem wrote_set {r : Nat} {o : Obj} : Wrote w { w with heap := w.heap.setIfInBounds r o } r :=
  ⟨rfl, rfl, rfl, by simp, fun b hb => by simp only [Array.getElem?_setIfInBounds_ne (Ne.symm hb)]⟩

theorem set_at {r : Nat} {o o' : Obj} (h : w.heap[r]? = some o) : (w.heap.setIfInBounds r o')[r]? = some o' := by
  have := (Array.getElem?_eq_some_iff.1 h).1
  simp [this]

/-- a map's entries turn -/
theorem step_map {r : Nat} {p : Pl} {ob : Ob} {es : List ME} {res : List MapEntry} {clock : Nat} {o : Obj} {n : Nat} (hr : Rel P μ ν s.heap w.heap) (hg : s.heap.get r = some ob) (hp : μ r = some p) (hw : w.heap[p.blk]? = some o) (he : ESRel μ ν es res) (h0r : ob.isRo = false := by rfl) :
    StepOk P μ ν s.heap n w μ (s.heap.set r (some (.map es clock))) n { w with heap := w.heap.setIfInBounds p.blk (.map ⟨res⟩ clock) } :=
  StepOk.wrote hr hg hp wrote_set ⟨res, set_at hw, he⟩

theorem modifyE_rel {f : ME → ME} {g : MapEntry → MapEntry} (hfg : ∀ {k v : V} {k' v' : Value} {b : Nat}, VRel μ ν k k' → VRel μ ν v v' → VRel μ ν (f ⟨k, v, b⟩).key (g ⟨k', v', b⟩).key ∧ VRel μ ν (f ⟨k, v, b⟩).val (g ⟨k', v', b⟩).val ∧ (f ⟨k, v, b⟩).born = b ∧ (g ⟨k', v', b⟩).born = b) :
    ∀ {es : List ME} {es' : List MapEntry} (i : Nat), ESRel μ ν es es' → ESRel μ ν (modifyE es i f) ((⟨es'⟩ : Array MapEntry).modify i g).toList := by
  intro es es' i h
  rw [Array.toList_modify]
  induction h generalizing i with
  | nil => cases i <;> exact .nil
  | @cons k v k' v' b es es' hk hv hs ih =>
    cases i with
    | zero =>
      simp only [modifyE]
      obtain ⟨h1, h2, h3, h4⟩ := hfg (b := b) hk hv
      have e1 : f ⟨k, v, b⟩ = ⟨(f ⟨k, v, b⟩).key, (f ⟨k, v, b⟩).val, b⟩ := by
        conv => lhs; rw [show f ⟨k, v, b⟩ = ⟨(f ⟨k, v, b⟩).key, (f ⟨k, v, b⟩).val, (f ⟨k, v, b⟩).born⟩ from rfl, h3]
      have e2 : g ⟨k', v', b⟩ = ⟨(g ⟨k', v', b⟩).key, (g ⟨k', v', b⟩).val, b⟩ := by
        conv => lhs; rw [show g ⟨k', v', b⟩ = ⟨(g ⟨k', v', b⟩).key, (g ⟨k', v', b⟩).val, (g ⟨k', v', b⟩).born⟩ from rfl, h4]
      show ESRel μ ν _ (g ⟨k', v', b⟩ :: es')
      rw [e1, e2]
      exact .cons h1 h2 hs
    | succ i =>
      simp only [modifyE]
      exact .cons hk hv (ih i)

theorem eraseE_rel : ∀ {es : List ME} {es' : List MapEntry} (i : Nat), ESRel μ ν es es' → ESRel μ ν (eraseE es i) ((⟨es'⟩ : Array MapEntry).eraseIdxIfInBounds i).toList := by
  intro es es' i h
  have e : ((⟨es'⟩ : Array MapEntry).eraseIdxIfInBounds i).toList = es'.eraseIdx i := by simp
  rw [e]
  induction h generalizing i with
  | nil => cases i <;> exact .nil
  | @cons k v k' v' b es es' hk hv hs ih =>
    cases i with
    | zero => exact hs
    | succ i => exact .cons hk hv (ih i (by simp))

theorem ESRel.snoc {es : List ME} {es' : List MapEntry} {k v : V} {k' v' : Value} {b : Nat} (h : ESRel μ ν es es') (hk : VRel μ ν k k') (hv : VRel μ ν v v') : ESRel μ ν (es ++ [⟨k, v, b⟩]) (es' ++ [⟨k', v', b⟩]) := by
  induction h with
  | nil => exact .cons hk hv .nil
  | cons hk' hv' _ ih => exact .cons hk' hv' ih

theorem ESRel.get {es : List ME} {es' : List MapEntry} (h : ESRel μ ν es es') : ∀ {i : Nat} {e : ME}, es[i]? = some e → ∃ e', es'[i]? = some e' ∧ VRel μ ν e.key e'.key ∧ VRel μ ν e.val e'.val ∧ e.born = e'.born := by
  induction h with
  | nil => intro i e h; simp at h
  | cons hk hv _ ih =>
    intro i e h
    cases i with
    | zero => simp at h; subst h; exact ⟨⟨_, _, _⟩, rfl, hk, hv, rfl⟩
    | succ i => simpa using ih (by simpa using h)

/-- the key that stays is the new one: they are alike to the bit -/
theorem run_keyStays {d : TypeDesc} {k k2 : V} {k' k2' : Value} (hk : VRel μ ν k k') (hk2 : VRel μ ν k2 k2') (h : sameKey d k k2 = some true) : (Instr.keyThatStays k2' k').run P w = .ok k' w := by
  have hb : Instr.sameBits 10000 k2' k' = true := by
    have e : (10000 : Nat) = 9999 + 1 := rfl
    rw [e]
    cases d <;> cases k <;> cases k2 <;> simp only [sameKey] at h <;> try (cases h; done)
    case int.int.int kd k1 n k2 m =>
      cases hk; cases hk2
      split at h
      · rename_i e; subst e
        injection h with h
        have : n = m := by simpa using h
        subst this
        simp [Instr.sameBits]
      · cases h
    case string.str.str =>
      cases hk; cases hk2
      rename_i a b
      injection h with h
      rw [eqNats_iff, toNats_inj] at h
      subst h
      simp only [Instr.sameBits]
      have hb : (a == a) = (a.data == a.data) := rfl
      rw [hb]; simp
    case bool.bool.bool a b =>
      cases hk; cases hk2
      injection h with h
      have : a = b := by simpa using h
      subst this
      simp [Instr.sameBits]
  simp only [Instr.keyThatStays, hb, if_true, Sem.run_pure]

theorem sim_mapUpdate {t : TypeId} {m k v u : V} {m' k' v' : Value} (hr : Rel P μ ν s.heap w.heap) (hm : VRel μ ν m m') (hk : VRel μ ν k k') (hv : VRel μ ν v v') (h : mapUpdateM P t m k v s = .ok u s') :
    u = undefV ∧ ∃ w', (Instr.mapUpdate t m' k' v').run P w = .ok () w' ∧ StepOk P μ ν s.heap s.next w μ s'.heap s'.next w' := by
  unfold mapUpdateM at h
  cases hd : P.underlying t with
  | none => simp only [hd] at h; exact (err_ok h).elim
  | some d =>
    cases d <;> simp only [hd] at h <;> try exact (err_ok h).elim
    rename_i key elem
    cases hdk : P.underlying key <;> simp only [hdk] at h <;> try exact (err_ok h).elim
    rename_i dk
    cases hm <;> (try simp only at h) <;> try exact (err_ok h).elim
    rename_i r p hp
    cases hko : keyOk dk k
    · rw [hko, cond_false] at h; exact (err_ok h).elim
    rw [hko, cond_true] at h
    obtain ⟨ob, s1, h1, h2⟩ := bnd_ok h
    obtain ⟨g1, g2, rfl⟩ := getO_ok h1
    cases ob <;> (try simp only at h2) <;> try exact (err_ok h2).elim
    rename_i es clock
    obtain ⟨res, h3, h4⟩ := getO_rel hr hp g1
    have hck := run_checkKey (P := P) (b := false) (w2 := w) hdk hk hko
    cases hfv : findV dk k es 0 with
    | none => simp only [hfv] at h2; exact (err_ok h2).elim
    | some q =>
      obtain ⟨q', f1, f2⟩ := findV_rel hk h4 hfv
      have hfk := run_findKey (P := P) (w2 := w) hdk f1
      simp only [hfv] at h2
      cases q with
      | none =>
        cases q' with
        | some p' => exact f2.elim
        | none =>
          simp only at h2
          obtain ⟨u1, s2, h5, h6⟩ := bnd_ok h2
          obtain ⟨rfl, rfl⟩ := ret_ok h6
          obtain ⟨o', k1, k2, k3, rfl⟩ := setO_ok h5
          refine ⟨rfl, _, ?_, step_map (clock := clock + 1) hr g1 hp h3 (h4.snoc hk hv)⟩
          unfold Instr.mapUpdate
          rw [run_pure_bind (run_underlying hd)]
          simp only []
          rw [run_pure_bind (run_getObj_map h3)]
          simp only []
          rw [run_pure_bind hck]
          rw [run_pure_bind hfk]
          simp only []
          rw [run_setObj h3 (by intro _ _ _ e; cases e)]
          simp
      | some q =>
        obtain ⟨j, v1⟩ := q
        cases q' with
        | none => exact f2.elim
        | some p' =>
          obtain ⟨j', v1'⟩ := p'
          obtain ⟨rfl, _, _, e, e1, e2, e3⟩ := f2
          rw [Nat.sub_zero] at e1
          obtain ⟨e', e4, e5, e6, e7⟩ := h4.get e1
          simp only at h2
          obtain ⟨u1, s2, h5, h6⟩ := bnd_ok h2
          obtain ⟨rfl, rfl⟩ := ret_ok h6
          obtain ⟨o', k1, k2, k3, rfl⟩ := setO_ok h5
          have hmod := modifyE_rel (μ := μ) (ν := ν) (f := fun e => { e with key := k, val := v }) (g := fun e => { e with key := k', val := v' }) (fun _ _ => ⟨hk, hv, rfl, rfl⟩) j h4
          refine ⟨rfl, _, ?_, step_map (clock := clock) hr g1 hp h3 hmod⟩
          unfold Instr.mapUpdate
          rw [run_pure_bind (run_underlying hd)]
          simp only []
          rw [run_pure_bind (run_getObj_map h3)]
          simp only []
          rw [run_pure_bind hck]
          rw [run_pure_bind hfk]
          simp only []
          have hold : (((⟨res⟩ : Array MapEntry)[j]?).map (·.key)).getD k' = e'.key := by
            have : (⟨res⟩ : Array MapEntry)[j]? = some e' := by simpa using e4
            rw [this]; rfl
          rw [hold, run_pure_bind (run_keyStays hk e5 e3)]
          rw [run_setObj h3 (by intro _ _ _ e; cases e)]

theorem sim_delete {t : TypeId} {m k u : V} {m' k' : Value} {ts : Array TypeId} {ty : TypeId} (hr : Rel P μ ν s.heap w.heap) (ht : ts[0]? = some t) (hm : VRel μ ν m m') (hk : VRel μ ν k k') (h : deleteM P t m k s = .ok u s') :
    SimV P μ ν s s' w (Builtin.delete_ ts ty #[m', k']) u := by
  have a0 : (#[m', k'] : Array Value)[0]? = some m' := rfl
  have a1 : (#[m', k'] : Array Value)[1]? = some k' := rfl
  unfold deleteM at h
  cases hd : P.underlying t with
  | none => simp only [hd] at h; exact (err_ok h).elim
  | some d =>
    cases d <;> simp only [hd] at h <;> try exact (err_ok h).elim
    rename_i key elem
    cases hdk : P.underlying key <;> simp only [hdk] at h <;> try exact (err_ok h).elim
    rename_i dk
    cases hm <;> (try simp only at h) <;> try exact (err_ok h).elim
    case nilmap =>
      cases hko : keyOk dk k
      · rw [hko, cond_false] at h; exact (err_ok h).elim
      rw [hko, cond_true] at h
      obtain ⟨rfl, rfl⟩ := ret_ok h
      refine .quiet (r := .tuple #[]) hr ?_ (.tuple .nil) rfl rfl
      have hck := run_checkKey (P := P) (b := true) (w2 := w) hdk hk hko
      unfold Builtin.delete_
      simp only [ht, a0, a1]
      rw [run_pure_bind (run_underlying hd)]
      simp only []
      rw [run_pure_bind hck]
      rfl
    case map r p hp =>
      cases hko : keyOk dk k
      · rw [hko, cond_false] at h; exact (err_ok h).elim
      rw [hko, cond_true] at h
      obtain ⟨ob, s1, h1, h2⟩ := bnd_ok h
      obtain ⟨g1, g2, rfl⟩ := getO_ok h1
      cases ob <;> (try simp only at h2) <;> try exact (err_ok h2).elim
      rename_i es clock
      obtain ⟨res, h3, h4⟩ := getO_rel hr hp g1
      cases hfv : findV dk k es 0 with
      | none => simp only [hfv] at h2; exact (err_ok h2).elim
      | some q =>
        obtain ⟨q', f1, f2⟩ := findV_rel hk h4 hfv
        have hck := fun b => run_checkKey (P := P) (b := b) (w2 := w) hdk hk hko
        have hfk := run_findKey (P := P) (w2 := w) hdk f1
        simp only [hfv] at h2
        cases q with
        | none =>
          cases q' with
          | some p' => exact f2.elim
          | none =>
            simp only at h2
            obtain ⟨u1, s2, h5, h6⟩ := bnd_ok h2
            obtain ⟨rfl, rfl⟩ := ret_ok h6
            obtain ⟨o', k1, k2, k3, rfl⟩ := setO_ok h5
            refine ⟨μ, _, .tuple #[], ?_, .tuple .nil, step_map (clock := clock) hr g1 hp h3 h4⟩
            unfold Builtin.delete_
            simp only [ht, a0, a1]
            rw [run_pure_bind (run_underlying hd)]
            simp only []
            rw [run_pure_bind (run_getObj_map h3)]
            simp only []
            rw [run_pure_bind (hck _), run_pure_bind hfk]
            simp only []
            rw [run_pure_bind (run_setObj h3 (by intro _ _ _ e; cases e))]
            rfl
        | some q =>
          obtain ⟨j, v1⟩ := q
          cases q' with
          | none => exact f2.elim
          | some p' =>
            obtain ⟨j', v1'⟩ := p'
            obtain ⟨rfl, _, _, e, e1, e2, e3⟩ := f2
            simp only at h2
            obtain ⟨u1, s2, h5, h6⟩ := bnd_ok h2
            obtain ⟨rfl, rfl⟩ := ret_ok h6
            obtain ⟨o', k1, k2, k3, rfl⟩ := setO_ok h5
            refine ⟨μ, _, .tuple #[], ?_, .tuple .nil, step_map (clock := clock) hr g1 hp h3 (eraseE_rel j h4)⟩
            unfold Builtin.delete_
            simp only [ht, a0, a1]
            rw [run_pure_bind (run_underlying hd)]
            simp only []
            rw [run_pure_bind (run_getObj_map h3)]
            simp only []
            rw [run_pure_bind (hck _), run_pure_bind hfk]
            simp only []
            rw [run_pure_bind (run_setObj h3 (by intro _ _ _ e; cases e))]
            rfl

end
end
end Go.Lx

/-
  Each of the machine's operations is the model's, through the relation: clear, ranges.
-/
set_option linter.unusedSimpArgs false
set_option linter.unusedVariables false
namespace Go.Lx

theorem dec_eq (b : ByteArray) (pos : Nat) : Utf8.decode b pos = dec ((toNats b).drop pos) := by
  have h1 : ∀ k, (b.get! (pos + k)).toNat = ((toNats b).drop pos).getD k 0 := by
    intro k
    rw [List.getD_eq_getElem?_getD, List.getElem?_drop, toNats_get]
    by_cases h : pos + k < b.size
    · have hd : pos + k < b.data.size := h
      have e : b[pos + k]? = some b[pos + k] := getElem?_pos b _ h
      rw [e]
      show (b.data[pos + k]!).toNat = _
      rw [getElem!_pos b.data (pos + k) hd]
      rfl
    · have hd : ¬ pos + k < b.data.size := h
      have e : b[pos + k]? = none := getElem?_neg b _ h
      rw [e]
      show (b.data[pos + k]!).toNat = _
      rw [getElem!_neg b.data (pos + k) hd]
      rfl
  have h2 : ∀ k, (pos + k < b.size) = (k < ((toNats b).drop pos).length) := by
    intro k; rw [List.length_drop, toNats_length]; apply propext; omega
  unfold Utf8.decode dec
  simp only [h1, h2]
  generalize (toNats b).drop pos = l
  have e1 : ∀ a c : Nat, Nat.beq a c = (a == c) := fun a c => by rw [Bool.eq_iff_iff, nbeq_iff, beq_iff_eq]
  have e2 : ∀ a c : Nat, Nat.blt a c = decide (a < c) := fun a c => by rw [Bool.eq_iff_iff, blt_iff, decide_eq_true_eq]
  have e3 : ∀ a c : Nat, Nat.ble a c = decide (a ≤ c) := fun a c => by rw [Bool.eq_iff_iff, ble_iff, decide_eq_true_eq]
  simp only [e1, e2, e3, Bool.cond_eq_ite, decide_eq_true_eq, Bool.and_eq_true, beq_iff_eq, ge_iff_le]

section
variable {P : Program} {μ : Mu} {ν : Nat → Value} {s s' : St} {w : World}

theorem sim_newIter {ob : Ob} {O : Obj} {v : V} (hr : Rel P μ ν s.heap w.heap) (hf : Fresh μ s s') (ho : ∀ μ' H, Mu.le μ μ' → H[w.heap.size]? = some O → ORel P μ' ν ⟨w.heap.size, 0, false, 0, 0⟩ H ob) (h : bnd (alloc ob) (fun k => ret (.ptr k 0)) s = .ok v s') :
    ∃ μ', VRel μ' ν v (.pointer (some ⟨w.heap.size, 0, none⟩)) ∧ StepOk P μ ν s.heap s.next w μ' s'.heap s'.next { w with heap := w.heap.push O } := by
  obtain ⟨k, s1, h1, h2⟩ := bnd_ok h
  obtain ⟨rfl, rfl⟩ := ret_ok h2
  obtain ⟨rfl, rfl⟩ := alloc_ok h1
  have hk : μ s.next = none := hf _ (Nat.le_refl _) (Nat.lt_succ_self _)
  exact ⟨_, ptr_new rfl rfl, StepOk.alloc (d := w.drawn) hr hk rfl (ho _ _ (upd_le _ hk) (by simp))⟩

theorem sim_range {t : TypeId} {x v : V} {x' : Value} (hr : Rel P μ ν s.heap w.heap) (hf : Fresh μ s s') (hx : VRel μ ν x x') (h : rangeM P t x s = .ok v s') : SimV P μ ν s s' w (Instr.range t x') v := by
  unfold rangeM at h
  cases hd : P.underlying t with
  | none => simp only [hd] at h; exact (err_ok h).elim
  | some d =>
    cases d <;> simp only [hd] at h <;> try exact (err_ok h).elim
    case string =>
      cases hx <;> (try simp only at h) <;> try exact (err_ok h).elim
      rename_i b
      obtain ⟨μ', g1, g2⟩ := sim_newIter (ob := .siter (toNats b) 0) (O := .stringIter b 0) hr hf (fun μ' H _ hH => ⟨rfl, b, rfl, hH⟩) h
      refine ⟨μ', _, _, ?_, g1, g2⟩
      unfold Instr.range
      rw [run_pure_bind (run_underlying hd)]
      simp only [pure_bind, Sem.run_bind, run_newObj, Result.andThen_ok, Sem.run_pure]
    case map kt et =>
      cases hx <;> (try simp only at h) <;> try exact (err_ok h).elim
      case nilmap =>
        obtain ⟨μ', g1, g2⟩ := sim_newIter (ob := .miter none 0 [] 0) (O := .mapIter none 0 #[] 0) hr hf (fun μ' H _ hH => ⟨rfl, hH⟩) h
        refine ⟨μ', _, _, ?_, g1, g2⟩
        unfold Instr.range
        rw [run_pure_bind (run_underlying hd)]
        simp only [pure_bind, Sem.run_bind, run_newObj, Result.andThen_ok, Sem.run_pure]
      case map m p hp =>
        obtain ⟨ob, s1, h1, h2⟩ := bnd_ok h
        obtain ⟨g1, g2, rfl⟩ := getO_ok h1
        cases ob <;> (try simp only at h2) <;> try exact (err_ok h2).elim
        rename_i es clock
        obtain ⟨res, h3, h4⟩ := getO_rel hr hp g1
        obtain ⟨μ', k1, k2⟩ := sim_newIter (s := { s with log := .rdd m :: s.log }) (ob := .miter (some m) clock [] clock) (O := .mapIter (some p.blk) clock #[] clock) hr hf (fun μ' H hm hH => ⟨rfl, p, hm _ _ hp, hH⟩) h2
        refine ⟨μ', _, _, ?_, k1, k2⟩
        unfold Instr.range
        rw [run_pure_bind (run_underlying hd)]
        simp only []
        rw [run_pure_bind (run_getObj_map h3)]
        simp only [pure_bind, Sem.run_bind, run_newObj, Result.andThen_ok, Sem.run_pure]

theorem memNat_eq : ∀ (l : List Nat) (n : Nat), memNat n l = l.contains n
  | [], n => rfl
  | m :: l, n => by
    simp only [memNat, List.contains_cons, memNat_eq l n]
    congr 1
    rw [Bool.eq_iff_iff, nbeq_iff, beq_iff_eq]

theorem unseen_rel {seen : List Nat} {es : List ME} {es' : List MapEntry} (h : ESRel μ ν es es') : ESRel μ ν (unseen seen es) (es'.filter fun e => !(⟨seen⟩ : Array Nat).contains e.born) := by
  induction h with
  | nil => exact .nil
  | @cons k v k' v' b es es' hk hv hs ih =>
    have hc : (⟨seen⟩ : Array Nat).contains b = memNat b seen := by rw [memNat_eq]; simp
    simp only [unseen, List.filter_cons, hc]
    cases hb : memNat b seen
    · simp only [cond_false, Bool.not_false, if_true]; exact .cons hk hv ih
    · simp only [cond_true, Bool.not_true, Bool.false_eq_true, if_false]; exact ih

theorem allFrom_rel {last : Nat} {es : List ME} {es' : List MapEntry} (h : ESRel μ ν es es') : allFrom last es = es'.all fun e => decide (e.born ≥ last) := by
  induction h with
  | nil => rfl
  | @cons k v k' v' b es es' hk hv hs ih =>
    simp only [allFrom, List.all_cons, ih]
    congr 1
    rw [Bool.eq_iff_iff, ble_iff, decide_eq_true_eq]

theorem ESRel.isEmpty {es : List ME} {es' : List MapEntry} (h : ESRel μ ν es es') : es.isEmpty = es'.isEmpty := by cases h <;> rfl

theorem sim_next {it v : V} {it' : Value} {isString : Bool} {t : TypeId} (hr : Rel P μ ν s.heap w.heap) (hx : VRel μ ν it it') (h : nextM it isString s = .ok v s') : SimV P μ ν s s' w (Instr.next it' isString t) v := by
  unfold nextM at h
  cases hx <;> (try simp only at h) <;> try exact (err_ok h).elim
  rename_i r o p hp
  cases o with
  | succ o => exact (err_ok h).elim
  | zero =>
    simp only at h
    obtain ⟨ob, s1, h1, h2⟩ := bnd_ok h
    obtain ⟨g1, g2, rfl⟩ := getO_ok h1
    have ho := getO_rel hr hp g1
    cases ob <;> cases isString <;> (try simp only at h2) <;> try exact (err_ok h2).elim
    case siter.true l pos =>
      obtain ⟨h0, b, rfl, hb⟩ := ho
      have hgo := run_getObj (P := P) hb (by intro _ _ _ e; cases e)
      cases hlt : Nat.blt pos (toNats b).length
      · rw [hlt, cond_false] at h2
        obtain ⟨rfl, rfl⟩ := ret_ok h2
        rw [blt_false, toNats_length] at hlt
        refine .quiet (r := .tuple #[.bool false]) hr ?_ (.tuple (.cons (.bool _) .nil)) rfl rfl
        unfold Instr.next
        simp only [h0]
        rw [run_pure_bind hgo]
        simp only [Sem.run_ite]
        rw [if_neg (by omega)]
        rfl
      · rw [hlt, cond_true] at h2
        rw [blt_iff, toNats_length] at hlt
        obtain ⟨u, s2, h3, h4⟩ := bnd_ok h2
        obtain ⟨rfl, rfl⟩ := ret_ok h4
        obtain ⟨o', k1, k2, k3, rfl⟩ := setO_ok h3
        refine ⟨μ, { w with heap := w.heap.setIfInBounds p.blk (.stringIter b (pos + (dec ((toNats b).drop pos)).2)) }, .tuple #[.bool true, .int .i64 pos, .int .i32 (dec ((toNats b).drop pos)).1], ?_, .tuple (.cons (.bool _) (.cons (.int _ _) (.cons (.int _ _) .nil))), ?_⟩
        · unfold Instr.next
          simp only [h0]
          rw [run_pure_bind hgo]
          simp only [Sem.run_ite]
          rw [if_pos hlt, dec_eq]
          rw [run_pure_bind (run_setObj hb (by intro _ _ _ e; cases e))]
          rfl
        · exact StepOk.wrote hr g1 hp wrote_set ⟨h0, b, rfl, set_at hb⟩
    case miter.false m since seen last =>
      cases m with
      | none =>
        simp only at h2
        obtain ⟨rfl, rfl⟩ := ret_ok h2
        obtain ⟨h0, hb⟩ := ho
        have hgo := run_getObj (P := P) hb (by intro _ _ _ e; cases e)
        refine .quiet (r := .tuple #[.bool false]) hr ?_ (.tuple (.cons (.bool _) .nil)) rfl rfl
        unfold Instr.next
        simp only [h0]
        rw [run_pure_bind hgo]
        rfl
      | some m =>
        simp only at h2
        obtain ⟨h0, q, hq, hb⟩ := ho
        have hgo := run_getObj (P := P) hb (by intro _ _ _ e; cases e)
        obtain ⟨ob2, s2, h3, h4⟩ := bnd_ok h2
        obtain ⟨g3, g4, rfl⟩ := getO_ok h3
        have ho2 := getO_rel hr hq g3
        cases ob2 <;> (try simp only at h4) <;> try exact (err_ok h4).elim
        rename_i es clock
        obtain ⟨res, h5, h6⟩ := ho2
        have hgm := run_getObj_map (P := P) h5
        cases hgone : (!seen.isEmpty && !es.isEmpty && allFrom last es)
        case true => rw [hgone, cond_true] at h4; exact (err_ok h4).elim
        rw [hgone, cond_false] at h4
        have hgone' : (!(⟨seen⟩ : Array Nat).isEmpty && !(⟨res⟩ : Array MapEntry).isEmpty && (⟨res⟩ : Array MapEntry).all fun x => decide (x.born ≥ last)) = false := by
          have e1 : (⟨seen⟩ : Array Nat).isEmpty = seen.isEmpty := by cases seen <;> simp
          have e2 : (⟨res⟩ : Array MapEntry).isEmpty = es.isEmpty := by rw [h6.isEmpty]; cases res <;> simp
          have e3 : ((⟨res⟩ : Array MapEntry).all fun x => decide (x.born ≥ last)) = allFrom last es := by rw [allFrom_rel h6]; simp
          rw [e1, e2, e3]; exact hgone
        have hun := unseen_rel (μ := μ) (ν := ν) (seen := seen) h6
        have hleft : (⟨res⟩ : Array MapEntry).filter (fun e => !(⟨seen⟩ : Array Nat).contains e.born) = ⟨res.filter fun e => !(⟨seen⟩ : Array Nat).contains e.born⟩ := by
          apply Array.ext'; simp
        have hch : (Question.mapNext 1).forced = true := rfl
        unfold Instr.next
        simp only [h0]
        cases hus : unseen seen es with
        | nil =>
          simp only [hus] at h4
          obtain ⟨rfl, rfl⟩ := ret_ok h4
          rw [hus] at hun
          cases hl : res.filter (fun e => !(⟨seen⟩ : Array Nat).contains e.born) with
          | cons a l => rw [hl] at hun; cases hun
          | nil =>
            refine .quiet (r := .tuple #[.bool false]) hr ?_ (.tuple (.cons (.bool _) .nil)) rfl rfl
            rw [run_pure_bind hgo]
            simp only []
            rw [run_pure_bind hgm]
            simp only [hgone', hleft, hl, Bool.false_eq_true, if_false]
            simp [Question.forced]
        | cons e rest =>
          cases rest with
          | cons e2 rest => simp only [hus] at h4; exact (err_ok h4).elim
          | nil =>
            simp only [hus] at h4
            cases hbs : Nat.blt e.born since
            · rw [hbs, cond_false] at h4; exact (err_ok h4).elim
            rw [hbs, cond_true] at h4
            rw [blt_iff] at hbs
            obtain ⟨u, s3, h7, h8⟩ := bnd_ok h4
            obtain ⟨rfl, rfl⟩ := ret_ok h8
            obtain ⟨o', k1, k2, k3, rfl⟩ := setO_ok h7
            rw [hus] at hun
            cases hl : res.filter (fun e => !(⟨seen⟩ : Array Nat).contains e.born) with
            | nil => rw [hl] at hun; cases hun
            | cons a l =>
              rw [hl] at hun
              cases hun with
              | cons hk hv hs =>
                rename_i k v1 k' v1' b
                cases hs
                refine ⟨μ, { w with heap := w.heap.setIfInBounds p.blk (.mapIter (some q.blk) since ((⟨seen⟩ : Array Nat).push b) clock) }, .tuple #[.bool true, k', v1'], ?_, .tuple (.cons (.bool _) (.cons hk (.cons hv .nil))), ?_⟩
                · rw [run_pure_bind hgo]
                  simp only []
                  rw [run_pure_bind hgm]
                  simp only [hgone', hleft, hl, Bool.false_eq_true, if_false]
                  have ho1 : (⟨[⟨k', v1', b⟩]⟩ : Array MapEntry).filter (fun x => decide (x.born < since)) = #[⟨k', v1', b⟩] := by
                    apply Array.ext'; simp; exact hbs
                  have ho2 : (⟨[⟨k', v1', b⟩]⟩ : Array MapEntry).filter (fun x => decide (x.born ≥ since)) = #[] := by
                    apply Array.ext'; simp; exact hbs
                  rw [ho1, ho2]
                  simp [Question.forced]
                  rw [run_setObj hb (by intro _ _ _ e; cases e)]
                  rfl
                · refine StepOk.wrote hr g1 hp wrote_set ⟨h0, q, hq, ?_⟩
                  rw [set_at hb]
                  simp

theorem findBorn_rel {b : Nat} {es : List ME} {es' : List MapEntry} (h : ESRel μ ν es es') {e : ME} (hf : findBorn b es = some e) : ∃ e', es'.find? (fun x => x.born == b) = some e' ∧ VRel μ ν e.key e'.key ∧ VRel μ ν e.val e'.val := by
  induction h with
  | nil => cases hf
  | @cons k v k' v' c es es' hk hv hs ih =>
    simp only [findBorn] at hf
    cases hb : Nat.beq c b
    · rw [hb, cond_false] at hf
      rw [nbeq_false] at hb
      obtain ⟨e', h1, h2⟩ := ih hf
      refine ⟨e', ?_, h2⟩
      rw [List.find?_cons_of_neg (by simpa using hb)]
      exact h1
    · rw [hb, cond_true] at hf
      rw [nbeq_iff] at hb
      injection hf with hf; subst hf
      exact ⟨⟨k', v', c⟩, by rw [List.find?_cons_of_pos (by simpa using hb)], hk, hv⟩

theorem lastN_eq : ∀ (l : List Nat), lastN l = l.getLast?
  | [] => rfl
  | [a] => rfl
  | a :: b :: l => by rw [lastN, lastN_eq (b :: l), List.getLast?_cons_cons]; intro h; cases h

theorem sim_entry {it v : V} {it' : Value} (hr : Rel P μ ν s.heap w.heap) (hx : VRel μ ν it it') (h : entryM it s = .ok v s') : SimV P μ ν s s' w (Instr.entry it') v := by
  unfold entryM at h
  cases hx <;> (try simp only at h) <;> try exact (err_ok h).elim
  rename_i r o p hp
  cases o with
  | succ o => exact (err_ok h).elim
  | zero =>
    simp only at h
    obtain ⟨ob, s1, h1, h2⟩ := bnd_ok h
    obtain ⟨g1, g2, rfl⟩ := getO_ok h1
    have ho := getO_rel hr hp g1
    cases ob <;> (try simp only at h2) <;> try exact (err_ok h2).elim
    rename_i m since seen stepped
    cases m <;> (try simp only at h2) <;> try exact (err_ok h2).elim
    rename_i m
    obtain ⟨h0, q, hq, hb⟩ := ho
    have hgo := run_getObj (P := P) hb (by intro _ _ _ e; cases e)
    cases hl : lastN seen with
    | none => simp only [hl] at h2; exact (err_ok h2).elim
    | some b =>
      simp only [hl] at h2
      obtain ⟨ob2, s2, h3, h4⟩ := bnd_ok h2
      obtain ⟨g3, g4, rfl⟩ := getO_ok h3
      have ho2 := getO_rel hr hq g3
      cases ob2 <;> (try simp only at h4) <;> try exact (err_ok h4).elim
      rename_i es clock
      obtain ⟨res, h5, h6⟩ := ho2
      have hgm := run_getObj_map (P := P) h5
      cases hcl : Nat.beq clock stepped
      · rw [hcl, cond_false] at h4; exact (err_ok h4).elim
      rw [hcl, cond_true] at h4
      rw [nbeq_iff] at hcl; subst hcl
      cases hfb : findBorn b es with
      | none => simp only [hfb] at h4; exact (err_ok h4).elim
      | some e =>
        simp only [hfb] at h4
        obtain ⟨rfl, rfl⟩ := ret_ok h4
        obtain ⟨e', k1, k2, k3⟩ := findBorn_rel h6 hfb
        refine .quiet (r := .tuple #[e'.key, e'.val]) hr ?_ (.tuple (.cons k2 (.cons k3 .nil))) rfl rfl
        unfold Instr.entry
        simp only [h0]
        rw [run_pure_bind hgo]
        simp only []
        have hbk : (⟨seen⟩ : Array Nat).back? = some b := by rw [← hl, lastN_eq]; simp
        rw [hbk]
        simp only []
        rw [run_pure_bind hgm]
        have hfa : (⟨res⟩ : Array MapEntry).find? (fun x => x.born == b) = some e' := by simpa using k1
        simp only [bne_self_eq_false, Bool.false_eq_true, if_false, hfa]
        rfl

/-! ### clear -/

theorem sim_clear {t : TypeId} {x v : V} {x' : Value} {ts : Array TypeId} {ty : TypeId} (hr : Rel P μ ν s.heap w.heap) (ht : ts[0]? = some t) (hx : VRel μ ν x x') (h : clearM P t x s = .ok v s') : SimV P μ ν s s' w (Builtin.clear_ ts ty #[x']) v := by
  have e0 : (#[x'] : Array Value)[0]? = some x' := rfl
  unfold clearM at h
  cases hd : P.underlying t with
  | none => simp only [hd] at h; exact (err_ok h).elim
  | some d =>
    simp only [hd] at h
    cases hx
    case nilmap =>
      have h' : ret undefV s = .ok v s' := by cases d <;> exact h
      obtain ⟨rfl, rfl⟩ := ret_ok h'
      refine .quiet (r := .tuple #[]) hr ?_ (.tuple .nil) rfl rfl
      unfold Builtin.clear_
      simp only [ht, e0]
      rw [run_pure_bind (run_underlying hd)]
      cases d <;> rfl
    case nilslice =>
      have h' : ret undefV s = .ok v s' := by cases d <;> exact h
      obtain ⟨rfl, rfl⟩ := ret_ok h'
      refine .quiet (r := .tuple #[]) hr ?_ (.tuple .nil) rfl rfl
      unfold Builtin.clear_
      simp only [ht, e0]
      rw [run_pure_bind (run_underlying hd)]
      cases d <;> rfl
    case map r p hp =>
      have h' : bnd (getO r) (fun o => match o with
        | .map _ clock => bnd (setO r (.map [] clock)) fun _ => ret undefV
        | _ => err "clear") s = .ok v s' := by cases d <;> exact h
      obtain ⟨ob, s1, h1, h2⟩ := bnd_ok h'
      obtain ⟨g1, g2, rfl⟩ := getO_ok h1
      cases ob <;> (try simp only at h2) <;> try exact (err_ok h2).elim
      rename_i es clock
      obtain ⟨u1, s2, h5, h6⟩ := bnd_ok h2
      obtain ⟨rfl, rfl⟩ := ret_ok h6
      obtain ⟨o', k1, k2, k3, rfl⟩ := setO_ok h5
      obtain ⟨res, h3, h4⟩ := getO_rel hr hp g1
      refine ⟨μ, _, .tuple #[], ?_, .tuple .nil, step_map (clock := clock) hr g1 hp h3 .nil⟩
      unfold Builtin.clear_
      simp only [ht, e0]
      rw [run_pure_bind (run_underlying hd)]
      cases d <;>
      · try simp only []
        rw [run_pure_bind (run_getObj_map h3)]
        try simp only []
        rw [run_pure_bind (run_setObj h3 (by intro _ _ _ e; cases e))]
        rfl
    case slice k o n cap cap' p a hp hl hs =>
      cases d <;> (try simp only at h) <;> try exact (err_ok h).elim
      rename_i e
      cases hz : zeroT P e <;> cases hn : szT P e <;> simp only [hz, hn] at h <;> try exact (err_ok h).elim
      rename_i z size
      cases hb : (Nat.beq z.cells.length size && !(Nat.beq n 0))
      · rw [hb, cond_false] at h; exact (err_ok h).elim
      rw [hb, cond_true] at h
      rw [Bool.and_eq_true, nbeq_iff] at hb
      obtain ⟨hb1, hb2⟩ := hb
      have hn0 : n ≠ 0 := by
        intro e; subst e; simp at hb2
      obtain ⟨u, s1, h1, h2⟩ := bnd_ok h
      obtain ⟨rfl, rfl⟩ := ret_ok h2
      obtain ⟨z', hz1, hz2⟩ := zeroT_run (μ := μ) (ν := ν) (w := w) hz
      have ha : a = ⟨p.blk, p.off + o, none⟩ := by
        rcases hs with ⟨h0, _⟩ | ⟨h0, _⟩
        · omega
        · exact h0
      subst ha
      obtain ⟨w', g1, g2⟩ := sim_stc (P := P) hr hp (rep_rel hz2.cells n) h1
      refine ⟨μ, w', .tuple #[], ?_, .tuple .nil, g2⟩
      obtain ⟨m, rfl⟩ : ∃ m, n = m + 1 := ⟨n - 1, by omega⟩
      unfold Builtin.clear_
      simp only [ht, e0]
      rw [run_pure_bind (run_underlying hd)]
      simp only []
      rw [run_pure_bind hz1]
      have hzc : (Builtin.zeroCells z'.cells (m + 1)).toList = ((Array.range ((m + 1) * z'.cells.size)).map fun j => z'.cells[j % z'.cells.size]!).toList := rfl
      rw [hzc, run_pure_bind g1]
      rfl
    all_goals (cases d <;> exact (err_ok h).elim)

end
end Go.Lx
