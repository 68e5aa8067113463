/-
  Each of the machine's operations is the model's, through the relation: maps.
-/
import Derived.Test.YtfgnpegkcmkeaaaGreatDoorLxK
set_option linter.unusedSimpArgs false
set_option linter.unusedVariables false
namespace Go.Lx
noncomputable section
section
variable {P : Program} {μ : Mu} {ν : Nat → Value} {s s' : St} {w : World}
theorem run_checkKey {t : TypeId} {d : TypeDesc} {k : V} {k' : Value} {b : Bool} {w2 : World} (hd : P.underlying t = some d) (hk : VRel μ ν k k') (ho : keyOk d k = true) : (Instr.checkKey b 10000 t k').run P w2 = .ok () w2 := by
 have e : (10000 : Nat) = 9999 + 1 := rfl
 rw [e]
 unfold Instr.checkKey
 rw [run_pure_bind (run_underlying hd)]
 cases d <;> cases k <;> simp [keyOk] at ho <;> cases hk <;> rfl
theorem sameKey_rel {d : TypeDesc} {x y : V} {x' y' : Value} {b : Bool} (hx : VRel μ ν x x') (hy : VRel μ ν y y') (h : sameKey d x y = some b) : Instr.sameNow d x' y' = some b := by
 cases d <;> cases x <;> cases y <;> simp only [sameKey] at h <;> try (cases h; done)
 case int.int.int k k1 n k2 m =>
  cases hx; cases hy
  simp only [Instr.sameNow]
  exact h
 case string.str.str a b =>
  cases hx; cases hy
  simp only [Instr.sameNow]
  rw [← h, eqNats_toNats]
 case bool.bool.bool a b =>
  cases hx; cases hy
  simp only [Instr.sameNow]
  exact h
def FRel (μ : Mu) (ν : Nat → Value) (d : TypeDesc) (k : V) (i : Nat) (es : List ME) : Option (Nat × V) → Option (Nat × Value) → Prop
 | none, none => True
 | some (j, v), some (j', v') => j = j' ∧ VRel μ ν v v' ∧ i ≤ j ∧ (∃ e, es[j - i]? = some e ∧ e.val = v ∧ sameKey d k e.key = some true)
 | _, _ => False
theorem findV_rel {d : TypeDesc} {k : V} {k' : Value} (hk : VRel μ ν k k') : ∀ {es : List ME} {es' : List MapEntry} {i : Nat} {r : Option (Nat × V)}, ESRel μ ν es es' → findV d k es i = some r →
  ∃ r', Instr.findNow d k' es' i = some r' ∧ FRel μ ν d k i es r r'
 | [], _, i, r, h, hf => by
   cases h
   injection hf with hf; subst hf
   exact ⟨none, rfl, trivial⟩
 | _ :: es, _, i, r, h, hf => by
   cases h with
   | cons hkk hv hs =>
     rename_i k2 v2 k2' v2' b es'
     unfold findV at hf
     cases hq : sameKey d k k2 with
     | none => simp only [hq] at hf; cases hf
     | some q =>
       have hn := sameKey_rel hk hkk hq
       cases q with
       | true =>
         simp only [hq] at hf
         injection hf with hf; subst hf
         refine ⟨some (i, v2'), by simp only [Instr.findNow, hn], rfl, hv, Nat.le_refl _, ⟨k2, v2, b⟩, by simp, rfl, hq⟩
       | false =>
         simp only [hq] at hf
         obtain ⟨r', g1, g2⟩ := findV_rel hk hs hf
         refine ⟨r', by simp only [Instr.findNow, hn]; exact g1, ?_⟩
         cases r with
         | none => cases r' <;> exact g2
         | some p =>
           obtain ⟨j, v⟩ := p
           cases r' with
           | none => exact g2
           | some p' =>
             obtain ⟨j', v'⟩ := p'
             obtain ⟨q1, q2, q3, e, q4, q5, q6⟩ := g2
             exact ⟨q1, q2, by omega, e, by rw [show j - i = (j - (i + 1)) + 1 by omega]; simpa using q4, q5, q6⟩
theorem run_findKey {t : TypeId} {d : TypeDesc} {k' : Value} {es' : List MapEntry} {r' : Option (Nat × Value)} {w2 : World} (hd : P.underlying t = some d) (h : Instr.findNow d k' es' 0 = some r') : (Instr.findKey t k' es').run P w2 = .ok r' w2 := by
 unfold Instr.findKey
 rw [run_pure_bind (run_underlying hd)]
 simp only [h]
 rfl
theorem sim_lookup {t : TypeId} {x k v : V} {x' k' : Value} {ok : Bool} (hr : Rel P μ ν s.heap w.heap) (hx : VRel μ ν x x') (hk : VRel μ ν k k') (h : lookupM P t x k ok s = .ok v s') : SimV P μ ν s s' w (Instr.lookup t x' k' ok) v := by
 unfold lookupM at h
 cases hd : P.underlying t with
 | none => simp only [hd] at h; exact (err_ok h).elim
 | some d =>
   cases d <;> simp only [hd] at h <;> try exact (err_ok h).elim
   rename_i key elem
   cases hdk : P.underlying key <;> cases hz : zeroT P elem <;> simp only [hdk, hz] at h <;> try exact (err_ok h).elim
   rename_i dk z
   cases hko : keyOk dk k
   ·rw [hko, cond_false] at h; exact (err_ok h).elim
   rw [hko, cond_true] at h
   obtain ⟨es, s1, h1, h2⟩ := bnd_ok h
   obtain ⟨z', hz1, hz2⟩ := zeroT_run (μ := μ) (ν := ν) (w := w) hz
   have tail : ∀ {res : List MapEntry} (b : Bool), ESRel μ ν es res → ∃ r, (do
       Instr.checkKey b 10000 key k'
       match ← Instr.findKey key k' res with
        | some (_, v) => (do
          let x ← pure (v, true)
          pure (if ok = true then .tuple #[x.fst, .bool x.snd] else x.fst))
        | none => (do
          let z ← zeroValue elem
          let x ← pure (z, false)
          pure (if ok = true then .tuple #[x.fst, .bool x.snd] else x.fst)) : Sem Value).run P w = .ok r w ∧ VRel μ ν v r ∧ s' = s1 := by
    intro res b e2
    have hck := run_checkKey (P := P) (b := b) (w2 := w) hdk hk hko
    cases hfv : findV dk k es 0 with
    | none => simp only [hfv] at h2; exact (err_ok h2).elim
    | some r =>
      obtain ⟨r', f1, f2⟩ := findV_rel hk e2 hfv
      have hfk := run_findKey (P := P) (w2 := w) hdk f1
      simp only [hfv] at h2
      simp only [Sem.run_bind, hck, Result.andThen_ok, hfk]
      cases r with
      | none =>
        cases r' with
        | none =>
          simp only at h2
          obtain ⟨rfl, rfl⟩ := ret_ok h2
          refine ⟨if ok = true then .tuple #[z', .bool false] else z', by simp only [Sem.run_bind, hz1, Result.andThen_ok, Sem.run_pure], ?_, rfl⟩
          cases ok
          ·exact hz2
          ·exact .tuple (.cons hz2 (.cons (.bool _) .nil))
        | some p' => exact f2.elim
      | some p =>
        obtain ⟨j, v1⟩ := p
        cases r' with
        | none => exact f2.elim
        | some p' =>
          obtain ⟨j', v1'⟩ := p'
          simp only at h2
          obtain ⟨rfl, rfl⟩ := ret_ok h2
          refine ⟨if ok = true then .tuple #[v1', .bool true] else v1', by simp only [Sem.run_bind, Result.andThen_ok, Sem.run_pure], ?_, rfl⟩
          cases ok
          ·exact f2.2.1
          ·exact .tuple (.cons f2.2.1 (.cons (.bool _) .nil))
   unfold entriesOf at h1
   cases hx <;> (try simp only at h1) <;> try exact (err_ok h1).elim
   case nilmap =>
    obtain ⟨rfl, rfl⟩ := ret_ok h1
    obtain ⟨r, g1, g2, rfl⟩ := tail (Array.isEmpty (#[] : Array MapEntry)) ESRel.nil
    refine .quiet hr ?_ g2 rfl rfl
    unfold Instr.lookup
    rw [run_pure_bind (run_underlying hd)]
    simp only [pure_bind]
    exact g1
   case map r p hp =>
    obtain ⟨ob, s2, g1, g2⟩ := bnd_ok h1
    obtain ⟨k1, k2, rfl⟩ := getO_ok g1
    cases ob <;> (try simp only at g2) <;> try exact (err_ok g2).elim
    obtain ⟨rfl, rfl⟩ := ret_ok g2
    obtain ⟨res, h3, h4⟩ := getO_rel hr hp k1
    obtain ⟨r, q1, q2, rfl⟩ := tail (Array.isEmpty (⟨res⟩ : Array MapEntry)) h4
    refine .quiet hr ?_ q2 rfl rfl
    unfold Instr.lookup
    rw [run_pure_bind (run_underlying hd)]
    simp only []
    rw [run_pure_bind (run_getObj_map h3)]
    simp only [pure_bind]
    exact q1
theorem run_setObj {r : Nat} {o : Obj} {o' : Obj} (h : w.heap[r]? = some o) (hc : ∀ c e f, o ≠ .cells c e f) : (setObj r o').run P w = .ok () { w with heap := w.heap.setIfInBounds r o' } := by
 simp only [setObj, Sem.run, h]
theorem run_getObj {r : Nat} {o : Obj} (h : w.heap[r]? = some o) (hc : ∀ c e f, o ≠ .cells c e f) : (getObj r).run P w = .ok o w := by
 simp only [getObj, Sem.run, h]
theorem wrote_set {r : Nat} {o : Obj} : Wrote w { w with heap := w.heap.setIfInBounds r o } r :=
 ⟨rfl, rfl, rfl, by simp, fun b hb => by simp only [Array.getElem?_setIfInBounds_ne (Ne.symm hb)]⟩
theorem set_at {r : Nat} {o o' : Obj} (h : w.heap[r]? = some o) : (w.heap.setIfInBounds r o')[r]? = some o' := by
 have := (Array.getElem?_eq_some_iff.1 h).1
 simp [this]
theorem step_map {r : Nat} {p : Pl} {ob : Ob} {es : List ME} {res : List MapEntry} {clock : Nat} {o : Obj} {n : Nat} (hr : Rel P μ ν s.heap w.heap) (hg : s.heap.get r = some ob) (hp : μ r = some p) (hw : w.heap[p.blk]? = some o) (he : ESRel μ ν es res) (h0r : ob.isRo = false := by rfl) :
  StepOk P μ ν s.heap n w μ (s.heap.set r (some (.map es clock))) n { w with heap := w.heap.setIfInBounds p.blk (.map ⟨res⟩ clock) } :=
 StepOk.wrote hr hg hp wrote_set ⟨res, set_at hw, he⟩
theorem modifyE_rel {f : ME → ME} {g : MapEntry → MapEntry} (hfg : ∀ {k v : V} {k' v' : Value} {b : Nat}, VRel μ ν k k' → VRel μ ν v v' → VRel μ ν (f ⟨k, v, b⟩).key (g ⟨k', v', b⟩).key ∧ VRel μ ν (f ⟨k, v, b⟩).val (g ⟨k', v', b⟩).val ∧ (f ⟨k, v, b⟩).born = b ∧ (g ⟨k', v', b⟩).born = b) :
  ∀ {es : List ME} {es' : List MapEntry} (i : Nat), ESRel μ ν es es' → ESRel μ ν (modifyE es i f) ((⟨es'⟩ : Array MapEntry).modify i g).toList := by
 intro es es' i h
 rw [Array.toList_modify]
 induction h generalizing i with
 | nil => cases i <;> exact .nil
 | @cons k v k' v' b es es' hk hv hs ih =>
   cases i with
   | zero =>
     simp only [modifyE]
     obtain ⟨h1, h2, h3, h4⟩ := hfg (b := b) hk hv
     have e1 : f ⟨k, v, b⟩ = ⟨(f ⟨k, v, b⟩).key, (f ⟨k, v, b⟩).val, b⟩ := by
      conv => lhs; rw [show f ⟨k, v, b⟩ = ⟨(f ⟨k, v, b⟩).key, (f ⟨k, v, b⟩).val, (f ⟨k, v, b⟩).born⟩ from rfl, h3]
     have e2 : g ⟨k', v', b⟩ = ⟨(g ⟨k', v', b⟩).key, (g ⟨k', v', b⟩).val, b⟩ := by
      conv => lhs; rw [show g ⟨k', v', b⟩ = ⟨(g ⟨k', v', b⟩).key, (g ⟨k', v', b⟩).val, (g ⟨k', v', b⟩).born⟩ from rfl, h4]
     show ESRel μ ν _ (g ⟨k', v', b⟩ :: es')
     rw [e1, e2]
     exact .cons h1 h2 hs
   | succ i =>
     simp only [modifyE]
     exact .cons hk hv (ih i)
theorem eraseE_rel : ∀ {es : List ME} {es' : List MapEntry} (i : Nat), ESRel μ ν es es' → ESRel μ ν (eraseE es i) ((⟨es'⟩ : Array MapEntry).eraseIdxIfInBounds i).toList := by
 intro es es' i h
 have e : ((⟨es'⟩ : Array MapEntry).eraseIdxIfInBounds i).toList = es'.eraseIdx i := by simp
 rw [e]
 induction h generalizing i with
 | nil => cases i <;> exact .nil
 | @cons k v k' v' b es es' hk hv hs ih =>
   cases i with
   | zero => exact hs
   | succ i => exact .cons hk hv (ih i (by simp))
theorem ESRel.snoc {es : List ME} {es' : List MapEntry} {k v : V} {k' v' : Value} {b : Nat} (h : ESRel μ ν es es') (hk : VRel μ ν k k') (hv : VRel μ ν v v') : ESRel μ ν (es ++ [⟨k, v, b⟩]) (es' ++ [⟨k', v', b⟩]) := by
 induction h with
 | nil => exact .cons hk hv .nil
 | cons hk' hv' _ ih => exact .cons hk' hv' ih
theorem ESRel.get {es : List ME} {es' : List MapEntry} (h : ESRel μ ν es es') : ∀ {i : Nat} {e : ME}, es[i]? = some e → ∃ e', es'[i]? = some e' ∧ VRel μ ν e.key e'.key ∧ VRel μ ν e.val e'.val ∧ e.born = e'.born := by
 induction h with
 | nil => intro i e h; simp at h
 | cons hk hv _ ih =>
   intro i e h
   cases i with
   | zero => simp at h; subst h; exact ⟨⟨_, _, _⟩, rfl, hk, hv, rfl⟩
   | succ i => simpa using ih (by simpa using h)
theorem run_keyStays {d : TypeDesc} {k k2 : V} {k' k2' : Value} (hk : VRel μ ν k k') (hk2 : VRel μ ν k2 k2') (h : sameKey d k k2 = some true) : (Instr.keyThatStays k2' k').run P w = .ok k' w := by
 have hb : Instr.sameBits 10000 k2' k' = true := by
  have e : (10000 : Nat) = 9999 + 1 := rfl
  rw [e]
  cases d <;> cases k <;> cases k2 <;> simp only [sameKey] at h <;> try (cases h; done)
  case int.int.int kd k1 n k2 m =>
   cases hk; cases hk2
   split at h
   ·rename_i e; subst e
    injection h with h
    have : n = m := by simpa using h
    subst this
    simp [Instr.sameBits]
   ·cases h
  case string.str.str =>
   cases hk; cases hk2
   rename_i a b
   injection h with h
   rw [eqNats_iff, toNats_inj] at h
   subst h
   simp only [Instr.sameBits]
   have hb : (a == a) = (a.data == a.data) := rfl
   rw [hb]; simp
  case bool.bool.bool a b =>
   cases hk; cases hk2
   injection h with h
   have : a = b := by simpa using h
   subst this
   simp [Instr.sameBits]
 simp only [Instr.keyThatStays, hb, if_true, Sem.run_pure]
theorem sim_mapUpdate {t : TypeId} {m k v u : V} {m' k' v' : Value} (hr : Rel P μ ν s.heap w.heap) (hm : VRel μ ν m m') (hk : VRel μ ν k k') (hv : VRel μ ν v v') (h : mapUpdateM P t m k v s = .ok u s') :
  u = undefV ∧ ∃ w', (Instr.mapUpdate t m' k' v').run P w = .ok () w' ∧ StepOk P μ ν s.heap s.next w μ s'.heap s'.next w' := by
 unfold mapUpdateM at h
 cases hd : P.underlying t with
 | none => simp only [hd] at h; exact (err_ok h).elim
 | some d =>
   cases d <;> simp only [hd] at h <;> try exact (err_ok h).elim
   rename_i key elem
   cases hdk : P.underlying key <;> simp only [hdk] at h <;> try exact (err_ok h).elim
   rename_i dk
   cases hm <;> (try simp only at h) <;> try exact (err_ok h).elim
   rename_i r p hp
   cases hko : keyOk dk k
   ·rw [hko, cond_false] at h; exact (err_ok h).elim
   rw [hko, cond_true] at h
   obtain ⟨ob, s1, h1, h2⟩ := bnd_ok h
   obtain ⟨g1, g2, rfl⟩ := getO_ok h1
   cases ob <;> (try simp only at h2) <;> try exact (err_ok h2).elim
   rename_i es clock
   obtain ⟨res, h3, h4⟩ := getO_rel hr hp g1
   have hck := run_checkKey (P := P) (b := false) (w2 := w) hdk hk hko
   cases hfv : findV dk k es 0 with
   | none => simp only [hfv] at h2; exact (err_ok h2).elim
   | some q =>
     obtain ⟨q', f1, f2⟩ := findV_rel hk h4 hfv
     have hfk := run_findKey (P := P) (w2 := w) hdk f1
     simp only [hfv] at h2
     cases q with
     | none =>
       cases q' with
       | some p' => exact f2.elim
       | none =>
         simp only at h2
         obtain ⟨u1, s2, h5, h6⟩ := bnd_ok h2
         obtain ⟨rfl, rfl⟩ := ret_ok h6
         obtain ⟨o', k1, k2, k3, rfl⟩ := setO_ok h5
         refine ⟨rfl, _, ?_, step_map (clock := clock + 1) hr g1 hp h3 (h4.snoc hk hv)⟩
         unfold Instr.mapUpdate
         rw [run_pure_bind (run_underlying hd)]
         simp only []
         rw [run_pure_bind (run_getObj_map h3)]
         simp only []
         rw [run_pure_bind hck]
         rw [run_pure_bind hfk]
         simp only []
         rw [run_setObj h3 (by intro _ _ _ e; cases e)]
         simp
     | some q =>
       obtain ⟨j, v1⟩ := q
       cases q' with
       | none => exact f2.elim
       | some p' =>
         obtain ⟨j', v1'⟩ := p'
         obtain ⟨rfl, _, _, e, e1, e2, e3⟩ := f2
         rw [Nat.sub_zero] at e1
         obtain ⟨e', e4, e5, e6, e7⟩ := h4.get e1
         simp only at h2
         obtain ⟨u1, s2, h5, h6⟩ := bnd_ok h2
         obtain ⟨rfl, rfl⟩ := ret_ok h6
         obtain ⟨o', k1, k2, k3, rfl⟩ := setO_ok h5
         have hmod := modifyE_rel (μ := μ) (ν := ν) (f := fun e => { e with key := k, val := v }) (g := fun e => { e with key := k', val := v' }) (fun _ _ => ⟨hk, hv, rfl, rfl⟩) j h4
         refine ⟨rfl, _, ?_, step_map (clock := clock) hr g1 hp h3 hmod⟩
         unfold Instr.mapUpdate
         rw [run_pure_bind (run_underlying hd)]
         simp only []
         rw [run_pure_bind (run_getObj_map h3)]
         simp only []
         rw [run_pure_bind hck]
         rw [run_pure_bind hfk]
         simp only []
         have hold : (((⟨res⟩ : Array MapEntry)[j]?).map (·.key)).getD k' = e'.key := by
          have : (⟨res⟩ : Array MapEntry)[j]? = some e' := by simpa using e4
          rw [this]; rfl
         rw [hold, run_pure_bind (run_keyStays hk e5 e3)]
         rw [run_setObj h3 (by intro _ _ _ e; cases e)]
theorem sim_delete {t : TypeId} {m k u : V} {m' k' : Value} {ts : Array TypeId} {ty : TypeId} (hr : Rel P μ ν s.heap w.heap) (ht : ts[0]? = some t) (hm : VRel μ ν m m') (hk : VRel μ ν k k') (h : deleteM P t m k s = .ok u s') :
  SimV P μ ν s s' w (Builtin.delete_ ts ty #[m', k']) u := by
 have a0 : (#[m', k'] : Array Value)[0]? = some m' := rfl
 have a1 : (#[m', k'] : Array Value)[1]? = some k' := rfl
 unfold deleteM at h
 cases hd : P.underlying t with
 | none => simp only [hd] at h; exact (err_ok h).elim
 | some d =>
   cases d <;> simp only [hd] at h <;> try exact (err_ok h).elim
   rename_i key elem
   cases hdk : P.underlying key <;> simp only [hdk] at h <;> try exact (err_ok h).elim
   rename_i dk
   cases hm <;> (try simp only at h) <;> try exact (err_ok h).elim
   case nilmap =>
    cases hko : keyOk dk k
    ·rw [hko, cond_false] at h; exact (err_ok h).elim
    rw [hko, cond_true] at h
    obtain ⟨rfl, rfl⟩ := ret_ok h
    refine .quiet (r := .tuple #[]) hr ?_ (.tuple .nil) rfl rfl
    have hck := run_checkKey (P := P) (b := true) (w2 := w) hdk hk hko
    unfold Builtin.delete_
    simp only [ht, a0, a1]
    rw [run_pure_bind (run_underlying hd)]
    simp only []
    rw [run_pure_bind hck]
    rfl
   case map r p hp =>
    cases hko : keyOk dk k
    ·rw [hko, cond_false] at h; exact (err_ok h).elim
    rw [hko, cond_true] at h
    obtain ⟨ob, s1, h1, h2⟩ := bnd_ok h
    obtain ⟨g1, g2, rfl⟩ := getO_ok h1
    cases ob <;> (try simp only at h2) <;> try exact (err_ok h2).elim
    rename_i es clock
    obtain ⟨res, h3, h4⟩ := getO_rel hr hp g1
    cases hfv : findV dk k es 0 with
    | none => simp only [hfv] at h2; exact (err_ok h2).elim
    | some q =>
      obtain ⟨q', f1, f2⟩ := findV_rel hk h4 hfv
      have hck := fun b => run_checkKey (P := P) (b := b) (w2 := w) hdk hk hko
      have hfk := run_findKey (P := P) (w2 := w) hdk f1
      simp only [hfv] at h2
      cases q with
      | none =>
        cases q' with
        | some p' => exact f2.elim
        | none =>
          simp only at h2
          obtain ⟨u1, s2, h5, h6⟩ := bnd_ok h2
          obtain ⟨rfl, rfl⟩ := ret_ok h6
          obtain ⟨o', k1, k2, k3, rfl⟩ := setO_ok h5
          refine ⟨μ, _, .tuple #[], ?_, .tuple .nil, step_map (clock := clock) hr g1 hp h3 h4⟩
          unfold Builtin.delete_
          simp only [ht, a0, a1]
          rw [run_pure_bind (run_underlying hd)]
          simp only []
          rw [run_pure_bind (run_getObj_map h3)]
          simp only []
          rw [run_pure_bind (hck _), run_pure_bind hfk]
          simp only []
          rw [run_pure_bind (run_setObj h3 (by intro _ _ _ e; cases e))]
          rfl
      | some q =>
        obtain ⟨j, v1⟩ := q
        cases q' with
        | none => exact f2.elim
        | some p' =>
          obtain ⟨j', v1'⟩ := p'
          obtain ⟨rfl, _, _, e, e1, e2, e3⟩ := f2
          simp only at h2
          obtain ⟨u1, s2, h5, h6⟩ := bnd_ok h2
          obtain ⟨rfl, rfl⟩ := ret_ok h6
          obtain ⟨o', k1, k2, k3, rfl⟩ := setO_ok h5
          refine ⟨μ, _, .tuple #[], ?_, .tuple .nil, step_map (clock := clock) hr g1 hp h3 (eraseE_rel j h4)⟩
          unfold Builtin.delete_
          simp only [ht, a0, a1]
          rw [run_pure_bind (run_underlying hd)]
          simp only []
          rw [run_pure_bind (run_getObj_map h3)]
          simp only []
          rw [run_pure_bind (hck _), run_pure_bind hfk]
          simp only []
          rw [run_pure_bind (run_setObj h3 (by intro _ _ _ e; cases e))]
          rfl
end
end
end Go.Lx
