/-
  Each of the machine's operations is the model's, through the relation: clear, ranges.
-/
import Derived.Test.YtfgnpegkcmkeaaaGreatDoorLxL
set_option linter.unusedSimpArgs false
set_option linter.unusedVariables false
namespace Go.Lx
theorem dec_eq (b : ByteArray) (pos : Nat) : Utf8.decode b pos = dec ((toNats b).drop pos) := by
 have h1 : ∀ k, (b.get! (pos + k)).toNat = ((toNats b).drop pos).getD k 0 := by
  intro k
  rw [List.getD_eq_getElem?_getD, List.getElem?_drop, toNats_get]
  by_cases h : pos + k < b.size
  ·have hd : pos + k < b.data.size := h
   have e : b[pos + k]? = some b[pos + k] := getElem?_pos b _ h
   rw [e]
   show (b.data[pos + k]!).toNat = _
   rw [getElem!_pos b.data (pos + k) hd]
   rfl
  ·have hd : ¬ pos + k < b.data.size := h
   have e : b[pos + k]? = none := getElem?_neg b _ h
   rw [e]
   show (b.data[pos + k]!).toNat = _
   rw [getElem!_neg b.data (pos + k) hd]
   rfl
 have h2 : ∀ k, (pos + k < b.size) = (k < ((toNats b).drop pos).length) := by
  intro k; rw [List.length_drop, toNats_length]; apply propext; omega
 unfold Utf8.decode dec
 simp only [h1, h2]
 generalize (toNats b).drop pos = l
 have e1 : ∀ a c : Nat, Nat.beq a c = (a == c) := fun a c => by rw [Bool.eq_iff_iff, nbeq_iff, beq_iff_eq]
 have e2 : ∀ a c : Nat, Nat.blt a c = decide (a < c) := fun a c => by rw [Bool.eq_iff_iff, blt_iff, decide_eq_true_eq]
 have e3 : ∀ a c : Nat, Nat.ble a c = decide (a ≤ c) := fun a c => by rw [Bool.eq_iff_iff, ble_iff, decide_eq_true_eq]
 simp only [e1, e2, e3, Bool.cond_eq_ite, decide_eq_true_eq, Bool.and_eq_true, beq_iff_eq, ge_iff_le]
section
variable {P : Program} {μ : Mu} {ν : Nat → Value} {s s' : St} {w : World}
theorem sim_newIter {ob : Ob} {O : Obj} {v : V} (hr : Rel P μ ν s.heap w.heap) (hf : Fresh μ s s') (ho : ∀ μ' H, Mu.le μ μ' → H[w.heap.size]? = some O → ORel P μ' ν ⟨w.heap.size, 0, false, 0, 0⟩ H ob) (h : bnd (alloc ob) (fun k => ret (.ptr k 0)) s = .ok v s') :
  ∃ μ', VRel μ' ν v (.pointer (some ⟨w.heap.size, 0, none⟩)) ∧ StepOk P μ ν s.heap s.next w μ' s'.heap s'.next { w with heap := w.heap.push O } := by
 obtain ⟨k, s1, h1, h2⟩ := bnd_ok h
 obtain ⟨rfl, rfl⟩ := ret_ok h2
 obtain ⟨rfl, rfl⟩ := alloc_ok h1
 have hk : μ s.next = none := hf _ (Nat.le_refl _) (Nat.lt_succ_self _)
 exact ⟨_, ptr_new rfl rfl, StepOk.alloc (d := w.drawn) hr hk rfl (ho _ _ (upd_le _ hk) (by simp))⟩
theorem sim_range {t : TypeId} {x v : V} {x' : Value} (hr : Rel P μ ν s.heap w.heap) (hf : Fresh μ s s') (hx : VRel μ ν x x') (h : rangeM P t x s = .ok v s') : SimV P μ ν s s' w (Instr.range t x') v := by
 unfold rangeM at h
 cases hd : P.underlying t with
 | none => simp only [hd] at h; exact (err_ok h).elim
 | some d =>
   cases d <;> simp only [hd] at h <;> try exact (err_ok h).elim
   case string =>
    cases hx <;> (try simp only at h) <;> try exact (err_ok h).elim
    rename_i b
    obtain ⟨μ', g1, g2⟩ := sim_newIter (ob := .siter (toNats b) 0) (O := .stringIter b 0) hr hf (fun μ' H _ hH => ⟨rfl, b, rfl, hH⟩) h
    refine ⟨μ', _, _, ?_, g1, g2⟩
    unfold Instr.range
    rw [run_pure_bind (run_underlying hd)]
    simp only [pure_bind, Sem.run_bind, run_newObj, Result.andThen_ok, Sem.run_pure]
   case map kt et =>
    cases hx <;> (try simp only at h) <;> try exact (err_ok h).elim
    case nilmap =>
     obtain ⟨μ', g1, g2⟩ := sim_newIter (ob := .miter none 0 [] 0) (O := .mapIter none 0 #[] 0) hr hf (fun μ' H _ hH => ⟨rfl, hH⟩) h
     refine ⟨μ', _, _, ?_, g1, g2⟩
     unfold Instr.range
     rw [run_pure_bind (run_underlying hd)]
     simp only [pure_bind, Sem.run_bind, run_newObj, Result.andThen_ok, Sem.run_pure]
    case map m p hp =>
     obtain ⟨ob, s1, h1, h2⟩ := bnd_ok h
     obtain ⟨g1, g2, rfl⟩ := getO_ok h1
     cases ob <;> (try simp only at h2) <;> try exact (err_ok h2).elim
     rename_i es clock
     obtain ⟨res, h3, h4⟩ := getO_rel hr hp g1
     obtain ⟨μ', k1, k2⟩ := sim_newIter (s := { s with log := .rdd m :: s.log }) (ob := .miter (some m) clock [] clock) (O := .mapIter (some p.blk) clock #[] clock) hr hf (fun μ' H hm hH => ⟨rfl, p, hm _ _ hp, hH⟩) h2
     refine ⟨μ', _, _, ?_, k1, k2⟩
     unfold Instr.range
     rw [run_pure_bind (run_underlying hd)]
     simp only []
     rw [run_pure_bind (run_getObj_map h3)]
     simp only [pure_bind, Sem.run_bind, run_newObj, Result.andThen_ok, Sem.run_pure]
theorem memNat_eq : ∀ (l : List Nat) (n : Nat), memNat n l = l.contains n
 | [], n => rfl
 | m :: l, n => by
   simp only [memNat, List.contains_cons, memNat_eq l n]
   congr 1
   rw [Bool.eq_iff_iff, nbeq_iff, beq_iff_eq]
theorem unseen_rel {seen : List Nat} {es : List ME} {es' : List MapEntry} (h : ESRel μ ν es es') : ESRel μ ν (unseen seen es) (es'.filter fun e => !(⟨seen⟩ : Array Nat).contains e.born) := by
 induction h with
 | nil => exact .nil
 | @cons k v k' v' b es es' hk hv hs ih =>
   have hc : (⟨seen⟩ : Array Nat).contains b = memNat b seen := by rw [memNat_eq]; simp
   simp only [unseen, List.filter_cons, hc]
   cases hb : memNat b seen
   ·simp only [cond_false, Bool.not_false, if_true]; exact .cons hk hv ih
   ·simp only [cond_true, Bool.not_true, Bool.false_eq_true, if_false]; exact ih
theorem allFrom_rel {last : Nat} {es : List ME} {es' : List MapEntry} (h : ESRel μ ν es es') : allFrom last es = es'.all fun e => decide (e.born ≥ last) := by
 induction h with
 | nil => rfl
 | @cons k v k' v' b es es' hk hv hs ih =>
   simp only [allFrom, List.all_cons, ih]
   congr 1
   rw [Bool.eq_iff_iff, ble_iff, decide_eq_true_eq]
theorem ESRel.isEmpty {es : List ME} {es' : List MapEntry} (h : ESRel μ ν es es') : es.isEmpty = es'.isEmpty := by cases h <;> rfl
theorem sim_next {it v : V} {it' : Value} {isString : Bool} {t : TypeId} (hr : Rel P μ ν s.heap w.heap) (hx : VRel μ ν it it') (h : nextM it isString s = .ok v s') : SimV P μ ν s s' w (Instr.next it' isString t) v := by
 unfold nextM at h
 cases hx <;> (try simp only at h) <;> try exact (err_ok h).elim
 rename_i r o p hp
 cases o with
 | succ o => exact (err_ok h).elim
 | zero =>
   simp only at h
   obtain ⟨ob, s1, h1, h2⟩ := bnd_ok h
   obtain ⟨g1, g2, rfl⟩ := getO_ok h1
   have ho := getO_rel hr hp g1
   cases ob <;> cases isString <;> (try simp only at h2) <;> try exact (err_ok h2).elim
   case siter.true l pos =>
    obtain ⟨h0, b, rfl, hb⟩ := ho
    have hgo := run_getObj (P := P) hb (by intro _ _ _ e; cases e)
    cases hlt : Nat.blt pos (toNats b).length
    ·rw [hlt, cond_false] at h2
     obtain ⟨rfl, rfl⟩ := ret_ok h2
     rw [blt_false, toNats_length] at hlt
     refine .quiet (r := .tuple #[.bool false]) hr ?_ (.tuple (.cons (.bool _) .nil)) rfl rfl
     unfold Instr.next
     simp only [h0]
     rw [run_pure_bind hgo]
     simp only [Sem.run_ite]
     rw [if_neg (by omega)]
     rfl
    ·rw [hlt, cond_true] at h2
     rw [blt_iff, toNats_length] at hlt
     obtain ⟨u, s2, h3, h4⟩ := bnd_ok h2
     obtain ⟨rfl, rfl⟩ := ret_ok h4
     obtain ⟨o', k1, k2, k3, rfl⟩ := setO_ok h3
     refine ⟨μ, { w with heap := w.heap.setIfInBounds p.blk (.stringIter b (pos + (dec ((toNats b).drop pos)).2)) }, .tuple #[.bool true, .int .i64 pos, .int .i32 (dec ((toNats b).drop pos)).1], ?_, .tuple (.cons (.bool _) (.cons (.int _ _) (.cons (.int _ _) .nil))), ?_⟩
     ·unfold Instr.next
      simp only [h0]
      rw [run_pure_bind hgo]
      simp only [Sem.run_ite]
      rw [if_pos hlt, dec_eq]
      rw [run_pure_bind (run_setObj hb (by intro _ _ _ e; cases e))]
      rfl
     ·exact StepOk.wrote hr g1 hp wrote_set ⟨h0, b, rfl, set_at hb⟩
   case miter.false m since seen last =>
    cases m with
    | none =>
      simp only at h2
      obtain ⟨rfl, rfl⟩ := ret_ok h2
      obtain ⟨h0, hb⟩ := ho
      have hgo := run_getObj (P := P) hb (by intro _ _ _ e; cases e)
      refine .quiet (r := .tuple #[.bool false]) hr ?_ (.tuple (.cons (.bool _) .nil)) rfl rfl
      unfold Instr.next
      simp only [h0]
      rw [run_pure_bind hgo]
      rfl
    | some m =>
      simp only at h2
      obtain ⟨h0, q, hq, hb⟩ := ho
      have hgo := run_getObj (P := P) hb (by intro _ _ _ e; cases e)
      obtain ⟨ob2, s2, h3, h4⟩ := bnd_ok h2
      obtain ⟨g3, g4, rfl⟩ := getO_ok h3
      have ho2 := getO_rel hr hq g3
      cases ob2 <;> (try simp only at h4) <;> try exact (err_ok h4).elim
      rename_i es clock
      obtain ⟨res, h5, h6⟩ := ho2
      have hgm := run_getObj_map (P := P) h5
      cases hgone : (!seen.isEmpty && !es.isEmpty && allFrom last es)
      case true => rw [hgone, cond_true] at h4; exact (err_ok h4).elim
      rw [hgone, cond_false] at h4
      have hgone' : (!(⟨seen⟩ : Array Nat).isEmpty && !(⟨res⟩ : Array MapEntry).isEmpty && (⟨res⟩ : Array MapEntry).all fun x => decide (x.born ≥ last)) = false := by
       have e1 : (⟨seen⟩ : Array Nat).isEmpty = seen.isEmpty := by cases seen <;> simp
       have e2 : (⟨res⟩ : Array MapEntry).isEmpty = es.isEmpty := by rw [h6.isEmpty]; cases res <;> simp
       have e3 : ((⟨res⟩ : Array MapEntry).all fun x => decide (x.born ≥ last)) = allFrom last es := by rw [allFrom_rel h6]; simp
       rw [e1, e2, e3]; exact hgone
      have hun := unseen_rel (μ := μ) (ν := ν) (seen := seen) h6
      have hleft : (⟨res⟩ : Array MapEntry).filter (fun e => !(⟨seen⟩ : Array Nat).contains e.born) = ⟨res.filter fun e => !(⟨seen⟩ : Array Nat).contains e.born⟩ := by
       apply Array.ext'; simp
      have hch : (Question.mapNext 1).forced = true := rfl
      unfold Instr.next
      simp only [h0]
      cases hus : unseen seen es with
      | nil =>
        simp only [hus] at h4
        obtain ⟨rfl, rfl⟩ := ret_ok h4
        rw [hus] at hun
        cases hl : res.filter (fun e => !(⟨seen⟩ : Array Nat).contains e.born) with
        | cons a l => rw [hl] at hun; cases hun
        | nil =>
          refine .quiet (r := .tuple #[.bool false]) hr ?_ (.tuple (.cons (.bool _) .nil)) rfl rfl
          rw [run_pure_bind hgo]
          simp only []
          rw [run_pure_bind hgm]
          simp only [hgone', hleft, hl, Bool.false_eq_true, if_false]
          simp [Question.forced]
      | cons e rest =>
        cases rest with
        | cons e2 rest => simp only [hus] at h4; exact (err_ok h4).elim
        | nil =>
          simp only [hus] at h4
          cases hbs : Nat.blt e.born since
          ·rw [hbs, cond_false] at h4; exact (err_ok h4).elim
          rw [hbs, cond_true] at h4
          rw [blt_iff] at hbs
          obtain ⟨u, s3, h7, h8⟩ := bnd_ok h4
          obtain ⟨rfl, rfl⟩ := ret_ok h8
          obtain ⟨o', k1, k2, k3, rfl⟩ := setO_ok h7
          rw [hus] at hun
          cases hl : res.filter (fun e => !(⟨seen⟩ : Array Nat).contains e.born) with
          | nil => rw [hl] at hun; cases hun
          | cons a l =>
            rw [hl] at hun
            cases hun with
            | cons hk hv hs =>
              rename_i k v1 k' v1' b
              cases hs
              refine ⟨μ, { w with heap := w.heap.setIfInBounds p.blk (.mapIter (some q.blk) since ((⟨seen⟩ : Array Nat).push b) clock) }, .tuple #[.bool true, k', v1'], ?_, .tuple (.cons (.bool _) (.cons hk (.cons hv .nil))), ?_⟩
              ·rw [run_pure_bind hgo]
               simp only []
               rw [run_pure_bind hgm]
               simp only [hgone', hleft, hl, Bool.false_eq_true, if_false]
               have ho1 : (⟨[⟨k', v1', b⟩]⟩ : Array MapEntry).filter (fun x => decide (x.born < since)) = #[⟨k', v1', b⟩] := by
                apply Array.ext'; simp; exact hbs
               have ho2 : (⟨[⟨k', v1', b⟩]⟩ : Array MapEntry).filter (fun x => decide (x.born ≥ since)) = #[] := by
                apply Array.ext'; simp; exact hbs
               rw [ho1, ho2]
               simp [Question.forced]
               rw [run_setObj hb (by intro _ _ _ e; cases e)]
               rfl
              ·refine StepOk.wrote hr g1 hp wrote_set ⟨h0, q, hq, ?_⟩
               rw [set_at hb]
               simp
theorem findBorn_rel {b : Nat} {es : List ME} {es' : List MapEntry} (h : ESRel μ ν es es') {e : ME} (hf : findBorn b es = some e) : ∃ e', es'.find? (fun x => x.born == b) = some e' ∧ VRel μ ν e.key e'.key ∧ VRel μ ν e.val e'.val := by
 induction h with
 | nil => cases hf
 | @cons k v k' v' c es es' hk hv hs ih =>
   simp only [findBorn] at hf
   cases hb : Nat.beq c b
   ·rw [hb, cond_false] at hf
    rw [nbeq_false] at hb
    obtain ⟨e', h1, h2⟩ := ih hf
    refine ⟨e', ?_, h2⟩
    rw [List.find?_cons_of_neg (by simpa using hb)]
    exact h1
   ·rw [hb, cond_true] at hf
    rw [nbeq_iff] at hb
    injection hf with hf; subst hf
    exact ⟨⟨k', v', c⟩, by rw [List.find?_cons_of_pos (by simpa using hb)], hk, hv⟩
theorem lastN_eq : ∀ (l : List Nat), lastN l = l.getLast?
 | [] => rfl
 | [a] => rfl
 | a :: b :: l => by rw [lastN, lastN_eq (b :: l), List.getLast?_cons_cons]; intro h; cases h
theorem sim_entry {it v : V} {it' : Value} (hr : Rel P μ ν s.heap w.heap) (hx : VRel μ ν it it') (h : entryM it s = .ok v s') : SimV P μ ν s s' w (Instr.entry it') v := by
 unfold entryM at h
 cases hx <;> (try simp only at h) <;> try exact (err_ok h).elim
 rename_i r o p hp
 cases o with
 | succ o => exact (err_ok h).elim
 | zero =>
   simp only at h
   obtain ⟨ob, s1, h1, h2⟩ := bnd_ok h
   obtain ⟨g1, g2, rfl⟩ := getO_ok h1
   have ho := getO_rel hr hp g1
   cases ob <;> (try simp only at h2) <;> try exact (err_ok h2).elim
   rename_i m since seen stepped
   cases m <;> (try simp only at h2) <;> try exact (err_ok h2).elim
   rename_i m
   obtain ⟨h0, q, hq, hb⟩ := ho
   have hgo := run_getObj (P := P) hb (by intro _ _ _ e; cases e)
   cases hl : lastN seen with
   | none => simp only [hl] at h2; exact (err_ok h2).elim
   | some b =>
     simp only [hl] at h2
     obtain ⟨ob2, s2, h3, h4⟩ := bnd_ok h2
     obtain ⟨g3, g4, rfl⟩ := getO_ok h3
     have ho2 := getO_rel hr hq g3
     cases ob2 <;> (try simp only at h4) <;> try exact (err_ok h4).elim
     rename_i es clock
     obtain ⟨res, h5, h6⟩ := ho2
     have hgm := run_getObj_map (P := P) h5
     cases hcl : Nat.beq clock stepped
     ·rw [hcl, cond_false] at h4; exact (err_ok h4).elim
     rw [hcl, cond_true] at h4
     rw [nbeq_iff] at hcl; subst hcl
     cases hfb : findBorn b es with
     | none => simp only [hfb] at h4; exact (err_ok h4).elim
     | some e =>
       simp only [hfb] at h4
       obtain ⟨rfl, rfl⟩ := ret_ok h4
       obtain ⟨e', k1, k2, k3⟩ := findBorn_rel h6 hfb
       refine .quiet (r := .tuple #[e'.key, e'.val]) hr ?_ (.tuple (.cons k2 (.cons k3 .nil))) rfl rfl
       unfold Instr.entry
       simp only [h0]
       rw [run_pure_bind hgo]
       simp only []
       have hbk : (⟨seen⟩ : Array Nat).back? = some b := by rw [← hl, lastN_eq]; simp
       rw [hbk]
       simp only []
       rw [run_pure_bind hgm]
       have hfa : (⟨res⟩ : Array MapEntry).find? (fun x => x.born == b) = some e' := by simpa using k1
       simp only [bne_self_eq_false, Bool.false_eq_true, if_false, hfa]
       rfl
theorem sim_clear {t : TypeId} {x v : V} {x' : Value} {ts : Array TypeId} {ty : TypeId} (hr : Rel P μ ν s.heap w.heap) (ht : ts[0]? = some t) (hx : VRel μ ν x x') (h : clearM P t x s = .ok v s') : SimV P μ ν s s' w (Builtin.clear_ ts ty #[x']) v := by
 have e0 : (#[x'] : Array Value)[0]? = some x' := rfl
 unfold clearM at h
 cases hd : P.underlying t with
 | none => simp only [hd] at h; exact (err_ok h).elim
 | some d =>
   simp only [hd] at h
   cases hx
   case nilmap =>
    have h' : ret undefV s = .ok v s' := by cases d <;> exact h
    obtain ⟨rfl, rfl⟩ := ret_ok h'
    refine .quiet (r := .tuple #[]) hr ?_ (.tuple .nil) rfl rfl
    unfold Builtin.clear_
    simp only [ht, e0]
    rw [run_pure_bind (run_underlying hd)]
    cases d <;> rfl
   case nilslice =>
    have h' : ret undefV s = .ok v s' := by cases d <;> exact h
    obtain ⟨rfl, rfl⟩ := ret_ok h'
    refine .quiet (r := .tuple #[]) hr ?_ (.tuple .nil) rfl rfl
    unfold Builtin.clear_
    simp only [ht, e0]
    rw [run_pure_bind (run_underlying hd)]
    cases d <;> rfl
   case map r p hp =>
    have h' : bnd (getO r) (fun o => match o with
     | .map _ clock => bnd (setO r (.map [] clock)) fun _ => ret undefV
     | _ => err "clear") s = .ok v s' := by cases d <;> exact h
    obtain ⟨ob, s1, h1, h2⟩ := bnd_ok h'
    obtain ⟨g1, g2, rfl⟩ := getO_ok h1
    cases ob <;> (try simp only at h2) <;> try exact (err_ok h2).elim
    rename_i es clock
    obtain ⟨u1, s2, h5, h6⟩ := bnd_ok h2
    obtain ⟨rfl, rfl⟩ := ret_ok h6
    obtain ⟨o', k1, k2, k3, rfl⟩ := setO_ok h5
    obtain ⟨res, h3, h4⟩ := getO_rel hr hp g1
    refine ⟨μ, _, .tuple #[], ?_, .tuple .nil, step_map (clock := clock) hr g1 hp h3 .nil⟩
    unfold Builtin.clear_
    simp only [ht, e0]
    rw [run_pure_bind (run_underlying hd)]
    cases d <;>
    ·try simp only []
     rw [run_pure_bind (run_getObj_map h3)]
     try simp only []
     rw [run_pure_bind (run_setObj h3 (by intro _ _ _ e; cases e))]
     rfl
   case slice k o n cap cap' p a hp hl hs =>
    cases d <;> (try simp only at h) <;> try exact (err_ok h).elim
    rename_i e
    cases hz : zeroT P e <;> cases hn : szT P e <;> simp only [hz, hn] at h <;> try exact (err_ok h).elim
    rename_i z size
    cases hb : (Nat.beq z.cells.length size && !(Nat.beq n 0))
    ·rw [hb, cond_false] at h; exact (err_ok h).elim
    rw [hb, cond_true] at h
    rw [Bool.and_eq_true, nbeq_iff] at hb
    obtain ⟨hb1, hb2⟩ := hb
    have hn0 : n ≠ 0 := by
     intro e; subst e; simp at hb2
    obtain ⟨u, s1, h1, h2⟩ := bnd_ok h
    obtain ⟨rfl, rfl⟩ := ret_ok h2
    obtain ⟨z', hz1, hz2⟩ := zeroT_run (μ := μ) (ν := ν) (w := w) hz
    have ha : a = ⟨p.blk, p.off + o, none⟩ := by
     rcases hs with ⟨h0, _⟩ | ⟨h0, _⟩
     ·omega
     ·exact h0
    subst ha
    obtain ⟨w', g1, g2⟩ := sim_stc (P := P) hr hp (rep_rel hz2.cells n) h1
    refine ⟨μ, w', .tuple #[], ?_, .tuple .nil, g2⟩
    obtain ⟨m, rfl⟩ : ∃ m, n = m + 1 := ⟨n - 1, by omega⟩
    unfold Builtin.clear_
    simp only [ht, e0]
    rw [run_pure_bind (run_underlying hd)]
    simp only []
    rw [run_pure_bind hz1]
    have hzc : (Builtin.zeroCells z'.cells (m + 1)).toList = ((Array.range ((m + 1) * z'.cells.size)).map fun j => z'.cells[j % z'.cells.size]!).toList := rfl
    rw [hzc, run_pure_bind g1]
    rfl
   all_goals (cases d <;> exact (err_ok h).elim)
end
end Go.Lx
