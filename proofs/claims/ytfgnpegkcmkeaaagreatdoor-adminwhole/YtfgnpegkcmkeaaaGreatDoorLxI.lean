/-
  Each of the machine's operations is the model's, through the relation: conversions, append, copy, clear, len, cap.
-/
import Derived.Test.YtfgnpegkcmkeaaaGreatDoorLxH
set_option linter.unusedSimpArgs false
set_option linter.unusedVariables false
namespace Go.Lx
theorem modify_push_last {H : Array Obj} {O : Obj} (f : Obj → Obj) : (H.push O).modify H.size f = H.push (f O) := by
 apply Array.ext
 ·simp
 ·intro i h1 h2
  simp only [Array.getElem_modify]
  split
  ·rename_i e; subst e; simp
  ·rename_i e
   have : i < H.size := by simp at h2; omega
   simp [Array.getElem_push, this]
theorem foldl_push_nats : ∀ (l : List Nat) (b : ByteArray), (∀ n ∈ l, n < 256) → toNats ((l.map Int.ofNat).foldl (fun (r : ByteArray) (n : Int) => r.push (UInt8.ofNat n.toNat)) b) = toNats b ++ l
 | [], b, _ => by simp
 | n :: l, b, h => by
   simp only [List.map_cons, List.foldl_cons]
   rw [foldl_push_nats l _ (fun m hm => h m (by simp [hm]))]
   have hn := h n (by simp)
   have : toNats (b.push (UInt8.ofNat (Int.ofNat n).toNat)) = toNats b ++ [n] := by
    have hpush : (b.push (UInt8.ofNat (Int.ofNat n).toNat)).data = b.data.push (UInt8.ofNat n) := rfl
    simp only [toNats, hpush, Array.toList_push, List.map_append, List.map_cons, List.map_nil]
    congr 2
    simp [UInt8.toNat_ofNat', Nat.mod_eq_of_lt hn]
   rw [this, List.append_assoc, List.singleton_append]
theorem wrap_i64 (n : Nat) (h : n < 9223372036854775808) : IntKind.i64.wrap (n : Int) = n := by
 have hmod : (n : Int) % (2 ^ IntKind.i64.bits : Int) = n := Int.emod_eq_of_lt (by omega) (by show (n : Int) < 2 ^ 64; omega)
 unfold IntKind.wrap
 simp only [hmod]
 rw [if_neg]
 simp [IntKind.signed, IntKind.bits]
 omega
section
variable {P : Program} {μ : Mu} {ν : Nat → Value} {s s' : St} {w : World}
theorem bytesV_rel : ∀ (l : List UInt8), VsRel μ ν (bytesV (l.map (·.toNat))) (l.map fun b => Value.int .u8 b.toNat)
 | [] => .nil
 | b :: l => .cons (.int _ _) (bytesV_rel l)
theorem natsV_rel : ∀ {vs : List V} {rs : List Value} {l : List Nat}, VsRel μ ν vs rs → natsV vs = some l → rs = (l.map Int.ofNat).map (Value.int .u8) ∧ (∀ n ∈ l, n < 256)
 | [], rs, l, h, hn => by cases h; injection hn with hn; subst hn; simp
 | v :: vs, rs, l, h, hn => by
   cases h with
   | cons h hs =>
     unfold natsV at hn
     split at hn
     ·rename_i e; cases e
     ·rename_i n vs' e
      injection e with e1 e2; subst e1; subst e2
      cases hr : natsV vs with
      | none => rw [hr] at hn; cases hn
      | some r =>
        rw [hr] at hn
        simp only at hn
        cases hb : Nat.blt n 256
        ·rw [hb] at hn; cases hn
        ·rw [hb, cond_true] at hn
         injection hn with hn; subst hn
         rw [blt_iff] at hb
         obtain ⟨e1, e2⟩ := natsV_rel hs hr
         cases h
         subst e1
         refine ⟨rfl, fun m hm => ?_⟩
         cases hm with
         | head => exact hb
         | tail _ hm => exact e2 m hm
     ·cases hn
theorem stepOpen {e : TypeId} {c : List V} {rc : Array Value} {frz : Nat × Nat} {esz d : Nat} (hr : Rel P μ ν s.heap w.heap) (hk : μ s.next = none) (hn : szT P e = some esz)
  (hl : c.length ≤ rc.size) (hfz : ∀ i, i < rc.size → ¬ (frz.1 ≤ i ∧ i < frz.2)) (hv : VsRel μ ν c (rc.toList.take c.length)) :
  StepOk P μ ν s.heap s.next w (upd μ s.next ⟨w.heap.size, 0, true, esz, rc.size⟩) (s.heap.set s.next (some (.cells c e true))) (s.next + 1) { w with heap := w.heap.push (.cells rc e frz), drawn := d } := by
 refine StepOk.alloc hr hk rfl ⟨rfl, fun _ => hn, rc, frz, by simp, (fun e => by cases e), by simpa using hl, Nat.le_refl _, hfz, fun i v hi => ?_⟩
 obtain ⟨r, h1, h2⟩ := hv.get hi
 have hlt : i < c.length := (List.getElem?_eq_some_iff.1 hi).1
 refine ⟨r, ?_, h2.mono (upd_le _ hk)⟩
 rw [List.getElem?_take, if_pos hlt] at h1
 simpa using h1
theorem run_freeze_last {c : Array Value} {e : TypeId} {d : Nat} (n : Nat) : (({ w with heap := w.heap.push (.cells c e), drawn := d } : World).freeze { block := w.heap.size, off := n } 1) = { w with heap := w.heap.push (.cells c e (n, n + 1)), drawn := d } := by
 unfold World.freeze
 rw [if_neg (by omega)]
 simp only [modify_push_last]
 rfl
theorem rowAt_mono {fits : TypeId → Bool} {count count' n : Nat} (hc : count ≤ count') : ∀ {d : Nat} {e : TypeId} {off : Nat}, rowAt P fits d e count off n = true → rowAt P fits d e count' off n = true
 | 0, _, _, h => by cases h
 | d + 1, e, off, h => by
   unfold rowAt at h ⊢
   simp only at h ⊢
   by_cases hs : P.cellsOf e = 0
   ·rw [if_pos hs] at h; cases h
   ·rw [if_neg hs] at h ⊢
    rw [Bool.or_eq_true, Bool.and_eq_true, Bool.and_eq_true, Bool.and_eq_true] at h ⊢
    rcases h with ⟨⟨h1, h2⟩, h3⟩ | ⟨h1, h2⟩
    ·exact .inl ⟨⟨h1, by have := of_decide_eq_true h2; exact decide_eq_true (by omega)⟩, h3⟩
    ·exact .inr ⟨by have := of_decide_eq_true h1; exact decide_eq_true (by omega), h2⟩
theorem liesAt_mono {count count' : Nat} (hc : count ≤ count') : ∀ {d : Nat} {e u : TypeId} {off n : Nat}, liesAt P d e count off u n = true → liesAt P d e count' off u n = true
 | 0, _, _, _, _, h => by cases h
 | d + 1, e, u, off, n, h => by
   unfold liesAt at h ⊢
   rw [Bool.or_eq_true] at h ⊢
   rcases h with h | h
   ·exact .inl (rowAt_mono hc h)
   ·right
    split at h
    ·exact liesAt_mono hc h
    ·cases h
theorem sim_convert {src dst : TypeId} {x v : V} {x' : Value} (hr : Rel P μ ν s.heap w.heap) (hf : Fresh μ s s') (hx : VRel μ ν x x') (h : convertM P src dst x s = .ok v s') : SimV P μ ν s s' w (convert src dst x') v := by
 unfold convertM at h
 cases hs : P.underlying src <;> cases hd : P.underlying dst <;> simp only [hs, hd] at h <;> try exact (err_ok h).elim
 rename_i sd dd
 cases dd <;> cases hx <;> (try simp only at h) <;> try exact (err_ok h).elim
 case int.int k k' n =>
  obtain ⟨rfl, rfl⟩ := ret_ok h
  refine .quiet (r := .int k (k.wrap n)) hr ?_ (.int _ _) rfl rfl
  simp only [convert, Sem.run_bind, run_underlying hs, run_underlying hd, Result.andThen_ok, Conv.intToInt]
  rfl
 case string.int k n =>
  obtain ⟨rfl, rfl⟩ := ret_ok h
  refine .quiet (r := .string (Utf8.encode n)) hr ?_ (.str _) rfl rfl
  simp only [convert, Sem.run_bind, run_underlying hs, run_underlying hd, Result.andThen_ok, Conv.intToString]
  rfl
 case string.str b =>
  obtain ⟨rfl, rfl⟩ := ret_ok h
  refine .quiet (r := .string b) hr ?_ (.str _) rfl rfl
  simp only [convert, Sem.run_bind, run_underlying hs, run_underlying hd, Result.andThen_ok]
  rfl
 case slice.str e b =>
  cases he : P.underlying e with
  | none => simp only [he] at h; exact (err_ok h).elim
  | some de =>
    simp only [he] at h
    cases de <;> (try simp only at h) <;> try exact (err_ok h).elim
    rename_i ke
    cases ke <;> (try simp only at h) <;> try exact (err_ok h).elim
    cases hb : (szT P e == some 1)
    ·rw [hb, cond_false] at h; exact (err_ok h).elim
    ·rw [hb, cond_true] at h
     have hsz : szT P e = some 1 := by simpa using hb
     obtain ⟨k, s1, h1, h2⟩ := bnd_ok h
     obtain ⟨rfl, rfl⟩ := ret_ok h2
     obtain ⟨rfl, rfl⟩ := alloc_ok h1
     have hk : μ s.next = none := hf _ (Nat.le_refl _) (by show s.next < s.next + 1; omega)
     have hcap : b.size ≤ (Question.appendCap b.size 0 e).cut (w.tape w.drawn (.appendCap b.size 0 e)) := by simp [Question.cut]
     generalize hcq : (Question.appendCap b.size 0 e).cut (w.tape w.drawn (.appendCap b.size 0 e)) = cq at hcap
     have hds : b.data.size = b.size := rfl
     have hrc : ((b.data.map fun x => Value.int .u8 x.toNat) ++ Array.replicate (cq - b.size) (Value.int .u8 0)).size = cq := by simp [hds]; omega
     generalize hrcd : (b.data.map fun x => Value.int .u8 x.toNat) ++ Array.replicate (cq - b.size) (Value.int .u8 0) = rc at hrc
     have htake : rc.toList.take (bytesV (toNats b)).length = b.data.toList.map fun x => Value.int .u8 x.toNat := by
      rw [← hrcd]
      have : (bytesV (toNats b)).length = (b.data.toList.map fun x => Value.int .u8 x.toNat).length := by simp [bytesV, toNats]
      rw [this, Array.toList_append, Array.toList_map, List.take_left']
      rfl
     have hlen : (bytesV (toNats b)).length = b.size := by simp [bytesV, toNats_length]
     have st := stepOpen (P := P) (μ := μ) (ν := ν) (s := s) (w := w) (e := e) (c := bytesV (toNats b)) (rc := rc) (frz := (rc.size, rc.size + 1)) (esz := 1) (d := w.drawn + 1) hr hk hsz (by omega) (by simp; omega)
      (by rw [htake]; exact bytesV_rel _)
     refine ⟨_, _, .slice (some ⟨w.heap.size, 0, none⟩) b.size cq, ?_, ?_, st⟩
     ·simp only [convert, Sem.run_bind, run_underlying hs, run_underlying hd, Result.andThen_ok, run_underlying he, Conv.stringToBytes, run_choose]
      rw [if_neg (by simp [Question.forced])]
      simp only [Result.andThen_ok, hcq, hrcd, newRow, Sem.run_bind, run_newObj, Sem.run_pure, markStringish, run_shape]
      have hshape : ({ heap := w.heap.push (.cells rc e), tape := w.tape, drawn := w.drawn + 1, os := w.os, output := w.output } : World).shape? w.heap.size = some (e, rc.size) := by simp [World.shape?]
      rw [hshape]
      simp only [Sem.run_bind, run_freeze, Result.andThen_ok, run_freeze_last, Sem.run_pure]
     ·rw [toNats_length]
      refine .slice (upd_same _ _ _) (Nat.le_refl _) (.inr ⟨rfl, .inr ⟨rfl, hcap, ?_⟩⟩)
      simp only; omega
 case unsafePointer.nilptr =>
  cases sd <;> (try simp only at h) <;> try exact (err_ok h).elim
  obtain ⟨rfl, rfl⟩ := ret_ok h
  refine .quiet (r := .pointer none) hr ?_ .nilptr rfl rfl
  simp only [convert, Sem.run_bind, run_underlying hs, run_underlying hd, Result.andThen_ok, Conv.unsafePointer, Sem.run_pure]
 case pointer.nilptr =>
  cases sd <;> (try simp only at h) <;> try exact (err_ok h).elim
  obtain ⟨rfl, rfl⟩ := ret_ok h
  refine .quiet (r := .pointer none) hr ?_ .nilptr rfl rfl
  simp only [convert, Sem.run_bind, run_underlying hs, run_underlying hd, Result.andThen_ok, Conv.unsafePointer, Sem.run_pure]
 case unsafePointer.ptr k o p hp =>
  cases sd <;> (try simp only at h) <;> try exact (err_ok h).elim
  rename_i t
  obtain ⟨⟨n, e, q⟩, s1, h1, h2⟩ := bnd_ok h
  obtain ⟨c, e1, q1, hg, hq, rfl⟩ := blk_ok h1
  injection hq with hq1 hq2
  simp only at h2
  cases hc : (Nat.blt o n && hasSize P t)
  ·rw [hc, cond_false] at h2; exact (err_ok h2).elim
  rw [hc, cond_true] at h2
  obtain ⟨rfl, rfl⟩ := ret_ok h2
  rw [Bool.and_eq_true, blt_iff] at hc
  obtain ⟨sz, hsz⟩ : ∃ m, szT P t = some (m + 1) := by
   have := hc.2
   unfold hasSize at this
   split at this
   ·exact ⟨_, by assumption⟩
   ·cases this
  obtain ⟨p', hp', hor⟩ := hr.ob k _ hg
  rw [hp] at hp'; cases hp'
  obtain ⟨_, _, rc, frz, r3, _, r4, r5, _, _⟩ := hor
  have hshape : w.shape? p.blk = some (e1, rc.size) := by simp [World.shape?, r3]
  refine .quiet (r := .pointer (some ⟨p.blk, p.off + o, none⟩)) hr ?_ (.ptr hp) rfl rfl
  have hno : ¬ (p.off + o ≥ rc.size) := by omega
  simp only [convert, Sem.run_bind, run_underlying hs, run_underlying hd, Result.andThen_ok, Conv.unsafePointer, Conv.seenAt, viewAt, run_shape, hshape, Option.isSome_some, if_true, Sem.run_pure, cellsIn, run_sizeOf hsz, hno, decide_false, Bool.false_and, Nat.add_one_ne_zero, Bool.false_eq_true, or_self, if_false]
  rfl
 case pointer.ptr k o p hp =>
  cases sd <;> (try simp only at h) <;> try exact (err_ok h).elim
  rename_i u
  obtain ⟨⟨n, e, q⟩, s1, h1, h2⟩ := bnd_ok h
  obtain ⟨c, e1, q1, hg, hq, rfl⟩ := blk_ok h1
  injection hq with hq1 hq2
  injection hq2 with hq2 hq3
  subst hq1; subst hq2; subst hq3
  simp only at h2
  cases hc : (!q && (szT P u).isSome && liesAt P P.depth e (c.length / P.cellsOf e) o u 1)
  ·rw [hc, cond_false] at h2; exact (err_ok h2).elim
  rw [hc, cond_true] at h2
  obtain ⟨rfl, rfl⟩ := ret_ok h2
  rw [Bool.and_eq_true, Bool.and_eq_true] at hc
  obtain ⟨⟨hc1, hc2⟩, hc3⟩ := hc
  have hq0 : q = false := by simpa using hc1
  subst hq0
  obtain ⟨sz, hsz⟩ := Option.isSome_iff_exists.1 hc2
  obtain ⟨p', hp', hor⟩ := hr.ob k _ hg
  rw [hp] at hp'; cases hp'
  obtain ⟨_, _, rc, frz, r3, rw0, r4, r5, _, _⟩ := hor
  have rw1 := rw0 rfl
  have hshape : w.shape? p.blk = some (e, rc.size) := by simp [World.shape?, r3]
  refine .quiet (r := .pointer (some ⟨p.blk, p.off + o, none⟩)) hr ?_ (.ptr hp) rfl rfl
  have hlies : liesAt P P.depth e (rc.size / P.cellsOf e) (p.off + o) u 1 = true := by
   rw [rw1, Nat.zero_add]
   exact liesAt_mono (Nat.div_le_div_right (by omega)) hc3
  simp only [convert, Sem.run_bind, run_underlying hs, run_underlying hd, Result.andThen_ok, Conv.unsafePointer, Conv.seenAt, viewAt, run_shape, hshape, Option.isSome_some, if_true, Sem.run_pure, run_sizeOf hsz, variablesAt, run_program, hlies, Bool.or_true, Result.andThen]
 case string.nilslice =>
  cases sd <;> (try simp only at h) <;> try exact (err_ok h).elim
  rename_i e
  cases he : P.underlying e with
  | none => simp only [he] at h; exact (err_ok h).elim
  | some de =>
    simp only [he] at h
    cases de <;> (try simp only at h) <;> try exact (err_ok h).elim
    rename_i ke
    cases ke <;> (try simp only at h) <;> try exact (err_ok h).elim
    obtain ⟨rfl, rfl⟩ := ret_ok h
    refine .quiet (r := .string .empty) hr ?_ (.str .empty) rfl rfl
    simp only [convert, Sem.run_bind, run_underlying hs, run_underlying hd, Result.andThen_ok, run_underlying he, Conv.bytesToString]
    rfl
 case string.slice k o len cap cap' p a hp hl hsl =>
  cases sd <;> (try simp only at h) <;> try exact (err_ok h).elim
  rename_i e
  cases he : P.underlying e with
  | none => simp only [he] at h; exact (err_ok h).elim
  | some de =>
    simp only [he] at h
    cases de <;> (try simp only at h) <;> try exact (err_ok h).elim
    rename_i ke
    cases ke <;> (try simp only at h) <;> try exact (err_ok h).elim
    obtain ⟨vs, s1, h1, h2⟩ := bnd_ok h
    obtain ⟨c, hg, hq, rfl, rfl⟩ := ld_ok h1
    cases hn : natsV (sub c o len) <;> simp only [hn] at h2
    ·exact (err_ok h2).elim
    ·rename_i l
     obtain ⟨rfl, rfl⟩ := ret_ok h2
     obtain ⟨rs, g1, g2⟩ := run_loads (P := P) hr hg hp hq
     obtain ⟨e1, e2⟩ := natsV_rel g2 hn
     have hload : (loadCells a len).run P w = .ok ((l.map Int.ofNat).map (Value.int .u8)).toArray w := by
      rcases hsl with ⟨h0, h0'⟩ | ⟨h0, _⟩
      ·have : len = 0 := by omega
       subst this
       have hl0 : l = [] := by
        have := congrArg List.length e1
        rw [← g2.length, sub_length hq] at this
        simp at this; exact List.length_eq_zero_iff.1 this.symm
       subst hl0
       simp [loadCells, loadCellsFrom]
      ·subst h0; rw [g1, e1]
     have hstr := run_bytesToString (P := P) w a len cap' (l.map Int.ofNat) hload
     refine .quiet (r := .string ((l.map Int.ofNat).foldl (fun r n => r.push (UInt8.ofNat n.toNat)) ByteArray.empty)) hr ?_ ?_ rfl rfl
     ·simp only [convert, Sem.run_bind, run_underlying hs, run_underlying hd, Result.andThen_ok, run_underlying he]
      exact hstr
     ·have := foldl_push_nats l ByteArray.empty e2
      have e0 : toNats ByteArray.empty ++ l = l := rfl
      rw [e0] at this
      have hv := VRel.str (μ := μ) (ν := ν) ((l.map Int.ofNat).foldl (fun (r : ByteArray) (n : Int) => r.push (UInt8.ofNat n.toNat)) ByteArray.empty)
      rw [this] at hv
      exact hv
theorem sim_taken {size : Nat} {x : V} {x' : Value} {cs : List V} {n : Nat} (hr : Rel P μ ν s.heap w.heap) (hx : VRel μ ν x x') (h : takenM size x s = .ok (cs, n) s') :
  (∀ w2 : World, (Builtin.lenOf x').run P w2 = .ok n w2) ∧ (∃ rs, (∀ d, (Builtin.firstCells size n x').run P { w with drawn := d } = .ok ⟨rs⟩ { w with drawn := d }) ∧ VsRel μ ν cs rs) ∧ s'.heap = s.heap ∧ s'.next = s.next ∧ cs.length = n * size := by
 unfold takenM at h
 cases hx <;> (try simp only at h) <;> try exact (err_ok h).elim
 case nilslice =>
  obtain ⟨e, rfl⟩ := ret_ok h
  injection e with e1 e2; subst e1 e2
  exact ⟨fun _ => rfl, ⟨[], fun _ => rfl, .nil⟩, rfl, rfl, by simp⟩
 case str b =>
  cases hb1 : Nat.beq size 1
  ·rw [hb1, cond_false] at h; exact (err_ok h).elim
  rw [hb1, cond_true] at h
  rw [nbeq_iff] at hb1; subst hb1
  obtain ⟨e, rfl⟩ := ret_ok h
  injection e with e1 e2; subst e1 e2
  refine ⟨fun _ => by rw [toNats_length]; rfl, ⟨b.data.toList.map fun x => Value.int .u8 x.toNat, fun d => ?_, bytesV_rel _⟩, rfl, rfl, by simp [bytesV]⟩
  have : b.extract 0 (toNats b).length = b := by
   rw [toNats_length]
   apply ByteArray.ext
   rw [ByteArray.data_extract]
   have : b.size = b.data.size := rfl
   rw [this]
   simp
  simp only [Builtin.firstCells, this, Sem.run_pure]
  congr 1
  apply Array.ext'
  simp
 case slice b o len cap cap' p a hp hl hs =>
  obtain ⟨vs, s1, h1, h2⟩ := bnd_ok h
  obtain ⟨e, rfl⟩ := ret_ok h2
  injection e with e1 e2; subst e1 e2
  obtain ⟨c, hg, hq, rfl, rfl⟩ := ld_ok h1
  refine ⟨fun _ => rfl, ?_, rfl, rfl, sub_length hq⟩
  rcases hs with ⟨h0, h0'⟩ | ⟨h0, _⟩
  ·have : n = 0 := by omega
   subst this
   refine ⟨[], fun d => by simp [Builtin.firstCells, loadCells, loadCellsFrom], ?_⟩
   have : sub c o (0 * size) = [] := by simp [sub]
   rw [this]; exact .nil
  ·subst h0
   obtain ⟨rs, g1, g2⟩ := run_loads_d (P := P) hr hg hp hq
   exact ⟨rs, fun d => by simp only [Builtin.firstCells]; exact g1 d, g2⟩
theorem zeroCells_size {z : Array Value} {n : Nat} : (Builtin.zeroCells z n).size = n * z.size := by simp [Builtin.zeroCells]
theorem roomy_le {need bytes : Nat} (h : roomy need bytes = true) : need ≤ 140737488355328 ∧ need * bytes ≤ 140737488355328 := by
 unfold roomy at h
 rw [Bool.or_eq_true, Bool.and_eq_true, Bool.and_eq_true, ble_iff, ble_iff, ble_iff, ble_iff] at h
 rcases h with h | h
 ·exact ⟨Nat.le_trans h.1 (by decide), Nat.le_trans (Nat.mul_le_mul h.1 h.2) (by decide)⟩
 ·exact ⟨h.1, Nat.le_trans (Nat.mul_le_mul h.1 h.2) (by decide)⟩
theorem roomy_of {need bytes : Nat} (h1 : need ≤ 1073741824) (h2 : Nat.ble bytes 65536 = true) : roomy need bytes = true := by
 unfold roomy
 rw [Bool.or_eq_true, Bool.and_eq_true]
 exact .inl ⟨ble_iff.2 h1, h2⟩
theorem roomy_big {need : Nat} (h1 : need ≤ 140737488355328) : roomy need 1 = true := by
 unfold roomy
 rw [Bool.or_eq_true, Bool.and_eq_true, Bool.and_eq_true]
 exact .inr ⟨ble_iff.2 h1, rfl⟩
theorem append_room {t tx e : TypeId} {dx : TypeDesc} {ts : Array TypeId} {ty : TypeId} {base : Option Addr} {sLen sCap size n : Nat} {x' : Value} (ht : ts[0]? = some t) (htx : ts[1]? = some tx) (hd : P.underlying t = some (.slice e)) (hdx : P.underlying tx = some dx) (hni : isIntD dx = false)
  (hn : szT P e = some size) (hl : ∀ w2 : World, (Builtin.lenOf x').run P w2 = .ok n w2) (hroom : sLen + n ≤ sCap) :
  (Builtin.append_ ts ty #[.slice base sLen sCap, x']).run P w = (do
    let new ← Builtin.firstCells size n x'
    if let some a := base then storeCells (a.add (sLen * size)) new.toList
    pure (.slice base (sLen + n) sCap) : Sem Value).run P w := by
 have e0 : (#[Value.slice base sLen sCap, x'] : Array Value)[0]? = some (.slice base sLen sCap) := rfl
 have e1 : (#[Value.slice base sLen sCap, x'] : Array Value)[1]? = some x' := rfl
 cases dx <;> first
  | (simp [isIntD] at hni; done)
  | (simp only [Builtin.append_, ht, htx, e0, e1, Sem.run_bind, run_underlying hd, run_underlying hdx, Result.andThen_ok, run_sizeOf hn, Sem.run_pure, hl, hroom, Bool.false_eq_true, if_false, if_true, Bool.not_false]; done)
  | (simp only [Builtin.append_, ht, htx, e0, e1, Sem.run_bind, run_underlying hd, run_underlying hdx, Result.andThen_ok, run_sizeOf hn, Sem.run_pure, hl, hroom, Bool.false_eq_true, if_false, if_true, Bool.not_false]; rfl)
theorem append_grow {t tx e : TypeId} {dx : TypeDesc} {ts : Array TypeId} {ty : TypeId} {base : Option Addr} {sLen sCap size n : Nat} {x' z' : Value} {os ns : Array Value} {ti : TypeInfo} (ht : ts[0]? = some t) (htx : ts[1]? = some tx) (hd : P.underlying t = some (.slice e)) (hdx : P.underlying tx = some dx) (hni : isIntD dx = false)
  (hn : szT P e = some size) (hl : ∀ w2 : World, (Builtin.lenOf x').run P w2 = .ok n w2) (hroom : ¬ sLen + n ≤ sCap) (hti : P.info? e = some ti) (hr : roomy (sLen + n) ti.bytes = true)
  (ho : ∀ d, (Builtin.firstCells size sLen (.slice base sLen sCap)).run P { w with drawn := d } = .ok os { w with drawn := d }) (hx : ∀ d, (Builtin.firstCells size n x').run P { w with drawn := d } = .ok ns { w with drawn := d })
  (hz : ∀ w2 : World, (zeroValue e).run P w2 = .ok z' w2) :
  ∃ cap, sLen + n ≤ cap ∧ (Builtin.append_ ts ty #[.slice base sLen sCap, x']).run P w = .ok (.slice (some ⟨w.heap.size, 0, none⟩) (sLen + n) cap)
   { w with heap := w.heap.push (.cells (os ++ ns ++ Builtin.zeroCells z'.cells (cap - (sLen + n))) e), drawn := w.drawn + 1 } := by
 have e0 : (#[Value.slice base sLen sCap, x'] : Array Value)[0]? = some (.slice base sLen sCap) := rfl
 have e1 : (#[Value.slice base sLen sCap, x'] : Array Value)[1]? = some x' := rfl
 obtain ⟨r1, r2⟩ := roomy_le hr
 have h1 : ¬ (((sLen + n : Nat) : Int) > IntKind.i64.max) := by
  have : IntKind.i64.max = 9223372036854775807 := by decide
  rw [this]; omega
 have h2 : ¬ (Builtin.nextslicecap (sLen + n) sCap * ti.bytes > 2 ^ 48) := by
  have := growslice_fits (need := sLen + n) (old := sCap) (bytes := ti.bytes) (by omega) r2
  omega
 have h3 : ¬ (Question.appendCap (sLen + n) sCap e).forced = true := by simp [Question.forced]
 refine ⟨(Question.appendCap (sLen + n) sCap e).cut (w.tape w.drawn (.appendCap (sLen + n) sCap e)), by simp [Question.cut], ?_⟩
 cases dx <;> first
  | (simp [isIntD] at hni; done)
  | (simp only [Builtin.append_, ht, htx, e0, e1, Sem.run_bind, run_underlying hd, run_underlying hdx, Result.andThen_ok, run_sizeOf hn, Sem.run_pure, hl, hroom, Bool.false_eq_true, if_false, if_true, Bool.not_false, h1, false_and, run_typeInfo hti, h2, run_choose, h3, run_askRoom, ho, hx, hz, newRow, run_newObj]; done)
theorem append_made_room {t tx e : TypeId} {dx : TypeDesc} {ts : Array TypeId} {ty : TypeId} {base : Option Addr} {sLen sCap size n : Nat} {k : IntKind} {z' : Value} {ti : TypeInfo} (ht : ts[0]? = some t) (htx : ts[1]? = some tx) (hd : P.underlying t = some (.slice e)) (hdx : P.underlying tx = some dx) (hi : isIntD dx = true)
  (hn : szT P e = some size) (hti : P.info? e = some ti) (hro : roomy n ti.bytes = true) (hz : ∀ w2 : World, (zeroValue e).run P w2 = .ok z' w2) (hzs : z'.cells.size = size) (hroom : sLen + n ≤ sCap) :
  (Builtin.append_ ts ty #[.slice base sLen sCap, .int k (n : Int)]).run P w = (do
    if let some a := base then storeCells (a.add (sLen * size)) (Builtin.zeroCells z'.cells n).toList
    pure (.slice base (sLen + n) sCap) : Sem Value).run P w := by
 have e0 : (#[Value.slice base sLen sCap, .int k (n : Int)] : Array Value)[0]? = some (.slice base sLen sCap) := rfl
 have e1 : (#[Value.slice base sLen sCap, .int k (n : Int)] : Array Value)[1]? = some (.int k (n : Int)) := rfl
 obtain ⟨r1, r2⟩ := roomy_le hro
 have hw : IntKind.i64.wrap (n : Int) = n := wrap_i64 n (by omega)
 have hneg : ¬ ((n : Int) < 0) := by omega
 have hbig : ¬ ((n : Int) * (ti.bytes : Int) > 2 ^ 48) := by
  have : ((n * ti.bytes : Nat) : Int) ≤ ((140737488355328 : Nat) : Int) := Int.ofNat_le.2 r2
  have e2 : ((n * ti.bytes : Nat) : Int) = (n : Int) * (ti.bytes : Int) := Int.natCast_mul n ti.bytes
  rw [e2] at this
  have e3 : (2 : Int) ^ 48 = 281474976710656 := by decide
  rw [e3]; omega
 cases dx <;> try (simp [isIntD] at hi; done)
 by_cases hzero : n * size = 0
 ·have hc0 : Builtin.zeroCells z'.cells n = #[] := by
   apply Array.eq_empty_of_size_eq_zero
   rw [zeroCells_size, hzs]; exact hzero
  simp only [Builtin.append_, ht, htx, e0, e1, Sem.run_bind, run_underlying hd, run_underlying hdx, Result.andThen_ok, run_sizeOf hn, Sem.run_pure, asInt, asIntOf, hw, hneg, run_typeInfo hti, hbig, Int.toNat_natCast, hroom, if_true, if_false, Bool.not_true, Bool.false_eq_true, hzero, hc0]
  cases base <;> rfl
 ·simp only [Builtin.append_, ht, htx, e0, e1, Sem.run_bind, run_underlying hd, run_underlying hdx, Result.andThen_ok, run_sizeOf hn, Sem.run_pure, asInt, asIntOf, hw, hneg, run_typeInfo hti, hbig, Int.toNat_natCast, hroom, if_true, if_false, Bool.not_true, Bool.false_eq_true, hzero, hz]
  cases base <;> rfl
theorem append_made_grow {t tx e : TypeId} {dx : TypeDesc} {ts : Array TypeId} {ty : TypeId} {base : Option Addr} {sLen sCap size n : Nat} {k : IntKind} {z' : Value} {os : Array Value} {ti : TypeInfo} (ht : ts[0]? = some t) (htx : ts[1]? = some tx) (hd : P.underlying t = some (.slice e)) (hdx : P.underlying tx = some dx) (hi : isIntD dx = true)
  (hn : szT P e = some size) (hro : roomy n ti.bytes = true) (hroom : ¬ sLen + n ≤ sCap) (hti : P.info? e = some ti) (hr : roomy (sLen + n) ti.bytes = true) (hzs : z'.cells.size = size)
  (ho : ∀ d, (Builtin.firstCells size sLen (.slice base sLen sCap)).run P { w with drawn := d } = .ok os { w with drawn := d }) (hz : ∀ w2 : World, (zeroValue e).run P w2 = .ok z' w2) :
  ∃ cap, sLen + n ≤ cap ∧ (Builtin.append_ ts ty #[.slice base sLen sCap, .int k (n : Int)]).run P w = .ok (.slice (some ⟨w.heap.size, 0, none⟩) (sLen + n) cap)
   { w with heap := w.heap.push (.cells (os ++ Builtin.zeroCells z'.cells n ++ Builtin.zeroCells z'.cells (cap - (sLen + n))) e), drawn := w.drawn + 1 } := by
 have e0 : (#[Value.slice base sLen sCap, .int k (n : Int)] : Array Value)[0]? = some (.slice base sLen sCap) := rfl
 have e1 : (#[Value.slice base sLen sCap, .int k (n : Int)] : Array Value)[1]? = some (.int k (n : Int)) := rfl
 obtain ⟨r1, r2⟩ := roomy_le hr
 obtain ⟨r3, r4⟩ := roomy_le hro
 have hw : IntKind.i64.wrap (n : Int) = n := wrap_i64 n (by omega)
 have hneg : ¬ ((n : Int) < 0) := by omega
 have hbig : ¬ ((n : Int) * (ti.bytes : Int) > 2 ^ 48) := by
  have : ((n * ti.bytes : Nat) : Int) ≤ ((140737488355328 : Nat) : Int) := Int.ofNat_le.2 r4
  have e2 : ((n * ti.bytes : Nat) : Int) = (n : Int) * (ti.bytes : Int) := Int.natCast_mul n ti.bytes
  rw [e2] at this
  have e3 : (2 : Int) ^ 48 = 281474976710656 := by decide
  rw [e3]; omega
 have h1 : ¬ (((sLen + n : Nat) : Int) > IntKind.i64.max) := by
  have : IntKind.i64.max = 9223372036854775807 := by decide
  rw [this]; omega
 have h2 : ¬ (Builtin.nextslicecap (sLen + n) sCap * ti.bytes > 2 ^ 48) := by
  have := growslice_fits (need := sLen + n) (old := sCap) (bytes := ti.bytes) (by omega) r2
  omega
 have h3 : ¬ (Question.appendCap (sLen + n) sCap e).forced = true := by simp [Question.forced]
 refine ⟨(Question.appendCap (sLen + n) sCap e).cut (w.tape w.drawn (.appendCap (sLen + n) sCap e)), by simp [Question.cut], ?_⟩
 cases dx <;> try (simp [isIntD] at hi; done)
 by_cases hzero : n * size = 0
 ·have hc0 : Builtin.zeroCells z'.cells n = #[] := by
   apply Array.eq_empty_of_size_eq_zero
   rw [zeroCells_size, hzs]; exact hzero
  simp only [Builtin.append_, ht, htx, e0, e1, Sem.run_bind, run_underlying hd, run_underlying hdx, Result.andThen_ok, run_sizeOf hn, Sem.run_pure, asInt, asIntOf, hw, hneg, run_typeInfo hti, hbig, Int.toNat_natCast, hroom, if_true, if_false, Bool.not_true, Bool.false_eq_true, h1, false_and, h2, run_choose, h3, run_askRoom, ho, hzero, hz, hc0, newRow, run_newObj]
 ·simp only [Builtin.append_, ht, htx, e0, e1, Sem.run_bind, run_underlying hd, run_underlying hdx, Result.andThen_ok, run_sizeOf hn, Sem.run_pure, asInt, asIntOf, hw, hneg, run_typeInfo hti, hbig, Int.toNat_natCast, hroom, if_true, if_false, Bool.not_true, Bool.false_eq_true, h1, false_and, h2, run_choose, h3, run_askRoom, ho, hzero, hz, newRow, run_newObj]
theorem grow_length {z' : Array Value} {os ns : List Value} {sLen n size cap : Nat} (hz : z'.size = size) (ho : os.length = sLen * size) (hn : ns.length = n * size) (hc : sLen + n ≤ cap) :
  ((⟨os⟩ : Array Value) ++ ⟨ns⟩ ++ Builtin.zeroCells z' (cap - (sLen + n))).size = cap * size := by
 simp only [Array.size_append, zeroCells_size, hz]
 show os.length + ns.length + _ = _
 rw [ho, hn, ← Nat.add_mul, ← Nat.add_mul]
 congr 1; omega
theorem step_grown {e : TypeId} {size sLen n cap d : Nat} {c : List V} {os ns : List Value} {z' : Array Value} (hr : Rel P μ ν s.heap w.heap) (hk : μ s.next = none) (hn : szT P e = some size)
  (hz : z'.size = size) (ho : os.length = sLen * size) (hnn : ns.length = n * size) (hc : sLen + n ≤ cap) (hv : VsRel μ ν c (os ++ ns)) :
  ∃ pl, pl.blk = w.heap.size ∧ pl.off = 0 ∧ pl.opn = true ∧ pl.esz = size ∧ pl.lim = cap * size ∧
   StepOk P μ ν s.heap s.next w (upd μ s.next pl) (s.heap.set s.next (some (.cells c e true))) (s.next + 1) { w with heap := w.heap.push (.cells (⟨os⟩ ++ ⟨ns⟩ ++ Builtin.zeroCells z' (cap - (sLen + n))) e), drawn := d } := by
 have hsz := grow_length hz ho hnn hc
 have hcl : c.length = (sLen + n) * size := by rw [hv.length, List.length_append, ho, hnn, Nat.add_mul]
 refine ⟨_, rfl, rfl, rfl, rfl, ?_, stepOpen (esz := size) hr hk hn ?_ (by simp) ?_⟩
 ·exact hsz
 ·rw [hsz, hcl]; exact Nat.mul_le_mul_right _ hc
 ·rw [Array.toList_append, Array.toList_append]
  have : (os ++ ns).length = c.length := by rw [hv.length]
  show VsRel μ ν c (((os ++ ns) ++ (Builtin.zeroCells z' (cap - (sLen + n))).toList).take c.length)
  rw [List.take_left' this]
  exact hv
theorem slice_grown {k need cap size : Nat} {pl : Pl} {n : Nat} (hb : pl.blk = n) (ho : pl.off = 0) (hp : pl.opn = true) (he : pl.esz = size) (hl : pl.lim = cap * size) (hc : need ≤ cap) :
  VRel (upd μ k pl) ν (.slice k 0 need need) (.slice (some ⟨n, 0, none⟩) need cap) :=
 .slice (upd_same μ k pl) (Nat.le_refl _) (.inr ⟨by rw [hb, ho], .inr ⟨hp, hc, by rw [he, hl, ho]; omega⟩⟩)
end
end Go.Lx
