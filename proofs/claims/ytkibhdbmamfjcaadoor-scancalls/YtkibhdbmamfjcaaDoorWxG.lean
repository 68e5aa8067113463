/-
  Operations on the heap, calls, texts, slices, and operators, in a form that rewriting works out.
-/
import Derived.Test.YtkibhdbmamfjcaaDoorWxF
import Derived.Test.YtkibhdbmamfjcaaDoorLxZ
set_option linter.unusedSimpArgs false
set_option linter.unusedVariables false
namespace Go.Wx
open Go.Lx
noncomputable section

def H.get (h : H) (k : Nat) : Option Ob := h.heap.get k
def H.push (h : H) (o : Ob) : H := ⟨h.heap.set h.nx (some o), h.nx + 1⟩
def H.put (h : H) (k : Nat) (o : Ob) : H := ⟨h.heap.set k (some o), h.nx⟩
def H.del (h : H) (k : Nat) : H := ⟨h.heap.set k none, h.nx⟩
theorem push_nx (h : H) (o : Ob) : (h.push o).nx = h.nx + 1 := rfl
theorem put_nx (h : H) (k : Nat) (o : Ob) : (h.put k o).nx = h.nx := rfl
theorem del_nx (h : H) (k : Nat) : (h.del k).nx = h.nx := rfl
theorem push_get (h : H) (o : Ob) (k : Nat) : (h.push o).get k = if k = h.nx then some o else h.get k := T.get_set _ _ _ _
theorem put_get (h : H) (j : Nat) (o : Ob) (k : Nat) : (h.put j o).get k = if k = j then some o else h.get k := T.get_set _ _ _ _
theorem del_get (h : H) (j : Nat) (k : Nat) : (h.del j).get k = if k = j then none else h.get k := T.get_set _ _ _ _
theorem push_get_lt {h : H} {o : Ob} {k : Nat} (hk : k < h.nx) : (h.push o).get k = h.get k := by rw [push_get, if_neg (by omega)]
theorem heap_get (h : H) (k : Nat) : h.heap.get k = h.get k := rfl

/-- what was there is there still -/
def Ext (h h' : H) : Prop := h.nx ≤ h'.nx ∧ ∀ k, k < h.nx → h'.get k = h.get k
theorem Ext.refl (h : H) : Ext h h := ⟨Nat.le_refl _, fun _ _ => rfl⟩
theorem Ext.trans {a b c : H} (x : Ext a b) (y : Ext b c) : Ext a c := ⟨Nat.le_trans x.1 y.1, fun k hk => by rw [y.2 k (Nat.lt_of_lt_of_le hk x.1), x.2 k hk]⟩
theorem Ext.push {a b : H} (x : Ext a b) (o : Ob) : Ext a (b.push o) := ⟨Nat.le_succ_of_le x.1, fun k hk => by rw [push_get_lt (Nat.lt_of_lt_of_le hk x.1), x.2 k hk]⟩
theorem Ext.put {a b : H} (x : Ext a b) {k : Nat} (hk : a.nx ≤ k) (o : Ob) : Ext a (b.put k o) := ⟨x.1, fun j hj => by rw [put_get, if_neg (by omega), x.2 j hj]⟩
theorem Ext.del {a b : H} (x : Ext a b) {k : Nat} (hk : a.nx ≤ k) : Ext a (b.del k) := ⟨x.1, fun j hj => by rw [del_get, if_neg (by omega), x.2 j hj]⟩

/-- new blocks, and those of a predicate -/
def fresh (n : Nat) (Ok : Nat → Prop) : Nat → Prop := fun k => n ≤ k ∨ Ok k
theorem fresh_def (n : Nat) (Ok : Nat → Prop) (k : Nat) : fresh n Ok k = (n ≤ k ∨ Ok k) := rfl
def nil1 : Nat → Prop := fun _ => False
theorem nil1_def (k : Nat) : nil1 k = False := rfl

section
variable {c : Cfg} {Ok : Nat → Prop} {env : Env} {h : H} {K : V → H → Fp → Prop}

theorem opW_did {o : Op} {v : V} {h' : H} {lg : List LE} {W : Prop} (hn : ∀ k, o = .call k → ∀ f, k.callee ≠ .value f) (e : opM c.P c.gl noCall (evalE env) o h.st = .ok v ⟨h'.heap, h'.nx, lg⟩) (hl : LogOk Ok h.nx lg ↔ W) : opW c Ok o env h K = (W ∧ K v h' (.lg lg)) := by
  rw [opW_plain hn, e]
  exact propext ⟨fun a => ⟨hl.1 a.1, a.2⟩, fun a => ⟨hl.2 a.1, a.2⟩⟩

theorem LogOk_new {lg : List LE} (hl : ∀ e ∈ lg, e.isW = true → blkOf e = h.nx) : LogOk Ok h.nx lg ↔ True := ⟨fun _ => trivial, fun _ e he hw => .inl (by rw [hl e he hw]; exact Nat.le_refl _)⟩
theorem LogOk_reads {lg : List LE} (hl : ∀ e ∈ lg, e.isW = false) : LogOk Ok h.nx lg ↔ True := ⟨fun _ => trivial, fun _ => LogOk_rd hl⟩

/-! ### New blocks -/

def zeroL (P : Program) (e : TypeId) : Option (List V) := (zeroT P e).map V.cells
def alW (z : Option (List V)) (e : TypeId) (h : H) (K : V → H → Fp → Prop) : Prop := match z with
  | some cs => K (.ptr h.nx 0) (h.push (.cells cs e false)) (.lg [.wrd h.nx])
  | none => False
theorem alW_some (cs : List V) (e : TypeId) : alW (some cs) e h K = K (.ptr h.nx 0) (h.push (.cells cs e false)) (.lg [.wrd h.nx]) := rfl
theorem opW_alloc (e : TypeId) : opW c Ok (.alloc e) env h K = alW (zeroL c.P e) e h K := by
  unfold zeroL
  cases hz : zeroT c.P e with
  | none =>
    rw [opW_fail (w := "alloc") (nc trivial) (by show opAlloc _ _ _ = _; unfold opAlloc; rw [hz]; rfl)]
    rfl
  | some z =>
    rw [opW_did (v := .ptr h.nx 0) (h' := h.push (.cells z.cells e false)) (lg := [.wrd h.nx]) (W := True) (nc trivial) (by show opAlloc _ _ _ = _; unfold opAlloc; rw [hz]; rfl) (LogOk_new fun e he _ => by simp at he; subst he; rfl)]
    simp [alW]
theorem opW_box (e : TypeId) (x : Operand) : opW c Ok (.box e x) env h K = K (.ptr h.nx 0) (h.push (.cells (evalE env x).cells e false)) (.lg [.wrd h.nx]) := by
  rw [opW_did (v := .ptr h.nx 0) (h' := h.push (.cells (evalE env x).cells e false)) (lg := [.wrd h.nx]) (W := True) (nc trivial) rfl (LogOk_new fun e he _ => by simp at he; subst he; rfl)]
  simp

/-- the cells of a slice that is written out, and their type -/
def buildSliceL (P : Program) (t : TypeId) (len : Nat) (parts : List (Nat × List V)) : Option (List V × TypeId) :=
  match P.underlying t with
  | some (.slice e) => match szT P e, zeroT P e with
    | some n, some z => bif Nat.ble (len * n) 16777216 && Nat.beq z.cells.length n then
        match fillV (parts.map fun p => (p.1 * n, n, p.2)) (rep z.cells len) with
        | some cs => some (cs, e)
        | none => none
      else none
    | _, _ => none
  | _ => none
def bsW (r : Option (List V × TypeId)) (len : Nat) (h : H) (K : V → H → Fp → Prop) : Prop := match r with
  | some (cs, e) => K (.slice h.nx 0 len len) (h.push (.cells cs e false)) (.lg [.wrd h.nx])
  | none => False
theorem bsW_some (cs : List V) (e : TypeId) (len : Nat) : bsW (some (cs, e)) len h K = K (.slice h.nx 0 len len) (h.push (.cells cs e false)) (.lg [.wrd h.nx]) := rfl
theorem opW_buildSlice (t : TypeId) (len : Nat) (parts : Array (Nat × Operand)) : opW c Ok (.buildSlice t len parts) env h K = bsW (buildSliceL c.P t len (parts.toList.map fun p => (p.1, (evalE env p.2).cells))) len h K := by
  generalize hps : (parts.toList.map fun p => (p.1, (evalE env p.2).cells)) = ps
  have e0 : opM c.P c.gl noCall (evalE env) (.buildSlice t len parts) h.st = (match buildSliceL c.P t len ps with
      | some (cs, e) => .ok (.slice h.nx 0 len len) ⟨(h.push (.cells cs e false)).heap, (h.push (.cells cs e false)).nx, [.wrd h.nx]⟩
      | none => .fail (match buildSliceM c.P t len ps h.st with
        | .fail w => w
        | _ => "")) := by
    show buildSliceM c.P t len (parts.toList.map fun p => (p.1, (evalE env p.2).cells)) h.st = _
    rw [hps]
    unfold buildSliceL buildSliceM
    cases hu : c.P.underlying t with
    | none => rfl
    | some d =>
      cases d <;> try rfl
      rename_i e
      simp only
      cases hn : szT c.P e with
      | none => rfl
      | some n =>
        cases hz : zeroT c.P e with
        | none => rfl
        | some z =>
          simp only
          cases hb : (Nat.ble (len * n) 16777216 && Nat.beq z.cells.length n) with
          | false => rfl
          | true =>
            simp only [cond_true]
            cases hf : fillV (List.map (fun p => (p.1 * n, n, p.2)) ps) (rep z.cells len) with
            | none => rfl
            | some cs => rfl
  cases hr : buildSliceL c.P t len ps with
  | none =>
    rw [hr] at e0
    rw [opW_fail (nc trivial) e0]
    rfl
  | some r =>
    obtain ⟨cs, e⟩ := r
    rw [hr] at e0
    rw [opW_did (W := True) (nc trivial) e0 (LogOk_new fun e he _ => by simp at he; subst he; rfl)]
    simp [bsW]

/-! ### Reading and writing variables -/

def rdNn (r : Option (Nat × Bool)) : Nat := match r with
  | some (n, true) => n
  | _ => 1
theorem loadVar_rdN {P : Program} {t : TypeId} {k o : Nat} {s : St} : loadVarM P t k o s = (match rdV (tyR P t) (s.heap.get k) o with
    | some v => .ok v { s with log := .rd k o (rdNn (tyR P t)) :: s.log }
    | none => .fail (match loadVarM P t k o s with
      | .fail w => w
      | _ => "")) := by
  unfold tyR loadVarM
  cases hd : P.underlying t with
  | none => rfl
  | some d =>
    cases hz : szT P t with
    | none => rfl
    | some n =>
      simp only
      cases ha : isAggD d with
      | true =>
        simp only [rdV, rdNn, cond_true]
        cases hc : rdC (s.heap.get k) o n with
        | some cs => rw [bnd_eq (ld_rdC hc)]; rfl
        | none =>
          have : ∃ w, Lx.ld k o n s = .fail w := by
            unfold rdC at hc
            unfold Lx.ld
            cases hg : s.heap.get k with
            | none => exact ⟨_, rfl⟩
            | some ob =>
              rw [hg] at hc
              cases ob <;> simp only at hc ⊢ <;> try exact ⟨_, rfl⟩
              rename_i c e p
              cases hb : Nat.ble (o + n) c.length with
              | false => simp
              | true => rw [hb] at hc; cases hc
          obtain ⟨w, e⟩ := this
          unfold Lx.bnd
          rw [e]
          rfl
      | false =>
        simp only [rdV, rdNn, cond_false]
        cases hc : rdC (s.heap.get k) o 1 with
        | some cs =>
          rw [bnd_eq (ld_rdC hc)]
          cases cs with
          | nil => rfl
          | cons x l =>
            cases l with
            | nil => rfl
            | cons y l => rfl
        | none =>
          have : ∃ w, Lx.ld k o 1 s = .fail w := by
            unfold rdC at hc
            unfold Lx.ld
            cases hg : s.heap.get k with
            | none => exact ⟨_, rfl⟩
            | some ob =>
              rw [hg] at hc
              cases ob <;> simp only at hc ⊢ <;> try exact ⟨_, rfl⟩
              rename_i c e p
              cases hb : Nat.ble (o + 1) c.length with
              | false => simp
              | true => rw [hb] at hc; cases hc
          obtain ⟨w, e⟩ := this
          unfold Lx.bnd
          rw [e]
          rfl

/-- a package-level variable's value -/
def constV' (c : Cfg) (t : TypeId) (g o : Nat) : Option V := pureO (constM c.P c.gl t g o)
theorem pure_const (P : Program) (gl : T (List V)) (t : TypeId) (g o : Nat) : Pure1 (constM P gl t g o) := by
  unfold constM
  repeat' (first | exact Pure1.ret _ | exact Pure1.err _ | refine Pure1.cond ?_ ?_ | split)
/-- what a load gives, and what it looks at -/
def ldV (c : Cfg) (t : TypeId) (a : V) (h : H) : Option V := match a with
  | .ptr k o => rdV (tyR c.P t) (h.get k) o
  | .gptr g o => constV' c t g o
  | _ => none
def ldL (r : Option (Nat × Bool)) (a : V) : List LE := match a with
  | .ptr k o => [.rd k o (rdNn r)]
  | _ => []
theorem ldV_ptr (t : TypeId) (k o : Nat) : ldV c t (.ptr k o) h = rdV (tyR c.P t) (h.get k) o := rfl
theorem ldV_gptr (t : TypeId) (g o : Nat) : ldV c t (.gptr g o) h = constV' c t g o := rfl
theorem opW_load (t : TypeId) (a : Operand) : opW c Ok (.load t a) env h K = optP (okO (ldV c t (evalE env a) h)) (getO' (ldV c t (evalE env a) h)) (ldL (tyR c.P t) (evalE env a)) h K := by
  have e0 : opM c.P c.gl noCall (evalE env) (.load t a) = opLoad c.P c.gl t (evalE env a) := rfl
  cases hv : evalE env a <;> simp only [ldV, ldL] <;> try (rw [opW_fail (w := "load") (nc trivial) (by rw [e0, hv]; rfl)]; simp [optP, okO]; done)
  case ptr k o =>
    have e1 : opM c.P c.gl noCall (evalE env) (.load t a) h.st = loadVarM c.P t k o h.st := by rw [e0, hv]; rfl
    rw [loadVar_rdN] at e1
    change _ = (match rdV (tyR c.P t) (h.get k) o with
      | some v => _
      | none => _) at e1
    cases hr : rdV (tyR c.P t) (h.get k) o with
    | none =>
      rw [hr] at e1
      rw [opW_fail (nc trivial) e1]
      simp [optP, okO]
    | some v =>
      rw [hr] at e1
      rw [opW_did (h' := h) (W := True) (nc trivial) e1 (LogOk_reads fun e he => by simp [H.st] at he; subst he; rfl)]
      simp [optP, okO, getO', H.st]
  case gptr g o =>
    exact opW_pureO (nc trivial) (by rw [e0, hv]; rfl) (pure_const _ _ _ _ _)
theorem gOp_load {p : Prop} (t : TypeId) (a : Operand) : gOp c Ok p (.load t a) env h K = (imp p (okO (ldV c t (evalE env a) h)) ∧ K (gv p (getO' (ldV c t (evalE env a) h))) h (.lg (glog p (ldL (tyR c.P t) (evalE env a))))) := by
  rw [gOp_pure fun K => opW_load (K := K) t a]

theorem rdV_one {n o : Nat} {cs : List V} {e : TypeId} {p : Bool} : rdV (some (n, false)) (some (.cells cs e p)) o = cs[o]? := by
  unfold rdV rdC
  by_cases hl : o + 1 ≤ cs.length
  · have hl' : o < cs.length := by omega
    simp only [ble_iff.2 hl, cond_true]
    have : sub cs o 1 = [cs[o]] := by
      unfold sub
      rw [List.drop_eq_getElem_cons hl', List.take_succ_cons, List.take_zero]
    rw [this, List.getElem?_eq_getElem hl']
    rfl
  · have : Nat.ble (o + 1) cs.length = false := by
      cases hb : Nat.ble (o + 1) cs.length with
      | false => rfl
      | true => exact (hl (Nat.le_of_ble_eq_true hb)).elim
    simp only [this, cond_false, oneV]
    rw [List.getElem?_eq_none (by omega)]
theorem rdV_agg {n o : Nat} {cs : List V} {e : TypeId} {p : Bool} : rdV (some (n, true)) (some (.cells cs e p)) o = if o + n ≤ cs.length then some (.agg ((cs.drop o).take n)) else none := by
  unfold rdV rdC
  by_cases hl : o + n ≤ cs.length
  · simp only [ble_iff.2 hl, cond_true, if_pos hl]
    rfl
  · have : Nat.ble (o + n) cs.length = false := by
      cases hb : Nat.ble (o + n) cs.length with
      | false => rfl
      | true => exact (hl (Nat.le_of_ble_eq_true hb)).elim
    simp only [this, cond_false, if_neg hl]
    rfl

def stB (Ok : Nat → Prop) (ob : Option Ob) (k o : Nat) (vs : List V) (h : H) (K : V → H → Fp → Prop) : Prop := match ob with
  | some (.cells cs e p) => (o + vs.length ≤ cs.length ∧ vs.all V.isCell = true ∧ (h.nx ≤ k ∨ Ok k)) ∧ K undefV (h.put k (.cells (listPut cs o vs) e p)) (.lg [.wr k o vs.length])
  | _ => False
def stW (Ok : Nat → Prop) (n : Option Nat) (a x : V) (h : H) (K : V → H → Fp → Prop) : Prop := match n, a with
  | some n, .ptr k o => x.cells.length = n ∧ stB Ok (h.get k) k o x.cells h K
  | _, _ => False
theorem stB_cells {cs : List V} {e : TypeId} {p : Bool} {k o : Nat} {vs : List V} : stB Ok (some (.cells cs e p)) k o vs h K = ((o + vs.length ≤ cs.length ∧ vs.all V.isCell = true ∧ (h.nx ≤ k ∨ Ok k)) ∧ K undefV (h.put k (.cells (listPut cs o vs) e p)) (.lg [.wr k o vs.length])) := rfl
theorem stW_ptr {n k o : Nat} {x : V} : stW Ok (some n) (.ptr k o) x h K = (x.cells.length = n ∧ stB Ok (h.get k) k o x.cells h K) := rfl
theorem opW_store (t : TypeId) (a x : Operand) : opW c Ok (.store t a x) env h K = stW Ok (szT c.P t) (evalE env a) (evalE env x) h K := by
  have e0 : opM c.P c.gl noCall (evalE env) (.store t a x) = opStore c.P t (evalE env a) (evalE env x) := rfl
  generalize evalE env x = v at *
  cases hv : evalE env a <;> rw [hv] at e0 <;> try (rw [opW_fail (w := "store") (nc trivial) (by rw [e0]; rfl)]; unfold stW; cases szT c.P t <;> rfl)
  rename_i k o
  have e1 : opM c.P c.gl noCall (evalE env) (.store t a x) h.st = storeVarM c.P t k o v h.st := by rw [e0]; rfl
  unfold storeVarM at e1
  cases hz : szT c.P t with
  | none =>
    rw [hz] at e1
    rw [opW_fail (nc trivial) e1]
    rfl
  | some n =>
    rw [hz] at e1
    simp only at e1
    rw [stW_ptr]
    by_cases hl : v.cells.length = n
    · rw [show Nat.beq v.cells.length n = true by rw [hl]; exact Nat.beq_refl n, cond_true] at e1
      simp only [hl, true_and]
      have fail : (∃ w, Lx.stc k o v.cells h.st = .fail w) → opW c Ok (.store t a x) env h K = False := by
        rintro ⟨w, e⟩
        refine opW_fail (w := w) (nc trivial) ?_
        rw [e1]
        unfold Lx.bnd
        rw [e]
      cases hg : h.get k with
      | none =>
        have hg' : h.heap.get k = none := hg
        rw [fail ⟨_, by unfold Lx.stc; simp only [H.st, hg']; rfl⟩]
        rfl
      | some ob =>
        have hg' : h.heap.get k = some ob := hg
        cases ob with
        | cells cs e p =>
          by_cases hb : (Nat.ble (o + v.cells.length) cs.length && v.cells.all V.isCell) = true
          · have e2 : Lx.stc k o v.cells h.st = .ok () ⟨(h.put k (.cells (listPut cs o v.cells) e p)).heap, h.nx, [.wr k o v.cells.length]⟩ := by
              unfold Lx.stc
              simp only [H.st, hg', hb, cond_true]
              rfl
            rw [bnd_eq e2] at e1
            have hb' := hb
            simp only [Bool.and_eq_true] at hb'
            rw [opW_did (h' := h.put k (.cells (listPut cs o v.cells) e p)) (W := h.nx ≤ k ∨ Ok k) (nc trivial) e1 ⟨fun q => q (.wr k o v.cells.length) (by simp) rfl, fun q e he _ => by simp at he; subst he; exact q⟩, stB_cells]
            refine propext ⟨fun q => ⟨⟨Nat.le_of_ble_eq_true hb'.1, hb'.2, q.1⟩, q.2⟩, fun q => ⟨q.1.2.2, q.2⟩⟩
          · rw [fail ⟨_, by unfold Lx.stc; simp only [H.st, hg', Bool.eq_false_iff.2 hb, cond_false]; rfl⟩, stB_cells]
            refine propext ⟨fun q => q.elim, fun q => hb ?_⟩
            simp only [Bool.and_eq_true]
            exact ⟨ble_iff.2 q.1.1, q.1.2.1⟩
        | map es ck => rw [fail ⟨_, by unfold Lx.stc; simp only [H.st, hg']; rfl⟩]; rfl
        | siter s q => rw [fail ⟨_, by unfold Lx.stc; simp only [H.st, hg']; rfl⟩]; rfl
        | miter m a b d => rw [fail ⟨_, by unfold Lx.stc; simp only [H.st, hg']; rfl⟩]; rfl
    · have hl' : Nat.beq v.cells.length n = false := by
        cases hb : Nat.beq v.cells.length n with
        | false => rfl
        | true => exact (hl (Nat.eq_of_beq_eq_true hb)).elim
      rw [hl', cond_false] at e1
      rw [opW_fail (nc trivial) e1]
      simp [hl]

/-! ### Calls of functions -/

def callF (c : Cfg) (Ok : Nat → Prop) (g : FuncId) (args : List V) (h : H) (K : V → H → Fp → Prop) : Prop := ∃ Ok' : Nat → Prop, (∀ k, Ok' k → Ok k) ∧ callW c Ok' g args h fun v h' => K v h' (.cl h.nx h'.nx Ok')
def callK (c : Cfg) (Ok : Nat → Prop) (f : V) (args : List V) (h : H) (K : V → H → Fp → Prop) : Prop := match f with
  | .func g first cap => callF c Ok g (first ++ args ++ cap) h K
  | _ => False
theorem opW_call (f : Operand) (args : Array Operand) (ts : Array TypeId) : opW c Ok (.call ⟨.value f, args, ts⟩) env h K = callK c Ok (evalE env f) (args.toList.map (evalE env)) h K := by
  unfold opW callK callF
  simp only
  cases evalE env f <;> rfl
theorem callK_func (g : FuncId) (first cap args : List V) : callK c Ok (.func g first cap) args h K = callF c Ok g (first ++ args ++ cap) h K := rfl
/-- a call that leaves the heap as it is -/
def Exact (c : Cfg) (g : FuncId) (args : List V) (h : H) (v : V) : Prop := callW c nil1 g args h fun v' h' => v' = v ∧ h' = h
/-- a call that writes new blocks alone -/
def Pure (c : Cfg) (g : FuncId) (args : List V) (h : H) (R : V → H → Prop) : Prop := callW c nil1 g args h fun v' h' => Ext h h' ∧ R v' h'
theorem callF_exact {g : FuncId} {args : List V} {v : V} (hs : Exact c g args h v) (hK : K v h (.cl h.nx h.nx nil1)) : callF c Ok g args h K :=
  ⟨nil1, fun _ h => h.elim, callW_mono hs (fun _ h => h) fun v' h' ⟨e1, e2⟩ => by subst e1; subst e2; exact hK⟩
theorem callF_pure {g : FuncId} {args : List V} {R : V → H → Prop} (hs : Pure c g args h R) (hK : ∀ v h', Ext h h' → R v h' → K v h' (.cl h.nx h'.nx nil1)) : callF c Ok g args h K :=
  ⟨nil1, fun _ h => h.elim, callW_mono hs (fun _ h => h) fun v' h' ⟨e1, e2⟩ => hK v' h' e1 e2⟩
theorem callF_of {g : FuncId} {args : List V} {Ok' : Nat → Prop} {R : V → H → Prop} (hs : callW c Ok' g args h R) (ho : ∀ k, Ok' k → Ok k) (hK : ∀ v h', R v h' → K v h' (.cl h.nx h'.nx Ok')) : callF c Ok g args h K :=
  ⟨Ok', ho, callW_mono hs (fun _ h => h) hK⟩
theorem Exact.pure {g : FuncId} {args : List V} {v : V} (hs : Exact c g args h v) : Pure c g args h fun v' h' => v' = v ∧ h' = h :=
  callW_mono hs (fun _ h => h) fun v' h' e => ⟨by rw [e.2]; exact Ext.refl _, e⟩
/-- a call under a guard -/
def gCall (c : Cfg) (Ok : Nat → Prop) (p : Prop) (f : V) (args : List V) (h : H) (K : V → H → Fp → Prop) : Prop := (p → callK c Ok f args h K) ∧ (¬ p → K undefV h (.lg []))
theorem gCall_congr {p p' : Prop} {f f' : V} {args args' : List V} (hp : p = p') (hf : p' → f = f') (ha : p' → args = args') : gCall c Ok p f args h K = gCall c Ok p' f' args' h K := by
  subst hp
  unfold gCall
  by_cases h : p
  · simp only [h, hf h, ha h]
  · simp [h]
attribute [congr] gCall_congr
theorem opW_callF_guard {p : Prop} (f : Operand) (args : Array Operand) (ts : Array TypeId) : gOp c Ok p (.call ⟨.value f, args, ts⟩) env h K = gCall c Ok p (evalE env f) (args.toList.map (evalE env)) h K := by
  unfold gOp gCall
  rw [opW_call]
theorem gCall_true {f : V} {args : List V} : gCall c Ok True f args h K = callK c Ok f args h K := by simp [gCall]
theorem gCall_false {f : V} {args : List V} : gCall c Ok False f args h K = K undefV h (.lg []) := by simp [gCall]
theorem gCall_split {p : Prop} {f : V} {args : List V} (h1 : p → callK c Ok f args h K) (h2 : ¬ p → K undefV h (.lg [])) : gCall c Ok p f args h K := ⟨h1, h2⟩
/-- the called one leaves the heap as it is: no two ways -/
theorem gCall_exact {p : Prop} {g : FuncId} {first cap args : List V} {v : V} (hs : p → Exact c g (first ++ args ++ cap) h v) (hK : ∀ fp, K (gv p v) h fp) : gCall c Ok p (.func g first cap) args h K :=
  ⟨fun hp => callF_exact (hs hp) (by have := hK (.cl h.nx h.nx nil1); simpa [gv, hp] using this), fun hp => by have := hK (.lg []); simpa [gv, hp] using this⟩
end

/-- a function's text -/
def bodyOf (P : Program) (f : FuncId) : Option Code := (P.funcs[f]?).bind (·.body)

/-- into a function: what it writes is new, or may be written -/
theorem into {c : Cfg} {Ok : Nat → Prop} {f : FuncId} {args : List V} {h : H} {K : V → H → Prop} (fn : Func) (code : Code) (hf : c.P.funcs[f]? = some fn) (hs : c.sum f = none) (hn : (fn.name == "runtime.NumGoroutine") = false) (hb : fn.body = some code)
    (hok : okCode fn.ntmps code = true) (hd : noDefer code = true) (hw : run c (fresh h.nx Ok) [] code (argE args) h (endQ c fn.results.toList K)) : callW c Ok f args h K := by
  obtain ⟨v, h', hr, hK⟩ := callW_intro (Ok := fresh h.nx Ok) hf hs hn hb hok hd hw
  refine ⟨v, h', fun hwf => ?_, hK⟩
  obtain ⟨N, hN⟩ := hr hwf
  refine ⟨N, fun lf hlf n hn l0 => ?_⟩
  obtain ⟨l, h1, h2⟩ := hN lf hlf n hn l0
  refine ⟨l, h1, h2.mono, fun e he hw => ?_, h2.wf⟩
  rcases h2.log e he hw with q | q | q
  · exact .inl q
  · exact .inl q
  · exact .inr q

end
end Go.Wx
