/-
  Several texts, joined.
-/
import Derived.Test.YthhdkonpejmgcaaGreatDoorLx4
import Derived.IntWalk
import Derived.Test.YthhdkonpejmgcaaGreatDoorLy2
import GoSem.ClaimJoined
import Derived.Handed
/-
  The machine's small steps hang on the log in nothing, and what they look at is there: the ground of the rules for proofs over all inputs.
-/
set_option linter.unusedSimpArgs false
set_option linter.unusedVariables false
namespace Go.Wx
open Go.Lx
noncomputable section
def blkOf : LE → Nat
  | .rd k _ _ => k
  | .wr k _ _ => k
  | .rdd k => k
  | .wrd k => k
def WF (h : T Ob) (n : Nat) : Prop := ∀ k, h.get k ≠ none → k < n
def addLog {α : Type} (l : List LE) : R α → R α
  | .ok a s => .ok a ⟨s.heap, s.next, s.log ++ l⟩
  | .fail w => .fail w
structure Nice {α : Type} (F : M α) : Prop where
  irr : ∀ h n l, F ⟨h, n, l⟩ = addLog l (F ⟨h, n, []⟩)
  mono : ∀ h n a s, F ⟨h, n, []⟩ = .ok a s → n ≤ s.next
  wf : ∀ h n a s, F ⟨h, n, []⟩ = .ok a s → WF h n → WF s.heap s.next ∧ ∀ e ∈ s.log, blkOf e < s.next

theorem Nice.ret {α : Type} (a : α) : Nice (Lx.ret a) := by
  refine ⟨fun h n l => rfl, fun h n b s e => ?_, fun h n b s e hw => ?_⟩ <;> obtain ⟨rfl, rfl⟩ := ret_ok e
  · exact Nat.le_refl _
  · exact ⟨hw, fun e he => by simp at he⟩

theorem Nice.err {α : Type} (w : String) : Nice (err w : M α) :=
  ⟨fun h n l => rfl, fun h n b s e => (err_ok e).elim, fun h n b s e => (err_ok e).elim⟩

theorem Nice.opt {α : Type} (o : Option α) (w : String) : Nice (Lx.opt o w) := by
  cases o with
  | none => exact Nice.err w
  | some a => exact Nice.ret a

theorem Nice.cond {α : Type} {b : Bool} {x y : M α} (hx : Nice x) (hy : Nice y) : Nice (bif b then x else y) := by
  cases b
  · exact hy
  · exact hx

theorem Nice.bnd {α β : Type} {F : M α} {G : α → M β} (hF : Nice F) (hG : ∀ a, Nice (G a)) : Nice (Lx.bnd F G) := by
  have key : ∀ h n l, Lx.bnd F G ⟨h, n, l⟩ = match F ⟨h, n, []⟩ with
      | .ok a s => addLog (s.log ++ l) (G a ⟨s.heap, s.next, []⟩)
      | .fail w => .fail w := by
    intro h n l
    unfold Lx.bnd
    rw [hF.irr h n l]
    cases F ⟨h, n, []⟩ with
    | fail w => rfl
    | ok a s =>
      show G a ⟨s.heap, s.next, s.log ++ l⟩ = _
      rw [(hG a).irr]
  refine ⟨fun h n l => ?_, fun h n b s e => ?_, fun h n b s e hw => ?_⟩
  · rw [key h n l, key h n []]
    cases F ⟨h, n, []⟩ with
    | fail w => rfl
    | ok a s =>
      show addLog (s.log ++ l) _ = addLog l (addLog (s.log ++ []) _)
      cases G a ⟨s.heap, s.next, []⟩ with
      | fail w => rfl
      | ok b s' => simp [addLog]
  · rw [key h n []] at e
    cases h1 : F ⟨h, n, []⟩ with
    | fail w => rw [h1] at e; cases e
    | ok a s1 =>
      rw [h1] at e
      change addLog (s1.log ++ []) (G a ⟨s1.heap, s1.next, []⟩) = _ at e
      cases h2 : G a ⟨s1.heap, s1.next, []⟩ with
      | fail w => rw [h2] at e; cases e
      | ok b2 s2 =>
        rw [h2] at e
        cases e
        exact Nat.le_trans (hF.mono _ _ _ _ h1) ((hG a).mono s1.heap s1.next _ s2 h2)
  · rw [key h n []] at e
    cases h1 : F ⟨h, n, []⟩ with
    | fail w => rw [h1] at e; cases e
    | ok a s1 =>
      rw [h1] at e
      change addLog (s1.log ++ []) (G a ⟨s1.heap, s1.next, []⟩) = _ at e
      cases h2 : G a ⟨s1.heap, s1.next, []⟩ with
      | fail w => rw [h2] at e; cases e
      | ok b2 s2 =>
        rw [h2] at e
        cases e
        obtain ⟨w1, l1⟩ := hF.wf _ _ _ _ h1 hw
        obtain ⟨w2, l2⟩ := (hG a).wf _ _ _ _ h2 w1
        refine ⟨w2, fun x hx => ?_⟩
        have hm := (hG a).mono _ _ _ _ h2
        change s1.next ≤ s2.next at hm
        simp only [List.append_nil, List.mem_append] at hx
        rcases hx with hx | hx
        · exact l2 x hx
        · exact Nat.lt_of_lt_of_le (l1 x hx) hm

theorem WF.lt {h : T Ob} {n k : Nat} {o : Ob} (hw : WF h n) (hg : h.get k = some o) : k < n := hw k (by rw [hg]; simp)

theorem WF.set {h : T Ob} {n k : Nat} {o : Option Ob} (hw : WF h n) (hk : k < n) : WF (h.set k o) n := by
  intro j hj
  rw [T.get_set] at hj
  split at hj
  · omega
  · exact hw j hj

theorem Nice.ld (k o n : Nat) : Nice (Lx.ld k o n) := by
  refine ⟨fun h m l => ?_, fun h m b s e => ?_, fun h m b s e hw => ?_⟩
  · unfold Lx.ld
    cases hg : h.get k with
    | none => simp [hg, addLog]
    | some ob =>
      cases ob with
      | cells c e p => simp only [hg]; cases Nat.ble (o + n) c.length <;> rfl
      | ro c => simp only [hg]; cases Nat.ble (o + n) c.length <;> rfl
      | map es clock => simp only [hg]; rfl
      | siter s pos => simp only [hg]; rfl
      | miter m since seen last => simp only [hg]; rfl
  · obtain ⟨c, hg, hl, rfl, rfl⟩ := ld_ok e; exact Nat.le_refl _
  · obtain ⟨c, hg, hl, rfl, rfl⟩ := ld_ok e
    exact ⟨hw, fun x hx => by simp at hx; subst hx; exact hw.lt hg.choose_spec.1⟩

theorem Nice.stc (k o : Nat) (vs : List V) : Nice (Lx.stc k o vs) := by
  refine ⟨fun h m l => ?_, fun h m b s e => ?_, fun h m b s e hw => ?_⟩
  · unfold Lx.stc
    cases hg : h.get k with
    | none => simp [hg, addLog]
    | some ob =>
      cases ob <;> simp only [hg] <;> try rfl
      rename_i c _ _
      cases (Nat.ble (o + vs.length) c.length && vs.all V.isCell) <;> rfl
  · obtain ⟨c, e', p, hg, hl, hc, rfl⟩ := stc_ok e; exact Nat.le_refl _
  · obtain ⟨c, e', p, hg, hl, hc, rfl⟩ := stc_ok e
    exact ⟨hw.set (hw.lt hg), fun x hx => by simp at hx; subst hx; exact hw.lt hg⟩

theorem Nice.blk (k : Nat) : Nice (Lx.blk k) := by
  refine ⟨fun h m l => ?_, fun h m b s e => ?_, fun h m b s e hw => ?_⟩
  · unfold Lx.blk
    cases hg : h.get k with
    | none => simp [hg, addLog]
    | some ob => cases ob <;> simp only [hg] <;> rfl
  · obtain ⟨c, e', p, hg, rfl, rfl⟩ := blk_ok e; exact Nat.le_refl _
  · obtain ⟨c, e', p, hg, rfl, rfl⟩ := blk_ok e
    exact ⟨hw, fun x hx => by simp at hx; subst hx; exact hw.lt hg⟩

theorem Nice.blkS (k : Nat) : Nice (Lx.blkS k) := by
  refine ⟨fun h m l => ?_, fun h m b s e => ?_, fun h m b s e hw => ?_⟩
  · unfold Lx.blkS
    cases hg : h.get k with
    | none => simp [hg, addLog]
    | some ob => cases ob <;> simp only [hg] <;> rfl
  · obtain ⟨_, rfl⟩ := blkS_ok e; exact Nat.le_refl _
  · obtain ⟨h0, rfl⟩ := blkS_ok e
    refine ⟨hw, fun x hx => ?_⟩
    simp at hx; subst hx
    rcases h0 with ⟨c, hg, _⟩ | ⟨c, hg, _⟩ <;> exact hw.lt hg

theorem Nice.getO (k : Nat) : Nice (Lx.getO k) := by
  refine ⟨fun h m l => ?_, fun h m b s e => ?_, fun h m b s e hw => ?_⟩
  · unfold Lx.getO
    cases hg : h.get k with
    | none => simp [hg, addLog]
    | some ob => simp only [hg]; cases ob.isCells <;> rfl
  · obtain ⟨hg, hc, rfl⟩ := getO_ok e; exact Nat.le_refl _
  · obtain ⟨hg, hc, rfl⟩ := getO_ok e
    exact ⟨hw, fun x hx => by simp at hx; subst hx; exact hw.lt hg⟩

theorem Nice.setO (k : Nat) (o : Ob) : Nice (Lx.setO k o) := by
  refine ⟨fun h m l => ?_, fun h m b s e => ?_, fun h m b s e hw => ?_⟩
  · unfold Lx.setO
    cases hg : h.get k with
    | none => simp [hg, addLog]
    | some ob => simp only [hg]; cases (ob.isCells || o.isCells) <;> rfl
  · obtain ⟨o', hg, hc, hc', rfl⟩ := setO_ok e; exact Nat.le_refl _
  · obtain ⟨o', hg, hc, hc', rfl⟩ := setO_ok e
    refine ⟨hw.set (hw.lt hg), fun x hx => ?_⟩
    simp at hx
    rcases hx with rfl | rfl <;> exact hw.lt hg

theorem Nice.kill (k : Nat) : Nice (Lx.kill k) := by
  refine ⟨fun h m l => ?_, fun h m b s e => ?_, fun h m b s e hw => ?_⟩
  · unfold Lx.kill
    cases hg : h.get k with
    | none => simp [hg, addLog]
    | some ob => cases ob <;> simp only [hg] <;> rfl
  · unfold Lx.kill at e
    cases hg : h.get k with
    | none => simp [hg] at e
    | some ob => cases ob <;> simp [hg] at e; obtain ⟨rfl, rfl⟩ := e; exact Nat.le_refl _
  · unfold Lx.kill at e
    cases hg : h.get k with
    | none => simp [hg] at e
    | some ob =>
      cases ob <;> simp [hg] at e
      obtain ⟨rfl, rfl⟩ := e
      refine ⟨hw.set (hw.lt hg), fun x hx => ?_⟩
      simp at hx
      rcases hx with rfl | rfl <;> exact hw.lt hg

theorem Nice.alloc (ob : Ob) : Nice (Lx.alloc ob) := by
  refine ⟨fun h m l => rfl, fun h m b s e => ?_, fun h m b s e hw => ?_⟩
  · unfold Lx.alloc at e; cases e; exact Nat.le_succ _
  · unfold Lx.alloc at e; cases e
    refine ⟨fun j hj => ?_, fun x hx => by simp at hx; subst hx; exact Nat.lt_succ_self _⟩
    rw [T.get_set] at hj
    split at hj
    · rename_i he; subst he; exact Nat.lt_succ_self _
    · exact Nat.lt_succ_of_lt (hw j hj)

section
variable {P : Program}

theorem nice_loadVar (t : TypeId) (k o : Nat) : Nice (loadVarM P t k o) := by
  unfold loadVarM
  repeat' (first | exact Nice.ret _ | exact Nice.err _ | exact Nice.ld _ _ _ | refine Nice.cond ?_ ?_ | refine Nice.bnd ?_ (fun _ => ?_) | split)

theorem nice_storeVar (t : TypeId) (k o : Nat) (v : V) : Nice (storeVarM P t k o v) := by
  unfold storeVarM
  repeat' (first | exact Nice.ret _ | exact Nice.err _ | exact Nice.stc _ _ _ | refine Nice.cond ?_ ?_ | refine Nice.bnd ?_ (fun _ => ?_) | split)

theorem nice_part (t : TypeId) (cs : List V) (o : Nat) : Nice (partM P t cs o) := by
  unfold partM
  repeat' (first | exact Nice.ret _ | exact Nice.err _ | refine Nice.cond ?_ ?_ | refine Nice.bnd ?_ (fun _ => ?_) | split)

theorem nice_build (t : TypeId) (ps : List (Nat × List V)) : Nice (buildM P t ps) := by
  unfold buildM
  repeat' (first | exact Nice.ret _ | exact Nice.err _ | refine Nice.cond ?_ ?_ | refine Nice.bnd ?_ (fun _ => ?_) | split)

theorem nice_buildSlice (t : TypeId) (n : Nat) (ps : List (Nat × List V)) : Nice (buildSliceM P t n ps) := by
  unfold buildSliceM
  repeat' (first | exact Nice.ret _ | exact Nice.err _ | exact Nice.alloc _ | refine Nice.cond ?_ ?_ | refine Nice.bnd ?_ (fun _ => ?_) | split)

theorem nice_slice (t : TypeId) (x : V) (a b c : Option V) : Nice (sliceM P t x a b c) := by
  unfold sliceM
  repeat' (first | exact Nice.ret _ | exact Nice.err _ | exact Nice.blk _ | exact Nice.blkS _ | refine Nice.cond ?_ ?_ | refine Nice.bnd ?_ (fun _ => ?_) | split)

theorem nice_convert (a b : TypeId) (x : V) : Nice (convertM P a b x) := by
  unfold convertM
  repeat' (first | exact Nice.ret _ | exact Nice.err _ | exact Nice.ld _ _ _ | exact Nice.blk _ | exact Nice.blkS _ | exact Nice.alloc _ | refine Nice.cond ?_ ?_ | refine Nice.bnd ?_ (fun _ => ?_) | split)

theorem nice_entries (x : V) : Nice (entriesOf x) := by
  unfold entriesOf
  repeat' (first | exact Nice.ret _ | exact Nice.err _ | exact Nice.getO _ | refine Nice.cond ?_ ?_ | refine Nice.bnd ?_ (fun _ => ?_) | split)

theorem nice_lookup (t : TypeId) (x k : V) (ok : Bool) : Nice (lookupM P t x k ok) := by
  unfold lookupM
  repeat' (first | exact Nice.ret _ | exact Nice.err _ | exact nice_entries _ | refine Nice.cond ?_ ?_ | refine Nice.bnd ?_ (fun _ => ?_) | split)

theorem nice_mapUpdate (t : TypeId) (m k v : V) : Nice (mapUpdateM P t m k v) := by
  unfold mapUpdateM
  repeat' (first | exact Nice.ret _ | exact Nice.err _ | exact Nice.getO _ | exact Nice.setO _ _ | refine Nice.cond ?_ ?_ | refine Nice.bnd ?_ (fun _ => ?_) | split)

theorem nice_delete (t : TypeId) (m k : V) : Nice (deleteM P t m k) := by
  unfold deleteM
  repeat' (first | exact Nice.ret _ | exact Nice.err _ | exact Nice.getO _ | exact Nice.setO _ _ | refine Nice.cond ?_ ?_ | refine Nice.bnd ?_ (fun _ => ?_) | split)

theorem nice_range (t : TypeId) (x : V) : Nice (rangeM P t x) := by
  unfold rangeM
  repeat' (first | exact Nice.ret _ | exact Nice.err _ | exact Nice.getO _ | exact Nice.alloc _ | refine Nice.cond ?_ ?_ | refine Nice.bnd ?_ (fun _ => ?_) | split)

theorem nice_next (it : V) (b : Bool) : Nice (nextM it b) := by
  unfold nextM
  repeat' (first | exact Nice.ret _ | exact Nice.err _ | exact Nice.getO _ | exact Nice.setO _ _ | exact nice_entries _ | refine Nice.cond ?_ ?_ | refine Nice.bnd ?_ (fun _ => ?_) | split)

theorem nice_entry (it : V) : Nice (entryM it) := by
  unfold entryM
  repeat' (first | exact Nice.ret _ | exact Nice.err _ | exact Nice.getO _ | exact nice_entries _ | refine Nice.cond ?_ ?_ | refine Nice.bnd ?_ (fun _ => ?_) | split)

theorem nice_taken (n : Nat) (x : V) : Nice (takenM n x) := by
  unfold takenM
  repeat' (first | exact Nice.ret _ | exact Nice.err _ | exact Nice.ld _ _ _ | refine Nice.cond ?_ ?_ | refine Nice.bnd ?_ (fun _ => ?_) | split)

theorem nice_grow (e : TypeId) (size b o len n : Nat) (new : List V) : Nice (growM e size b o len n new) := by
  unfold growM
  repeat' (first | exact Nice.ret _ | exact Nice.err _ | exact Nice.ld _ _ _ | exact Nice.blk _ | exact Nice.blkS _ | exact Nice.kill _ | exact Nice.alloc _ | refine Nice.cond ?_ ?_ | refine Nice.bnd ?_ (fun _ => ?_) | split)

theorem nice_appendCore (e : TypeId) (size bytes : Nat) (s : V) (new : List V) (n : Nat) : Nice (appendCore e size bytes s new n) := by
  unfold appendCore
  repeat' (first | exact Nice.ret _ | exact Nice.err _ | exact Nice.stc _ _ _ | exact Nice.alloc _ | exact nice_grow _ _ _ _ _ _ _ | refine Nice.cond ?_ ?_ | refine Nice.bnd ?_ (fun _ => ?_) | split)

theorem nice_append (t tx : TypeId) (s x : V) : Nice (appendM P t tx s x) := by
  unfold appendM
  repeat' (first | exact Nice.ret _ | exact Nice.err _ | exact nice_taken _ _ | exact nice_appendCore _ _ _ _ _ _ | refine Nice.cond ?_ ?_ | refine Nice.bnd ?_ (fun _ => ?_) | split)

theorem nice_copy (t : TypeId) (d x : V) : Nice (copyM P t d x) := by
  unfold copyM
  repeat' (first | exact Nice.ret _ | exact Nice.err _ | exact Nice.ld _ _ _ | exact Nice.stc _ _ _ | refine Nice.cond ?_ ?_ | refine Nice.bnd ?_ (fun _ => ?_) | split)

theorem nice_clear (t : TypeId) (x : V) : Nice (clearM P t x) := by
  unfold clearM
  repeat' (first | exact Nice.ret _ | exact Nice.err _ | exact Nice.getO _ | exact Nice.setO _ _ | exact Nice.stc _ _ _ | refine Nice.cond ?_ ?_ | refine Nice.bnd ?_ (fun _ => ?_) | split)

theorem nice_len (t : TypeId) (x : V) : Nice (lenM P t x) := by
  unfold lenM
  repeat' (first | exact Nice.ret _ | exact Nice.err _ | exact Nice.getO _ | exact Nice.blk _ | exact Nice.blkS _ | exact nice_entries _ | refine Nice.cond ?_ ?_ | refine Nice.bnd ?_ (fun _ => ?_) | split)

theorem nice_cap (t : TypeId) (x : V) : Nice (capM P t x) := by
  unfold capM
  repeat' (first | exact Nice.ret _ | exact Nice.err _ | exact Nice.blk _ | exact Nice.blkS _ | refine Nice.cond ?_ ?_ | refine Nice.bnd ?_ (fun _ => ?_) | split)

theorem nice_unsafeString (t : TypeId) (p : V) (n : Nat) : Nice (unsafeStringM P t p n) := by
  unfold unsafeStringM
  repeat' (first | exact Nice.ret _ | exact Nice.err _ | exact Nice.blk _ | exact Nice.blkS _ | exact Nice.ld _ _ _ | exact Nice.kill _ | refine Nice.cond ?_ ?_ | refine Nice.bnd ?_ (fun _ => ?_) | split)

theorem nice_builtin (b : Builtin) (ts : Array TypeId) (args : List V) : Nice (builtinM P b ts args) := by
  unfold builtinM
  repeat' (first | exact Nice.ret _ | exact Nice.err _ | exact Nice.opt _ _ | exact nice_unsafeString _ _ _ | exact nice_len _ _ | exact nice_cap _ _ | exact nice_append _ _ _ _ | exact nice_copy _ _ _ | exact nice_delete _ _ _ | exact nice_clear _ _ | split)

theorem nice_const (gl : T (List V)) (t : TypeId) (g o : Nat) : Nice (constM P gl t g o) := by
  unfold constM
  repeat' (first | exact Nice.ret _ | exact Nice.err _ | refine Nice.cond ?_ ?_ | split)

theorem nice_op {gl : T (List V)} {call : FuncId → List V → M V} (hc : ∀ f vs, Nice (call f vs)) (ev : Operand → V) (o : Op) : Nice (opM P gl call ev o) := by
  rw [opM_eq]
  try unfold opPick opAlloc opBox opBuild opBuildSlice opLoad opStore opNilCheck opMakeInterface opMakeFunc opMakeMap opMakeSlice opFieldAddr opField opIndexAddr opIndex opExtract opCall callV
  repeat' (first
    | exact Nice.ret _ | exact Nice.err _ | exact Nice.opt _ _ | exact Nice.alloc _ | exact hc _ _
    | exact nice_loadVar _ _ _ | exact nice_const _ _ _ _ | exact nice_storeVar _ _ _ _ | exact nice_part _ _ _ | exact nice_build _ _ | exact nice_buildSlice _ _ _ | exact nice_slice _ _ _ _ _ | exact nice_convert _ _ _
    | exact nice_lookup _ _ _ _ | exact nice_mapUpdate _ _ _ _ | exact nice_range _ _ | exact nice_next _ _ | exact nice_entry _ | exact nice_builtin _ _ _
    | refine Nice.cond ?_ ?_ | refine Nice.bnd ?_ (fun _ => ?_) | split)
end
def noCall : FuncId → List V → M V := fun _ _ => err "call"

theorem nice_noCall (f : FuncId) (vs : List V) : Nice (noCall f vs) := Nice.err _

end
end Go.Wx

/-
  What a piece of code comes to, over all inputs: a predicate that is worked out along the code (wpC, run), calls that come back (callW), and that the machine does so.
-/
set_option linter.unusedSimpArgs false
set_option linter.unusedVariables false
namespace Go.Wx
open Go.Lx
noncomputable section

abbrev Env := Nat → V
structure H where
  heap : T Ob
  nx : Nat

def H.st (h : H) : St := ⟨h.heap, h.nx, []⟩
def ofSt (s : St) : H := ⟨s.heap, s.next⟩

def upd (env : Env) (d : Nat) (v : V) : Env := fun t => if t = d then v else env t
def putE (dst : Option Tmp) (v : V) (env : Env) : Env := match dst with
  | none => env
  | some d => upd env d v

def evalE (env : Env) (x : Operand) : V := match x with
  | .tmp t => env t
  | .const v => constV v
  | .global g => .gptr g 0
  | .func f => .func f [] []
def LogOk (Ok : Nat → Prop) (n : Nat) (l : List LE) : Prop := ∀ e ∈ l, e.isW = true → n ≤ blkOf e ∨ Ok (blkOf e)

structure Ran (Ok : Nat → Prop) (h h' : H) (l : List LE) : Prop where
  mono : h.nx ≤ h'.nx
  log : LogOk Ok h.nx l
  wf : WF h.heap h.nx → WF h'.heap h'.nx ∧ ∀ e ∈ l, blkOf e < h'.nx

theorem Ran.refl {Ok : Nat → Prop} {h : H} : Ran Ok h h [] := ⟨Nat.le_refl _, fun e he => by simp at he, fun w => ⟨w, fun e he => by simp at he⟩⟩

theorem Ran.trans {Ok : Nat → Prop} {h h1 h2 : H} {l1 l2 : List LE} (a : Ran Ok h h1 l1) (b : Ran Ok h1 h2 l2) : Ran Ok h h2 (l2 ++ l1) := by
  refine ⟨Nat.le_trans a.mono b.mono, fun e he hw => ?_, fun w => ?_⟩
  · rcases List.mem_append.1 he with he | he
    · rcases b.log e he hw with h | h
      · exact .inl (Nat.le_trans a.mono h)
      · exact .inr h
    · exact a.log e he hw
  · obtain ⟨w1, q1⟩ := a.wf w
    obtain ⟨w2, q2⟩ := b.wf w1
    refine ⟨w2, fun e he => ?_⟩
    rcases List.mem_append.1 he with he | he
    · exact q2 e he
    · exact Nat.lt_of_lt_of_le (q1 e he) b.mono

theorem Ran.weak {Ok Ok' : Nat → Prop} {h h' : H} {l : List LE} (hk : ∀ k, Ok k → Ok' k) (a : Ran Ok h h' l) : Ran Ok' h h' l :=
  ⟨a.mono, fun e he hw => (a.log e he hw).imp id (hk _), a.wf⟩

def _root_.Go.Lx.Cfg.at (c : Cfg) (lf : Nat) : Cfg := { c with lf := lf }
def Returns (c : Cfg) (Ok : Nat → Prop) (f : FuncId) (args : List V) (h : H) (v : V) (h' : H) : Prop :=
  WF h.heap h.nx → ∃ N, ∀ lf, N ≤ lf → ∀ n, N ≤ n → ∀ l0, ∃ l, callM (c.at lf) n f args ⟨h.heap, h.nx, l0⟩ = .ok v ⟨h'.heap, h'.nx, l ++ l0⟩ ∧ Ran Ok h h' l

def callW (c : Cfg) (Ok : Nat → Prop) (f : FuncId) (args : List V) (h : H) (K : V → H → Prop) : Prop := ∃ v h', Returns c Ok f args h v h' ∧ K v h'
inductive Fp where
  | lg (l : List LE)
  | cl (n0 n1 : Nat) (Ok : Nat → Prop)
  | ch (n0 n1 : Nat) (Ok : Nat → Prop) (B : Nat)
def SumLocal (c : Cfg) : Prop := ∀ f g, c.sum f = some g → ∀ vs, Local (g vs)

def opW (c : Cfg) (Ok : Nat → Prop) (o : Op) (env : Env) (h : H) (K : V → H → Fp → Prop) : Prop :=
  match o with
  | .call k => match k.callee with
    | .value f => match evalE env f with
      | .func g first cap => ∃ Ok' : Nat → Prop, (∀ k, Ok' k → Ok k) ∧ (callW c Ok' g (first ++ k.args.toList.map (evalE env) ++ cap) h (fun v h' => K v h' (.cl h.nx h'.nx Ok')) ∨ ∃ B, B < h.nx ∧ SumLocal c ∧ callW c Ok' g (first ++ k.args.toList.map (evalE env) ++ cap) ⟨h.heap.set B none, h.nx⟩ (fun _ _ => True) ∧ callW c Ok' g (first ++ k.args.toList.map (evalE env) ++ cap) h fun v h' => K v h' (.ch h.nx h'.nx Ok' B))
      | _ => False
    | _ => match opM c.P c.gl noCall (evalE env) (.call k) h.st with
      | .ok v s => LogOk Ok h.nx s.log ∧ K v (ofSt s) (.lg s.log)
      | .fail _ => False
  | o => match opM c.P c.gl noCall (evalE env) o h.st with
    | .ok v s => LogOk Ok h.nx s.log ∧ K v (ofSt s) (.lg s.log)
    | .fail _ => False

def wantsE (A : Array Oper) (env : Env) (o : Oper) : Option Bool := match o.guard with
  | none => some true
  | some (j, w) => match (A[j]?).bind (fun q => q.dst) with
    | some d => match env d with
      | .bool b => some (b == w)
      | .tuple [] => some false
      | _ => none
    | none => none
def stepW (c : Cfg) (Ok : Nat → Prop) (A : Array Oper) (o : Oper) (env : Env) (h : H) (K : Env → H → Fp → Prop) : Prop :=
  ∃ b, wantsE A env o = some b ∧ (b = false → K (putE o.dst undefV env) h (.lg [])) ∧ (b = true → opW c Ok o.op env h fun v h' fp => K (putE o.dst v env) h' fp)

def wpOps (c : Cfg) (Ok : Nat → Prop) (A : Array Oper) : List Oper → Env → H → (Env → H → Prop) → Prop
  | [], env, h, K => K env h
  | o :: l, env, h, K => stepW c Ok A o env h fun env' h' _ => wpOps c Ok A l env' h' K
def wpOpsL (c : Cfg) (Ok : Nat → Prop) (A : Array Oper) : List Oper → List Fp → Env → H → (List Fp → Env → H → Prop) → Prop
  | [], acc, env, h, K => K acc env h
  | o :: l, acc, env, h, K => stepW c Ok A o env h fun env' h' fp => wpOpsL c Ok A l (acc ++ [fp]) env' h' K
def fpApart : Fp → Fp → Prop
  | .lg a, .ch n0 n1 Ok B => ∀ e ∈ a, blkOf e = B ∨ (e.isW = false ∧ (n1 ≤ blkOf e ∨ blkOf e < n0) ∧ ¬ Ok (blkOf e))
  | .ch n0 n1 Ok B, .lg b => ∀ e ∈ b, blkOf e = B ∨ n1 ≤ blkOf e ∨ (e.isW = false ∧ blkOf e < n0 ∧ ¬ Ok (blkOf e))
  | .cl n0 n1 Ok, .ch m0 _ Ok' _ => n1 ≤ n0 ∧ (∀ k, ¬ Ok k) ∧ n1 ≤ m0 ∧ ∀ k, ¬ Ok' k
  | .ch n0 n1 Ok _, .cl m0 _ Ok' => n1 ≤ n0 ∧ (∀ k, ¬ Ok k) ∧ n1 ≤ m0 ∧ ∀ k, ¬ Ok' k
  | .ch n0 n1 Ok _, .ch m0 _ Ok' _ => n1 ≤ n0 ∧ (∀ k, ¬ Ok k) ∧ n1 ≤ m0 ∧ ∀ k, ¬ Ok' k
  | .lg a, .lg b => hitsL a b = false ∧ hitsL b a = false
  | .lg a, .cl n0 n1 Ok => ∀ e ∈ a, e.isW = false ∧ (n1 ≤ blkOf e ∨ blkOf e < n0) ∧ ¬ Ok (blkOf e)
  | .cl n0 n1 Ok, .lg b => ∀ e ∈ b, n1 ≤ blkOf e ∨ (e.isW = false ∧ blkOf e < n0 ∧ ¬ Ok (blkOf e))
  | .cl n0 n1 Ok, .cl m0 _ Ok' => n1 ≤ n0 ∧ (∀ k, ¬ Ok k) ∧ n1 ≤ m0 ∧ ∀ k, ¬ Ok' k
def FpIs : Fp → List LE → Prop
  | .lg l, l' => l' = l
  | .cl n0 n1 Ok, l => ∀ e ∈ l, blkOf e < n1 ∧ (e.isW = true → n0 ≤ blkOf e ∨ Ok (blkOf e))
  | .ch n0 n1 Ok B, l => ∀ e ∈ l, blkOf e ≠ B ∧ blkOf e < n1 ∧ (e.isW = true → n0 ≤ blkOf e ∨ Ok (blkOf e))

def clsS : Option TypeDesc → Nat
  | some .string => 0
  | _ => 1
def clsC : Option TypeDesc → Nat
  | some (.int _) => 0
  | some .string => 1
  | _ => 2
def clsL : Option TypeDesc → Nat
  | some .string => 0
  | some (.slice _) => 0
  | _ => 1
def cls (P : Program) : Op → Nat
  | .move _ | .assign _ | .pick .. | .build .. | .binOp .. | .unOp .. | .makeInterface .. | .makeFunc .. | .nilCheck _ | .fieldAddr .. | .field .. | .indexAddr .. | .index .. | .extract .. => 0
  | .load .. | .lookup .. | .entry _ => 1
  | .slice t _ _ _ _ => clsS (P.underlying t)
  | .convert s d _ => clsC (P.underlying d)
  | .call k => match k.callee with
    | .builtin .len => clsL ((k.argTypes[0]?).bind P.underlying)
    | .builtin .cap => 1
    | .builtin .min => 0
    | .builtin .max => 0
    | _ => 2
  | _ => 2

def fine (a b : Nat) : Bool := Nat.beq a 0 || Nat.beq b 0 || (Nat.ble a 1 && Nat.ble b 1)

def pairIn (i j : Nat) : List (Nat × Nat) → Bool
  | [] => false
  | p :: l => (Nat.beq p.1 i && Nat.beq p.2 j) || pairIn i j l
def drawFrom (P : Program) (A : Array Oper) (m j : Nat) (o : Oper) (pairs : List (Nat × Nat)) : List Oper → Nat → Bool
  | [], _ => true
  | q :: l, i => (m.testBit i || (!tmpHits A q o && (fine (cls P q.op) (cls P o.op) || pairIn i j pairs))) && drawFrom P A m j o pairs l (i + 1)

def drawAll (P : Program) (A : Array Oper) (b : Array Nat) (pairs : List (Nat × Nat)) : List Oper → Nat → List Oper → Bool
  | _, _, [] => true
  | done, j, o :: l => drawFrom P A (b.getD j 0) j o pairs done 0 && drawAll P A b pairs (done ++ [o]) (j + 1) l

def drawOk (P : Program) (A : Array Oper) (pairs : List (Nat × Nat)) : Bool := edgesOk A.toList 0 && drawAll P A (Region.before A) pairs [] 0 A.toList
def wpDraw (c : Cfg) (Ok : Nat → Prop) (A : Array Oper) (env : Env) (h : H) (K : Env → H → Prop) : Prop :=
  ∃ pairs, drawOk c.P A pairs = true ∧ wpOpsL c Ok A A.toList [] env h fun fps env' h' => (∀ p ∈ pairs, ∀ a b, fps[p.1]? = some a → fps[p.2]? = some b → fpApart a b) ∧ K env' h'
def wpC (c : Cfg) (Ok : Nat → Prop) : Code → Env → H → (Ex → Env → H → Prop) → Prop
  | .skip, env, h, Q => Q .normal env h
  | .label _, env, h, Q => Q .normal env h
  | .region _ A d, env, h, Q => match d with
    | true => wpDraw c Ok A env h fun env' h' => Q .normal env' h'
    | false => wpOps c Ok A A.toList env h fun env' h' => Q .normal env' h'
  | .seq a b, env, h, Q => wpC c Ok a env h fun ex env' h' => match ex with
    | .normal => wpC c Ok b env' h' Q
    | e => Q e env' h'
  | .cond x a b, env, h, Q => ∃ t, evalE env x = .bool t ∧ (t = true → wpC c Ok a env h Q) ∧ (t = false → wpC c Ok b env h Q)
  | .block id a, env, h, Q => wpC c Ok a env h fun ex env' h' => match ex with
    | .exit i => Q (bif Nat.beq i id then .normal else .exit i) env' h'
    | e => Q e env' h'
  | .loop a, env, h, Q => ∃ I : Nat → Env → H → Prop, (∃ m, I m env h) ∧ ∀ m env1 h1, I m env1 h1 → wpC c Ok a env1 h1 fun ex env' h' => match ex with
    | .normal => ∃ m', m' < m ∧ I m' env' h'
    | e => Q e env' h'
  | .exit i, env, h, Q => Q (.exit i) env h
  | .ret, env, h, Q => Q .ret env h
  | .scope a, env, h, Q => wpC c Ok a env h fun ex env' h' => match ex with
    | .goto _ => False
    | e => Q e env' h'
  | _, _, _, _ => False
def okOps (nt : Nat) (A : Array Oper) : Bool := A.toList.all fun o => o.op.operands.toList.all operandOk && (match o.dst with
  | none => true
  | some d => Nat.blt d nt)
def okCode (nt : Nat) : Code → Bool
  | .region _ A _ => okOps nt A
  | .seq a b => okCode nt a && okCode nt b
  | .cond x a b => operandOk x && okCode nt a && okCode nt b
  | .block _ a => okCode nt a
  | .loop a => okCode nt a
  | .scope a => okCode nt a
  | _ => true
def noDefer : Code → Bool
  | .seq a b => noDefer a && noDefer b
  | .region _ A d => d || (lastDefer A.toList).isNone
  | _ => true

end
end Go.Wx

/-
  The machine does what the predicate says: operations, regions.
-/
set_option linter.unusedSimpArgs false
set_option linter.unusedVariables false
namespace Go.Wx
open Go.Lx

theorem evalO_eq (tm : T V) (x : Operand) : evalO tm x = evalE (tmGet tm) x := by cases x <;> rfl
theorem evalO_fun (tm : T V) : evalO tm = evalE (tmGet tm) := funext (evalO_eq tm)

theorem wantsE_eq (A : Array Oper) (tm : T V) (o : Oper) : wants A tm o = wantsE A (tmGet tm) o := by
  rw [wants_eq]
  rfl
theorem opM_noCall (P : Program) (gl : T (List V)) (call : FuncId → List V → M V) (ev : Operand → V) (o : Op) (h : ∀ k, o = .call k → ∀ f, k.callee ≠ .value f) : opM P gl call ev o = opM P gl noCall ev o := by
  cases o with
  | call k =>
    rw [opM_eq, opM_eq]
    show opCall P call ev k = opCall P noCall ev k
    unfold opCall
    cases hk : k.callee with
    | value f => exact (h k rfl f hk).elim
    | invoke r m => rfl
    | builtin b => rfl
  | _ => rfl
def OpRan (c : Cfg) (Ok : Nat → Prop) (o : Op) (env : Env) (h : H) (v : V) (h' : H) (fp : Fp) : Prop :=
  WF h.heap h.nx → ∃ N, ∀ lf, N ≤ lf → ∀ n, N ≤ n → ∀ l0, ∃ l, opM c.P c.gl (callM (c.at lf) n) (evalE env) o ⟨h.heap, h.nx, l0⟩ = .ok v ⟨h'.heap, h'.nx, l ++ l0⟩ ∧ Ran Ok h h' l ∧ FpIs fp l

theorem plain_ran {c : Cfg} {Ok : Nat → Prop} {o : Op} {env : Env} {h : H} {v : V} {s : St} (hn : ∀ k, o = .call k → ∀ f, k.callee ≠ .value f)
    (he : opM c.P c.gl noCall (evalE env) o h.st = .ok v s) (hl : LogOk Ok h.nx s.log) : OpRan c Ok o env h v (ofSt s) (.lg s.log) := by
  intro hw
  refine ⟨0, fun lf _ n _ l0 => ⟨s.log, ?_, ?_, rfl⟩⟩
  · rw [opM_noCall _ _ _ _ _ hn, (nice_op nice_noCall (evalE env) o).irr]
    change addLog l0 (opM c.P c.gl noCall (evalE env) o h.st) = _
    rw [he]
    rfl
  · exact ⟨(nice_op nice_noCall (evalE env) o).mono _ _ _ _ he, hl, fun w => (nice_op nice_noCall (evalE env) o).wf _ _ _ _ he w⟩

def LogIs {α : Type} (p : LE → Prop) (F : M α) : Prop := ∀ s a s', F s = .ok a s' → ∃ l, s'.log = l ++ s.log ∧ ∀ e ∈ l, p e

section
variable {p : LE → Prop} {α β : Type}
theorem LogIs.ret (a : α) : LogIs p (Lx.ret a) := by
  intro s b s' h
  obtain ⟨rfl, rfl⟩ := ret_ok h
  exact ⟨[], rfl, fun e he => by simp at he⟩
theorem LogIs.err (w : String) : LogIs p (Lx.err w : M α) := fun s a s' h => (err_ok h).elim
theorem LogIs.opt (o : Option α) (w : String) : LogIs p (Lx.opt o w) := by
  cases o with
  | none => exact LogIs.err w
  | some a => exact LogIs.ret a
theorem LogIs.cond {b : Bool} {x y : M α} (hx : LogIs p x) (hy : LogIs p y) : LogIs p (bif b then x else y) := by
  cases b
  · exact hy
  · exact hx
theorem LogIs.bnd {F : M α} {G : α → M β} (hF : LogIs p F) (hG : ∀ a, LogIs p (G a)) : LogIs p (Lx.bnd F G) := by
  intro s b s' h
  obtain ⟨a, s1, h1, h2⟩ := bnd_ok h
  obtain ⟨l1, e1, q1⟩ := hF _ _ _ h1
  obtain ⟨l2, e2, q2⟩ := hG a _ _ _ h2
  refine ⟨l2 ++ l1, by rw [e2, e1, List.append_assoc], fun e he => ?_⟩
  rcases List.mem_append.1 he with he | he
  · exact q2 e he
  · exact q1 e he
end

theorem LogIs.ld (k o n : Nat) : LogIs (fun e => e.isW = false) (Lx.ld k o n) := by
  intro s a s' h
  obtain ⟨c, hg, hl, rfl, rfl⟩ := ld_ok h
  exact ⟨[.rd k o n], rfl, fun e he => by simp at he; subst he; rfl⟩
theorem LogIs.blk (k : Nat) : LogIs (fun e => e.isW = false) (Lx.blk k) := by
  intro s a s' h
  obtain ⟨c, e', p, hg, rfl, rfl⟩ := blk_ok h
  exact ⟨[.rdd k], rfl, fun e he => by simp at he; subst he; rfl⟩
theorem LogIs.blkS (k : Nat) : LogIs (fun e => e.isW = false) (Lx.blkS k) := by
  intro s a s' h
  obtain ⟨_, rfl⟩ := blkS_ok h
  exact ⟨[.rdd k], rfl, fun e he => by simp at he; subst he; rfl⟩
theorem LogIs.getO (k : Nat) : LogIs (fun e => e.isW = false) (Lx.getO k) := by
  intro s a s' h
  obtain ⟨hg, hc, rfl⟩ := getO_ok h
  exact ⟨[.rdd k], rfl, fun e he => by simp at he; subst he; rfl⟩

def FpCls (P : Program) (o : Op) (fp : Fp) : Prop := (cls P o = 0 → fp = .lg []) ∧ (cls P o ≤ 1 → ∃ l, fp = .lg l ∧ ∀ e ∈ l, e.isW = false)

theorem silent_cls {P : Program} {o : Op} {F : M V} {h : H} {v : V} {s : St} (hs : LogIs (fun _ => False) F) (e : F h.st = .ok v s) : FpCls P o (.lg s.log) := by
  obtain ⟨l, e1, e2⟩ := hs _ _ _ e
  have : s.log = [] := by
    rw [e1]
    cases l with
    | nil => rfl
    | cons x l => exact (e2 x (by simp)).elim
  rw [this]
  exact ⟨fun _ => rfl, fun _ => ⟨[], rfl, fun e he => by simp at he⟩⟩

theorem reads_cls {P : Program} {o : Op} {F : M V} {h : H} {v : V} {s : St} (hc : cls P o ≠ 0) (hs : LogIs (fun e => e.isW = false) F) (e : F h.st = .ok v s) : FpCls P o (.lg s.log) := by
  obtain ⟨l, e1, e2⟩ := hs _ _ _ e
  have e1 : s.log = l := by rw [e1]; exact List.append_nil l
  rw [e1]
  exact ⟨fun h => (hc h).elim, fun _ => ⟨l, rfl, e2⟩⟩

theorem other_cls {P : Program} {o : Op} {fp : Fp} (hc : cls P o = 2) : FpCls P o fp := ⟨fun h => by omega, fun h => by omega⟩

theorem cls_slice {P : Program} {t : TypeId} {x : V} {lo hi mx : Option V} : (clsS (P.underlying t) = 0 → LogIs (fun _ => False) (sliceM P t x lo hi mx)) ∧ LogIs (fun e => e.isW = false) (sliceM P t x lo hi mx) := by
  unfold sliceM
  refine ⟨fun hc => ?_, ?_⟩
  · cases hu : P.underlying t with
    | none => exact LogIs.err _
    | some d =>
      rw [hu] at hc
      cases d <;> try (cases hc; done)
      cases x <;> first | exact LogIs.err _ | skip
      simp only
      repeat' (first | exact LogIs.ret _ | exact LogIs.err _ | refine LogIs.cond ?_ ?_ | split)
  · repeat' (first | exact LogIs.ret _ | exact LogIs.err _ | exact LogIs.blk _ | exact LogIs.blkS _ | refine LogIs.cond ?_ ?_ | refine LogIs.bnd ?_ (fun _ => ?_) | split)

theorem cls_convert {P : Program} {a b : TypeId} {x : V} : (clsC (P.underlying b) = 0 → LogIs (fun _ => False) (convertM P a b x)) ∧ (clsC (P.underlying b) = 1 → LogIs (fun e => e.isW = false) (convertM P a b x)) := by
  unfold convertM
  refine ⟨fun hc => ?_, fun hc => ?_⟩
  · cases hu : P.underlying b with
    | none => rw [hu] at hc; cases hc
    | some d =>
      rw [hu] at hc
      cases d <;> try (cases hc; done)
      cases hs : P.underlying a with
      | none => exact LogIs.err _
      | some d' => cases d' <;> cases x <;> first | exact LogIs.ret _ | exact LogIs.err _
  · cases hu : P.underlying b with
    | none => rw [hu] at hc; cases hc
    | some d =>
      rw [hu] at hc
      cases d <;> try (cases hc; done)
      cases hs : P.underlying a with
      | none => exact LogIs.err _
      | some d' =>
        cases d' <;> cases x <;> first | exact LogIs.ret _ | exact LogIs.err _ | skip
        all_goals simp only
        all_goals (repeat' (first | exact LogIs.ret _ | exact LogIs.err _ | exact LogIs.ld _ _ _ | refine LogIs.cond ?_ ?_ | refine LogIs.bnd ?_ (fun _ => ?_) | split))

theorem cls_len {P : Program} {t : TypeId} {x : V} : (clsL (P.underlying t) = 0 → LogIs (fun _ => False) (lenM P t x)) ∧ LogIs (fun e => e.isW = false) (lenM P t x) := by
  unfold lenM
  refine ⟨fun hc => ?_, ?_⟩
  · cases hu : P.underlying t with
    | none => exact LogIs.err _
    | some d =>
      rw [hu] at hc
      cases d <;> try (cases hc; done)
      all_goals (cases x <;> first | exact LogIs.ret _ | exact LogIs.err _)
  · repeat' (first | exact LogIs.ret _ | exact LogIs.err _ | exact LogIs.getO _ | refine LogIs.cond ?_ ?_ | refine LogIs.bnd ?_ (fun _ => ?_) | split)

theorem cls_entries (x : V) : LogIs (fun e => e.isW = false) (entriesOf x) := by
  unfold entriesOf
  repeat' (first | exact LogIs.ret _ | exact LogIs.err _ | exact LogIs.getO _ | refine LogIs.cond ?_ ?_ | refine LogIs.bnd ?_ (fun _ => ?_) | split)

theorem cls_call {P : Program} {gl : T (List V)} {ev : Operand → V} {k : Call} {h : H} {v : V} {s : St} (e : opCall P noCall ev k h.st = .ok v s) : FpCls P (.call k) (.lg s.log) := by
  unfold opCall at e
  cases hk : k.callee with
  | value f => exact other_cls (by simp [cls, hk])
  | invoke r m => exact other_cls (by simp [cls, hk])
  | builtin b =>
    rw [hk] at e
    simp only at e
    unfold builtinM at e
    by_cases hc : cls P (.call k) = 2
    · exact other_cls hc
    cases b <;> simp [cls, hk] at hc
    case len =>
      cases ht : k.argTypes[0]? with
      | none => rw [ht] at e; simp only at e; exact (err_ok e).elim
      | some t =>
        rw [ht] at e
        cases ha : k.args.toList.map ev with
        | nil => rw [ha] at e; exact (err_ok e).elim
        | cons x l =>
          cases l with
          | cons y l => rw [ha] at e; exact (err_ok e).elim
          | nil =>
            rw [ha] at e
            simp only at e
            have hcl : cls P (.call k) = clsL (P.underlying t) := by simp [cls, hk, ht]
            by_cases h0 : clsL (P.underlying t) = 0
            · exact silent_cls (cls_len.1 h0) e
            · exact reads_cls (by rw [hcl]; exact h0) cls_len.2 e
    case cap =>
      cases ht : k.argTypes[0]? with
      | none => rw [ht] at e; simp only at e; exact (err_ok e).elim
      | some t =>
        rw [ht] at e
        cases ha : k.args.toList.map ev with
        | nil => rw [ha] at e; exact (err_ok e).elim
        | cons x l =>
          cases l with
          | cons y l => rw [ha] at e; exact (err_ok e).elim
          | nil =>
            rw [ha] at e
            simp only at e
            refine reads_cls (by simp [cls, hk]) (F := capM P t x) ?_ e
            unfold capM
            repeat' (first | exact LogIs.ret _ | exact LogIs.err _ | exact LogIs.blk _ | exact LogIs.blkS _ | refine LogIs.cond ?_ ?_ | refine LogIs.bnd ?_ (fun _ => ?_) | split)
    all_goals
      cases ht : k.argTypes[0]? <;> rw [ht] at e <;> cases ha : k.args.toList.map ev <;> rw [ha] at e
      all_goals first | (exact (err_ok e).elim) | skip
      all_goals
        rename_i x l
        cases x <;> first | (exact (err_ok e).elim) | exact silent_cls (LogIs.opt _ _) e

theorem cls_ok {P : Program} {gl : T (List V)} {ev : Operand → V} {o : Op} {h : H} {v : V} {s : St} (e : opM P gl noCall ev o h.st = .ok v s) : FpCls P o (.lg s.log) := by
  rw [opM_eq] at e
  cases o <;> simp only at e <;> first
    | exact other_cls rfl
    | exact cls_call (gl := gl) e
    | exact silent_cls (LogIs.ret _) e
    | exact silent_cls (LogIs.opt _ _) e
    | exact silent_cls (LogIs.err _) e
    | skip
  case slice t x lo hi mx =>
    by_cases h0 : clsS (P.underlying t) = 0
    · exact silent_cls (cls_slice.1 h0) e
    · exact reads_cls h0 cls_slice.2 e
  case convert a b x =>
    by_cases h0 : clsC (P.underlying b) = 0
    · exact silent_cls (cls_convert.1 h0) e
    · by_cases h1 : clsC (P.underlying b) = 1
      · exact reads_cls h0 (cls_convert.2 h1) e
      · refine other_cls ?_
        show clsC (P.underlying b) = 2
        unfold clsC at h0 h1 ⊢
        split at h0 <;> simp_all
  case load t a =>
    refine reads_cls (by simp [cls]) ?_ e
    unfold opLoad loadVarM constM
    repeat' (first | exact LogIs.ret _ | exact LogIs.err _ | exact LogIs.ld _ _ _ | refine LogIs.cond ?_ ?_ | refine LogIs.bnd ?_ (fun _ => ?_) | split)
  case lookup t x k ok =>
    refine reads_cls (by simp [cls]) ?_ e
    unfold lookupM
    repeat' (first | exact LogIs.ret _ | exact LogIs.err _ | exact cls_entries _ | refine LogIs.cond ?_ ?_ | refine LogIs.bnd ?_ (fun _ => ?_) | split)
  case entry it =>
    refine reads_cls (by simp [cls]) ?_ e
    unfold entryM
    repeat' (first | exact LogIs.ret _ | exact LogIs.err _ | exact LogIs.getO _ | refine LogIs.cond ?_ ?_ | refine LogIs.bnd ?_ (fun _ => ?_) | split)
  all_goals
    refine silent_cls (F := _) ?_ e
    first | unfold opPick | unfold opBuild buildM | unfold opNilCheck | unfold opMakeInterface | unfold opMakeFunc | unfold opFieldAddr | unfold opField partM | unfold opIndexAddr | unfold opIndex partM | unfold opExtract
    repeat' (first | exact LogIs.ret _ | exact LogIs.err _ | exact LogIs.opt _ _ | refine LogIs.cond ?_ ?_ | split)

theorem opW_ok {c : Cfg} {Ok : Nat → Prop} {o : Op} {env : Env} {h : H} {K : V → H → Fp → Prop} (hw : opW c Ok o env h K) : ∃ v h' fp, K v h' fp ∧ OpRan c Ok o env h v h' fp ∧ FpCls c.P o fp := by
  have plain : ∀ o : Op, (∀ k, o = .call k → ∀ f, k.callee ≠ .value f) → (match opM c.P c.gl noCall (evalE env) o h.st with
      | .ok v s => LogOk Ok h.nx s.log ∧ K v (ofSt s) (.lg s.log)
      | .fail _ => False) → ∃ v h' fp, K v h' fp ∧ OpRan c Ok o env h v h' fp ∧ FpCls c.P o fp := by
    intro o hn hm
    cases he : opM c.P c.gl noCall (evalE env) o h.st with
    | fail w => rw [he] at hm; exact hm.elim
    | ok v s =>
      rw [he] at hm
      exact ⟨v, ofSt s, .lg s.log, hm.2, plain_ran hn he hm.1, cls_ok he⟩
  cases o with
  | call k =>
    unfold opW at hw
    simp only at hw
    cases hk : k.callee with
    | value f =>
      rw [hk] at hw
      simp only at hw
      cases hf : evalE env f <;> rw [hf] at hw <;> simp only at hw
      rename_i g first cap
      obtain ⟨Ok', hsub, ⟨v, h', hr, hK⟩ | ⟨B, hB, hsl, ⟨v0, h0, hr0, _⟩, v, h', hr, hK⟩⟩ := hw
      · refine ⟨v, h', _, hK, fun hwf => ?_, other_cls (by simp [cls, hk])⟩
        obtain ⟨N, hN⟩ := hr hwf
        refine ⟨N, fun lf hlf n hn l0 => ?_⟩
        obtain ⟨l, h1, h2⟩ := hN lf hlf n hn l0
        refine ⟨l, ?_, h2.weak hsub, fun e he => ⟨(h2.wf hwf).2 e he, fun hw' => h2.log e he hw'⟩⟩
        rw [opM_eq]
        show opCall c.P (callM (c.at lf) n) (evalE env) k _ = _
        unfold opCall
        rw [hk]
        simp only [callV, hf]
        exact h1
      · refine ⟨v, h', _, hK, fun hwf => ?_, other_cls (by simp [cls, hk])⟩
        obtain ⟨N, hN⟩ := hr hwf
        have hwf0 : WF (h.heap.set B none) h.nx := hwf.set hB
        obtain ⟨N0, hN0⟩ := hr0 hwf0
        refine ⟨max N N0, fun lf hlf n hn l0 => ?_⟩
        obtain ⟨l, h1, h2⟩ := hN lf (by omega) n (by omega) l0
        obtain ⟨l', h3, h4⟩ := hN0 lf (by omega) n (by omega) l0
        obtain ⟨l1, d⟩ := local_call (c := c.at lf) (fun f g e vs => hsl f g e vs) n g _ _ _ _ h3
        obtain ⟨a1, a2⟩ := d.abs B (by show (h.heap.set B none).get B = none; rw [T.get_set, if_pos rfl]) hB
        obtain ⟨s2, f1, f2, _⟩ := d.again ⟨h.heap, h.nx, l0⟩ rfl (fun x ⟨e, he, hx⟩ => by
          have hb := a2 e he
          show Go.Lx.look h.heap x = Go.Lx.look (h.heap.set B none) x
          refine (look_set_ne fun k' hk' q => hb ?_).symm
          subst q
          cases e <;> cases x <;> simp only [LE.reads] at hx <;> rcases hk' with hk' | ⟨i, hk'⟩ <;> cases hk' <;> first | exact hx | exact hx.1 | exact hx.elim | exact hx.symm | exact hx.1.symm)
        have e2 : s2 = ⟨h'.heap, h'.nx, l ++ l0⟩ := by
          have := f1.symm.trans h1
          injection this
        have e3 : l = l1 := List.append_cancel_right (by rw [← f2, e2])
        refine ⟨l, ?_, h2.weak hsub, fun e he => ⟨?_, (h2.wf hwf).2 e he, fun hw' => h2.log e he hw'⟩⟩
        · rw [opM_eq]
          show opCall c.P (callM (c.at lf) n) (evalE env) k _ = _
          unfold opCall
          rw [hk]
          simp only [callV, hf]
          exact h1
        · have := a2 e (by rw [← e3]; exact he)
          intro q
          exact this (by rw [← q]; cases e <;> rfl)
    | invoke r m => rw [hk] at hw; simp only at hw; exact plain _ (fun k' e f => by cases e; rw [hk]; simp) hw
    | builtin b => rw [hk] at hw; simp only at hw; exact plain _ (fun k' e f => by cases e; rw [hk]; simp) hw
  | _ => exact plain _ (fun k e => by cases e) hw

def StepRan (c : Cfg) (Ok : Nat → Prop) (A : Array Oper) (nt : Nat) (o : Oper) (env : Env) (h : H) (env' : Env) (h' : H) (fp : Fp) : Prop :=
  WF h.heap h.nx → ∃ N, ∀ lf, N ≤ lf → ∀ n, N ≤ n → ∀ tm, tmGet tm = env → ∀ l0, ∃ tm' l, stepM (c.at lf) (callM (c.at lf) n) A nt o tm ⟨h.heap, h.nx, l0⟩ = .ok tm' ⟨h'.heap, h'.nx, l ++ l0⟩ ∧ tmGet tm' = env' ∧ Ran Ok h h' l ∧ FpIs fp l

def okOper (nt : Nat) (o : Oper) : Bool := o.op.operands.toList.all operandOk && (match o.dst with
  | none => true
  | some d => Nat.blt d nt)

theorem put_ran {nt : Nat} {dst : Option Tmp} {v : V} {tm : T V} {s : St} (hd : (match dst with
  | none => true
  | some d => Nat.blt d nt) = true) : ∃ tm', putM nt dst v tm s = .ok tm' s ∧ tmGet tm' = putE dst v (tmGet tm) := by
  rw [putM_eq]
  cases dst with
  | none => exact ⟨tm, rfl, rfl⟩
  | some d =>
    simp only at hd
    refine ⟨tm.set d (some v), ?_, ?_⟩
    · simp only [hd, cond_true]; rfl
    · funext t
      rw [tmGet_set]
      rfl

theorem stepW_ok {c : Cfg} {Ok : Nat → Prop} {A : Array Oper} {nt : Nat} {o : Oper} {env : Env} {h : H} {K : Env → H → Fp → Prop} (hok : okOper nt o = true) (hw : stepW c Ok A o env h K) :
    ∃ env' h' fp, K env' h' fp ∧ StepRan c Ok A nt o env h env' h' fp ∧ FpCls c.P o.op fp := by
  obtain ⟨b, hb, hf, ht⟩ := hw
  simp only [okOper, Bool.and_eq_true] at hok
  obtain ⟨ho1, ho2⟩ := hok
  cases b with
  | false =>
    refine ⟨_, _, _, hf rfl, fun hwf => ⟨0, fun lf _ n _ tm htm l0 => ?_⟩, ⟨fun _ => rfl, fun _ => ⟨[], rfl, fun e he => by simp at he⟩⟩⟩
    obtain ⟨tm', h1, h2⟩ := put_ran (nt := nt) (dst := o.dst) (v := undefV) (tm := tm) (s := ⟨h.heap, h.nx, l0⟩) ho2
    refine ⟨tm', [], ?_, by rw [h2, htm], Ran.refl, rfl⟩
    unfold stepM
    rw [stepV_eq, wantsE_eq, htm, hb]
    exact h1
  | true =>
    obtain ⟨v, h', fp, hK, hr, hcl⟩ := opW_ok (ht rfl)
    refine ⟨_, _, _, hK, fun hwf => ?_, hcl⟩
    obtain ⟨N, hN⟩ := hr hwf
    refine ⟨N, fun lf hlf n hn tm htm l0 => ?_⟩
    obtain ⟨l, h1, h2, h3⟩ := hN lf hlf n hn l0
    obtain ⟨tm', h4, h5⟩ := put_ran (nt := nt) (dst := o.dst) (v := v) (tm := tm) (s := ⟨h'.heap, h'.nx, l ++ l0⟩) ho2
    refine ⟨tm', l, ?_, by rw [h5, htm], h2, h3⟩
    unfold stepM
    rw [stepV_eq, wantsE_eq, htm, hb]
    simp only [ho1, cond_true]
    unfold Lx.bnd
    rw [show opM (c.at lf).P (c.at lf).gl (callM (c.at lf) n) (evalO tm) o.op = opM c.P c.gl (callM (c.at lf) n) (evalE env) o.op by rw [evalO_fun, htm]; rfl, h1]
    exact h4

def OpsRan (c : Cfg) (Ok : Nat → Prop) (A : Array Oper) (nt : Nat) (l : List Oper) (env : Env) (h : H) (env' : Env) (h' : H) : Prop :=
  WF h.heap h.nx → ∃ N, ∀ lf, N ≤ lf → ∀ n, N ≤ n → ∀ tm, tmGet tm = env → ∀ l0, ∃ tm' lg, runM (c.at lf) (callM (c.at lf) n) A nt l tm ⟨h.heap, h.nx, l0⟩ = .ok tm' ⟨h'.heap, h'.nx, lg ++ l0⟩ ∧ tmGet tm' = env' ∧ Ran Ok h h' lg

theorem step_wf {c : Cfg} {Ok : Nat → Prop} {A : Array Oper} {nt : Nat} {o : Oper} {env env' : Env} {h h' : H} {fp : Fp} (hs : StepRan c Ok A nt o env h env' h' fp) (hwf : WF h.heap h.nx) (tm : T V) (htm : tmGet tm = env) : WF h'.heap h'.nx := by
  obtain ⟨N, hN⟩ := hs hwf
  obtain ⟨_, _, _, _, hr, _⟩ := hN N (Nat.le_refl _) N (Nat.le_refl _) tm htm []
  exact (hr.wf hwf).1

theorem wpOps_ok {c : Cfg} {Ok : Nat → Prop} {A : Array Oper} {nt : Nat} : ∀ {l : List Oper} {env : Env} {h : H} {K : Env → H → Prop}, l.all (okOper nt) = true → wpOps c Ok A l env h K → ∃ env' h', K env' h' ∧ OpsRan c Ok A nt l env h env' h'
  | [], env, h, K, _, hw => ⟨env, h, hw, fun _ => ⟨0, fun lf _ n _ tm htm l0 => ⟨tm, [], rfl, htm, Ran.refl⟩⟩⟩
  | o :: l, env, h, K, hok, hw => by
    simp only [List.all_cons, Bool.and_eq_true] at hok
    obtain ⟨env1, h1, fp, hK, hs, _⟩ := stepW_ok hok.1 hw
    obtain ⟨env2, h2, hK2, hr⟩ := wpOps_ok hok.2 hK
    refine ⟨env2, h2, hK2, fun hwf => ?_⟩
    obtain ⟨N1, hN1⟩ := hs hwf
    by_cases htm0 : ∃ tm : T V, tmGet tm = env
    · obtain ⟨tm0, htm0⟩ := htm0
      obtain ⟨N2, hN2⟩ := hr (step_wf hs hwf tm0 htm0)
      refine ⟨max N1 N2, fun lf hlf n hn tm htm l0 => ?_⟩
      obtain ⟨tm1, l1, e1, t1, r1, _⟩ := hN1 lf (by omega) n (by omega) tm htm l0
      obtain ⟨tm2, l2, e2, t2, r2⟩ := hN2 lf (by omega) n (by omega) tm1 t1 (l1 ++ l0)
      refine ⟨tm2, l2 ++ l1, ?_, t2, r1.trans r2⟩
      show Lx.bnd (stepM (c.at lf) (callM (c.at lf) n) A nt o tm) (runM (c.at lf) (callM (c.at lf) n) A nt l) _ = _
      unfold Lx.bnd
      rw [e1, List.append_assoc]
      exact e2
    · exact ⟨0, fun lf _ n _ tm htm => (htm0 ⟨tm, htm⟩).elim⟩

end Go.Wx

/-
  The machine does what the predicate says: regions whose order is open, code, calls.
-/
set_option linter.unusedSimpArgs false
set_option linter.unusedVariables false
namespace Go.Wx
open Go.Lx

theorem bnd_eq {α β : Type} {x : M α} {f : α → M β} {s s1 : St} {a : α} (h : x s = .ok a s1) : Lx.bnd x f s = f a s1 := by
  unfold Lx.bnd; rw [h]

theorem hits_blk {x y : LE} (h : hits x y = true) : x.isW = true ∧ blkOf x = blkOf y := by
  cases x <;> cases y <;> simp [hits, LE.isW, blkOf] at h ⊢ <;> first | exact h.1 | exact h | skip

theorem anyL_of {α : Type} {f : α → Bool} : ∀ {l : List α}, anyL f l = true → ∃ a ∈ l, f a = true
  | [], h => by cases h
  | a :: l, h => by
    simp only [anyL, Bool.or_eq_true] at h
    rcases h with h | h
    · exact ⟨a, by simp, h⟩
    · obtain ⟨b, hb, hf⟩ := anyL_of h
      exact ⟨b, by simp [hb], hf⟩

theorem hitsL_of_ne {a b : List LE} (h : ∀ x ∈ a, ∀ y ∈ b, x.isW = true → blkOf x ≠ blkOf y) : hitsL a b = false := by
  cases hh : hitsL a b with
  | false => rfl
  | true =>
    obtain ⟨x, hx, h1⟩ := anyL_of hh
    simp only [Bool.and_eq_true] at h1
    obtain ⟨y, hy, h2⟩ := anyL_of h1.2
    exact (h x hx y hy h1.1 (hits_blk h2).2).elim

theorem hitsL_nil_right (a : List LE) : hitsL a [] = false := hitsL_of_ne fun x _ y hy => by simp at hy
theorem hitsL_reads {a b : List LE} (h : ∀ e ∈ a, e.isW = false) : hitsL a b = false := hitsL_of_ne fun x hx y _ hw => by rw [h x hx] at hw; cases hw

theorem apart_of0 {f g : Fp} {a b : List LE} (nf : ∀ n0 n1 Ok B, f ≠ .ch n0 n1 Ok B) (ng : ∀ n0 n1 Ok B, g ≠ .ch n0 n1 Ok B) (hf : FpIs f a) (hg : FpIs g b) (h : fpApart f g) : hitsL a b = false ∧ hitsL b a = false := by
  cases f with
  | ch n0 n1 Ok B => exact (nf _ _ _ _ rfl).elim
  | lg la =>
    obtain rfl : a = la := hf
    cases g with
    | ch n0 n1 Ok B => exact (ng _ _ _ _ rfl).elim
    | lg lb => obtain rfl : b = lb := hg; exact h
    | cl n0 n1 Ok =>
      refine ⟨hitsL_reads fun e he => (h e he).1, hitsL_of_ne fun x hx y hy hw hb => ?_⟩
      obtain ⟨h1, h2⟩ := hg x hx
      obtain ⟨_, h4, h5⟩ := h y hy
      rw [hb] at h1 h2
      rcases h2 hw with h2 | h2
      · omega
      · exact h5 h2
  | cl n0 n1 Ok =>
    cases g with
    | ch n0 n1 Ok B => exact (ng _ _ _ _ rfl).elim
    | lg lb =>
      obtain rfl : b = lb := hg
      refine ⟨hitsL_of_ne fun x hx y hy hw hb => ?_, hitsL_of_ne fun x hx y hy hw hb => ?_⟩
      · obtain ⟨h1, h2⟩ := hf x hx
        rw [hb] at h1 h2
        rcases h y hy with h3 | ⟨_, h4, h5⟩
        · omega
        · rcases h2 hw with h2 | h2
          · omega
          · exact h5 h2
      · obtain ⟨h1, h2⟩ := hf y hy
        rw [← hb] at h1
        rcases h x hx with h3 | ⟨h3, _, _⟩
        · omega
        · rw [h3] at hw; cases hw
    | cl m0 m1 Ok' =>
      obtain ⟨q1, q2, q3, q4⟩ := h
      refine ⟨hitsL_of_ne fun x hx y hy hw hb => ?_, hitsL_of_ne fun x hx y hy hw hb => ?_⟩
      · obtain ⟨h1, h2⟩ := hf x hx
        rcases h2 hw with h2 | h2
        · omega
        · exact q2 _ h2
      · obtain ⟨h1, h2⟩ := hg x hx
        obtain ⟨h3, _⟩ := hf y hy
        rcases h2 hw with h2 | h2
        · rw [← hb] at h3; omega
        · exact q4 _ h2

theorem FpIs.cut {n0 n1 : Nat} {Ok : Nat → Prop} {B : Nat} {l : List LE} (h : FpIs (.ch n0 n1 Ok B) l) : FpIs (.cl n0 n1 Ok) l := fun e he => (h e he).2
theorem not_ch {n0 n1 : Nat} {Ok : Nat → Prop} : ∀ m0 m1 Ok' B, Fp.cl n0 n1 Ok ≠ .ch m0 m1 Ok' B := fun _ _ _ _ q => by cases q
theorem lg_ch {la : List LE} : ∀ m0 m1 Ok' B, Fp.lg la ≠ .ch m0 m1 Ok' B := fun _ _ _ _ q => by cases q
theorem apart_of {f g : Fp} {a b : List LE} (hf : FpIs f a) (hg : FpIs g b) (h : fpApart f g) : hitsL a b = false ∧ hitsL b a = false := by
  cases f with
  | lg la =>
    cases g with
    | lg lb => exact apart_of0 lg_ch lg_ch hf hg h
    | cl n0 n1 Ok => exact apart_of0 lg_ch not_ch hf hg h
    | ch n0 n1 Ok B =>
      obtain rfl : a = la := hf
      refine ⟨hitsL_of_ne fun x hx y hy hw hb => ?_, hitsL_of_ne fun x hx y hy hw hb => ?_⟩
      · rcases h x hx with q | ⟨q, _⟩
        · exact (hg y hy).1 (by rw [← hb, q])
        · rw [q] at hw; cases hw
      · obtain ⟨h0, h1, h2⟩ := hg x hx
        rw [hb] at h0 h1 h2
        rcases h y hy with q | ⟨_, h4, h5⟩
        · exact h0 q
        · rcases h2 hw with h2 | h2
          · omega
          · exact h5 h2
  | cl n0 n1 Ok =>
    cases g with
    | lg lb => exact apart_of0 not_ch lg_ch hf hg h
    | cl m0 m1 Ok' => exact apart_of0 not_ch not_ch hf hg h
    | ch m0 m1 Ok' B => exact apart_of0 (g := .cl m0 m1 Ok') not_ch not_ch hf (FpIs.cut hg) h
  | ch n0 n1 Ok B =>
    cases g with
    | lg lb =>
      obtain rfl : b = lb := hg
      refine ⟨hitsL_of_ne fun x hx y hy hw hb => ?_, hitsL_of_ne fun x hx y hy hw hb => ?_⟩
      · obtain ⟨h0, h1, h2⟩ := hf x hx
        rw [hb] at h0 h1 h2
        rcases h y hy with h3 | h3 | ⟨_, h4, h5⟩
        · exact h0 h3
        · omega
        · rcases h2 hw with h2 | h2
          · omega
          · exact h5 h2
      · obtain ⟨h0, h1, h2⟩ := hf y hy
        rw [← hb] at h0 h1
        rcases h x hx with h3 | h3 | ⟨h3, _, _⟩
        · exact h0 h3
        · omega
        · rw [h3] at hw; cases hw
    | cl m0 m1 Ok' => exact apart_of0 (f := .cl n0 n1 Ok) not_ch not_ch (FpIs.cut hf) hg h
    | ch m0 m1 Ok' B' => exact apart_of0 (f := .cl n0 n1 Ok) (g := .cl m0 m1 Ok') not_ch not_ch (FpIs.cut hf) (FpIs.cut hg) h

theorem fine_apart {P : Program} {q o : Op} {f g : Fp} {a b : List LE} (hf : FpIs f a) (hg : FpIs g b) (cf : FpCls P q f) (cg : FpCls P o g) (h : fine (cls P q) (cls P o) = true) : hitsL a b = false ∧ hitsL b a = false := by
  simp only [fine, Bool.or_eq_true, Bool.and_eq_true, Nat.beq_eq, Nat.ble_eq] at h
  rcases h with (h | h) | ⟨h1, h2⟩
  · rw [cf.1 h] at hf
    obtain rfl : a = [] := hf
    exact ⟨rfl, hitsL_nil_right _⟩
  · rw [cg.1 h] at hg
    obtain rfl : b = [] := hg
    exact ⟨hitsL_nil_right _, rfl⟩
  · obtain ⟨la, e1, w1⟩ := cf.2 h1
    obtain ⟨lb, e2, w2⟩ := cg.2 h2
    rw [e1] at hf; rw [e2] at hg
    obtain rfl : a = la := hf
    obtain rfl : b = lb := hg
    exact ⟨hitsL_reads w1, hitsL_reads w2⟩

theorem pairIn_mem {i j : Nat} : ∀ {l : List (Nat × Nat)}, pairIn i j l = true → (i, j) ∈ l
  | [], h => by cases h
  | p :: l, h => by
    simp only [pairIn, Bool.or_eq_true, Bool.and_eq_true, Nat.beq_eq] at h
    rcases h with ⟨h1, h2⟩ | h
    · obtain ⟨a, b⟩ := p
      simp only at h1 h2
      subst h1; subst h2
      simp
    · simp [pairIn_mem h]
structure Told (P : Program) (l : List Oper) (fps : List Fp) (lgs : List (List LE)) : Prop where
  len : fps.length = l.length
  len' : lgs.length = l.length
  is : ∀ (i : Nat) f lg, fps[i]? = some f → lgs[i]? = some lg → FpIs f lg
  cls : ∀ (i : Nat) (o : Oper) f, l[i]? = some o → fps[i]? = some f → FpCls P o.op f

theorem apartFrom_intro {A : Array Oper} {m : Nat} {o : Oper} {lg : List LE} : ∀ {l : List (Oper × List LE)} {i : Nat}, (∀ (k : Nat) q lq, l[k]? = some (q, lq) → m.testBit (i + k) = true ∨ (tmpHits A q o = false ∧ hitsL lq lg = false ∧ hitsL lg lq = false)) → apartFrom A m o lg l i = true
  | [], i, _ => rfl
  | (q0, lq0) :: l, i, h => by
    simp only [apartFrom, Bool.and_eq_true, Bool.or_eq_true, Bool.not_eq_true']
    refine ⟨?_, apartFrom_intro fun k q lq hk => ?_⟩
    · rcases h 0 q0 lq0 rfl with h | ⟨h1, h2, h3⟩
      · exact .inl h
      · exact .inr ⟨⟨h1, h2⟩, h3⟩
    · have := h (k + 1) q lq hk
      rwa [show i + (k + 1) = i + 1 + k by omega] at this

theorem apartAll_intro {A : Array Oper} {b : Array Nat} : ∀ {l done : List (Oper × List LE)} {j : Nat}, done.length = j →
    (∀ (i k : Nat) q lq o lg, i < j + k → (done ++ l)[i]? = some (q, lq) → l[k]? = some (o, lg) → (b.getD (j + k) 0).testBit i = true ∨ (tmpHits A q o = false ∧ hitsL lq lg = false ∧ hitsL lg lq = false)) → apartAll A b done j l = true
  | [], done, j, _, _ => rfl
  | (o0, lg0) :: l, done, j, hd, h => by
    simp only [apartAll, Bool.and_eq_true]
    refine ⟨apartFrom_intro fun k q lq hk => ?_, apartAll_intro (by simp [hd]) fun i k q lq o lg hlt hi hk => ?_⟩
    · rw [Nat.zero_add]
      have hlt : k < done.length := by
        obtain ⟨hh, _⟩ := List.getElem?_eq_some_iff.1 hk
        exact hh
      have := h k 0 q lq o0 lg0 (by omega) (by rw [List.getElem?_append_left hlt]; exact hk) rfl
      exact this
    · have := h i (k + 1) q lq o lg (by omega) (by simpa using hi) (by simpa using hk)
      rwa [show j + (k + 1) = j + 1 + k by omega] at this

theorem drawFrom_spec {P : Program} {A : Array Oper} {m j : Nat} {o : Oper} {pairs : List (Nat × Nat)} : ∀ {l : List Oper} {i : Nat}, drawFrom P A m j o pairs l i = true → ∀ (k : Nat) q, l[k]? = some q →
    m.testBit (i + k) = true ∨ (tmpHits A q o = false ∧ (fine (cls P q.op) (cls P o.op) = true ∨ (i + k, j) ∈ pairs))
  | [], i, _, k, q, h => by simp at h
  | q0 :: l, i, ha, k, q, h => by
    simp only [drawFrom, Bool.and_eq_true, Bool.or_eq_true, Bool.not_eq_true'] at ha
    cases k with
    | zero =>
      simp at h
      subst h
      rcases ha.1 with h1 | ⟨h1, h2⟩
      · exact .inl h1
      · exact .inr ⟨h1, h2.imp id fun h => pairIn_mem h⟩
    | succ k =>
      have := drawFrom_spec ha.2 k q (by simpa using h)
      rwa [show i + 1 + k = i + (k + 1) by omega] at this

theorem drawAll_spec {P : Program} {A : Array Oper} {b : Array Nat} {pairs : List (Nat × Nat)} : ∀ {l done : List Oper} {j : Nat}, drawAll P A b pairs done j l = true → done.length = j →
    ∀ (i k : Nat) q o, i < j + k → (done ++ l)[i]? = some q → l[k]? = some o → (b.getD (j + k) 0).testBit i = true ∨ (tmpHits A q o = false ∧ (fine (cls P q.op) (cls P o.op) = true ∨ (i, j + k) ∈ pairs))
  | [], done, j, _, _, i, k, q, o, _, _, h => by simp at h
  | o0 :: l, done, j, ha, hd, i, k, q, o, hlt, hi, hk => by
    simp only [drawAll, Bool.and_eq_true] at ha
    cases k with
    | zero =>
      simp at hk
      subst hk
      rw [List.getElem?_append_left (by omega)] at hi
      have := drawFrom_spec ha.1 i q hi
      rwa [Nat.zero_add] at this
    | succ k =>
      have := drawAll_spec ha.2 (by simp [hd]) i k q o (by omega) (by simpa using hi) (by simpa using hk)
      rwa [show j + 1 + k = j + (k + 1) by omega] at this
theorem apart_all {P : Program} {A : Array Oper} {pairs : List (Nat × Nat)} {fps : List Fp} {lgs : List (List LE)} (hd : drawOk P A pairs = true) (ht : Told P A.toList fps lgs)
    (hp : ∀ p ∈ pairs, ∀ a b, fps[p.1]? = some a → fps[p.2]? = some b → fpApart a b) : (edgesOk A.toList 0 && apartAll A (Region.before A) [] 0 (A.toList.zip lgs)) = true := by
  simp only [drawOk, Bool.and_eq_true] at hd
  rw [hd.1, Bool.true_and]
  refine apartAll_intro rfl fun i k q lq o lg hlt hi hk => ?_
  rw [Nat.zero_add] at hlt ⊢
  rw [List.nil_append] at hi
  rw [List.getElem?_zip_eq_some] at hi hk
  have := drawAll_spec hd.2 rfl i k q o (by omega) hi.1 hk.1
  rw [Nat.zero_add] at this
  rcases this with h | ⟨h1, h2⟩
  · exact .inl h
  · refine .inr ⟨h1, ?_⟩
    have gi : ∃ f, fps[i]? = some f := by
      obtain ⟨hh, _⟩ := List.getElem?_eq_some_iff.1 hi.1
      exact ⟨fps[i]'(by rw [ht.len]; exact hh), by simp⟩
    have gk : ∃ f, fps[k]? = some f := by
      obtain ⟨hh, _⟩ := List.getElem?_eq_some_iff.1 hk.1
      exact ⟨fps[k]'(by rw [ht.len]; exact hh), by simp⟩
    obtain ⟨f, hf⟩ := gi
    obtain ⟨g, hg⟩ := gk
    rcases h2 with h2 | h2
    · exact fine_apart (ht.is i f lq hf hi.2) (ht.is k g lg hg hk.2) (ht.cls i q f hi.1 hf) (ht.cls k o g hk.1 hg) h2
    · exact apart_of (ht.is i f lq hf hi.2) (ht.is k g lg hg hk.2) (hp (i, k) h2 f g hf hg)

theorem joinLogs_append : ∀ (ls : List (List LE)) (acc : List LE), joinLogs ls acc = joinLogs ls [] ++ acc
  | [], acc => rfl
  | l :: ls, acc => by
    show joinLogs ls (l ++ acc) = joinLogs ls (l ++ []) ++ acc
    rw [joinLogs_append ls (l ++ acc), joinLogs_append ls (l ++ [])]
    simp

def OpsRanL (c : Cfg) (Ok : Nat → Prop) (A : Array Oper) (nt : Nat) (l : List Oper) (env : Env) (h : H) (env' : Env) (h' : H) (fps : List Fp) : Prop :=
  WF h.heap h.nx → ∃ N, ∀ lf, N ≤ lf → ∀ n, N ≤ n → ∀ tm, tmGet tm = env → ∀ l0, ∃ tm' lgs l1, runL (c.at lf) (callM (c.at lf) n) A nt l tm ⟨h.heap, h.nx, l0⟩ = .ok (tm', lgs) ⟨h'.heap, h'.nx, l1⟩ ∧ tmGet tm' = env' ∧ Ran Ok h h' (joinLogs lgs []) ∧ Told c.P l fps lgs

theorem wpOpsL_ok {c : Cfg} {Ok : Nat → Prop} {A : Array Oper} {nt : Nat} : ∀ {l : List Oper} {acc : List Fp} {env : Env} {h : H} {K : List Fp → Env → H → Prop}, l.all (okOper nt) = true → wpOpsL c Ok A l acc env h K →
    ∃ fps env' h', K (acc ++ fps) env' h' ∧ OpsRanL c Ok A nt l env h env' h' fps
  | [], acc, env, h, K, _, hw => ⟨[], env, h, by rw [List.append_nil]; exact hw, fun _ => ⟨0, fun lf _ n _ tm htm l0 => ⟨tm, [], l0, rfl, htm, Ran.refl, ⟨rfl, rfl, fun i f lg h => by simp at h, fun i o f h => by simp at h⟩⟩⟩⟩
  | o :: l, acc, env, h, K, hok, hw => by
    simp only [List.all_cons, Bool.and_eq_true] at hok
    obtain ⟨env1, h1, fp, hK, hs, hcl⟩ := stepW_ok hok.1 hw
    obtain ⟨fps, env2, h2, hK2, hr⟩ := wpOpsL_ok hok.2 hK
    refine ⟨fp :: fps, env2, h2, by rw [List.append_assoc] at hK2; exact hK2, fun hwf => ?_⟩
    obtain ⟨N1, hN1⟩ := hs hwf
    by_cases htm0 : ∃ tm : T V, tmGet tm = env
    · obtain ⟨tm0, htm0⟩ := htm0
      obtain ⟨N2, hN2⟩ := hr (step_wf hs hwf tm0 htm0)
      refine ⟨max N1 N2, fun lf hlf n hn tm htm l0 => ?_⟩
      obtain ⟨tm1, l1, e1, t1, r1, f1⟩ := hN1 lf (by omega) n (by omega) tm htm []
      rw [List.append_nil] at e1
      obtain ⟨tm2, lgs, l2, e2, t2, r2, T2⟩ := hN2 lf (by omega) n (by omega) tm1 t1 l1
      refine ⟨tm2, l1 :: lgs, l2, ?_, t2, ?_, ?_⟩
      · simp only [runL, e1, e2]
      · show Ran Ok h h2 (joinLogs lgs (l1 ++ []))
        rw [List.append_nil, joinLogs_append]
        exact r1.trans r2
      · refine ⟨by simp [T2.len], by simp [T2.len'], fun i f lg hf hl => ?_, fun i q f hq hf => ?_⟩
        · cases i with
          | zero => simp at hf hl; subst hf; subst hl; exact f1
          | succ i => exact T2.is i f lg (by simpa using hf) (by simpa using hl)
        · cases i with
          | zero => simp at hf hq; subst hf; subst hq; exact hcl
          | succ i => exact T2.cls i q f (by simpa using hq) (by simpa using hf)
    · exact ⟨0, fun lf _ n _ tm htm => (htm0 ⟨tm, htm⟩).elim⟩

def CodeRan (F : Nat → Nat → T V → M (Ex × T V)) (Ok : Nat → Prop) (env : Env) (h : H) (ex : Ex) (env' : Env) (h' : H) : Prop :=
  WF h.heap h.nx → ∃ N, ∀ lf, N ≤ lf → ∀ n, N ≤ n → ∀ tm, tmGet tm = env → ∀ l0, ∃ tm' l, F lf n tm ⟨h.heap, h.nx, l0⟩ = .ok (ex, tm') ⟨h'.heap, h'.nx, l ++ l0⟩ ∧ tmGet tm' = env' ∧ Ran Ok h h' l

theorem okOps_all {nt : Nat} {A : Array Oper} (h : okOps nt A = true) : A.toList.all (okOper nt) = true := h

theorem CodeRan.wf {F : Nat → Nat → T V → M (Ex × T V)} {Ok : Nat → Prop} {env : Env} {h : H} {ex : Ex} {env' : Env} {h' : H} (hr : CodeRan F Ok env h ex env' h') (hwf : WF h.heap h.nx) (tm : T V) (htm : tmGet tm = env) : WF h'.heap h'.nx := by
  obtain ⟨N, hN⟩ := hr hwf
  obtain ⟨_, _, _, _, r⟩ := hN N (Nat.le_refl _) N (Nat.le_refl _) tm htm []
  exact (r.wf hwf).1
theorem CodeRan.seq {F : Nat → Nat → T V → M (Ex × T V)} {G : Nat → Nat → T V → M (Ex × T V)} {Ok : Nat → Prop} {env : Env} {h : H} {env1 : Env} {h1 : H} {ex : Ex} {env' : Env} {h' : H}
    (a : CodeRan F Ok env h .normal env1 h1) (b : CodeRan G Ok env1 h1 ex env' h') : CodeRan (fun lf n tm => andThen (F lf n tm) (G lf n)) Ok env h ex env' h' := by
  intro hwf
  by_cases htm0 : ∃ tm : T V, tmGet tm = env
  · obtain ⟨tm0, htm0⟩ := htm0
    obtain ⟨N1, hN1⟩ := a hwf
    obtain ⟨N2, hN2⟩ := b (a.wf hwf tm0 htm0)
    refine ⟨max N1 N2, fun lf hlf n hn tm htm l0 => ?_⟩
    obtain ⟨tm1, l1, e1, t1, r1⟩ := hN1 lf (by omega) n (by omega) tm htm l0
    obtain ⟨tm2, l2, e2, t2, r2⟩ := hN2 lf (by omega) n (by omega) tm1 t1 (l1 ++ l0)
    refine ⟨tm2, l2 ++ l1, ?_, t2, r1.trans r2⟩
    show Lx.bnd (F lf n tm) _ _ = _
    rw [bnd_eq e1, List.append_assoc]
    exact e2
  · exact ⟨0, fun lf _ n _ tm htm => (htm0 ⟨tm, htm⟩).elim⟩

theorem CodeRan.cut {F : Nat → Nat → T V → M (Ex × T V)} {G : Nat → Nat → T V → M (Ex × T V)} {Ok : Nat → Prop} {env : Env} {h : H} {ex : Ex} {env' : Env} {h' : H}
    (a : CodeRan F Ok env h ex env' h') (hx : ex ≠ .normal) : CodeRan (fun lf n tm => andThen (F lf n tm) (G lf n)) Ok env h ex env' h' := by
  intro hwf
  obtain ⟨N1, hN1⟩ := a hwf
  refine ⟨N1, fun lf hlf n hn tm htm l0 => ?_⟩
  obtain ⟨tm1, l1, e1, t1, r1⟩ := hN1 lf hlf n hn tm htm l0
  refine ⟨tm1, l1, ?_, t1, r1⟩
  show Lx.bnd (F lf n tm) _ _ = _
  rw [bnd_eq e1]
  cases ex with
  | normal => exact (hx rfl).elim
  | exit i => rfl
  | ret => rfl
  | goto l => rfl

theorem wpC_ok {c : Cfg} {Ok : Nat → Prop} {nt : Nat} : ∀ {code : Code} {env : Env} {h : H} {Q : Ex → Env → H → Prop}, okCode nt code = true → wpC c Ok code env h Q →
    ∃ ex env' h', Q ex env' h' ∧ CodeRan (fun lf n => (codeB (c.at lf) (callM (c.at lf) n) nt code).1) Ok env h ex env' h'
  | .skip, env, h, Q, _, hw => ⟨_, _, _, hw, fun _ => ⟨0, fun lf _ n _ tm htm l0 => ⟨tm, [], rfl, htm, Ran.refl⟩⟩⟩
  | .label _, env, h, Q, _, hw => ⟨_, _, _, hw, fun _ => ⟨0, fun lf _ n _ tm htm l0 => ⟨tm, [], rfl, htm, Ran.refl⟩⟩⟩
  | .exit i, env, h, Q, _, hw => ⟨_, _, _, hw, fun _ => ⟨0, fun lf _ n _ tm htm l0 => ⟨tm, [], rfl, htm, Ran.refl⟩⟩⟩
  | .ret, env, h, Q, _, hw => ⟨_, _, _, hw, fun _ => ⟨0, fun lf _ n _ tm htm l0 => ⟨tm, [], rfl, htm, Ran.refl⟩⟩⟩
  | .region id A true, env, h, Q, hok, hw => by
    obtain ⟨pairs, hd, hw⟩ : wpDraw c Ok A env h fun env' h' => Q .normal env' h' := hw
    obtain ⟨fps, env', h', ⟨hp, hQ⟩, hr⟩ := wpOpsL_ok (okOps_all hok) hw
    rw [List.nil_append] at hp
    refine ⟨.normal, env', h', hQ, fun hwf => ?_⟩
    obtain ⟨N, hN⟩ := hr hwf
    refine ⟨N, fun lf hlf n hn tm htm l0 => ?_⟩
    obtain ⟨tm', lgs, l1, e1, t1, r1, T1⟩ := hN lf hlf n hn tm htm l0
    refine ⟨tm', joinLogs lgs [], ?_, t1, r1⟩
    show Lx.bnd (bif true then drawM (c.at lf) (callM (c.at lf) n) A nt tm else _) _ _ = _
    simp only [cond_true]
    rw [bnd_eq (show drawM (c.at lf) (callM (c.at lf) n) A nt tm ⟨h.heap, h.nx, l0⟩ = .ok tm' ⟨h'.heap, h'.nx, joinLogs lgs [] ++ l0⟩ by
      unfold drawM
      rw [e1]
      simp only [apart_all hd T1 hp, cond_true]
      rw [joinLogs_append lgs l0])]
    rfl
  | .region id A false, env, h, Q, hok, hw => by
    obtain ⟨env', h', hQ, hr⟩ := wpOps_ok (okOps_all hok) (show wpOps c Ok A A.toList env h fun env' h' => Q .normal env' h' from hw)
    refine ⟨.normal, env', h', hQ, fun hwf => ?_⟩
    obtain ⟨N, hN⟩ := hr hwf
    refine ⟨N, fun lf hlf n hn tm htm l0 => ?_⟩
    obtain ⟨tm', l, e1, t1, r1⟩ := hN lf hlf n hn tm htm l0
    refine ⟨tm', l, ?_, t1, r1⟩
    show Lx.bnd (bif false then _ else runM (c.at lf) (callM (c.at lf) n) A nt A.toList tm) _ _ = _
    simp only [cond_false]
    rw [bnd_eq e1]
    rfl
  | .seq a b, env, h, Q, hok, hw => by
    simp only [okCode, Bool.and_eq_true] at hok
    obtain ⟨ex, env1, h1, hQ, hr⟩ := wpC_ok hok.1 (show wpC c Ok a env h _ from hw)
    cases ex with
    | normal =>
      obtain ⟨ex2, env2, h2, hQ2, hr2⟩ := wpC_ok hok.2 hQ
      exact ⟨ex2, env2, h2, hQ2, hr.seq hr2⟩
    | exit i => exact ⟨_, _, _, hQ, hr.cut (by simp)⟩
    | ret => exact ⟨_, _, _, hQ, hr.cut (by simp)⟩
    | goto l => exact ⟨_, _, _, hQ, hr.cut (by simp)⟩
  | .cond x a b, env, h, Q, hok, hw => by
    simp only [okCode, Bool.and_eq_true] at hok
    obtain ⟨t, ht, ha, hb⟩ := hw
    cases t with
    | true =>
      obtain ⟨ex, env1, h1, hQ, hr⟩ := wpC_ok hok.1.2 (ha rfl)
      refine ⟨ex, env1, h1, hQ, fun hwf => ?_⟩
      obtain ⟨N, hN⟩ := hr hwf
      refine ⟨N, fun lf hlf n hn tm htm l0 => ?_⟩
      obtain ⟨tm', l, e1, t1, r1⟩ := hN lf hlf n hn tm htm l0
      refine ⟨tm', l, ?_, t1, r1⟩
      show (bif operandOk x then (match evalO tm x with
        | .bool t => bif t then (codeB (c.at lf) (callM (c.at lf) n) nt a).1 tm else (codeB (c.at lf) (callM (c.at lf) n) nt b).1 tm
        | _ => err "cond") else err "cond") _ = _
      rw [hok.1.1, evalO_eq, htm, ht]
      exact e1
    | false =>
      obtain ⟨ex, env1, h1, hQ, hr⟩ := wpC_ok hok.2 (hb rfl)
      refine ⟨ex, env1, h1, hQ, fun hwf => ?_⟩
      obtain ⟨N, hN⟩ := hr hwf
      refine ⟨N, fun lf hlf n hn tm htm l0 => ?_⟩
      obtain ⟨tm', l, e1, t1, r1⟩ := hN lf hlf n hn tm htm l0
      refine ⟨tm', l, ?_, t1, r1⟩
      show (bif operandOk x then (match evalO tm x with
        | .bool t => bif t then (codeB (c.at lf) (callM (c.at lf) n) nt a).1 tm else (codeB (c.at lf) (callM (c.at lf) n) nt b).1 tm
        | _ => err "cond") else err "cond") _ = _
      rw [hok.1.1, evalO_eq, htm, ht]
      exact e1
  | .block id a, env, h, Q, hok, hw => by
    obtain ⟨ex, env1, h1, hQ, hr⟩ := wpC_ok (show okCode nt a = true from hok) (show wpC c Ok a env h _ from hw)
    have key : ∀ ex', (match ex with | .exit i => (bif Nat.beq i id then Ex.normal else .exit i) | e => e) = ex' → CodeRan (fun lf n => (codeB (c.at lf) (callM (c.at lf) n) nt (.block id a)).1) Ok env h ex' env1 h1 := by
      intro ex' hex hwf
      obtain ⟨N, hN⟩ := hr hwf
      refine ⟨N, fun lf hlf n hn tm htm l0 => ?_⟩
      obtain ⟨tm', l, e1, t1, r1⟩ := hN lf hlf n hn tm htm l0
      refine ⟨tm', l, ?_, t1, r1⟩
      show Lx.bnd ((codeB (c.at lf) (callM (c.at lf) n) nt a).1 tm) _ _ = _
      rw [bnd_eq e1, ← hex]
      cases ex <;> rfl
    cases ex with
    | normal => exact ⟨_, _, _, hQ, key _ rfl⟩
    | exit i => exact ⟨_, _, _, hQ, key _ rfl⟩
    | ret => exact ⟨_, _, _, hQ, key _ rfl⟩
    | goto l => exact ⟨_, _, _, hQ, key _ rfl⟩
  | .loop a, env, h, Q, hok, hw => by
    obtain ⟨I, ⟨m, hI⟩, hstep⟩ := hw
    have key : ∀ (m : Nat) (env : Env) (h : H), I m env h → ∃ ex env' h', Q ex env' h' ∧ (WF h.heap h.nx → ∃ N, ∀ lf, N ≤ lf → ∀ n, N ≤ n → ∀ j, N ≤ j → ∀ tm, tmGet tm = env → ∀ l0, ∃ tm' l, iter (codeB (c.at lf) (callM (c.at lf) n) nt a).1 j tm ⟨h.heap, h.nx, l0⟩ = .ok (ex, tm') ⟨h'.heap, h'.nx, l ++ l0⟩ ∧ tmGet tm' = env' ∧ Ran Ok h h' l) := by
      intro m
      induction m using Nat.strongRecOn with
      | ind m ih =>
        intro env h hI
        obtain ⟨ex, env1, h1, hQ, hr⟩ := wpC_ok (show okCode nt a = true from hok) (hstep m env h hI)
        have stop : ∀ ex, ex ≠ .normal → CodeRan (fun lf n => (codeB (c.at lf) (callM (c.at lf) n) nt a).1) Ok env h ex env1 h1 → (WF h.heap h.nx → ∃ N, ∀ lf, N ≤ lf → ∀ n, N ≤ n → ∀ j, N ≤ j → ∀ tm, tmGet tm = env → ∀ l0, ∃ tm' l, iter (codeB (c.at lf) (callM (c.at lf) n) nt a).1 j tm ⟨h.heap, h.nx, l0⟩ = .ok (ex, tm') ⟨h1.heap, h1.nx, l ++ l0⟩ ∧ tmGet tm' = env1 ∧ Ran Ok h h1 l) := by
          intro ex hx hr hwf
          obtain ⟨N, hN⟩ := hr hwf
          refine ⟨N + 1, fun lf hlf n hn j hj tm htm l0 => ?_⟩
          obtain ⟨tm', l, e1, t1, r1⟩ := hN lf (by omega) n (by omega) tm htm l0
          refine ⟨tm', l, ?_, t1, r1⟩
          obtain ⟨j', rfl⟩ : ∃ j', j = j' + 1 := ⟨j - 1, by omega⟩
          show Lx.bnd _ _ _ = _
          rw [bnd_eq e1]
          cases ex with
          | normal => exact (hx rfl).elim
          | exit i => rfl
          | ret => rfl
          | goto l => rfl
        cases ex with
        | normal =>
          obtain ⟨m', hm', hI'⟩ := hQ
          obtain ⟨ex2, env2, h2, hQ2, hr2⟩ := ih m' hm' env1 h1 hI'
          refine ⟨ex2, env2, h2, hQ2, fun hwf => ?_⟩
          by_cases htm0 : ∃ tm : T V, tmGet tm = env
          · obtain ⟨tm0, htm0⟩ := htm0
            obtain ⟨N1, hN1⟩ := hr hwf
            obtain ⟨N2, hN2⟩ := hr2 (hr.wf hwf tm0 htm0)
            refine ⟨max N1 N2 + 1, fun lf hlf n hn j hj tm htm l0 => ?_⟩
            obtain ⟨tm1, l1, e1, t1, r1⟩ := hN1 lf (by omega) n (by omega) tm htm l0
            obtain ⟨j', rfl⟩ : ∃ j', j = j' + 1 := ⟨j - 1, by omega⟩
            obtain ⟨tm2, l2, e2, t2, r2⟩ := hN2 lf (by omega) n (by omega) j' (by omega) tm1 t1 (l1 ++ l0)
            refine ⟨tm2, l2 ++ l1, ?_, t2, r1.trans r2⟩
            show Lx.bnd _ _ _ = _
            rw [bnd_eq e1, List.append_assoc]
            exact e2
          · exact ⟨0, fun lf _ n _ j _ tm htm => (htm0 ⟨tm, htm⟩).elim⟩
        | exit i => exact ⟨_, _, _, hQ, stop _ (by simp) hr⟩
        | ret => exact ⟨_, _, _, hQ, stop _ (by simp) hr⟩
        | goto l => exact ⟨_, _, _, hQ, stop _ (by simp) hr⟩
    obtain ⟨ex, env', h', hQ, hr⟩ := key m env h hI
    refine ⟨ex, env', h', hQ, fun hwf => ?_⟩
    obtain ⟨N, hN⟩ := hr hwf
    exact ⟨N, fun lf hlf n hn tm htm l0 => hN lf hlf n hn lf hlf tm htm l0⟩
  | .rangeFunc .., _, _, _, _, hw => hw.elim
  | .scope a, env, h, Q, hok, hw => by
    obtain ⟨ex, env1, h1, hQ, hr⟩ := wpC_ok (show okCode nt a = true from hok) (show wpC c Ok a env h _ from hw)
    have key : (∀ l, ex ≠ .goto l) → CodeRan (fun lf n => (codeB (c.at lf) (callM (c.at lf) n) nt (.scope a)).1) Ok env h ex env1 h1 := by
      intro hg hwf
      obtain ⟨N, hN⟩ := hr hwf
      refine ⟨N + 1, fun lf hlf n hn tm htm l0 => ?_⟩
      obtain ⟨tm', l, e1, t1, r1⟩ := hN lf (by omega) n (by omega) tm htm l0
      refine ⟨tm', l, ?_, t1, r1⟩
      show Lx.bnd ((codeB (c.at lf) (callM (c.at lf) n) nt a).1 tm) (jumps (codeB (c.at lf) (callM (c.at lf) n) nt a).2 lf) _ = _
      rw [bnd_eq e1]
      obtain ⟨lf, rfl⟩ : ∃ k, lf = k + 1 := ⟨lf - 1, by omega⟩
      cases ex with
      | normal => rfl
      | exit i => rfl
      | ret => rfl
      | goto l => exact absurd rfl (hg l)
    cases ex with
    | normal => exact ⟨_, _, _, hQ, key (by simp)⟩
    | exit i => exact ⟨_, _, _, hQ, key (by simp)⟩
    | ret => exact ⟨_, _, _, hQ, key (by simp)⟩
    | goto l => exact hQ.elim
  | .goto _, _, _, _, _, hw => hw.elim
  | .refuse _, _, _, _, _, hw => hw.elim

end Go.Wx

/-
  Into a function; and the predicate in a form that rewriting works out: the rest of the code as a list, operations one by one.
-/
set_option linter.unusedSimpArgs false
set_option linter.unusedVariables false
namespace Go.Wx
open Go.Lx
noncomputable section

def rdC (ob : Option Ob) (o n : Nat) : Option (List V) := match ob with
  | some (.cells c _ _) => bif Nat.ble (o + n) c.length then some (sub c o n) else none
  | some (.ro c) => bif Nat.ble (o + n) c.length then some (sub c o n) else none
  | _ => none
def oneV : Option (List V) → Option V
  | some [v] => some v
  | _ => none
def tyR (P : Program) (t : TypeId) : Option (Nat × Bool) := match P.underlying t, szT P t with
  | some d, some n => some (n, isAggD d)
  | _, _ => none
def rdV (r : Option (Nat × Bool)) (ob : Option Ob) (o : Nat) : Option V := match r with
  | some (n, true) => (rdC ob o n).map V.agg
  | some (_, false) => oneV (rdC ob o 1)
  | none => none

theorem ld_rdC {k o n : Nat} {s : St} {cs : List V} (h : rdC (s.heap.get k) o n = some cs) : Lx.ld k o n s = .ok cs { s with log := .rd k o n :: s.log } := by
  unfold rdC at h
  unfold Lx.ld
  cases hg : s.heap.get k with
  | none => rw [hg] at h; cases h
  | some ob =>
    rw [hg] at h
    cases ob with
    | cells c e p =>
      simp only at h
      cases hb : Nat.ble (o + n) c.length with
      | false => rw [hb] at h; cases h
      | true => rw [hb] at h; cases h; simp [hb]
    | ro c =>
      simp only at h
      cases hb : Nat.ble (o + n) c.length with
      | false => rw [hb] at h; cases h
      | true => rw [hb] at h; cases h; simp [hb]
    | map es clock => cases h
    | siter s pos => cases h
    | miter m since seen last => cases h

theorem loadVar_rdV {P : Program} {t : TypeId} {k o : Nat} {s : St} {v : V} (h : rdV (tyR P t) (s.heap.get k) o = some v) : ∃ n, loadVarM P t k o s = .ok v { s with log := .rd k o n :: s.log } := by
  unfold tyR at h
  unfold loadVarM
  cases hd : P.underlying t with
  | none => rw [hd] at h; cases h
  | some d =>
    cases hz : szT P t with
    | none => rw [hd, hz] at h; cases h
    | some n =>
      rw [hd, hz] at h
      simp only at h
      cases ha : isAggD d with
      | true =>
        rw [ha] at h
        simp only [rdV] at h
        cases hc : rdC (s.heap.get k) o n with
        | none => rw [hc] at h; cases h
        | some cs =>
          rw [hc] at h; cases h
          refine ⟨n, ?_⟩
          simp only [ha, cond_true]
          rw [bnd_eq (ld_rdC hc)]
          rfl
      | false =>
        rw [ha] at h
        simp only [rdV] at h
        cases hc : rdC (s.heap.get k) o 1 with
        | none => rw [hc] at h; cases h
        | some cs =>
          rw [hc] at h
          refine ⟨1, ?_⟩
          simp only [ha, cond_false]
          rw [bnd_eq (ld_rdC hc)]
          unfold oneV at h
          split at h
          · rename_i v' e; cases e; cases h; rfl
          · cases h

def resV (P : Program) (hp : T Ob) (env : Env) : List ResultVar → Option (List V)
  | [] => some []
  | .tmp t :: l => (resV P hp env l).map (env t :: ·)
  | .cell a t :: l => match env a with
    | .ptr k o => (rdV (tyR P t) (hp.get k) o).bind fun v => (resV P hp env l).map (v :: ·)
    | _ => none

def resW (r : Option (List V)) (h : H) (K : V → H → Prop) : Prop := match r with
  | some vs => K (oneOf vs) h
  | none => False

def endQ (c : Cfg) (rs : List ResultVar) (K : V → H → Prop) : Ex → Env → H → Prop
  | .exit _, _, _ => False
  | .goto _, _, _ => False
  | _, env, h => resW (resV c.P h.heap env rs) h K

def argE' : List V → Nat → Env → Env
  | [], _, env => env
  | v :: l, i, env => argE' l (i + 1) (upd env i v)
def argE (l : List V) : Env := argE' l 0 fun _ => undefV

theorem setArgs_env : ∀ (l : List V) (i : Nat) (tm : T V), tmGet (setArgs l i tm) = argE' l i (tmGet tm)
  | [], i, tm => rfl
  | v :: l, i, tm => by
    show tmGet (setArgs l (i + 1) (tm.set i (some v))) = argE' l (i + 1) (upd (tmGet tm) i v)
    rw [setArgs_env]
    congr 1
    funext t
    rw [tmGet_set]
    rfl

theorem okOps_mono {n m : Nat} (hm : n ≤ m) {A : Array Oper} (h : okOps n A = true) : okOps m A = true := by
  unfold okOps at h ⊢
  rw [List.all_eq_true] at h ⊢
  intro o ho
  have := h o ho
  simp only [Bool.and_eq_true] at this ⊢
  refine ⟨this.1, ?_⟩
  have h2 := this.2
  cases hd : o.dst with
  | none => rfl
  | some d =>
    rw [hd] at h2
    simp only [Nat.blt_eq] at h2 ⊢
    omega

theorem okCode_mono {n m : Nat} (hm : n ≤ m) : ∀ {x : Code}, okCode n x = true → okCode m x = true
  | .region _ A _, h => okOps_mono hm h
  | .seq a b, h => by simp only [okCode, Bool.and_eq_true] at h ⊢; exact ⟨okCode_mono hm h.1, okCode_mono hm h.2⟩
  | .cond x a b, h => by simp only [okCode, Bool.and_eq_true] at h ⊢; exact ⟨⟨h.1.1, okCode_mono hm h.1.2⟩, okCode_mono hm h.2⟩
  | .block _ a, h => okCode_mono (x := a) hm h
  | .loop a, h => okCode_mono (x := a) hm h
  | .scope a, h => okCode_mono (x := a) hm h
  | .skip, _ | .label _, _ | .exit _, _ | .ret, _ | .rangeFunc .., _ | .goto _, _ | .refuse _, _ => rfl

theorem deferM_none {c : Cfg} {call : FuncId → List V → M V} {nt : Nat} : ∀ {x : Code} {tm : T V} {s : St}, noDefer x = true → deferM c call nt x tm s = Lx.bnd (codeM c call nt x tm) (fun q => Lx.ret (q, none)) s
  | .seq a b, tm, s, h => by
    simp only [noDefer, Bool.and_eq_true] at h
    show Lx.bnd (deferM c call nt a tm) _ s = Lx.bnd (andThen (codeM c call nt a tm) (codeM c call nt b)) _ s
    unfold Lx.bnd andThen
    rw [deferM_none h.1]
    unfold Lx.bnd
    cases codeM c call nt a tm s with
    | fail w => rfl
    | ok r s1 =>
      obtain ⟨ex, tm1⟩ := r
      cases ex with
      | normal =>
        show deferM c call nt b tm1 s1 = _
        rw [deferM_none h.2]
        rfl
      | exit i => rfl
      | ret => rfl
      | goto l => rfl
  | .region id A d, tm, s, h => by
    simp only [noDefer, Bool.or_eq_true] at h
    unfold deferM
    cases d with
    | true => rfl
    | false =>
      have h : (lastDefer A.toList).isNone = true := by simpa using h
      cases hl : lastDefer A.toList with
      | none => rfl
      | some p => rw [hl] at h; cases h
  | .skip, _, _, _ | .label _, _, _, _ | .exit _, _, _, _ | .ret, _, _, _ | .rangeFunc .., _, _, _ | .scope _, _, _, _ | .goto _, _, _, _ | .refuse _, _, _, _ | .cond .., _, _, _ | .block .., _, _, _ | .loop _, _, _, _ => rfl

theorem resultsM_ok {P : Program} : ∀ {rs : List ResultVar} {tm : T V} {s : St} {vs : List V}, resV P s.heap (tmGet tm) rs = some vs → ∃ l, resultsM P tm rs s = .ok vs { s with log := l ++ s.log } ∧ ∀ e ∈ l, e.isW = false ∧ s.heap.get (blkOf e) ≠ none
  | [], tm, s, vs, h => by cases h; exact ⟨[], rfl, fun e he => by simp at he⟩
  | .tmp t :: l, tm, s, vs, h => by
    simp only [resV] at h
    cases hr : resV P s.heap (tmGet tm) l with
    | none => rw [hr] at h; cases h
    | some ws =>
      rw [hr] at h; cases h
      obtain ⟨lg, h1, h2⟩ := resultsM_ok hr
      exact ⟨lg, by show Lx.bnd _ _ _ = _; rw [bnd_eq h1]; rfl, h2⟩
  | .cell a t :: l, tm, s, vs, h => by
    simp only [resV] at h
    show ∃ lg, (match tmGet tm a with
      | .ptr k o => bnd (loadVarM P t k o) fun v => bnd (resultsM P tm l) fun vs => Lx.ret (v :: vs)
      | _ => err "result") s = _ ∧ _
    cases ha : tmGet tm a <;> rw [ha] at h <;> simp only at h <;> try (cases h; done)
    rename_i k o
    cases hv : rdV (tyR P t) (s.heap.get k) o with
    | none => rw [hv] at h; cases h
    | some v =>
      rw [hv] at h
      cases hr : resV P s.heap (tmGet tm) l with
      | none => rw [hr] at h; cases h
      | some ws =>
        rw [hr] at h; cases h
        obtain ⟨n, h0⟩ := loadVar_rdV hv
        obtain ⟨lg, h1, h2⟩ := resultsM_ok (s := { s with log := .rd k o n :: s.log }) hr
        refine ⟨lg ++ [.rd k o n], ?_, fun e he => ?_⟩
        · simp only
          rw [bnd_eq h0, bnd_eq h1]
          simp [Lx.ret]
        · rcases List.mem_append.1 he with he | he
          · exact h2 e he
          · simp at he; subst he
            refine ⟨rfl, fun hn => ?_⟩
            have hn : s.heap.get k = none := hn
            rw [hn] at hv
            unfold rdV at hv
            split at hv <;> simp [rdC, oneV] at hv
theorem callW_intro {c : Cfg} {Ok : Nat → Prop} {f : FuncId} {fn : Func} {code : Code} {args : List V} {h : H} {K : V → H → Prop}
    (hf : c.P.funcs[f]? = some fn) (hs : c.sum f = none) (hn : (fn.name == "runtime.NumGoroutine") = false) (hb : fn.body = some code) (hok : okCode fn.ntmps code = true) (hd : noDefer code = true)
    (hw : wpC c Ok code (argE args) h (endQ c fn.results.toList K)) : callW c Ok f args h K := by
  obtain ⟨ex, env', h', hQ, hr⟩ := wpC_ok (nt := max args.length fn.ntmps) (okCode_mono (Nat.le_max_right _ _) hok) hw
  have hres : ∃ vs, resV c.P h'.heap env' fn.results.toList = some vs ∧ K (oneOf vs) h' ∧ (ex = .normal ∨ ex = .ret) := by
    have key : resW (resV c.P h'.heap env' fn.results.toList) h' K → ∃ vs, resV c.P h'.heap env' fn.results.toList = some vs ∧ K (oneOf vs) h' := by
      intro hq
      cases hv : resV c.P h'.heap env' fn.results.toList with
      | none => rw [hv] at hq; exact hq.elim
      | some vs => rw [hv] at hq; exact ⟨vs, rfl, hq⟩
    cases ex with
    | normal => obtain ⟨vs, a, b⟩ := key hQ; exact ⟨vs, a, b, .inl rfl⟩
    | ret => obtain ⟨vs, a, b⟩ := key hQ; exact ⟨vs, a, b, .inr rfl⟩
    | exit i => exact hQ.elim
    | goto l => exact hQ.elim
  obtain ⟨vs, hvs, hK, hex⟩ := hres
  refine ⟨oneOf vs, h', fun hwf => ?_, hK⟩
  obtain ⟨N, hN⟩ := hr hwf
  refine ⟨N + 1, fun lf hlf n hn' l0 => ?_⟩
  obtain ⟨n', rfl⟩ : ∃ n', n = n' + 1 := ⟨n - 1, by omega⟩
  have hN := hN lf (by omega) n' (by omega)
  obtain ⟨tm', l, e1, t1, r1⟩ := hN (setArgs args 0 .leaf) (by rw [setArgs_env]; rfl) l0
  obtain ⟨lg, e2, w2⟩ := resultsM_ok (P := c.P) (rs := fn.results.toList) (tm := tm') (s := ⟨h'.heap, h'.nx, l ++ l0⟩) (vs := vs) (by rw [t1]; exact hvs)
  refine ⟨lg ++ l, ?_, ?_⟩
  · show (match (c.at lf).sum f with
      | some g => g args
      | none => match (c.at lf).P.funcs[f]? with
        | some fn => bif fn.name == "runtime.NumGoroutine" then err "goroutines" else match fn.body with
          | some code => bodyM (c.at lf) (callM (c.at lf) n') fn code args
          | none => err "no body"
        | none => err "no function") _ = _
    rw [show (c.at lf).sum f = none from hs]
    simp only
    rw [show (c.at lf).P.funcs[f]? = some fn from hf]
    simp only [hn, cond_false, hb]
    have e1' : deferM (c.at lf) (callM (c.at lf) n') (max args.length fn.ntmps) code (setArgs args 0 .leaf) ⟨h.heap, h.nx, l0⟩ = .ok ((ex, tm'), none) ⟨h'.heap, h'.nx, l ++ l0⟩ := by
      rw [deferM_none hd]
      rw [bnd_eq (show codeM (c.at lf) (callM (c.at lf) n') (max args.length fn.ntmps) code (setArgs args 0 .leaf) ⟨h.heap, h.nx, l0⟩ = _ from e1)]
      rfl
    unfold bodyM
    rw [bnd_eq e1']
    have e3 : resultsM (c.at lf).P tm' fn.results.toList ⟨h'.heap, h'.nx, l ++ l0⟩ = .ok vs ⟨h'.heap, h'.nx, lg ++ (l ++ l0)⟩ := e2
    rcases hex with rfl | rfl
    · show Lx.bnd (laterM _ _ none) _ _ = _
      rw [bnd_eq (show laterM (c.at lf) (callM (c.at lf) n') none ⟨h'.heap, h'.nx, l ++ l0⟩ = .ok undefV ⟨h'.heap, h'.nx, l ++ l0⟩ from rfl), bnd_eq e3, List.append_assoc]
      rfl
    · show Lx.bnd (laterM _ _ none) _ _ = _
      rw [bnd_eq (show laterM (c.at lf) (callM (c.at lf) n') none ⟨h'.heap, h'.nx, l ++ l0⟩ = .ok undefV ⟨h'.heap, h'.nx, l ++ l0⟩ from rfl), bnd_eq e3, List.append_assoc]
      rfl
  · refine r1.trans ⟨Nat.le_refl _, fun e he hw => ?_, fun w => ⟨w, fun e he => w _ (w2 e he).2⟩⟩
    rw [(w2 e he).1] at hw
    cases hw
theorem callW_sum {c : Cfg} {Ok : Nat → Prop} {f : FuncId} {g : List V → M V} {args : List V} {h : H} {K : V → H → Prop} {v : V} {s : St} (hs : c.sum f = some g) (hn : Nice (g args)) (he : g args h.st = .ok v s) (hl : LogOk Ok h.nx s.log) (hK : K v (ofSt s)) : callW c Ok f args h K := by
  refine ⟨v, ofSt s, fun hwf => ⟨1, fun lf _ n hn' l0 => ⟨s.log, ?_, hn.mono _ _ _ _ he, hl, fun w => hn.wf _ _ _ _ he w⟩⟩, hK⟩
  obtain ⟨n', rfl⟩ : ∃ n', n = n' + 1 := ⟨n - 1, by omega⟩
  show (match (c.at lf).sum f with
      | some g => g args
      | none => _) _ = _
  rw [show (c.at lf).sum f = some g from hs]
  show g args _ = _
  rw [hn.irr]
  change addLog l0 (g args h.st) = _
  rw [he]
  rfl

theorem callW_mono {c : Cfg} {Ok Ok' : Nat → Prop} {f : FuncId} {args : List V} {h : H} {K K' : V → H → Prop} (hw : callW c Ok f args h K) (ho : ∀ k, Ok k → Ok' k) (hk : ∀ v h', K v h' → K' v h') : callW c Ok' f args h K' := by
  obtain ⟨v, h', hr, hK⟩ := hw
  refine ⟨v, h', fun hwf => ?_, hk _ _ hK⟩
  obtain ⟨N, hN⟩ := hr hwf
  refine ⟨N, fun lf hlf n hn l0 => ?_⟩
  obtain ⟨l, h1, h2⟩ := hN lf hlf n hn l0
  exact ⟨l, h1, h2.weak ho⟩
theorem callW_runH {c : Cfg} {Ok : Nat → Prop} {f : FuncId} {args : List V} {h : H} {K : V → H → Prop} (hwf : WF h.heap h.nx) (hw : callW c Ok f args h K) : ∃ v h' lf n l, callM (c.at lf) (n + 1) f args ⟨h.heap, h.nx, []⟩ = .ok v ⟨h'.heap, h'.nx, l⟩ ∧ K v h' := by
  obtain ⟨v, h', hr, hK⟩ := hw
  obtain ⟨N, hN⟩ := hr hwf
  obtain ⟨l, h1, _⟩ := hN N (Nat.le_refl _) (N + 1) (by omega) []
  exact ⟨v, h', N, N, l ++ [], h1, hK⟩

end
end Go.Wx

/-
  The predicate in a form that rewriting works out: the rest of the code as a list, operations one by one, what stands under a guard.
-/
set_option linter.unusedSimpArgs false
set_option linter.unusedVariables false
namespace Go.Wx
open Go.Lx
noncomputable section

inductive Kt where
  | seq (b : Code)
  | blk (id : Nat)
  | lp (J : Env → H → Prop)

def kont (c : Cfg) (Ok : Nat → Prop) : List Kt → (Ex → Env → H → Prop) → Ex → Env → H → Prop
  | [], Q => Q
  | .seq b :: k, Q => fun ex env h => match ex with
    | .normal => wpC c Ok b env h (kont c Ok k Q)
    | e => kont c Ok k Q e env h
  | .blk id :: k, Q => fun ex env h => match ex with
    | .exit i => kont c Ok k Q (bif Nat.beq i id then .normal else .exit i) env h
    | e => kont c Ok k Q e env h
  | .lp J :: k, Q => fun ex env h => match ex with
    | .normal => J env h
    | e => kont c Ok k Q e env h

def run (c : Cfg) (Ok : Nat → Prop) (k : List Kt) (x : Code) (env : Env) (h : H) (Q : Ex → Env → H → Prop) : Prop := wpC c Ok x env h (kont c Ok k Q)
def runOps (c : Cfg) (Ok : Nat → Prop) (k : List Kt) (Q : Ex → Env → H → Prop) (A : Array Oper) (l : List Oper) (env : Env) (h : H) : Prop := wpOps c Ok A l env h fun env' h' => kont c Ok k Q .normal env' h'
def runD (c : Cfg) (Ok : Nat → Prop) (k : List Kt) (Q : Ex → Env → H → Prop) (pairs : List (Nat × Nat)) (A : Array Oper) (l : List Oper) (acc : List Fp) (env : Env) (h : H) : Prop :=
  wpOpsL c Ok A l acc env h fun fps env' h' => (∀ p ∈ pairs, ∀ a b, fps[p.1]? = some a → fps[p.2]? = some b → fpApart a b) ∧ kont c Ok k Q .normal env' h'
def runDraw (c : Cfg) (Ok : Nat → Prop) (k : List Kt) (Q : Ex → Env → H → Prop) (A : Array Oper) (env : Env) (h : H) : Prop := wpDraw c Ok A env h fun env' h' => kont c Ok k Q .normal env' h'
def kOps (c : Cfg) (Ok : Nat → Prop) (k : List Kt) (Q : Ex → Env → H → Prop) (A : Array Oper) (l : List Oper) (dst : Option Tmp) (env : Env) : V → H → Fp → Prop := fun v h _ => runOps c Ok k Q A l (putE dst v env) h
def kOpsD (c : Cfg) (Ok : Nat → Prop) (k : List Kt) (Q : Ex → Env → H → Prop) (pairs : List (Nat × Nat)) (A : Array Oper) (l : List Oper) (acc : List Fp) (dst : Option Tmp) (env : Env) : V → H → Fp → Prop := fun v h fp => runD c Ok k Q pairs A l (acc ++ [fp]) (putE dst v env) h
def bo (p : Prop) : V := .bool (@decide p (Classical.propDecidable p))
def gv (p : Prop) (v : V) : V := @ite V p (Classical.propDecidable p) v undefV
def pk (p : Prop) (a b : V) : V := @ite V p (Classical.propDecidable p) a b
def imp (p q : Prop) : Prop := p → q
def glog (p : Prop) (l : List LE) : List LE := @ite _ p (Classical.propDecidable p) l []
def optP (ok : Prop) (v : V) (lg : List LE) (h : H) (K : V → H → Fp → Prop) : Prop := ok ∧ K v h (.lg lg)

def condW (v : V) (A B : Prop) : Prop := ∃ t, v = .bool t ∧ (t = true → A) ∧ (t = false → B)
def slotL : List Oper → Nat → Env → V
  | [], _, _ => .nilptr
  | o :: _, 0, env => match o.dst with
    | some d => env d
    | none => .nilptr
  | _ :: l, n + 1, env => slotL l n env
def slotV (A : Array Oper) (n : Nat) (env : Env) : V := slotL A.toList n env
def guardOk (v : V) : Prop := (∃ b, v = .bool b) ∨ v = undefV
def guardP (v : V) (w : Bool) : Prop := v = .bool w
def gOp (c : Cfg) (Ok : Nat → Prop) (p : Prop) (op : Op) (env : Env) (h : H) (K : V → H → Fp → Prop) : Prop := (p → opW c Ok op env h K) ∧ (¬ p → K undefV h (.lg []))
def gOpIf (c : Cfg) (Ok : Nat → Prop) (v : V) (w : Bool) (op : Op) (env : Env) (h : H) (K : V → H → Fp → Prop) : Prop := guardOk v ∧ gOp c Ok (guardP v w) op env h K

@[congr] theorem gv_congr {p p' : Prop} {v v' : V} (hp : p = p') (hv : p' → v = v') : gv p v = gv p' v' := by
  subst hp
  unfold gv
  by_cases h : p
  · simp [h, hv h]
  · simp [h]
@[congr] theorem imp_congr' {p p' q q' : Prop} (hp : p = p') (hq : p' → q = q') : imp p q = imp p' q' := by
  subst hp
  unfold imp
  exact propext ⟨fun h a => (hq a) ▸ h a, fun h a => (hq a).symm ▸ h a⟩
@[congr] theorem pk_congr {p p' : Prop} {a a' b b' : V} (hp : p = p') (ha : p' → a = a') (hb : ¬ p' → b = b') : pk p a b = pk p' a' b' := by
  subst hp
  unfold pk
  by_cases h : p
  · simp [h, ha h]
  · simp [h, hb h]

section
variable {c : Cfg} {Ok : Nat → Prop} {k : List Kt} {Q : Ex → Env → H → Prop} {env : Env} {h : H}

theorem run_skip : run c Ok k .skip env h Q = kont c Ok k Q .normal env h := rfl
theorem run_label (l : Nat) : run c Ok k (.label l) env h Q = kont c Ok k Q .normal env h := rfl
theorem run_seq (a b : Code) : run c Ok k (.seq a b) env h Q = run c Ok (.seq b :: k) a env h Q := rfl
theorem run_block (id : Nat) (a : Code) : run c Ok k (.block id a) env h Q = run c Ok (.blk id :: k) a env h Q := rfl
theorem run_exit (i : Nat) : run c Ok k (.exit i) env h Q = kont c Ok k Q (.exit i) env h := rfl
theorem run_ret : run c Ok k .ret env h Q = kont c Ok k Q .ret env h := rfl
theorem run_region (id : Nat) (l : List Oper) : run c Ok k (.region id ⟨l⟩ false) env h Q = runOps c Ok k Q ⟨l⟩ l env h := rfl
theorem run_regionA (id : Nat) (l : List Oper) : run c Ok k (.region id l.toArray false) env h Q = runOps c Ok k Q ⟨l⟩ l env h := rfl
theorem run_region0 (id : Nat) : run c Ok k (.region id #[] false) env h Q = kont c Ok k Q .normal env h := rfl
theorem run_draw (id : Nat) (A : Array Oper) : run c Ok k (.region id A true) env h Q = runDraw c Ok k Q A env h := rfl
theorem run_cond (x : Operand) (a b : Code) : run c Ok k (.cond x a b) env h Q = condW (evalE env x) (run c Ok k a env h Q) (run c Ok k b env h Q) := rfl
theorem kont_nil (ex : Ex) : kont c Ok [] Q ex env h = Q ex env h := rfl
theorem kont_seq (b : Code) : kont c Ok (.seq b :: k) Q .normal env h = run c Ok k b env h Q := rfl
theorem kont_seq_exit (b : Code) (i : Nat) : kont c Ok (.seq b :: k) Q (.exit i) env h = kont c Ok k Q (.exit i) env h := rfl
theorem kont_seq_ret (b : Code) : kont c Ok (.seq b :: k) Q .ret env h = kont c Ok k Q .ret env h := rfl
theorem kont_blk (id : Nat) : kont c Ok (.blk id :: k) Q .normal env h = kont c Ok k Q .normal env h := rfl
theorem kont_blk_ret (id : Nat) : kont c Ok (.blk id :: k) Q .ret env h = kont c Ok k Q .ret env h := rfl
theorem kont_blk_exit (id i : Nat) : kont c Ok (.blk id :: k) Q (.exit i) env h = if i = id then kont c Ok k Q .normal env h else kont c Ok k Q (.exit i) env h := by
  show kont c Ok k Q (bif Nat.beq i id then .normal else .exit i) env h = _
  by_cases hi : i = id
  · simp [hi]
  · have : Nat.beq i id = false := by
      cases hb : Nat.beq i id with
      | false => rfl
      | true => exact (hi (Nat.eq_of_beq_eq_true hb)).elim
    simp [hi, this]
theorem kont_lp (J : Env → H → Prop) : kont c Ok (.lp J :: k) Q .normal env h = J env h := rfl
theorem kont_lp_exit (J : Env → H → Prop) (i : Nat) : kont c Ok (.lp J :: k) Q (.exit i) env h = kont c Ok k Q (.exit i) env h := rfl
theorem kont_lp_ret (J : Env → H → Prop) : kont c Ok (.lp J :: k) Q .ret env h = kont c Ok k Q .ret env h := rfl
theorem run_loop {a : Code} (I : Nat → Env → H → Prop) (m : Nat) (hI : I m env h) (hs : ∀ m env h, I m env h → run c Ok (.lp (fun env' h' => ∃ m', m' < m ∧ I m' env' h') :: k) a env h Q) : run c Ok k (.loop a) env h Q := by
  refine ⟨I, ⟨m, hI⟩, fun m env1 h1 hI1 => ?_⟩
  have := hs m env1 h1 hI1
  unfold run at this
  have e : kont c Ok (.lp (fun env' h' => ∃ m', m' < m ∧ I m' env' h') :: k) Q = fun ex env' h' => match ex with
    | .normal => ∃ m', m' < m ∧ I m' env' h'
    | e => kont c Ok k Q e env' h' := rfl
  rw [e] at this
  exact this

theorem runOps_nil (A : Array Oper) : runOps c Ok k Q A [] env h = kont c Ok k Q .normal env h := rfl
theorem stepW_none {A : Array Oper} {dst : Option Tmp} {op : Op} {ty : TypeId} {pos : String} {af : Array Edge} {K : Env → H → Fp → Prop} : stepW c Ok A ⟨dst, op, ty, pos, af, none⟩ env h K = opW c Ok op env h fun v h' fp => K (putE dst v env) h' fp := by
  unfold stepW
  refine propext ⟨fun ⟨b, h1, h2, h3⟩ => ?_, fun h0 => ⟨true, rfl, fun e => (by cases e), fun _ => h0⟩⟩
  have : b = true := by simpa [wantsE] using h1.symm
  exact h3 this
theorem slotL_get : ∀ (l : List Oper) (j : Nat) (env : Env), (match (l[j]?).bind (fun q => q.dst) with
    | some d => env d
    | none => .nilptr) = slotL l j env
  | [], j, env => by simp [slotL]
  | o :: l, 0, env => by simp only [List.getElem?_cons_zero, Option.bind_some, slotL]
  | o :: l, j + 1, env => by rw [List.getElem?_cons_succ]; exact slotL_get l j env

theorem stepW_some {A : Array Oper} {dst : Option Tmp} {op : Op} {ty : TypeId} {pos : String} {af : Array Edge} {j : Nat} {w : Bool} {K : Env → H → Fp → Prop} :
    stepW c Ok A ⟨dst, op, ty, pos, af, some (j, w)⟩ env h K = gOpIf c Ok (slotV A j env) w op env h fun v h' fp => K (putE dst v env) h' fp := by
  have hsl := slotL_get A.toList j env
  unfold gOpIf gOp slotV
  have hw : wantsE A env ⟨dst, op, ty, pos, af, some (j, w)⟩ = (match slotL A.toList j env with
      | .bool b => some (b == w)
      | .tuple [] => some false
      | _ => none) := by
    rw [← hsl]
    unfold wantsE
    have hA : A[j]? = A.toList[j]? := by simp
    dsimp only
    rw [hA]
    cases (A.toList[j]?).bind (fun q => q.dst) <;> rfl
  unfold stepW
  rw [hw]
  generalize slotL A.toList j env = v
  unfold guardOk guardP
  refine propext ⟨fun hh => ?_, fun ⟨h1, h2, h3⟩ => ?_⟩
  · obtain ⟨b, h1, h2, h3⟩ := hh
    cases v <;> try (cases h1; done)
    · rename_i b'
      cases h1
      refine ⟨.inl ⟨b', rfl⟩, fun e => h3 (by cases e; simp), fun e => h2 ?_⟩
      cases hb : (b' == w) with
      | false => rfl
      | true => exact (e (by rw [eq_of_beq hb])).elim
    · rename_i vs
      cases vs with
      | nil => cases h1; exact ⟨.inr rfl, fun e => (by cases e), fun _ => h2 rfl⟩
      | cons x l => cases h1
  · rcases h1 with ⟨b, rfl⟩ | rfl
    · refine ⟨b == w, rfl, fun e => h3 fun e' => ?_, fun e => h2 (by rw [eq_of_beq e])⟩
      cases e'
      simp at e
    · exact ⟨false, rfl, fun _ => h3 fun e => (by cases e), fun e => (by cases e)⟩

variable {A : Array Oper} {l : List Oper} {dst : Option Tmp} {op : Op} {ty : TypeId} {pos : String} {af : Array Edge} {j : Nat} {w : Bool}
theorem runOps_cons : runOps c Ok k Q A (⟨dst, op, ty, pos, af, none⟩ :: l) env h = opW c Ok op env h (kOps c Ok k Q A l dst env) := by
  unfold runOps; exact stepW_none
theorem runOps_guard : runOps c Ok k Q A (⟨dst, op, ty, pos, af, some (j, w)⟩ :: l) env h = gOpIf c Ok (slotV A j env) w op env h (kOps c Ok k Q A l dst env) := by
  unfold runOps; exact stepW_some
theorem kOps_def {v : V} {fp : Fp} : kOps c Ok k Q A l dst env v h fp = runOps c Ok k Q A l (putE dst v env) h := rfl
variable {pairs : List (Nat × Nat)} {acc : List Fp}
theorem runD_nil : runD c Ok k Q pairs A [] acc env h = ((∀ p ∈ pairs, ∀ a b, acc[p.1]? = some a → acc[p.2]? = some b → fpApart a b) ∧ kont c Ok k Q .normal env h) := rfl
theorem runD_cons : runD c Ok k Q pairs A (⟨dst, op, ty, pos, af, none⟩ :: l) acc env h = opW c Ok op env h (kOpsD c Ok k Q pairs A l acc dst env) := by
  unfold runD; exact stepW_none
theorem runD_guard : runD c Ok k Q pairs A (⟨dst, op, ty, pos, af, some (j, w)⟩ :: l) acc env h = gOpIf c Ok (slotV A j env) w op env h (kOpsD c Ok k Q pairs A l acc dst env) := by
  unfold runD; exact stepW_some
theorem kOpsD_def {v : V} {fp : Fp} : kOpsD c Ok k Q pairs A l acc dst env v h fp = runD c Ok k Q pairs A l (acc ++ [fp]) (putE dst v env) h := rfl
theorem draw_by (pairs : List (Nat × Nat)) (hd : drawOk c.P A pairs = true) (hr : runD c Ok k Q pairs A A.toList [] env h) : runDraw c Ok k Q A env h := ⟨pairs, hd, hr⟩
end

theorem putE_some (d : Tmp) (v : V) (env : Env) : putE (some d) v env = upd env d v := rfl
theorem putE_none (v : V) (env : Env) : putE none v env = env := rfl
theorem upd_app (env : Env) (d : Nat) (v : V) (t : Nat) : upd env d v t = if t = d then v else env t := rfl
theorem evalE_tmp (env : Env) (t : Tmp) : evalE env (.tmp t) = env t := rfl
theorem evalE_func (env : Env) (f : FuncId) : evalE env (.func f) = .func f [] [] := rfl
theorem evalE_global (env : Env) (g : Nat) : evalE env (.global g) = .gptr g 0 := rfl
theorem evalE_int (env : Env) (k : IntKind) (n : Int) : evalE env (.const (.int k n)) = .int k n := rfl
theorem evalE_true (env : Env) : evalE env (.const (.bool true)) = bo True := by simp [bo]; rfl
theorem evalE_false (env : Env) : evalE env (.const (.bool false)) = bo False := by simp [bo]; rfl
theorem evalE_str (env : Env) (l : List UInt8) : evalE env (.const (.string ⟨⟨l⟩⟩)) = .str (l.map (·.toNat)) := rfl
theorem evalE_nilslice (env : Env) : evalE env (.const (.slice none 0 0)) = .nilslice := rfl
theorem evalE_nilptr (env : Env) : evalE env (.const (.pointer none)) = .nilptr := rfl
theorem evalE_nilmap (env : Env) : evalE env (.const (.map none)) = .nilmap := rfl
theorem evalE_nilfunc (env : Env) : evalE env (.const .nilFunc) = .nilfunc := rfl
theorem slotV_def (l : List Oper) (n : Nat) (env : Env) : slotV ⟨l⟩ n env = slotL l n env := rfl
theorem slotL_zero (d : Tmp) (op : Op) (ty : TypeId) (pos : String) (af : Array Edge) (g : Option (Nat × Bool)) (l : List Oper) (env : Env) : slotL (⟨some d, op, ty, pos, af, g⟩ :: l) 0 env = env d := rfl
theorem slotL_succ (o : Oper) (l : List Oper) (n : Nat) (env : Env) : slotL (o :: l) (n + 1) env = slotL l n env := rfl

theorem bo_true : bo True = .bool true := by simp [bo]
theorem bo_false : bo False = .bool false := by simp [bo]
theorem bo_inj {p : Prop} {b : Bool} : bo p = .bool b ↔ (p ↔ b = true) := by
  unfold bo
  by_cases hp : p <;> cases b <;> simp [hp]
theorem condW_bo {p A B : Prop} : condW (bo p) A B = ((p → A) ∧ (¬ p → B)) := by
  unfold condW bo
  by_cases hp : p
  · simp [hp]
  · simp [hp]
theorem condW_bool {b : Bool} {A B : Prop} : condW (.bool b) A B = ((b = true → A) ∧ (b = false → B)) := by
  unfold condW; cases b <;> simp
theorem guardOk_bo {p : Prop} : guardOk (bo p) = True := by unfold guardOk bo; simp
theorem guardOk_gv {p : Prop} {v : V} : guardOk (gv p v) = imp p (guardOk v) := by
  unfold gv imp
  by_cases hp : p
  · simp [hp]
  · simp [hp, guardOk]
theorem guardOk_bool {b : Bool} : guardOk (.bool b) = True := by unfold guardOk; simp
theorem guardP_true {p : Prop} : guardP (bo p) true = p := by unfold guardP; rw [bo_inj]; simp
theorem guardP_false {p : Prop} : guardP (bo p) false = ¬ p := by unfold guardP; rw [bo_inj]; simp
theorem guardP_bool {b w : Bool} : guardP (.bool b) w = (b = w) := by unfold guardP; simp
theorem guardP_gv {p : Prop} {v : V} {w : Bool} : guardP (gv p v) w = (p ∧ guardP v w) := by
  unfold guardP gv
  by_cases hp : p
  · simp [hp]
  · simp [hp, undefV]
theorem guardOk_undef : guardOk undefV = True := by simp [guardOk]
theorem guardP_undef {w : Bool} : guardP undefV w = False := by simp [guardP, undefV]
theorem gv_true {v : V} : gv True v = v := by simp [gv]
theorem gv_false {v : V} : gv False v = undefV := by simp [gv]
theorem imp_true_l {q : Prop} : imp True q = q := by simp [imp]
theorem imp_true_r {p : Prop} : imp p True = True := by simp [imp]
theorem imp_false_l {q : Prop} : imp False q = True := by simp [imp]
theorem imp_and {p q r : Prop} : imp p (q ∧ r) = (imp p q ∧ imp p r) := by simp [imp]; exact ⟨fun h => ⟨fun a => (h a).1, fun a => (h a).2⟩, fun h a => ⟨h.1 a, h.2 a⟩⟩
theorem pk_bo_true {p b : Prop} : pk p (bo True) (bo b) = bo (p ∨ b) := by
  unfold pk
  by_cases hp : p <;> simp [hp]
theorem pk_bo_false {p a : Prop} : pk p (bo a) (bo False) = bo (p ∧ a) := by
  unfold pk
  by_cases hp : p <;> simp [hp]
theorem pk_same {p : Prop} {a : V} : pk p a a = a := by unfold pk; simp
theorem pk_true {a b : V} : pk True a b = a := by simp [pk]
theorem pk_false {a b : V} : pk False a b = b := by simp [pk]
theorem glog_nil {p : Prop} : glog p [] = [] := by simp [glog]
theorem glog_true {l : List LE} : glog True l = l := by simp [glog]
theorem optP_def {ok : Prop} {v : V} {lg : List LE} {h : H} {K : V → H → Fp → Prop} : optP ok v lg h K = (ok ∧ K v h (.lg lg)) := rfl
theorem gOpIf_def {c : Cfg} {Ok : Nat → Prop} {v : V} {w : Bool} {op : Op} {env : Env} {h : H} {K : V → H → Fp → Prop} : gOpIf c Ok v w op env h K = (guardOk v ∧ gOp c Ok (guardP v w) op env h K) := rfl

theorem gOp_pure {c : Cfg} {Ok : Nat → Prop} {p ok : Prop} {op : Op} {env : Env} {h : H} {v : V} {lg : List LE} (hop : ∀ K, opW c Ok op env h K = optP ok v lg h K) (K : V → H → Fp → Prop) :
    gOp c Ok p op env h K = (imp p ok ∧ K (gv p v) h (.lg (glog p lg))) := by
  unfold gOp imp gv glog
  rw [hop]
  unfold optP
  by_cases hp : p <;> simp [hp]

theorem LogOk_nil {Ok : Nat → Prop} {n : Nat} : LogOk Ok n [] := fun e he => by simp at he
theorem LogOk_rd {Ok : Nat → Prop} {n : Nat} {l : List LE} (h : ∀ e ∈ l, e.isW = false) : LogOk Ok n l := fun e he hw => by rw [h e he] at hw; cases hw

section
variable {c : Cfg} {Ok : Nat → Prop} {env : Env} {h : H} {K : V → H → Fp → Prop}

theorem opW_plain {o : Op} (hn : ∀ k, o = .call k → ∀ f, k.callee ≠ .value f) : opW c Ok o env h K = (match opM c.P c.gl noCall (evalE env) o h.st with
    | .ok v s => LogOk Ok h.nx s.log ∧ K v (ofSt s) (.lg s.log)
    | .fail _ => False) := by
  cases o with
  | call k =>
    unfold opW
    simp only
    cases hk : k.callee with
    | value f => exact (hn k rfl f hk).elim
    | _ => rfl
  | _ => rfl

theorem opW_ret {o : Op} {v : V} (hn : ∀ k, o = .call k → ∀ f, k.callee ≠ .value f) (e : opM c.P c.gl noCall (evalE env) o h.st = .ok v h.st) : opW c Ok o env h K = K v h (.lg []) := by
  rw [opW_plain hn, e]
  exact propext ⟨fun a => a.2, fun a => ⟨LogOk_nil, a⟩⟩

theorem opW_fail {o : Op} {w : String} (hn : ∀ k, o = .call k → ∀ f, k.callee ≠ .value f) (e : opM c.P c.gl noCall (evalE env) o h.st = .fail w) : opW c Ok o env h K = False := by
  rw [opW_plain hn, e]
def okO (o : Option V) : Prop := o.isSome = true
def getO' (o : Option V) : V := o.getD undefV
theorem okO_some (v : V) : okO (some v) = True := by simp [okO]
theorem okO_none : okO none = False := by simp [okO]
theorem getO_some (v : V) : getO' (some v) = v := rfl
theorem okO_ite {p : Prop} [Decidable p] {v : V} : okO (if p then some v else none) = p := by by_cases hp : p <;> simp [okO, hp]

theorem opW_opt {o : Op} {ov : Option V} (hn : ∀ k, o = .call k → ∀ f, k.callee ≠ .value f) (h1 : ∀ v, ov = some v → opM c.P c.gl noCall (evalE env) o h.st = .ok v h.st) (h2 : ov = none → ∃ w, opM c.P c.gl noCall (evalE env) o h.st = .fail w) :
    opW c Ok o env h K = optP (okO ov) (getO' ov) [] h K := by
  cases ov with
  | none =>
    obtain ⟨w, e⟩ := h2 rfl
    rw [opW_fail hn e]
    simp [optP, okO]
  | some v =>
    rw [opW_ret hn (h1 v rfl)]
    simp [optP, okO, getO']

theorem opt_opt {ov : Option V} {w : String} {s : St} : (∀ v, ov = some v → Lx.opt ov w s = .ok v s) ∧ (ov = none → ∃ w', Lx.opt ov w s = .fail w') :=
  ⟨fun v e => by rw [e]; rfl, fun e => ⟨w, by rw [e]; rfl⟩⟩

theorem nc {o : Op} (h : (match o with
  | .call _ => False
  | _ => True)) : ∀ k, o = .call k → ∀ f, k.callee ≠ .value f := by
  rintro k rfl; exact h.elim

theorem opW_move (x : Operand) : opW c Ok (.move x) env h K = K (evalE env x) h (.lg []) := opW_ret (nc trivial) rfl
theorem opW_assign (x : Operand) : opW c Ok (.assign x) env h K = K (evalE env x) h (.lg []) := opW_ret (nc trivial) rfl
theorem gOp_move {p : Prop} (x : Operand) : gOp c Ok p (.move x) env h K = K (gv p (evalE env x)) h (.lg []) := by
  rw [gOp_pure (ok := True) (v := evalE env x) (lg := []) (fun K => by rw [opW_move]; simp [optP])]
  simp [imp, glog]
theorem opW_binOp (op : BinOp) (t : TypeId) (x y : Operand) (u : TypeId) : opW c Ok (.binOp op t x y u) env h K = optP (okO (binV c.P op t (constO x || constO y) (evalE env x) (evalE env y))) (getO' (binV c.P op t (constO x || constO y) (evalE env x) (evalE env y))) [] h K :=
  opW_opt (nc trivial) (fun v e => opt_opt.1 v e) fun e => opt_opt.2 e
theorem gOp_binOp {p : Prop} (op : BinOp) (t : TypeId) (x y : Operand) (u : TypeId) : gOp c Ok p (.binOp op t x y u) env h K = (imp p (okO (binV c.P op t (constO x || constO y) (evalE env x) (evalE env y))) ∧ K (gv p (getO' (binV c.P op t (constO x || constO y) (evalE env x) (evalE env y)))) h (.lg [])) := by
  rw [gOp_pure fun K => opW_binOp (K := K) op t x y u, glog_nil]
theorem opW_unOp (op : UnOp) (t : TypeId) (x : Operand) : opW c Ok (.unOp op t x) env h K = optP (okO (unV op (evalE env x))) (getO' (unV op (evalE env x))) [] h K :=
  opW_opt (nc trivial) (fun v e => opt_opt.1 v e) fun e => opt_opt.2 e
theorem gOp_unOp {p : Prop} (op : UnOp) (t : TypeId) (x : Operand) : gOp c Ok p (.unOp op t x) env h K = (imp p (okO (unV op (evalE env x))) ∧ K (gv p (getO' (unV op (evalE env x)))) h (.lg [])) := by
  rw [gOp_pure fun K => opW_unOp (K := K) op t x, glog_nil]

def isBo (v : V) : Prop := ∃ b, v = .bool b
def pickV (cv a b : V) : V := match cv with
  | .bool t => bif t then a else b
  | _ => undefV
theorem isBo_bo {p : Prop} : isBo (bo p) = True := by unfold isBo bo; simp
theorem isBo_bool {b : Bool} : isBo (.bool b) = True := by unfold isBo; simp
theorem pickV_bo {p : Prop} {a b : V} : pickV (bo p) a b = pk p a b := by
  unfold bo pickV pk
  by_cases hp : p <;> simp [hp]
theorem pickV_bool {t : Bool} {a b : V} : pickV (.bool t) a b = pk (t = true) a b := by
  unfold pickV pk
  cases t <;> simp
theorem opW_pick (x a b : Operand) : opW c Ok (.pick x a b) env h K = optP (isBo (evalE env x)) (pickV (evalE env x) (evalE env a) (evalE env b)) [] h K := by
  by_cases hb : isBo (evalE env x)
  · obtain ⟨t, ht⟩ := hb
    rw [opW_ret (nc trivial) (v := pickV (evalE env x) (evalE env a) (evalE env b)) (by
      show opPick _ _ _ _ = _
      unfold opPick
      rw [ht]
      rfl)]
    unfold optP
    rw [show isBo (evalE env x) = True by rw [ht]; exact isBo_bool, true_and]
  · have : ∃ w, opM c.P c.gl noCall (evalE env) (.pick x a b) h.st = .fail w := by
      show ∃ w, opPick _ _ _ _ = _
      unfold opPick
      cases hv : evalE env x <;> first | exact ⟨_, rfl⟩ | skip
      exact (hb ⟨_, hv⟩).elim
    obtain ⟨w, e⟩ := this
    rw [opW_fail (nc trivial) e]
    simp [optP, hb]
theorem gOp_pick {p : Prop} (x a b : Operand) : gOp c Ok p (.pick x a b) env h K = (imp p (isBo (evalE env x)) ∧ K (gv p (pickV (evalE env x) (evalE env a) (evalE env b))) h (.lg [])) := by
  rw [gOp_pure fun K => opW_pick (K := K) x a b, glog_nil]

def extV (v : V) (i : Nat) : Option V := match v with
  | .tuple vs => vs[i]?
  | _ => none
theorem opW_extract (t : Operand) (i : Nat) : opW c Ok (.extract t i) env h K = optP (okO (extV (evalE env t) i)) (getO' (extV (evalE env t) i)) [] h K := by
  refine opW_opt (nc trivial) (fun v e => ?_) (fun e => ?_)
  · show opExtract _ _ _ = _
    unfold opExtract
    unfold extV at e
    cases hv : evalE env t <;> rw [hv] at e <;> simp only at e <;> try (cases e; done)
    simp only
    exact opt_opt.1 v e
  · show ∃ w, opExtract _ _ _ = _
    unfold opExtract
    unfold extV at e
    cases hv : evalE env t <;> rw [hv] at e <;> first | exact ⟨_, rfl⟩ | skip
    simp only at e ⊢
    exact opt_opt.2 e
theorem gOp_extract {p : Prop} (t : Operand) (i : Nat) : gOp c Ok p (.extract t i) env h K = (imp p (okO (extV (evalE env t) i)) ∧ K (gv p (getO' (extV (evalE env t) i))) h (.lg [])) := by
  rw [gOp_pure fun K => opW_extract (K := K) t i, glog_nil]
theorem extV_zero (v : V) (l : List V) : extV (.tuple (v :: l)) 0 = some v := rfl
theorem extV_succ (v : V) (l : List V) (n : Nat) : extV (.tuple (v :: l)) (n + 1) = extV (.tuple l) n := rfl
def pureO (m : M V) : Option V := match m ⟨.leaf, 0, []⟩ with
  | .ok v _ => some v
  | .fail _ => none
def Pure1 (m : M V) : Prop := ∃ ov : Option V, ∀ s, match ov with
  | some v => m s = .ok v s
  | none => ∃ w, m s = .fail w
theorem Pure1.eq {m : M V} (hm : Pure1 m) (s : St) : (∀ v, pureO m = some v → m s = .ok v s) ∧ (pureO m = none → ∃ w, m s = .fail w) := by
  obtain ⟨ov, h⟩ := hm
  cases ov with
  | none =>
    have h0 := h ⟨.leaf, 0, []⟩
    have h1 := h s
    simp only at h0 h1
    obtain ⟨w, e⟩ := h0
    refine ⟨fun v hv => ?_, fun _ => h1⟩
    unfold pureO at hv
    rw [e] at hv; cases hv
  | some v =>
    have h0 := h ⟨.leaf, 0, []⟩
    have h1 := h s
    simp only at h0 h1
    have e : pureO m = some v := by unfold pureO; rw [h0]
    refine ⟨fun v' hv => ?_, fun hv => ?_⟩
    · rw [e] at hv; cases hv; exact h1
    · rw [e] at hv; cases hv
theorem Pure1.ret (v : V) : Pure1 (Lx.ret v) := ⟨some v, fun s => rfl⟩
theorem Pure1.err (w : String) : Pure1 (Lx.err w) := ⟨none, fun s => ⟨w, rfl⟩⟩
theorem Pure1.opt (o : Option V) (w : String) : Pure1 (Lx.opt o w) := by
  cases o with
  | none => exact Pure1.err w
  | some v => exact Pure1.ret v
theorem Pure1.cond {b : Bool} {x y : M V} (hx : Pure1 x) (hy : Pure1 y) : Pure1 (bif b then x else y) := by
  cases b
  · exact hy
  · exact hx
theorem opW_pureO {o : Op} {m : M V} (hn : ∀ k, o = .call k → ∀ f, k.callee ≠ .value f) (e : opM c.P c.gl noCall (evalE env) o = m) (hm : Pure1 m) : opW c Ok o env h K = optP (okO (pureO m)) (getO' (pureO m)) [] h K := by
  subst e
  exact opW_opt hn (hm.eq h.st).1 (hm.eq h.st).2

theorem pure_field (P : Program) (t : TypeId) (x : V) (f : Nat) : Pure1 (opField P t x f) := by
  unfold opField partM
  repeat' (first | exact Pure1.ret _ | exact Pure1.err _ | refine Pure1.cond ?_ ?_ | split)
theorem pure_fieldAddr (P : Program) (t : TypeId) (x : V) (f : Nat) : Pure1 (opFieldAddr P t x f) := by
  unfold opFieldAddr
  repeat' (first | exact Pure1.ret _ | exact Pure1.err _ | refine Pure1.cond ?_ ?_ | split)
theorem pure_indexAddr (P : Program) (t : TypeId) (x i : V) : Pure1 (opIndexAddr P t x i) := by
  unfold opIndexAddr
  repeat' (first | exact Pure1.ret _ | exact Pure1.err _ | refine Pure1.cond ?_ ?_ | split)
theorem pure_index (P : Program) (t : TypeId) (x i : V) : Pure1 (opIndex P t x i) := by
  unfold opIndex partM
  repeat' (first | exact Pure1.ret _ | exact Pure1.err _ | refine Pure1.cond ?_ ?_ | split)
theorem pure_build (P : Program) (t : TypeId) (ps : List (Nat × List V)) : Pure1 (buildM P t ps) := by
  unfold buildM
  repeat' (first | exact Pure1.ret _ | exact Pure1.err _ | refine Pure1.cond ?_ ?_ | split)
theorem pure_nilCheck (x : V) : Pure1 (opNilCheck x) := by
  unfold opNilCheck
  repeat' (first | exact Pure1.ret _ | exact Pure1.err _ | refine Pure1.cond ?_ ?_ | split)
theorem pure_makeInterface (P : Program) (t : TypeId) (x : V) : Pure1 (opMakeInterface P t x) := by
  unfold opMakeInterface
  repeat' (first | exact Pure1.ret _ | exact Pure1.err _ | refine Pure1.cond ?_ ?_ | split)
def fieldV (P : Program) (t : TypeId) (x : V) (f : Nat) : Option V := pureO (opField P t x f)
def fieldAddrV (P : Program) (t : TypeId) (x : V) (f : Nat) : Option V := pureO (opFieldAddr P t x f)
def indexAddrV (P : Program) (t : TypeId) (x i : V) : Option V := pureO (opIndexAddr P t x i)
def indexV (P : Program) (t : TypeId) (x i : V) : Option V := pureO (opIndex P t x i)
def buildV (P : Program) (t : TypeId) (ps : List (Nat × List V)) : Option V := pureO (buildM P t ps)
def nilCheckV (x : V) : Option V := pureO (opNilCheck x)
def makeInterfaceV (P : Program) (t : TypeId) (x : V) : Option V := pureO (opMakeInterface P t x)

theorem opW_field (t : TypeId) (x : Operand) (f : Nat) : opW c Ok (.field t x f) env h K = optP (okO (fieldV c.P t (evalE env x) f)) (getO' (fieldV c.P t (evalE env x) f)) [] h K := opW_pureO (nc trivial) rfl (pure_field _ _ _ _)
theorem opW_fieldAddr (t : TypeId) (x : Operand) (f : Nat) : opW c Ok (.fieldAddr t x f) env h K = optP (okO (fieldAddrV c.P t (evalE env x) f)) (getO' (fieldAddrV c.P t (evalE env x) f)) [] h K := opW_pureO (nc trivial) rfl (pure_fieldAddr _ _ _ _)
theorem opW_indexAddr (t : TypeId) (x i : Operand) : opW c Ok (.indexAddr t x i) env h K = optP (okO (indexAddrV c.P t (evalE env x) (evalE env i))) (getO' (indexAddrV c.P t (evalE env x) (evalE env i))) [] h K := opW_pureO (nc trivial) rfl (pure_indexAddr _ _ _ _)
theorem opW_index (t : TypeId) (x i : Operand) : opW c Ok (.index t x i) env h K = optP (okO (indexV c.P t (evalE env x) (evalE env i))) (getO' (indexV c.P t (evalE env x) (evalE env i))) [] h K := opW_pureO (nc trivial) rfl (pure_index _ _ _ _)
theorem opW_build (t : TypeId) (ps : Array (Nat × Operand)) : opW c Ok (.build t ps) env h K = optP (okO (buildV c.P t (ps.toList.map fun p => (p.1, (evalE env p.2).cells)))) (getO' (buildV c.P t (ps.toList.map fun p => (p.1, (evalE env p.2).cells)))) [] h K := opW_pureO (nc trivial) rfl (pure_build _ _ _)
theorem opW_nilCheck (x : Operand) : opW c Ok (.nilCheck x) env h K = optP (okO (nilCheckV (evalE env x))) (getO' (nilCheckV (evalE env x))) [] h K := opW_pureO (nc trivial) rfl (pure_nilCheck _)
theorem opW_makeInterface (t : TypeId) (x : Operand) : opW c Ok (.makeInterface t x) env h K = optP (okO (makeInterfaceV c.P t (evalE env x))) (getO' (makeInterfaceV c.P t (evalE env x))) [] h K := opW_pureO (nc trivial) rfl (pure_makeInterface _ _ _)
theorem opW_makeFunc (f : FuncId) (a b : Array Operand) : opW c Ok (.makeFunc (.func f) a b) env h K = K (.func f (a.toList.map (evalE env)) (b.toList.map (evalE env))) h (.lg []) := opW_ret (nc trivial) rfl
variable {p : Prop}
theorem gOp_field (t : TypeId) (x : Operand) (f : Nat) : gOp c Ok p (.field t x f) env h K = (imp p (okO (fieldV c.P t (evalE env x) f)) ∧ K (gv p (getO' (fieldV c.P t (evalE env x) f))) h (.lg [])) := by rw [gOp_pure fun K => opW_field (K := K) t x f, glog_nil]
theorem gOp_fieldAddr (t : TypeId) (x : Operand) (f : Nat) : gOp c Ok p (.fieldAddr t x f) env h K = (imp p (okO (fieldAddrV c.P t (evalE env x) f)) ∧ K (gv p (getO' (fieldAddrV c.P t (evalE env x) f))) h (.lg [])) := by rw [gOp_pure fun K => opW_fieldAddr (K := K) t x f, glog_nil]
theorem gOp_indexAddr (t : TypeId) (x i : Operand) : gOp c Ok p (.indexAddr t x i) env h K = (imp p (okO (indexAddrV c.P t (evalE env x) (evalE env i))) ∧ K (gv p (getO' (indexAddrV c.P t (evalE env x) (evalE env i)))) h (.lg [])) := by rw [gOp_pure fun K => opW_indexAddr (K := K) t x i, glog_nil]
theorem gOp_build (t : TypeId) (ps : Array (Nat × Operand)) : gOp c Ok p (.build t ps) env h K = (imp p (okO (buildV c.P t (ps.toList.map fun p => (p.1, (evalE env p.2).cells)))) ∧ K (gv p (getO' (buildV c.P t (ps.toList.map fun p => (p.1, (evalE env p.2).cells))))) h (.lg [])) := by rw [gOp_pure fun K => opW_build (K := K) t ps, glog_nil]
theorem gOp_nilCheck (x : Operand) : gOp c Ok p (.nilCheck x) env h K = (imp p (okO (nilCheckV (evalE env x))) ∧ K (gv p (getO' (nilCheckV (evalE env x)))) h (.lg [])) := by rw [gOp_pure fun K => opW_nilCheck (K := K) x, glog_nil]
end

theorem opW_mono {c : Cfg} {Ok : Nat → Prop} {o : Op} {env : Env} {h : H} {K1 K2 : V → H → Fp → Prop} (hk : ∀ v h' fp, K1 v h' fp → K2 v h' fp) (hw : opW c Ok o env h K1) : opW c Ok o env h K2 := by
  by_cases hv : ∃ k f, o = .call k ∧ k.callee = .value f
  · obtain ⟨k, f, rfl, hk'⟩ := hv
    unfold opW at hw ⊢
    simp only [hk'] at hw ⊢
    cases hf : evalE env f <;> rw [hf] at hw <;> simp only at hw ⊢
    obtain ⟨Ok', hsub, hc | ⟨B, hB, hsl, hc0, hc⟩⟩ := hw
    · exact ⟨Ok', hsub, .inl (callW_mono hc (fun _ h => h) fun v h' hq => hk _ _ _ hq)⟩
    · exact ⟨Ok', hsub, .inr ⟨B, hB, hsl, hc0, callW_mono hc (fun _ h => h) fun v h' hq => hk _ _ _ hq⟩⟩
  · have hn : ∀ k, o = .call k → ∀ f, k.callee ≠ .value f := fun k e f e' => hv ⟨k, f, e, e'⟩
    rw [opW_plain hn] at hw ⊢
    cases he : opM c.P c.gl noCall (evalE env) o h.st with
    | fail w => rw [he] at hw; exact hw
    | ok v s => rw [he] at hw; exact ⟨hw.1, hk _ _ _ hw.2⟩

theorem stepW_mono {c : Cfg} {Ok : Nat → Prop} {A : Array Oper} {o : Oper} {env : Env} {h : H} {K1 K2 : Env → H → Fp → Prop} (hk : ∀ e h' fp, K1 e h' fp → K2 e h' fp) (hw : stepW c Ok A o env h K1) : stepW c Ok A o env h K2 := by
  obtain ⟨b, h1, h2, h3⟩ := hw
  exact ⟨b, h1, fun e => hk _ _ _ (h2 e), fun e => opW_mono (fun v h' fp q => hk _ _ _ q) (h3 e)⟩

theorem wpOps_mono {c : Cfg} {Ok : Nat → Prop} {A : Array Oper} : ∀ {l : List Oper} {env : Env} {h : H} {K1 K2 : Env → H → Prop}, (∀ e h', K1 e h' → K2 e h') → wpOps c Ok A l env h K1 → wpOps c Ok A l env h K2
  | [], env, h, K1, K2, hk, hw => hk _ _ hw
  | o :: l, env, h, K1, K2, hk, hw => stepW_mono (fun e h' fp q => wpOps_mono hk q) hw

theorem wpOpsL_mono {c : Cfg} {Ok : Nat → Prop} {A : Array Oper} : ∀ {l : List Oper} {acc : List Fp} {env : Env} {h : H} {K1 K2 : List Fp → Env → H → Prop}, (∀ f e h', K1 f e h' → K2 f e h') → wpOpsL c Ok A l acc env h K1 → wpOpsL c Ok A l acc env h K2
  | [], acc, env, h, K1, K2, hk, hw => hk _ _ _ hw
  | o :: l, acc, env, h, K1, K2, hk, hw => stepW_mono (fun e h' fp q => wpOpsL_mono hk q) hw

theorem wpC_mono {c : Cfg} {Ok : Nat → Prop} : ∀ (x : Code) (env : Env) (h : H) (Q1 Q2 : Ex → Env → H → Prop), (∀ ex e h', Q1 ex e h' → Q2 ex e h') → wpC c Ok x env h Q1 → wpC c Ok x env h Q2
  | .skip, env, h, Q1, Q2, hq, hw => hq _ _ _ hw
  | .label _, env, h, Q1, Q2, hq, hw => hq _ _ _ hw
  | .exit _, env, h, Q1, Q2, hq, hw => hq _ _ _ hw
  | .ret, env, h, Q1, Q2, hq, hw => hq _ _ _ hw
  | .region _ A true, env, h, Q1, Q2, hq, hw => by
    obtain ⟨pairs, hd, hw⟩ : wpDraw c Ok A env h fun env' h' => Q1 .normal env' h' := hw
    exact ⟨pairs, hd, wpOpsL_mono (fun f e h' q => ⟨q.1, hq _ _ _ q.2⟩) hw⟩
  | .region _ A false, env, h, Q1, Q2, hq, hw => wpOps_mono (K1 := fun env' h' => Q1 .normal env' h') (fun e h' q => hq _ _ _ q) hw
  | .seq a b, env, h, Q1, Q2, hq, hw => by
    refine wpC_mono a env h _ _ (fun ex e h' q => ?_) (show wpC c Ok a env h _ from hw)
    cases ex with
    | normal => exact wpC_mono b e h' Q1 Q2 hq q
    | exit i => exact hq _ _ _ q
    | ret => exact hq _ _ _ q
    | goto l => exact hq _ _ _ q
  | .cond x a b, env, h, Q1, Q2, hq, hw => by
    obtain ⟨t, ht, ha, hb⟩ := hw
    exact ⟨t, ht, fun e => wpC_mono a env h Q1 Q2 hq (ha e), fun e => wpC_mono b env h Q1 Q2 hq (hb e)⟩
  | .block id a, env, h, Q1, Q2, hq, hw => by
    refine wpC_mono a env h _ _ (fun ex e h' q => ?_) (show wpC c Ok a env h _ from hw)
    cases ex with
    | normal => exact hq _ _ _ q
    | exit i => exact hq _ _ _ q
    | ret => exact hq _ _ _ q
    | goto l => exact hq _ _ _ q
  | .loop a, env, h, Q1, Q2, hq, hw => by
    obtain ⟨I, hI, hs⟩ := hw
    refine ⟨I, hI, fun m env1 h1 hi => wpC_mono a env1 h1 _ _ (fun ex e h' q => ?_) (hs m env1 h1 hi)⟩
    cases ex with
    | normal => exact q
    | exit i => exact hq _ _ _ q
    | ret => exact hq _ _ _ q
    | goto l => exact hq _ _ _ q
  | .rangeFunc .., _, _, _, _, _, hw => hw.elim
  | .scope a, env, h, Q1, Q2, hq, hw => by
    refine wpC_mono a env h _ _ (fun ex e h' q => ?_) (show wpC c Ok a env h _ from hw)
    cases ex with
    | normal => exact hq _ _ _ q
    | exit i => exact hq _ _ _ q
    | ret => exact hq _ _ _ q
    | goto l => exact q.elim
  | .goto _, _, _, _, _, _, hw => hw.elim
  | .refuse _, _, _, _, _, _, hw => hw.elim
theorem run_cut {c : Cfg} {Ok : Nat → Prop} {k : List Kt} {Q : Ex → Env → H → Prop} {env : Env} {h : H} {a b : Code} (R : Env → H → Prop) (h1 : run c Ok (.lp R :: k) a env h Q) (h2 : ∀ env' h', R env' h' → run c Ok k b env' h' Q) : run c Ok (.seq b :: k) a env h Q := by
  unfold run at *
  have mono : ∀ (x : Code) (env : Env) (h : H) (Q1 Q2 : Ex → Env → H → Prop), (∀ ex e h, Q1 ex e h → Q2 ex e h) → wpC c Ok x env h Q1 → wpC c Ok x env h Q2 := wpC_mono
  refine mono a env h _ _ (fun ex e h' hk => ?_) h1
  cases ex with
  | normal => exact h2 e h' hk
  | exit i => exact hk
  | ret => exact hk
  | goto l => exact hk

end
end Go.Wx

/-
  Operations on the heap, calls, texts, slices, and operators, in a form that rewriting works out.
-/
set_option linter.unusedSimpArgs false
set_option linter.unusedVariables false
namespace Go.Wx
open Go.Lx
noncomputable section

def H.get (h : H) (k : Nat) : Option Ob := h.heap.get k
def H.push (h : H) (o : Ob) : H := ⟨h.heap.set h.nx (some o), h.nx + 1⟩
def H.put (h : H) (k : Nat) (o : Ob) : H := ⟨h.heap.set k (some o), h.nx⟩
def H.del (h : H) (k : Nat) : H := ⟨h.heap.set k none, h.nx⟩
theorem push_nx (h : H) (o : Ob) : (h.push o).nx = h.nx + 1 := rfl
theorem put_nx (h : H) (k : Nat) (o : Ob) : (h.put k o).nx = h.nx := rfl
theorem del_nx (h : H) (k : Nat) : (h.del k).nx = h.nx := rfl
theorem push_get (h : H) (o : Ob) (k : Nat) : (h.push o).get k = if k = h.nx then some o else h.get k := T.get_set _ _ _ _
theorem put_get (h : H) (j : Nat) (o : Ob) (k : Nat) : (h.put j o).get k = if k = j then some o else h.get k := T.get_set _ _ _ _
theorem del_get (h : H) (j : Nat) (k : Nat) : (h.del j).get k = if k = j then none else h.get k := T.get_set _ _ _ _
theorem push_get_lt {h : H} {o : Ob} {k : Nat} (hk : k < h.nx) : (h.push o).get k = h.get k := by rw [push_get, if_neg (by omega)]
theorem heap_get (h : H) (k : Nat) : h.heap.get k = h.get k := rfl
def Ext (h h' : H) : Prop := h.nx ≤ h'.nx ∧ ∀ k, k < h.nx → h'.get k = h.get k
theorem Ext.refl (h : H) : Ext h h := ⟨Nat.le_refl _, fun _ _ => rfl⟩
theorem Ext.trans {a b c : H} (x : Ext a b) (y : Ext b c) : Ext a c := ⟨Nat.le_trans x.1 y.1, fun k hk => by rw [y.2 k (Nat.lt_of_lt_of_le hk x.1), x.2 k hk]⟩
theorem Ext.push {a b : H} (x : Ext a b) (o : Ob) : Ext a (b.push o) := ⟨Nat.le_succ_of_le x.1, fun k hk => by rw [push_get_lt (Nat.lt_of_lt_of_le hk x.1), x.2 k hk]⟩
theorem Ext.put {a b : H} (x : Ext a b) {k : Nat} (hk : a.nx ≤ k) (o : Ob) : Ext a (b.put k o) := ⟨x.1, fun j hj => by rw [put_get, if_neg (by omega), x.2 j hj]⟩
theorem Ext.del {a b : H} (x : Ext a b) {k : Nat} (hk : a.nx ≤ k) : Ext a (b.del k) := ⟨x.1, fun j hj => by rw [del_get, if_neg (by omega), x.2 j hj]⟩
def fresh (n : Nat) (Ok : Nat → Prop) : Nat → Prop := fun k => n ≤ k ∨ Ok k
theorem fresh_def (n : Nat) (Ok : Nat → Prop) (k : Nat) : fresh n Ok k = (n ≤ k ∨ Ok k) := rfl
def nil1 : Nat → Prop := fun _ => False
theorem nil1_def (k : Nat) : nil1 k = False := rfl

section
variable {c : Cfg} {Ok : Nat → Prop} {env : Env} {h : H} {K : V → H → Fp → Prop}

theorem opW_did {o : Op} {v : V} {h' : H} {lg : List LE} {W : Prop} (hn : ∀ k, o = .call k → ∀ f, k.callee ≠ .value f) (e : opM c.P c.gl noCall (evalE env) o h.st = .ok v ⟨h'.heap, h'.nx, lg⟩) (hl : LogOk Ok h.nx lg ↔ W) : opW c Ok o env h K = (W ∧ K v h' (.lg lg)) := by
  rw [opW_plain hn, e]
  exact propext ⟨fun a => ⟨hl.1 a.1, a.2⟩, fun a => ⟨hl.2 a.1, a.2⟩⟩

theorem LogOk_new {lg : List LE} (hl : ∀ e ∈ lg, e.isW = true → blkOf e = h.nx) : LogOk Ok h.nx lg ↔ True := ⟨fun _ => trivial, fun _ e he hw => .inl (by rw [hl e he hw]; exact Nat.le_refl _)⟩
theorem LogOk_reads {lg : List LE} (hl : ∀ e ∈ lg, e.isW = false) : LogOk Ok h.nx lg ↔ True := ⟨fun _ => trivial, fun _ => LogOk_rd hl⟩

def zeroL (P : Program) (e : TypeId) : Option (List V) := (zeroT P e).map V.cells
def alW (z : Option (List V)) (e : TypeId) (h : H) (K : V → H → Fp → Prop) : Prop := match z with
  | some cs => K (.ptr h.nx 0) (h.push (.cells cs e false)) (.lg [.wrd h.nx])
  | none => False
theorem alW_some (cs : List V) (e : TypeId) : alW (some cs) e h K = K (.ptr h.nx 0) (h.push (.cells cs e false)) (.lg [.wrd h.nx]) := rfl
theorem opW_alloc (e : TypeId) : opW c Ok (.alloc e) env h K = alW (zeroL c.P e) e h K := by
  unfold zeroL
  cases hz : zeroT c.P e with
  | none =>
    rw [opW_fail (w := "alloc") (nc trivial) (by show opAlloc _ _ _ = _; unfold opAlloc; rw [hz]; rfl)]
    rfl
  | some z =>
    rw [opW_did (v := .ptr h.nx 0) (h' := h.push (.cells z.cells e false)) (lg := [.wrd h.nx]) (W := True) (nc trivial) (by show opAlloc _ _ _ = _; unfold opAlloc; rw [hz]; rfl) (LogOk_new fun e he _ => by simp at he; subst he; rfl)]
    simp [alW]
theorem opW_box (e : TypeId) (x : Operand) : opW c Ok (.box e x) env h K = K (.ptr h.nx 0) (h.push (.cells (evalE env x).cells e false)) (.lg [.wrd h.nx]) := by
  rw [opW_did (v := .ptr h.nx 0) (h' := h.push (.cells (evalE env x).cells e false)) (lg := [.wrd h.nx]) (W := True) (nc trivial) rfl (LogOk_new fun e he _ => by simp at he; subst he; rfl)]
  simp
def buildSliceL (P : Program) (t : TypeId) (len : Nat) (parts : List (Nat × List V)) : Option (List V × TypeId) :=
  match P.underlying t with
  | some (.slice e) => match szT P e, zeroT P e with
    | some n, some z => bif Nat.ble (len * n) 16777216 && Nat.beq z.cells.length n then
        match fillV (parts.map fun p => (p.1 * n, n, p.2)) (rep z.cells len) with
        | some cs => some (cs, e)
        | none => none
      else none
    | _, _ => none
  | _ => none
def bsW (r : Option (List V × TypeId)) (len : Nat) (h : H) (K : V → H → Fp → Prop) : Prop := match r with
  | some (cs, e) => K (.slice h.nx 0 len len) (h.push (.cells cs e false)) (.lg [.wrd h.nx])
  | none => False
theorem bsW_some (cs : List V) (e : TypeId) (len : Nat) : bsW (some (cs, e)) len h K = K (.slice h.nx 0 len len) (h.push (.cells cs e false)) (.lg [.wrd h.nx]) := rfl
theorem opW_buildSlice (t : TypeId) (len : Nat) (parts : Array (Nat × Operand)) : opW c Ok (.buildSlice t len parts) env h K = bsW (buildSliceL c.P t len (parts.toList.map fun p => (p.1, (evalE env p.2).cells))) len h K := by
  generalize hps : (parts.toList.map fun p => (p.1, (evalE env p.2).cells)) = ps
  have e0 : opM c.P c.gl noCall (evalE env) (.buildSlice t len parts) h.st = (match buildSliceL c.P t len ps with
      | some (cs, e) => .ok (.slice h.nx 0 len len) ⟨(h.push (.cells cs e false)).heap, (h.push (.cells cs e false)).nx, [.wrd h.nx]⟩
      | none => .fail (match buildSliceM c.P t len ps h.st with
        | .fail w => w
        | _ => "")) := by
    show buildSliceM c.P t len (parts.toList.map fun p => (p.1, (evalE env p.2).cells)) h.st = _
    rw [hps]
    unfold buildSliceL buildSliceM
    cases hu : c.P.underlying t with
    | none => rfl
    | some d =>
      cases d <;> try rfl
      rename_i e
      simp only
      cases hn : szT c.P e with
      | none => rfl
      | some n =>
        cases hz : zeroT c.P e with
        | none => rfl
        | some z =>
          simp only
          cases hb : (Nat.ble (len * n) 16777216 && Nat.beq z.cells.length n) with
          | false => rfl
          | true =>
            simp only [cond_true]
            cases hf : fillV (List.map (fun p => (p.1 * n, n, p.2)) ps) (rep z.cells len) with
            | none => rfl
            | some cs => rfl
  cases hr : buildSliceL c.P t len ps with
  | none =>
    rw [hr] at e0
    rw [opW_fail (nc trivial) e0]
    rfl
  | some r =>
    obtain ⟨cs, e⟩ := r
    rw [hr] at e0
    rw [opW_did (W := True) (nc trivial) e0 (LogOk_new fun e he _ => by simp at he; subst he; rfl)]
    simp [bsW]

def rdNn (r : Option (Nat × Bool)) : Nat := match r with
  | some (n, true) => n
  | _ => 1
theorem loadVar_rdN {P : Program} {t : TypeId} {k o : Nat} {s : St} : loadVarM P t k o s = (match rdV (tyR P t) (s.heap.get k) o with
    | some v => .ok v { s with log := .rd k o (rdNn (tyR P t)) :: s.log }
    | none => .fail (match loadVarM P t k o s with
      | .fail w => w
      | _ => "")) := by
  unfold tyR loadVarM
  cases hd : P.underlying t with
  | none => rfl
  | some d =>
    cases hz : szT P t with
    | none => rfl
    | some n =>
      simp only
      cases ha : isAggD d with
      | true =>
        simp only [rdV, rdNn, cond_true]
        cases hc : rdC (s.heap.get k) o n with
        | some cs => rw [bnd_eq (ld_rdC hc)]; rfl
        | none =>
          have : ∃ w, Lx.ld k o n s = .fail w := by
            unfold rdC at hc
            unfold Lx.ld
            cases hg : s.heap.get k with
            | none => exact ⟨_, rfl⟩
            | some ob =>
              rw [hg] at hc
              cases ob with
              | cells c e p =>
                simp only at hc ⊢
                cases hb : Nat.ble (o + n) c.length with
                | false => simp
                | true => rw [hb] at hc; cases hc
              | ro c =>
                simp only at hc ⊢
                cases hb : Nat.ble (o + n) c.length with
                | false => simp
                | true => rw [hb] at hc; cases hc
              | map es clock => exact ⟨_, rfl⟩
              | siter s pos => exact ⟨_, rfl⟩
              | miter m since seen last => exact ⟨_, rfl⟩
          obtain ⟨w, e⟩ := this
          unfold Lx.bnd
          rw [e]
          rfl
      | false =>
        simp only [rdV, rdNn, cond_false]
        cases hc : rdC (s.heap.get k) o 1 with
        | some cs =>
          rw [bnd_eq (ld_rdC hc)]
          cases cs with
          | nil => rfl
          | cons x l =>
            cases l with
            | nil => rfl
            | cons y l => rfl
        | none =>
          have : ∃ w, Lx.ld k o 1 s = .fail w := by
            unfold rdC at hc
            unfold Lx.ld
            cases hg : s.heap.get k with
            | none => exact ⟨_, rfl⟩
            | some ob =>
              rw [hg] at hc
              cases ob with
              | cells c e p =>
                simp only at hc ⊢
                cases hb : Nat.ble (o + 1) c.length with
                | false => simp
                | true => rw [hb] at hc; cases hc
              | ro c =>
                simp only at hc ⊢
                cases hb : Nat.ble (o + 1) c.length with
                | false => simp
                | true => rw [hb] at hc; cases hc
              | map es clock => exact ⟨_, rfl⟩
              | siter s pos => exact ⟨_, rfl⟩
              | miter m since seen last => exact ⟨_, rfl⟩
          obtain ⟨w, e⟩ := this
          unfold Lx.bnd
          rw [e]
          rfl
def constV' (c : Cfg) (t : TypeId) (g o : Nat) : Option V := pureO (constM c.P c.gl t g o)
theorem pure_const (P : Program) (gl : T (List V)) (t : TypeId) (g o : Nat) : Pure1 (constM P gl t g o) := by
  unfold constM
  repeat' (first | exact Pure1.ret _ | exact Pure1.err _ | refine Pure1.cond ?_ ?_ | split)
def ldV (c : Cfg) (t : TypeId) (a : V) (h : H) : Option V := match a with
  | .ptr k o => rdV (tyR c.P t) (h.get k) o
  | .gptr g o => constV' c t g o
  | _ => none
def ldL (r : Option (Nat × Bool)) (a : V) : List LE := match a with
  | .ptr k o => [.rd k o (rdNn r)]
  | _ => []
theorem ldV_ptr (t : TypeId) (k o : Nat) : ldV c t (.ptr k o) h = rdV (tyR c.P t) (h.get k) o := rfl
theorem ldV_gptr (t : TypeId) (g o : Nat) : ldV c t (.gptr g o) h = constV' c t g o := rfl
theorem opW_load (t : TypeId) (a : Operand) : opW c Ok (.load t a) env h K = optP (okO (ldV c t (evalE env a) h)) (getO' (ldV c t (evalE env a) h)) (ldL (tyR c.P t) (evalE env a)) h K := by
  have e0 : opM c.P c.gl noCall (evalE env) (.load t a) = opLoad c.P c.gl t (evalE env a) := rfl
  cases hv : evalE env a <;> simp only [ldV, ldL] <;> try (rw [opW_fail (w := "load") (nc trivial) (by rw [e0, hv]; rfl)]; simp [optP, okO]; done)
  case ptr k o =>
    have e1 : opM c.P c.gl noCall (evalE env) (.load t a) h.st = loadVarM c.P t k o h.st := by rw [e0, hv]; rfl
    rw [loadVar_rdN] at e1
    change _ = (match rdV (tyR c.P t) (h.get k) o with
      | some v => _
      | none => _) at e1
    cases hr : rdV (tyR c.P t) (h.get k) o with
    | none =>
      rw [hr] at e1
      rw [opW_fail (nc trivial) e1]
      simp [optP, okO]
    | some v =>
      rw [hr] at e1
      rw [opW_did (h' := h) (W := True) (nc trivial) e1 (LogOk_reads fun e he => by simp [H.st] at he; subst he; rfl)]
      simp [optP, okO, getO', H.st]
  case gptr g o =>
    exact opW_pureO (nc trivial) (by rw [e0, hv]; rfl) (pure_const _ _ _ _ _)
theorem gOp_load {p : Prop} (t : TypeId) (a : Operand) : gOp c Ok p (.load t a) env h K = (imp p (okO (ldV c t (evalE env a) h)) ∧ K (gv p (getO' (ldV c t (evalE env a) h))) h (.lg (glog p (ldL (tyR c.P t) (evalE env a))))) := by
  rw [gOp_pure fun K => opW_load (K := K) t a]

theorem rdV_one {n o : Nat} {cs : List V} {e : TypeId} {p : Bool} : rdV (some (n, false)) (some (.cells cs e p)) o = cs[o]? := by
  unfold rdV rdC
  by_cases hl : o + 1 ≤ cs.length
  · have hl' : o < cs.length := by omega
    simp only [ble_iff.2 hl, cond_true]
    have : sub cs o 1 = [cs[o]] := by
      unfold sub
      rw [List.drop_eq_getElem_cons hl', List.take_succ_cons, List.take_zero]
    rw [this, List.getElem?_eq_getElem hl']
    rfl
  · have : Nat.ble (o + 1) cs.length = false := by
      cases hb : Nat.ble (o + 1) cs.length with
      | false => rfl
      | true => exact (hl (Nat.le_of_ble_eq_true hb)).elim
    simp only [this, cond_false, oneV]
    rw [List.getElem?_eq_none (by omega)]
theorem rdV_agg {n o : Nat} {cs : List V} {e : TypeId} {p : Bool} : rdV (some (n, true)) (some (.cells cs e p)) o = if o + n ≤ cs.length then some (.agg ((cs.drop o).take n)) else none := by
  unfold rdV rdC
  by_cases hl : o + n ≤ cs.length
  · simp only [ble_iff.2 hl, cond_true, if_pos hl]
    rfl
  · have : Nat.ble (o + n) cs.length = false := by
      cases hb : Nat.ble (o + n) cs.length with
      | false => rfl
      | true => exact (hl (Nat.le_of_ble_eq_true hb)).elim
    simp only [this, cond_false, if_neg hl]
    rfl

theorem rdV_one_ro {n o : Nat} {cs : List V} : rdV (some (n, false)) (some (.ro cs)) o = cs[o]? := rdV_one (n := n) (e := 0) (p := false)
theorem rdV_agg_ro {n o : Nat} {cs : List V} : rdV (some (n, true)) (some (.ro cs)) o = if o + n ≤ cs.length then some (.agg ((cs.drop o).take n)) else none := rdV_agg (e := 0) (p := false)

def stB (Ok : Nat → Prop) (ob : Option Ob) (k o : Nat) (vs : List V) (h : H) (K : V → H → Fp → Prop) : Prop := match ob with
  | some (.cells cs e p) => (o + vs.length ≤ cs.length ∧ vs.all V.isCell = true ∧ (h.nx ≤ k ∨ Ok k)) ∧ K undefV (h.put k (.cells (listPut cs o vs) e p)) (.lg [.wr k o vs.length])
  | _ => False
def stW (Ok : Nat → Prop) (n : Option Nat) (a x : V) (h : H) (K : V → H → Fp → Prop) : Prop := match n, a with
  | some n, .ptr k o => x.cells.length = n ∧ stB Ok (h.get k) k o x.cells h K
  | _, _ => False
theorem stB_cells {cs : List V} {e : TypeId} {p : Bool} {k o : Nat} {vs : List V} : stB Ok (some (.cells cs e p)) k o vs h K = ((o + vs.length ≤ cs.length ∧ vs.all V.isCell = true ∧ (h.nx ≤ k ∨ Ok k)) ∧ K undefV (h.put k (.cells (listPut cs o vs) e p)) (.lg [.wr k o vs.length])) := rfl
theorem stW_ptr {n k o : Nat} {x : V} : stW Ok (some n) (.ptr k o) x h K = (x.cells.length = n ∧ stB Ok (h.get k) k o x.cells h K) := rfl
theorem opW_store (t : TypeId) (a x : Operand) : opW c Ok (.store t a x) env h K = stW Ok (szT c.P t) (evalE env a) (evalE env x) h K := by
  have e0 : opM c.P c.gl noCall (evalE env) (.store t a x) = opStore c.P t (evalE env a) (evalE env x) := rfl
  generalize evalE env x = v at *
  cases hv : evalE env a <;> rw [hv] at e0 <;> try (rw [opW_fail (w := "store") (nc trivial) (by rw [e0]; rfl)]; unfold stW; cases szT c.P t <;> rfl)
  rename_i k o
  have e1 : opM c.P c.gl noCall (evalE env) (.store t a x) h.st = storeVarM c.P t k o v h.st := by rw [e0]; rfl
  unfold storeVarM at e1
  cases hz : szT c.P t with
  | none =>
    rw [hz] at e1
    rw [opW_fail (nc trivial) e1]
    rfl
  | some n =>
    rw [hz] at e1
    simp only at e1
    rw [stW_ptr]
    by_cases hl : v.cells.length = n
    · rw [show Nat.beq v.cells.length n = true by rw [hl]; exact Nat.beq_refl n, cond_true] at e1
      simp only [hl, true_and]
      have fail : (∃ w, Lx.stc k o v.cells h.st = .fail w) → opW c Ok (.store t a x) env h K = False := by
        rintro ⟨w, e⟩
        refine opW_fail (w := w) (nc trivial) ?_
        rw [e1]
        unfold Lx.bnd
        rw [e]
      cases hg : h.get k with
      | none =>
        have hg' : h.heap.get k = none := hg
        rw [fail ⟨_, by unfold Lx.stc; simp only [H.st, hg']; rfl⟩]
        rfl
      | some ob =>
        have hg' : h.heap.get k = some ob := hg
        cases ob with
        | cells cs e p =>
          by_cases hb : (Nat.ble (o + v.cells.length) cs.length && v.cells.all V.isCell) = true
          · have e2 : Lx.stc k o v.cells h.st = .ok () ⟨(h.put k (.cells (listPut cs o v.cells) e p)).heap, h.nx, [.wr k o v.cells.length]⟩ := by
              unfold Lx.stc
              simp only [H.st, hg', hb, cond_true]
              rfl
            rw [bnd_eq e2] at e1
            have hb' := hb
            simp only [Bool.and_eq_true] at hb'
            rw [opW_did (h' := h.put k (.cells (listPut cs o v.cells) e p)) (W := h.nx ≤ k ∨ Ok k) (nc trivial) e1 ⟨fun q => q (.wr k o v.cells.length) (by simp) rfl, fun q e he _ => by simp at he; subst he; exact q⟩, stB_cells]
            refine propext ⟨fun q => ⟨⟨Nat.le_of_ble_eq_true hb'.1, hb'.2, q.1⟩, q.2⟩, fun q => ⟨q.1.2.2, q.2⟩⟩
          · rw [fail ⟨_, by unfold Lx.stc; simp only [H.st, hg', Bool.eq_false_iff.2 hb, cond_false]; rfl⟩, stB_cells]
            refine propext ⟨fun q => q.elim, fun q => hb ?_⟩
            simp only [Bool.and_eq_true]
            exact ⟨ble_iff.2 q.1.1, q.1.2.1⟩
        | map es ck => rw [fail ⟨_, by unfold Lx.stc; simp only [H.st, hg']; rfl⟩]; rfl
        | siter s q => rw [fail ⟨_, by unfold Lx.stc; simp only [H.st, hg']; rfl⟩]; rfl
        | ro cs => rw [fail ⟨_, by unfold Lx.stc; simp only [H.st, hg']; rfl⟩]; rfl
        | miter m a b d => rw [fail ⟨_, by unfold Lx.stc; simp only [H.st, hg']; rfl⟩]; rfl
    · have hl' : Nat.beq v.cells.length n = false := by
        cases hb : Nat.beq v.cells.length n with
        | false => rfl
        | true => exact (hl (Nat.eq_of_beq_eq_true hb)).elim
      rw [hl', cond_false] at e1
      rw [opW_fail (nc trivial) e1]
      simp [hl]

def callF (c : Cfg) (Ok : Nat → Prop) (g : FuncId) (args : List V) (h : H) (K : V → H → Fp → Prop) : Prop := ∃ Ok' : Nat → Prop, (∀ k, Ok' k → Ok k) ∧ (callW c Ok' g args h (fun v h' => K v h' (.cl h.nx h'.nx Ok')) ∨ ∃ B, B < h.nx ∧ SumLocal c ∧ callW c Ok' g args ⟨h.heap.set B none, h.nx⟩ (fun _ _ => True) ∧ callW c Ok' g args h fun v h' => K v h' (.ch h.nx h'.nx Ok' B))
def callK (c : Cfg) (Ok : Nat → Prop) (f : V) (args : List V) (h : H) (K : V → H → Fp → Prop) : Prop := match f with
  | .func g first cap => callF c Ok g (first ++ args ++ cap) h K
  | _ => False
theorem opW_call (f : Operand) (args : Array Operand) (ts : Array TypeId) : opW c Ok (.call ⟨.value f, args, ts⟩) env h K = callK c Ok (evalE env f) (args.toList.map (evalE env)) h K := by
  unfold opW callK callF
  simp only <;> (cases evalE env f <;> rfl)
theorem callK_func (g : FuncId) (first cap args : List V) : callK c Ok (.func g first cap) args h K = callF c Ok g (first ++ args ++ cap) h K := rfl
def Exact (c : Cfg) (g : FuncId) (args : List V) (h : H) (v : V) : Prop := callW c nil1 g args h fun v' h' => v' = v ∧ h' = h
def Pure (c : Cfg) (g : FuncId) (args : List V) (h : H) (R : V → H → Prop) : Prop := callW c nil1 g args h fun v' h' => Ext h h' ∧ R v' h'
theorem callF_exact {g : FuncId} {args : List V} {v : V} (hs : Exact c g args h v) (hK : K v h (.cl h.nx h.nx nil1)) : callF c Ok g args h K :=
  ⟨nil1, fun _ h => h.elim, .inl (callW_mono hs (fun _ h => h) fun v' h' ⟨e1, e2⟩ => by subst e1; subst e2; exact hK)⟩
theorem callF_pure {g : FuncId} {args : List V} {R : V → H → Prop} (hs : Pure c g args h R) (hK : ∀ v h', Ext h h' → R v h' → K v h' (.cl h.nx h'.nx nil1)) : callF c Ok g args h K :=
  ⟨nil1, fun _ h => h.elim, .inl (callW_mono hs (fun _ h => h) fun v' h' ⟨e1, e2⟩ => hK v' h' e1 e2)⟩
theorem callF_hid {g : FuncId} {args : List V} {R R' : V → H → Prop} (B : Nat) (hB : B < h.nx) (hl : SumLocal c) (h0 : Pure c g args ⟨h.heap.set B none, h.nx⟩ R') (hs : Pure c g args h R) (hK : ∀ v h', Ext h h' → R v h' → K v h' (.ch h.nx h'.nx nil1 B)) : callF c Ok g args h K :=
  ⟨nil1, fun _ h => h.elim, .inr ⟨B, hB, hl, callW_mono h0 (fun _ h => h) fun _ _ _ => trivial, callW_mono hs (fun _ h => h) fun v' h' ⟨e1, e2⟩ => hK v' h' e1 e2⟩⟩
theorem callF_of {g : FuncId} {args : List V} {Ok' : Nat → Prop} {R : V → H → Prop} (hs : callW c Ok' g args h R) (ho : ∀ k, Ok' k → Ok k) (hK : ∀ v h', R v h' → K v h' (.cl h.nx h'.nx Ok')) : callF c Ok g args h K :=
  ⟨Ok', ho, .inl (callW_mono hs (fun _ h => h) hK)⟩
theorem Exact.pure {g : FuncId} {args : List V} {v : V} (hs : Exact c g args h v) : Pure c g args h fun v' h' => v' = v ∧ h' = h :=
  callW_mono hs (fun _ h => h) fun v' h' e => ⟨by rw [e.2]; exact Ext.refl _, e⟩
def gCall (c : Cfg) (Ok : Nat → Prop) (p : Prop) (f : V) (args : List V) (h : H) (K : V → H → Fp → Prop) : Prop := (p → callK c Ok f args h K) ∧ (¬ p → K undefV h (.lg []))
theorem gCall_congr {p p' : Prop} {f f' : V} {args args' : List V} (hp : p = p') (hf : p' → f = f') (ha : p' → args = args') : gCall c Ok p f args h K = gCall c Ok p' f' args' h K := by
  subst hp
  unfold gCall
  by_cases h : p
  · simp only [h, hf h, ha h]
  · simp [h]
attribute [congr] gCall_congr
theorem opW_callF_guard {p : Prop} (f : Operand) (args : Array Operand) (ts : Array TypeId) : gOp c Ok p (.call ⟨.value f, args, ts⟩) env h K = gCall c Ok p (evalE env f) (args.toList.map (evalE env)) h K := by
  unfold gOp gCall
  rw [opW_call]
theorem gCall_true {f : V} {args : List V} : gCall c Ok True f args h K = callK c Ok f args h K := by simp [gCall]
theorem gCall_false {f : V} {args : List V} : gCall c Ok False f args h K = K undefV h (.lg []) := by simp [gCall]
end
theorem into {c : Cfg} {Ok : Nat → Prop} {f : FuncId} {args : List V} {h : H} {K : V → H → Prop} (fn : Func) (code : Code) (hf : c.P.funcs[f]? = some fn) (hs : c.sum f = none) (hn : (fn.name == "runtime.NumGoroutine") = false) (hb : fn.body = some code)
    (hok : okCode fn.ntmps code = true) (hd : noDefer code = true) (hw : run c (fresh h.nx Ok) [] code (argE args) h (endQ c fn.results.toList K)) : callW c Ok f args h K := by
  obtain ⟨v, h', hr, hK⟩ := callW_intro (Ok := fresh h.nx Ok) hf hs hn hb hok hd hw
  refine ⟨v, h', fun hwf => ?_, hK⟩
  obtain ⟨N, hN⟩ := hr hwf
  refine ⟨N, fun lf hlf n hn l0 => ?_⟩
  obtain ⟨l, h1, h2⟩ := hN lf hlf n hn l0
  refine ⟨l, h1, h2.mono, fun e he hw => ?_, h2.wf⟩
  rcases h2.log e he hw with q | q | q
  · exact .inl q
  · exact .inl q
  · exact .inr q

end
end Go.Wx

/-
  Operators, texts, slices, conversions, ranges over texts, in a form that rewriting works out.
-/
set_option linter.unusedSimpArgs false
set_option linter.unusedVariables false
namespace Go.Wx
open Go.Lx
noncomputable section

theorem eqNats_iff : ∀ {a b : List Nat}, eqNats a b = true ↔ a = b
  | [], [] => by simp [eqNats]
  | [], _ :: _ => by simp [eqNats]
  | _ :: _, [] => by simp [eqNats]
  | x :: a, y :: b => by simp [eqNats, eqNats_iff (a := a) (b := b), Nat.beq_eq]
def iOr (k : IntKind) (a b : Int) : Int := k.wrap ((BitVec.ofInt k.bits a ||| BitVec.ofInt k.bits b).toNat)
def iAnd (k : IntKind) (a b : Int) : Int := k.wrap ((BitVec.ofInt k.bits a &&& BitVec.ofInt k.bits b).toNat)
def iXor (k : IntKind) (a b : Int) : Int := k.wrap ((BitVec.ofInt k.bits a ^^^ BitVec.ofInt k.bits b).toNat)
def iAndNot (k : IntKind) (a b : Int) : Int := k.wrap ((BitVec.ofInt k.bits a &&& ~~~ (BitVec.ofInt k.bits b)).toNat)
def iShl (k : IntKind) (a b : Int) : Int := k.wrap (a * 2 ^ (min b.toNat k.bits))
def iShr (k : IntKind) (a b : Int) : Int := a.fdiv (2 ^ (min b.toNat k.bits))

section
variable {P : Program} {t : TypeId} {c : Bool} {k k' : IntKind} {a b : Int} {x y : List Nat}
theorem bin_add : binV P .add t c (.int k a) (.int k b) = some (.int k (k.wrap (a + b))) := by simp [binV, binInt]
theorem bin_sub : binV P .sub t c (.int k a) (.int k b) = some (.int k (k.wrap (a - b))) := by simp [binV, binInt]
theorem bin_mul : binV P .mul t c (.int k a) (.int k b) = some (.int k (k.wrap (a * b))) := by simp [binV, binInt]
theorem bin_quo : binV P .quo t c (.int k a) (.int k b) = if b = 0 then none else some (.int k (k.wrap (a.tdiv b))) := by simp [binV, binInt]
theorem bin_rem : binV P .rem t c (.int k a) (.int k b) = if b = 0 then none else some (.int k (a.tmod b)) := by simp [binV, binInt]
theorem bin_or : binV P .or t c (.int k a) (.int k b) = some (.int k (iOr k a b)) := by simp [binV, binInt, iOr]
theorem bin_and : binV P .and t c (.int k a) (.int k b) = some (.int k (iAnd k a b)) := by simp [binV, binInt, iAnd]
theorem bin_xor : binV P .xor t c (.int k a) (.int k b) = some (.int k (iXor k a b)) := by simp [binV, binInt, iXor]
theorem bin_andNot : binV P .andNot t c (.int k a) (.int k b) = some (.int k (iAndNot k a b)) := by simp [binV, binInt, iAndNot]
theorem bin_shl : binV P .shl t c (.int k a) (.int k' b) = if b < 0 then none else some (.int k (iShl k a b)) := by simp [binV, iShl]
theorem bin_shr : binV P .shr t c (.int k a) (.int k' b) = if b < 0 then none else some (.int k (iShr k a b)) := by simp [binV, iShr]
theorem bin_eql : binV P .eql t c (.int k a) (.int k b) = some (bo (a = b)) := by
  unfold bo; simp [binV, binInt]; by_cases h : a = b <;> simp [h]
theorem bin_neq : binV P .neq t c (.int k a) (.int k b) = some (bo (¬ a = b)) := by
  unfold bo; simp [binV, binInt]; by_cases h : a = b <;> simp [h]
theorem bin_lss : binV P .lss t c (.int k a) (.int k b) = some (bo (a < b)) := by unfold bo; simp [binV, binInt]
theorem bin_leq : binV P .leq t c (.int k a) (.int k b) = some (bo (a ≤ b)) := by unfold bo; simp [binV, binInt]
theorem bin_gtr : binV P .gtr t c (.int k a) (.int k b) = some (bo (b < a)) := by unfold bo; simp [binV, binInt]
theorem bin_geq : binV P .geq t c (.int k a) (.int k b) = some (bo (b ≤ a)) := by unfold bo; simp [binV, binInt]
theorem str_eql : binV P .eql t c (.str x) (.str y) = some (bo (x = y)) := by
  unfold bo; simp only [binV, binStr, Option.some.injEq, V.bool.injEq]
  by_cases h : x = y
  · simp [h, eqNats_iff.2 (rfl : y = y)]
  · simp only [h, decide_false]
    cases he : eqNats x y with
    | false => rfl
    | true => exact (h (eqNats_iff.1 he)).elim
theorem str_neq : binV P .neq t c (.str x) (.str y) = some (bo (¬ x = y)) := by
  unfold bo; simp only [binV, binStr, Option.some.injEq, V.bool.injEq]
  by_cases h : x = y
  · simp [h, eqNats_iff.2 (rfl : y = y)]
  · simp only [h, not_false_eq_true, decide_true]
    cases he : eqNats x y with
    | false => rfl
    | true => exact (h (eqNats_iff.1 he)).elim
theorem str_lss : binV P .lss t c (.str x) (.str y) = some (bo (ltNats x y = true)) := by unfold bo; simp [binV, binStr]
theorem str_add : binV P .add t c (.str x) (.str y) = if x.length + y.length ≤ 9223372036854775807 then some (.str (x ++ y)) else none := by
  simp only [binV, binStr]
  by_cases h : x.length + y.length ≤ 9223372036854775807
  · simp [h, ble_iff.2 h]
  · simp only [if_neg h]
    have : Nat.ble (x.length + y.length) 9223372036854775807 = false := by
      cases hb : Nat.ble (x.length + y.length) 9223372036854775807 with
      | false => rfl
      | true => exact (h (Nat.le_of_ble_eq_true hb)).elim
    rw [this]; rfl
theorem un_not {p : Prop} : unV .not (bo p) = some (bo (¬ p)) := by
  unfold bo unV; by_cases h : p <;> simp [h]
theorem un_not_bool {b : Bool} : unV .not (.bool b) = some (bo (b = false)) := by
  unfold bo unV; cases b <;> simp
theorem un_neg : unV .neg (.int k a) = some (.int k (k.wrap (0 - a))) := rfl
theorem un_xor : unV .xor (.int k a) = some (.int k (iXor k (if k.signed then -1 else k.max) a)) := by simp [unV, binInt, iXor]
end
theorem cells_int (k : IntKind) (n : Int) : (V.int k n).cells = [.int k n] := rfl
theorem cells_str (s : List Nat) : (V.str s).cells = [.str s] := rfl
theorem cells_bo (p : Prop) : (bo p).cells = [bo p] := rfl
theorem cells_bool (b : Bool) : (V.bool b).cells = [.bool b] := rfl
theorem cells_ptr (b o : Nat) : (V.ptr b o).cells = [.ptr b o] := rfl
theorem cells_gptr (b o : Nat) : (V.gptr b o).cells = [.gptr b o] := rfl
theorem cells_nilptr : V.nilptr.cells = [.nilptr] := rfl
theorem cells_slice (b o l c : Nat) : (V.slice b o l c).cells = [.slice b o l c] := rfl
theorem cells_nilslice : V.nilslice.cells = [.nilslice] := rfl
theorem cells_map (r : Nat) : (V.map r).cells = [.map r] := rfl
theorem cells_nilmap : V.nilmap.cells = [.nilmap] := rfl
theorem cells_func (f : FuncId) (a b : List V) : (V.func f a b).cells = [.func f a b] := rfl
theorem cells_agg (l : List V) : (V.agg l).cells = l := rfl
theorem isCell_int (k : IntKind) (n : Int) : (V.int k n).isCell = true := rfl
theorem isCell_str (s : List Nat) : (V.str s).isCell = true := rfl
theorem isCell_bo (p : Prop) : (bo p).isCell = true := rfl
theorem isCell_bool (b : Bool) : (V.bool b).isCell = true := rfl
theorem isCell_ptr (b o : Nat) : (V.ptr b o).isCell = true := rfl
theorem isCell_gptr (b o : Nat) : (V.gptr b o).isCell = true := rfl
theorem isCell_nilptr : V.nilptr.isCell = true := rfl
theorem isCell_slice (b o l c : Nat) : (V.slice b o l c).isCell = true := rfl
theorem isCell_nilslice : V.nilslice.isCell = true := rfl
theorem isCell_map (r : Nat) : (V.map r).isCell = true := rfl
theorem isCell_nilmap : V.nilmap.isCell = true := rfl
theorem isCell_func (f : FuncId) (a b : List V) : (V.func f a b).isCell = true := rfl
theorem listPut_nil {α : Type} (l : List α) (n : Nat) : listPut l n [] = l := by cases l <;> cases n <;> rfl
theorem listPut_zero {α : Type} (x : α) (l : List α) (v : α) (vs : List α) : listPut (x :: l) 0 (v :: vs) = v :: listPut l 0 vs := rfl
theorem listPut_succ {α : Type} (x : α) (l : List α) (n : Nat) (v : α) (vs : List α) : listPut (x :: l) (n + 1) (v :: vs) = x :: listPut l n (v :: vs) := rfl

section
variable {c : Cfg} {Ok : Nat → Prop} {env : Env} {h : H} {K : V → H → Fp → Prop} {p : Prop}

theorem optP_val {ok : Prop} {v v' : V} {lg : List LE} (e : ok → v = v') : optP ok v lg h K = optP ok v' lg h K := by
  unfold optP
  by_cases ho : ok
  · rw [e ho]
  · simp [ho]
def idxOk (d : Option TypeDesc) (P : Program) (t : TypeId) (x i : V) : Prop := match d, x, i with
  | some .string, .str s, .int _ i => 0 ≤ i ∧ i.toNat < s.length
  | _, _, _ => okO (indexV P t x i)
def idxT (P : Program) (t : TypeId) (x i : V) : V := match x, i with
  | .str s, .int _ i => .int .u8 (s.getD i.toNat 0 : Nat)
  | _, _ => getO' (indexV P t x i)
theorem idxOk_str (P : Program) (t : TypeId) (s : List Nat) (k : IntKind) (i : Int) : idxOk (some .string) P t (.str s) (.int k i) = (0 ≤ i ∧ i.toNat < s.length) := rfl
theorem idxT_str (P : Program) (t : TypeId) (s : List Nat) (k : IntKind) (i : Int) : idxT P t (.str s) (.int k i) = .int .u8 (s.getD i.toNat 0 : Nat) := rfl
theorem index_str (P : Program) (t : TypeId) (hu : P.underlying t = some .string) (s : List Nat) (k : IntKind) (i : Int) : indexV P t (.str s) (.int k i) = if 0 ≤ i ∧ i.toNat < s.length then some (.int .u8 (s.getD i.toNat 0 : Nat)) else none := by
  unfold indexV pureO opIndex
  rw [hu]
  cases i with
  | negSucc n => simp [Lx.err]
  | ofNat n =>
    simp only
    by_cases hn : n < s.length
    · rw [if_pos ⟨by simp, by simpa using hn⟩, List.getElem?_eq_getElem hn]
      simp [Lx.ret, List.getD_eq_getElem?_getD, List.getElem?_eq_getElem hn]
    · rw [if_neg (by simp; omega), List.getElem?_eq_none (by omega)]
      rfl
theorem opW_idx (t : TypeId) (x i : Operand) : opW c Ok (.index t x i) env h K = optP (idxOk (c.P.underlying t) c.P t (evalE env x) (evalE env i)) (idxT c.P t (evalE env x) (evalE env i)) [] h K := by
  rw [opW_index]
  generalize evalE env x = x
  generalize evalE env i = i
  have h1 : okO (indexV c.P t x i) = idxOk (c.P.underlying t) c.P t x i := by
    unfold idxOk
    split
    · rename_i s k n hu
      rw [index_str _ _ hu, okO_ite]
    · rfl
  rw [h1]
  refine optP_val fun hok => ?_
  unfold idxT
  split
  · rename_i s k n
    rw [← h1] at hok
    cases hu : c.P.underlying t with
    | none => unfold indexV pureO opIndex at hok; rw [hu] at hok; simp [okO, Lx.err] at hok
    | some d =>
      cases d <;> try (unfold indexV pureO opIndex at hok; rw [hu] at hok; simp [okO, Lx.err] at hok; done)
      rw [index_str _ _ hu] at hok ⊢
      rw [okO_ite] at hok
      rw [if_pos hok]
      rfl
  · rfl
theorem gOp_idx (t : TypeId) (x i : Operand) : gOp c Ok p (.index t x i) env h K = (imp p (idxOk (c.P.underlying t) c.P t (evalE env x) (evalE env i)) ∧ K (gv p (idxT c.P t (evalE env x) (evalE env i))) h (.lg [])) := by
  rw [gOp_pure fun K => opW_idx (K := K) t x i, glog_nil]

def lenO (d : Option TypeDesc) (x : V) : Option V := match d, x with
  | some .string, .str s => some (.int .i64 s.length)
  | some (.slice _), .nilslice => some (.int .i64 (0 : Nat))
  | some (.slice _), .slice _ _ n _ => some (.int .i64 n)
  | _, _ => none
theorem lenO_str (s : List Nat) : lenO (some .string) (.str s) = some (.int .i64 s.length) := rfl
theorem lenO_nil (e : TypeId) : lenO (some (.slice e)) .nilslice = some (.int .i64 (0 : Nat)) := rfl
theorem lenO_slice (e : TypeId) (b o n m : Nat) : lenO (some (.slice e)) (.slice b o n m) = some (.int .i64 n) := rfl
theorem nb (b : Builtin) (args : Array Operand) (ts : Array TypeId) : ∀ k, Op.call ⟨.builtin b, args, ts⟩ = .call k → ∀ f, k.callee ≠ .value f := by
  intro k e f; cases e; simp
theorem opM_pure {o : Op} {m : M V} {ov : Option V} (hn : ∀ k, o = .call k → ∀ f, k.callee ≠ .value f) (e : opM c.P c.gl noCall (evalE env) o = m) (hm : ∀ s, match ov with
    | some v => m s = .ok v s
    | none => ∃ w, m s = .fail w) : opW c Ok o env h K = optP (okO ov) (getO' ov) [] h K := by
  subst e
  refine opW_opt hn (fun v e => ?_) (fun e => ?_)
  · have := hm h.st; rw [e] at this; exact this
  · have := hm h.st; rw [e] at this; exact this
theorem opW_len (x : Operand) (t : TypeId) (hc : clsL (c.P.underlying t) = 0) : opW c Ok (.call ⟨.builtin .len, #[x], #[t]⟩) env h K = optP (okO (lenO (c.P.underlying t) (evalE env x))) (getO' (lenO (c.P.underlying t) (evalE env x))) [] h K := by
  refine opM_pure (nb _ _ _) (m := lenM c.P t (evalE env x)) rfl fun s => ?_
  unfold lenM lenO
  cases hu : c.P.underlying t with
  | none => exact ⟨_, rfl⟩
  | some d =>
    rw [hu] at hc
    cases d <;> try (cases hc; done)
    all_goals (cases evalE env x <;> first | rfl | exact ⟨_, rfl⟩)
theorem gOp_len (x : Operand) (t : TypeId) (hc : clsL (c.P.underlying t) = 0) : gOp c Ok p (.call ⟨.builtin .len, #[x], #[t]⟩) env h K = (imp p (okO (lenO (c.P.underlying t) (evalE env x))) ∧ K (gv p (getO' (lenO (c.P.underlying t) (evalE env x)))) h (.lg [])) := by
  rw [gOp_pure fun K => opW_len (K := K) x t hc, glog_nil]
def strLo (lo : Option V) : Int := match lo with
  | some (.int _ i) => i
  | _ => 0
def strHi (s : List Nat) (hi : Option V) : Int := match hi with
  | some (.int _ i) => i
  | _ => s.length
def isIntO (o : Option V) : Bool := match o with
  | none => true
  | some (.int _ _) => true
  | _ => false
def slOk (x : V) (lo hi : Option V) : Prop := match x with
  | .str s => isIntO lo = true ∧ isIntO hi = true ∧ 0 ≤ strLo lo ∧ strLo lo ≤ strHi s hi ∧ strHi s hi ≤ s.length
  | _ => False
def slT (x : V) (lo hi : Option V) : V := match x with
  | .str s => .str ((s.take (strHi s hi).toNat).drop (strLo lo).toNat)
  | _ => undefV
theorem slOk_00 (s : List Nat) : slOk (.str s) none none = True := by simp [slOk, isIntO, strLo, strHi]
theorem slOk_10 (s : List Nat) (k : IntKind) (a : Int) : slOk (.str s) (some (.int k a)) none = (0 ≤ a ∧ a ≤ s.length) := by simp [slOk, isIntO, strLo, strHi]
theorem slOk_01 (s : List Nat) (k : IntKind) (b : Int) : slOk (.str s) none (some (.int k b)) = (0 ≤ b ∧ b ≤ s.length) := by simp [slOk, isIntO, strLo, strHi]
theorem slOk_11 (s : List Nat) (k k' : IntKind) (a b : Int) : slOk (.str s) (some (.int k a)) (some (.int k' b)) = (0 ≤ a ∧ a ≤ b ∧ b ≤ s.length) := by simp [slOk, isIntO, strLo, strHi]
theorem slT_00 (s : List Nat) : slT (.str s) none none = .str s := by simp [slT, strLo, strHi]
theorem slT_10 (s : List Nat) (k : IntKind) (a : Int) : slT (.str s) (some (.int k a)) none = .str (s.drop a.toNat) := by simp [slT, strLo, strHi]
theorem slT_01 (s : List Nat) (k : IntKind) (b : Int) : slT (.str s) none (some (.int k b)) = .str (s.take b.toNat) := by simp [slT, strLo, strHi]
theorem slT_11 (s : List Nat) (k k' : IntKind) (a b : Int) : slT (.str s) (some (.int k a)) (some (.int k' b)) = .str ((s.take b.toNat).drop a.toNat) := by simp [slT, strLo, strHi]

theorem inI_iff {i : Int} {n : Nat} : inI i n = true ↔ 0 ≤ i ∧ i ≤ n := by
  unfold inI
  cases i with
  | ofNat m => simp only [Nat.ble_eq]; constructor
               · intro h; exact ⟨by simp, by simpa using h⟩
               · intro h; simpa using h.2
  | negSucc m => simp
theorem sub_eq {s : List Nat} {l h : Nat} (hl : l ≤ h) : sub s l (h - l) = (s.take h).drop l := by
  unfold sub
  rw [List.drop_take]
theorem slice_str {P : Program} {t : TypeId} (hu : P.underlying t = some .string) (s : List Nat) (lo hi : Option V) (st : St) : (slOk (.str s) lo hi → sliceM P t (.str s) lo hi none st = .ok (slT (.str s) lo hi) st) ∧ (¬ slOk (.str s) lo hi → ∃ w, sliceM P t (.str s) lo hi none st = .fail w) := by
  have key : boundsV lo hi none s.length s.length = @ite _ (slOk (.str s) lo hi) (Classical.propDecidable _) (some ((strLo lo).toNat, (strHi s hi).toNat, s.length)) none := by
    have hb : boundO hi s.length s.length = if isIntO hi = true ∧ 0 ≤ strHi s hi ∧ strHi s hi ≤ s.length then some (strHi s hi).toNat else none := by
      cases hi with
      | none => simp [boundO, isIntO, strHi]
      | some v =>
        cases v <;> simp [boundO, isIntO, strHi]
        rename_i k i
        by_cases hi : inI i s.length = true
        · rw [hi, if_pos (inI_iff.1 hi)]; rfl
        · rw [Bool.eq_false_iff.2 hi, if_neg (fun q => hi (inI_iff.2 q))]; rfl
    have ha : ∀ H : Nat, boundO lo H 0 = if isIntO lo = true ∧ 0 ≤ strLo lo ∧ strLo lo ≤ H then some (strLo lo).toNat else none := by
      intro H
      cases lo with
      | none => simp [boundO, isIntO, strLo]
      | some v =>
        cases v <;> simp [boundO, isIntO, strLo]
        rename_i k i
        by_cases hi : inI i H = true
        · rw [hi, if_pos (inI_iff.1 hi)]; rfl
        · rw [Bool.eq_false_iff.2 hi, if_neg (fun q => hi (inI_iff.2 q))]; rfl
    unfold boundsV
    rw [show boundO none s.length s.length = some s.length from rfl]
    simp only
    rw [hb]
    by_cases h1 : isIntO hi = true ∧ 0 ≤ strHi s hi ∧ strHi s hi ≤ s.length
    · rw [if_pos h1]
      simp only
      rw [ha]
      by_cases h2 : isIntO lo = true ∧ 0 ≤ strLo lo ∧ strLo lo ≤ ((strHi s hi).toNat : Int)
      · rw [if_pos h2]
        have h3 : slOk (.str s) lo hi := ⟨h2.1, h1.1, h2.2.1, by have := h2.2.2; omega, h1.2.2⟩
        rw [if_pos h3]
      · rw [if_neg h2]
        have h3 : ¬ slOk (.str s) lo hi := fun q => h2 ⟨q.1, q.2.2.1, by have := q.2.2.2.1; omega⟩
        rw [if_neg h3]
    · rw [if_neg h1]
      have h3 : ¬ slOk (.str s) lo hi := fun q => h1 ⟨q.2.1, by have := q.2.2.1; have := q.2.2.2.1; omega, q.2.2.2.2⟩
      rw [if_neg h3]
  unfold sliceM
  rw [hu]
  simp only [Option.isSome, cond_false]
  rw [key]
  refine ⟨fun h => ?_, fun h => ?_⟩
  · rw [if_pos h]
    simp only
    have h4 := h.2.2.2.1
    have h5 := h.2.2.1
    rw [sub_eq (by omega)]
    rfl
  · rw [if_neg h]
    exact ⟨_, rfl⟩
theorem opW_slice_str (t : TypeId) (x : Operand) (lo hi : Option Operand) (hc : clsS (c.P.underlying t) = 0) : opW c Ok (.slice t x lo hi none) env h K = optP (slOk (evalE env x) (lo.map (evalE env)) (hi.map (evalE env))) (slT (evalE env x) (lo.map (evalE env)) (hi.map (evalE env))) [] h K := by
  have hu : c.P.underlying t = some .string := by
    unfold clsS at hc
    split at hc
    · assumption
    · cases hc
  have e0 : opM c.P c.gl noCall (evalE env) (.slice t x lo hi none) h.st = sliceM c.P t (evalE env x) (lo.map (evalE env)) (hi.map (evalE env)) none h.st := rfl
  cases hv : evalE env x
  case str s =>
    rw [hv] at e0
    by_cases hok : slOk (.str s) (lo.map (evalE env)) (hi.map (evalE env))
    · rw [opW_ret (nc trivial) (e0.trans ((slice_str hu s _ _ _).1 hok))]
      simp [optP, hok]
    · obtain ⟨w, e⟩ := (slice_str hu s (lo.map (evalE env)) (hi.map (evalE env)) h.st).2 hok
      rw [opW_fail (nc trivial) (e0.trans e)]
      simp [optP, hok]
  all_goals
    rw [hv] at e0
    rw [opW_fail (w := "slice") (nc trivial) (e0.trans (by unfold sliceM; rw [hu]; rfl))]
    simp [optP, slOk]
theorem gOp_slice_str (t : TypeId) (x : Operand) (lo hi : Option Operand) (hc : clsS (c.P.underlying t) = 0) : gOp c Ok p (.slice t x lo hi none) env h K = (imp p (slOk (evalE env x) (lo.map (evalE env)) (hi.map (evalE env))) ∧ K (gv p (slT (evalE env x) (lo.map (evalE env)) (hi.map (evalE env)))) h (.lg [])) := by
  rw [gOp_pure fun K => opW_slice_str (K := K) t x lo hi hc, glog_nil]
def cvO (s d : Option TypeDesc) (x : V) : Option V := match s, d, x with
  | some _, some (.int k), .int _ n => some (.int k (k.wrap n))
  | _, _, _ => none
theorem cvO_int (s : TypeDesc) (k k' : IntKind) (n : Int) : cvO (some s) (some (.int k)) (.int k' n) = some (.int k (k.wrap n)) := rfl
theorem opW_conv_int (s t : TypeId) (x : Operand) (hc : clsC (c.P.underlying t) = 0) : opW c Ok (.convert s t x) env h K = optP (okO (cvO (c.P.underlying s) (c.P.underlying t) (evalE env x))) (getO' (cvO (c.P.underlying s) (c.P.underlying t) (evalE env x))) [] h K := by
  refine opM_pure (nc trivial) (m := convertM c.P s t (evalE env x)) rfl fun st => ?_
  unfold convertM cvO
  cases hu : c.P.underlying t with
  | none => rw [hu] at hc; cases hc
  | some d =>
    rw [hu] at hc
    cases d <;> try (cases hc; done)
    cases hs : c.P.underlying s with
    | none => exact ⟨_, rfl⟩
    | some d' => cases d' <;> cases evalE env x <;> first | rfl | exact ⟨_, rfl⟩
theorem gOp_conv_int (s t : TypeId) (x : Operand) (hc : clsC (c.P.underlying t) = 0) : gOp c Ok p (.convert s t x) env h K = (imp p (okO (cvO (c.P.underlying s) (c.P.underlying t) (evalE env x))) ∧ K (gv p (getO' (cvO (c.P.underlying s) (c.P.underlying t) (evalE env x)))) h (.lg [])) := by
  rw [gOp_pure fun K => opW_conv_int (K := K) s t x hc, glog_nil]

theorem indexAddr_slice {P : Program} {t e : TypeId} {sz : Nat} (hu : P.underlying t = some (.slice e)) (hs : szT P e = some sz) (k o n m : Nat) (kd : IntKind) (i : Int) : indexAddrV P t (.slice k o n m) (.int kd i) = if 0 ≤ i ∧ i < n then some (.ptr k (o + i.toNat * sz)) else none := by
  unfold indexAddrV pureO opIndexAddr
  rw [hu]
  cases i with
  | negSucc j => simp [Lx.err]
  | ofNat j =>
    simp only [hs]
    by_cases hj : j < n
    · rw [if_pos ⟨by simp, by simpa using hj⟩, show Nat.blt j n = true by simpa [Nat.blt_eq] using hj]
      rfl
    · rw [if_neg (by simp; omega)]
      have : Nat.blt j n = false := by
        cases hb : Nat.blt j n with
        | false => rfl
        | true => exact (hj (by simpa [Nat.blt_eq] using hb)).elim
      rw [this]
      rfl
theorem boolT : V.bool true = bo True := bo_true.symm
theorem boolF : V.bool false = bo False := bo_false.symm

def goL (n0 : Nat) (Ok : Nat → Prop) (m : M V) (h : H) (lg : List LE) (K : V → H → Fp → Prop) : Prop := match m ⟨h.heap, h.nx, lg⟩ with
  | .ok v s => LogOk Ok n0 s.log ∧ K v (ofSt s) (.lg s.log)
  | .fail _ => False
theorem opW_goL {o : Op} {m : M V} (hn : ∀ k, o = .call k → ∀ f, k.callee ≠ .value f) (e : opM c.P c.gl noCall (evalE env) o = m) : opW c Ok o env h K = goL h.nx Ok m h [] K := by
  subst e
  exact opW_plain hn
variable {n0 : Nat} {lg : List LE}
theorem goL_ret (v : V) : goL n0 Ok (Lx.ret v) h lg K = (LogOk Ok n0 lg ∧ K v h (.lg lg)) := rfl
theorem goL_err (w : String) : goL n0 Ok (Lx.err w) h lg K = False := rfl
theorem goL_cond (b : Bool) (x y : M V) : goL n0 Ok (bif b then x else y) h lg K = ((b = true → goL n0 Ok x h lg K) ∧ (b = false → goL n0 Ok y h lg K)) := by cases b <;> simp
theorem goL_alloc (ob : Ob) (f : Nat → M V) : goL n0 Ok (Lx.bnd (Lx.alloc ob) f) h lg K = goL n0 Ok (f h.nx) (h.push ob) (.wrd h.nx :: lg) K := rfl
theorem goL_ld (k o n : Nat) (f : List V → M V) : goL n0 Ok (Lx.bnd (Lx.ld k o n) f) h lg K = ∃ cs, rdC (h.get k) o n = some cs ∧ goL n0 Ok (f cs) h (.rd k o n :: lg) K := by
  unfold goL Lx.bnd Lx.ld rdC H.get
  simp only
  cases hg : h.heap.get k with
  | none => simp
  | some ob =>
    cases ob with
    | cells c e p => cases hb : Nat.ble (o + n) c.length <;> simp [hb]
    | ro c => cases hb : Nat.ble (o + n) c.length <;> simp [hb]
    | map es clock => simp
    | siter s pos => simp
    | miter m since seen last => simp
def blkSO (ob : Option Ob) : Option (Nat × TypeId × Bool) := match ob with
  | some (.cells c e p) => some (c.length, e, p)
  | some (.ro c) => some (c.length, 0, false)
  | _ => none
theorem goL_blk (k : Nat) (f : Nat × TypeId × Bool → M V) : goL n0 Ok (Lx.bnd (Lx.blk k) f) h lg K = ∃ cs e p, h.get k = some (.cells cs e p) ∧ goL n0 Ok (f (cs.length, e, p)) h (.rdd k :: lg) K := by
  unfold goL Lx.bnd Lx.blk H.get
  simp only
  cases hg : h.heap.get k with
  | none => simp
  | some ob => cases ob <;> first | (simp; done) | exact propext ⟨fun q => ⟨_, _, _, rfl, q⟩, fun ⟨_, _, _, e, q⟩ => by cases e; exact q⟩
theorem goL_blkS (k : Nat) (f : Nat × TypeId × Bool → M V) : goL n0 Ok (Lx.bnd (Lx.blkS k) f) h lg K = ∃ x, blkSO (h.get k) = some x ∧ goL n0 Ok (f x) h (.rdd k :: lg) K := by
  unfold goL Lx.bnd Lx.blkS H.get blkSO
  simp only
  cases hg : h.heap.get k with
  | none => simp
  | some ob => cases ob <;> simp
theorem goL_getO (k : Nat) (f : Ob → M V) : goL n0 Ok (Lx.bnd (Lx.getO k) f) h lg K = ∃ ob, h.get k = some ob ∧ ob.isCells = false ∧ goL n0 Ok (f ob) h (.rdd k :: lg) K := by
  unfold goL Lx.bnd Lx.getO H.get
  simp only
  cases hg : h.heap.get k with
  | none => simp
  | some ob => cases hb : ob.isCells <;> simp [hb]
theorem goL_kill (k : Nat) (f : Unit → M V) : goL n0 Ok (Lx.bnd (Lx.kill k) f) h lg K = ∃ cs e p, h.get k = some (.cells cs e p) ∧ goL n0 Ok (f ()) (h.del k) (.wrd k :: .rdd k :: lg) K := by
  unfold goL Lx.bnd Lx.kill H.get H.del
  simp only
  cases hg : h.heap.get k with
  | none => simp
  | some ob => cases ob <;> simp
theorem goL_setO (k : Nat) (o : Ob) (f : Unit → M V) : goL n0 Ok (Lx.bnd (Lx.setO k o) f) h lg K = ∃ ob, h.get k = some ob ∧ ob.isCells = false ∧ o.isCells = false ∧ goL n0 Ok (f ()) (h.put k o) (.wrd k :: .rdd k :: lg) K := by
  unfold goL Lx.bnd Lx.setO H.get H.put
  simp only
  cases hg : h.heap.get k with
  | none => simp
  | some ob => cases hb : ob.isCells <;> cases ho : o.isCells <;> simp [hb, ho]
theorem opW_convert (s t : TypeId) (x : Operand) : opW c Ok (.convert s t x) env h K = goL h.nx Ok (convertM c.P s t (evalE env x)) h [] K := opW_goL (nc trivial) rfl
theorem opW_lookup (t : TypeId) (x i : Operand) (ok : Bool) : opW c Ok (.lookup t x i ok) env h K = goL h.nx Ok (lookupM c.P t (evalE env x) (evalE env i) ok) h [] K := opW_goL (nc trivial) rfl
theorem opW_mapUpdate (t : TypeId) (m k v : Operand) : opW c Ok (.mapUpdate t m k v) env h K = goL h.nx Ok (mapUpdateM c.P t (evalE env m) (evalE env k) (evalE env v)) h [] K := opW_goL (nc trivial) rfl
theorem opW_range (t : TypeId) (x : Operand) : opW c Ok (.range t x) env h K = goL h.nx Ok (rangeM c.P t (evalE env x)) h [] K := opW_goL (nc trivial) rfl
theorem opW_next (x : Operand) (b : Bool) : opW c Ok (.next x b) env h K = goL h.nx Ok (nextM (evalE env x) b) h [] K := opW_goL (nc trivial) rfl
theorem opW_makeMap (t : TypeId) (r : Option Operand) : opW c Ok (.makeMap t r) env h K = goL h.nx Ok (opMakeMap c.P t (r.map (evalE env))) h [] K := opW_goL (nc trivial) rfl
theorem opW_makeSlice (t : TypeId) (l m : Operand) : opW c Ok (.makeSlice t l m) env h K = goL h.nx Ok (opMakeSlice c.P t (evalE env l) (evalE env m)) h [] K := opW_goL (nc trivial) rfl
theorem opW_builtin (b : Builtin) (args : Array Operand) (ts : Array TypeId) : opW c Ok (.call ⟨.builtin b, args, ts⟩) env h K = goL h.nx Ok (builtinM c.P b ts (args.toList.map (evalE env))) h [] K := opW_goL (nb _ _ _) rfl
theorem LogOk_cons_wrd {k : Nat} : LogOk Ok n0 (.wrd k :: lg) = ((n0 ≤ k ∨ Ok k) ∧ LogOk Ok n0 lg) := propext ⟨fun q => ⟨q (.wrd k) (by simp) rfl, fun e he => q e (by simp [he])⟩, fun q e he hw => by
  rcases List.mem_cons.1 he with rfl | he
  · exact q.1
  · exact q.2 e he hw⟩
theorem LogOk_cons_wr {k o n : Nat} : LogOk Ok n0 (.wr k o n :: lg) = ((n0 ≤ k ∨ Ok k) ∧ LogOk Ok n0 lg) := propext ⟨fun q => ⟨q (.wr k o n) (by simp) rfl, fun e he => q e (by simp [he])⟩, fun q e he hw => by
  rcases List.mem_cons.1 he with rfl | he
  · exact q.1
  · exact q.2 e he hw⟩
theorem LogOk_cons_rd {k o n : Nat} : LogOk Ok n0 (.rd k o n :: lg) = LogOk Ok n0 lg := propext ⟨fun q e he => q e (by simp [he]), fun q e he hw => by
  rcases List.mem_cons.1 he with rfl | he
  · cases hw
  · exact q e he hw⟩
theorem LogOk_cons_rdd {k : Nat} : LogOk Ok n0 (.rdd k :: lg) = LogOk Ok n0 lg := propext ⟨fun q e he => q e (by simp [he]), fun q e he hw => by
  rcases List.mem_cons.1 he with rfl | he
  · cases hw
  · exact q e he hw⟩
theorem LogOk_nil' : LogOk Ok n0 [] = True := by simp [LogOk]
end
end
end Go.Wx

/-
  The rules, tied together for rewriting.
-/
set_option linter.unusedSimpArgs false
set_option linter.unusedVariables false
set_option linter.defProp false
namespace Go.Wx
open Go.Lx
noncomputable section

theorem argE_def (l : List V) : argE l = argE' l 0 fun _ => undefV := rfl
theorem argE'_nil (i : Nat) (env : Env) : argE' [] i env = env := rfl
theorem argE'_cons (v : V) (l : List V) (i : Nat) (env : Env) : argE' (v :: l) i env = argE' l (i + 1) (upd env i v) := rfl
theorem endQ_ret {c : Cfg} {rs : List ResultVar} {K : V → H → Prop} {env : Env} {h : H} : endQ c rs K .ret env h = resW (resV c.P h.heap env rs) h K := rfl
theorem endQ_normal {c : Cfg} {rs : List ResultVar} {K : V → H → Prop} {env : Env} {h : H} : endQ c rs K .normal env h = resW (resV c.P h.heap env rs) h K := rfl
theorem resW_some {vs : List V} {h : H} {K : V → H → Prop} : resW (some vs) h K = K (oneOf vs) h := rfl
theorem resV_nil {P : Program} {hp : T Ob} {env : Env} : resV P hp env [] = some [] := rfl
theorem resV_tmp {P : Program} {hp : T Ob} {env : Env} {t : Tmp} {l : List ResultVar} : resV P hp env (.tmp t :: l) = (resV P hp env l).map (env t :: ·) := rfl
def resC (P : Program) (hp : T Ob) (t : TypeId) (a : V) (r : Option (List V)) : Option (List V) := match a with
  | .ptr k o => (rdV (tyR P t) (hp.get k) o).bind fun v => r.map (v :: ·)
  | _ => none
theorem resV_cell {P : Program} {hp : T Ob} {env : Env} {a : Tmp} {t : TypeId} {l : List ResultVar} : resV P hp env (.cell a t :: l) = resC P hp t (env a) (resV P hp env l) := rfl
theorem resC_ptr {P : Program} {hp : T Ob} {t : TypeId} {k o : Nat} {r : Option (List V)} : resC P hp t (.ptr k o) r = (rdV (tyR P t) (hp.get k) o).bind fun v => r.map (v :: ·) := rfl
theorem oneOf_one (v : V) : oneOf [v] = v := rfl
theorem oneOf_two (v w : V) : oneOf [v, w] = .tuple [v, w] := rfl
theorem oneOf_three (v w x : V) : oneOf [v, w, x] = .tuple [v, w, x] := rfl
theorem at_P (c : Cfg) (n : Nat) : (c.at n).P = c.P := rfl

end
end Go.Wx


/-
  Numbers that are counts: sums and comparisons as counts.
-/
set_option linter.unusedSimpArgs false
set_option linter.unusedVariables false
set_option linter.defProp false
namespace Go.Wx
open Go.Lx Go.IntWalk

theorem clt_l (m : Int) (a : Nat) (h : 0 ≤ m) : (m < (a : Int)) = (m.toNat < a) := propext (by constructor <;> intro h <;> omega)
theorem cle_l (m : Int) (a : Nat) (h : 0 ≤ m) : (m ≤ (a : Int)) = (m.toNat ≤ a) := propext (by constructor <;> intro h <;> omega)
theorem ceq_l (m : Int) (a : Nat) (h : 0 ≤ m) : (m = (a : Int)) = (m.toNat = a) := propext (by constructor <;> intro h <;> omega)
theorem clt_r (m : Int) (a : Nat) (h : 0 ≤ m) : ((a : Int) < m) = (a < m.toNat) := propext (by constructor <;> intro h <;> omega)
theorem cle_r (m : Int) (a : Nat) (h : 0 ≤ m) : ((a : Int) ≤ m) = (a ≤ m.toNat) := propext (by constructor <;> intro h <;> omega)
theorem ceq_r (m : Int) (a : Nat) (h : 0 ≤ m) : ((a : Int) = m) = (a = m.toNat) := propext (by constructor <;> intro h <;> omega)
theorem wadd_r (m : Int) (a : Nat) (h : 0 ≤ m ∧ a + m.toNat < 9223372036854775808) : IntKind.i64.wrap ((a : Int) + m) = ((a + m.toNat : Nat) : Int) := by rw [i64_in _ (by omega)]; omega
theorem wadd_l (m : Int) (a : Nat) (h : 0 ≤ m ∧ m.toNat + a < 9223372036854775808) : IntKind.i64.wrap (m + (a : Int)) = ((m.toNat + a : Nat) : Int) := by rw [i64_in _ (by omega)]; omega
theorem wsub_r (m : Int) (a : Nat) (h : 0 ≤ m ∧ m.toNat ≤ a ∧ a < 9223372036854775808) : IntKind.i64.wrap ((a : Int) - m) = ((a - m.toNat : Nat) : Int) := by rw [i64_in _ (by omega)]; omega
noncomputable def cst := And.intro @clt_l <| And.intro @cle_l <| And.intro @ceq_l <| And.intro @clt_r <| And.intro @cle_r <| And.intro @ceq_r <| And.intro @wadd_r <| And.intro @wadd_l <| @wsub_r

end Go.Wx

/-
  Ranges over texts, texts and bytes, append, in a form that rewriting works out.
-/
set_option linter.unusedSimpArgs false
set_option linter.unusedVariables false
set_option linter.defProp false
namespace Go.Wx
open Go.Lx
noncomputable section

section
variable {c : Cfg} {Ok : Nat → Prop} {env : Env} {h : H} {K : V → H → Fp → Prop}

theorem clsS_str {d : Option TypeDesc} (h : clsS d = 0) : d = some .string := by
  unfold clsS at h
  split at h
  · rfl
  · cases h

def rngW (c : Cfg) (Ok : Nat → Prop) (t : TypeId) (x : V) (h : H) (K : V → H → Fp → Prop) : Prop := match x with
  | .str s => K (.ptr h.nx 0) (h.push (.siter s 0)) (.lg [.wrd h.nx])
  | x => goL h.nx Ok (rangeM c.P t x) h [] K
theorem rngW_str (t : TypeId) (s : List Nat) : rngW c Ok t (.str s) h K = K (.ptr h.nx 0) (h.push (.siter s 0)) (.lg [.wrd h.nx]) := rfl
theorem opW_range_str (t : TypeId) (x : Operand) (hc : clsS (c.P.underlying t) = 0) : opW c Ok (.range t x) env h K = rngW c Ok t (evalE env x) h K := by
  rw [opW_range]
  generalize evalE env x = v
  unfold rngW
  split
  · rename_i s
    unfold rangeM
    rw [clsS_str hc]
    simp only
    rw [goL_alloc, goL_ret, LogOk_cons_wrd]
    simp [LogOk_nil']
  · rfl

def nxtB (Ok : Nat → Prop) (ob : Option Ob) (r : Nat) (h : H) (K : V → H → Fp → Prop) : Prop := match ob with
  | some (.siter s pos) => (pos < s.length → (h.nx ≤ r ∨ Ok r) ∧ K (.tuple [bo True, .int .i64 pos, .int .i32 (dec (s.drop pos)).1]) (h.put r (.siter s (pos + (dec (s.drop pos)).2))) (.lg [.wrd r, .rdd r, .rdd r])) ∧ (¬ pos < s.length → K (.tuple [bo False]) h (.lg [.rdd r]))
  | _ => goL h.nx Ok (nextM (.ptr r 0) true) h [] K
def nxtW (Ok : Nat → Prop) (x : V) (h : H) (K : V → H → Fp → Prop) : Prop := match x with
  | .ptr r 0 => nxtB Ok (h.get r) r h K
  | x => goL h.nx Ok (nextM x true) h [] K
theorem nxtW_ptr (r : Nat) : nxtW Ok (.ptr r 0) h K = nxtB Ok (h.get r) r h K := rfl
theorem nxtB_siter (s : List Nat) (pos r : Nat) : nxtB Ok (some (.siter s pos)) r h K = ((pos < s.length → (h.nx ≤ r ∨ Ok r) ∧ K (.tuple [bo True, .int .i64 pos, .int .i32 (dec (s.drop pos)).1]) (h.put r (.siter s (pos + (dec (s.drop pos)).2))) (.lg [.wrd r, .rdd r, .rdd r])) ∧ (¬ pos < s.length → K (.tuple [bo False]) h (.lg [.rdd r]))) := rfl
theorem opW_next_str (x : Operand) : opW c Ok (.next x true) env h K = nxtW Ok (evalE env x) h K := by
  rw [opW_next]
  generalize evalE env x = v
  unfold nxtW
  split
  · rename_i r
    unfold nxtB
    split
    · rename_i s pos hg
      unfold nextM
      simp only
      rw [goL_getO]
      refine propext ⟨fun q => ?_, fun q => ?_⟩
      · obtain ⟨ob, h1, h2, h3⟩ := q
        rw [hg] at h1; cases h1
        simp only at h3
        rw [goL_cond] at h3
        refine ⟨fun hl => ?_, fun hl => ?_⟩
        · have h4 := h3.1 (by simpa [Nat.blt_eq] using hl)
          rw [goL_setO] at h4
          obtain ⟨ob, _, _, _, h5⟩ := h4
          rw [goL_ret, LogOk_cons_wrd] at h5
          rw [← boolT]
          exact ⟨h5.1.1, h5.2⟩
        · have h4 := h3.2 (by
            cases hb : Nat.blt pos s.length with
            | false => rfl
            | true => exact (hl (by simpa [Nat.blt_eq] using hb)).elim)
          rw [goL_ret] at h4
          rw [← boolF]
          exact h4.2
      · refine ⟨_, hg, rfl, ?_⟩
        simp only
        rw [goL_cond]
        refine ⟨fun hb => ?_, fun hb => ?_⟩
        · have hl : pos < s.length := by simpa [Nat.blt_eq] using hb
          have h5 := q.1 hl
          rw [goL_setO]
          refine ⟨_, hg, rfl, rfl, ?_⟩
          rw [goL_ret, LogOk_cons_wrd, LogOk_cons_rdd, LogOk_cons_rdd, LogOk_nil']
          rw [← boolT] at h5
          exact ⟨⟨h5.1, trivial⟩, h5.2⟩
        · have hl : ¬ pos < s.length := fun hl => by
            have : Nat.blt pos s.length = true := by simpa [Nat.blt_eq] using hl
            rw [this] at hb; cases hb
          have h5 := q.2 hl
          rw [← boolF] at h5
          rw [goL_ret, LogOk_cons_rdd, LogOk_nil']
          exact ⟨trivial, h5⟩
    · rfl
  · rfl
def byteS (P : Program) (t : TypeId) : Bool := match P.underlying t with
  | some (.slice e) => (match P.underlying e with
    | some (.int .u8) => szT P e == some 1
    | _ => false)
  | _ => false
def elemS (P : Program) (t : TypeId) : TypeId := match P.underlying t with
  | some (.slice e) => e
  | _ => 0
theorem byteS_ok {P : Program} {t : TypeId} (h : byteS P t = true) : ∃ e, P.underlying t = some (.slice e) ∧ elemS P t = e ∧ P.underlying e = some (.int .u8) ∧ szT P e = some 1 := by
  unfold byteS at h
  cases hu : P.underlying t with
  | none => rw [hu] at h; cases h
  | some d =>
    rw [hu] at h
    cases d <;> try (cases h; done)
    rename_i e
    simp only at h
    cases hv : P.underlying e with
    | none => rw [hv] at h; cases h
    | some d' =>
      rw [hv] at h
      cases d' <;> try (cases h; done)
      rename_i k
      cases k <;> try (cases h; done)
      refine ⟨e, rfl, by simp [elemS, hu], hv, ?_⟩
      simpa using h

def cvSB (c : Cfg) (Ok : Nat → Prop) (s t : TypeId) (x : V) (h : H) (K : V → H → Fp → Prop) : Prop := match x with
  | .str l => K (.slice h.nx 0 l.length l.length) (h.push (.cells (bytesV l) (elemS c.P t) true)) (.lg [.wrd h.nx])
  | x => goL h.nx Ok (convertM c.P s t x) h [] K
theorem cvSB_str (s t : TypeId) (l : List Nat) : cvSB c Ok s t (.str l) h K = K (.slice h.nx 0 l.length l.length) (h.push (.cells (bytesV l) (elemS c.P t) true)) (.lg [.wrd h.nx]) := rfl
theorem opW_conv_sb (s t : TypeId) (x : Operand) (hs : clsS (c.P.underlying s) = 0) (ht : byteS c.P t = true) : opW c Ok (.convert s t x) env h K = cvSB c Ok s t (evalE env x) h K := by
  rw [opW_convert]
  generalize evalE env x = v
  unfold cvSB
  split
  · rename_i l
    obtain ⟨e, h1, h2, h3, h4⟩ := byteS_ok ht
    unfold convertM
    rw [clsS_str hs, h1, h2]
    simp only [h3, h4, beq_self_eq_true, cond_true]
    rw [goL_alloc, goL_ret, LogOk_cons_wrd]
    simp [LogOk_nil']
  · rfl

def rdN (ob : Option Ob) (o n : Nat) : Option (List Nat) := (rdC ob o n).bind natsV
def cvBSb (r : Option (List Nat)) (b o n : Nat) (h : H) (K : V → H → Fp → Prop) : Prop := match r with
  | some l => K (.str l) h (.lg [.rd b o n])
  | none => False
def cvBS (c : Cfg) (Ok : Nat → Prop) (s t : TypeId) (x : V) (h : H) (K : V → H → Fp → Prop) : Prop := match x with
  | .nilslice => K (.str []) h (.lg [])
  | .slice b o n _ => cvBSb (rdN (h.get b) o n) b o n h K
  | x => goL h.nx Ok (convertM c.P s t x) h [] K
theorem cvBS_nil (s t : TypeId) : cvBS c Ok s t .nilslice h K = K (.str []) h (.lg []) := rfl
theorem cvBS_slice (s t : TypeId) (b o n m : Nat) : cvBS c Ok s t (.slice b o n m) h K = cvBSb (rdN (h.get b) o n) b o n h K := rfl
theorem cvBSb_some (l : List Nat) (b o n : Nat) : cvBSb (some l) b o n h K = K (.str l) h (.lg [.rd b o n]) := rfl
theorem opW_conv_bs (s t : TypeId) (x : Operand) (hs : byteS c.P s = true) (ht : clsS (c.P.underlying t) = 0) : opW c Ok (.convert s t x) env h K = cvBS c Ok s t (evalE env x) h K := by
  rw [opW_convert]
  obtain ⟨e, h1, h2, h3, h4⟩ := byteS_ok hs
  generalize evalE env x = v
  unfold cvBS
  split
  · unfold convertM
    rw [clsS_str ht, h1]
    simp only [h3]
    rw [goL_ret]
    simp [LogOk_nil']
  · rename_i b o n m
    unfold convertM
    rw [clsS_str ht, h1]
    simp only [h3]
    rw [goL_ld]
    unfold cvBSb rdN
    cases hr : rdC (h.get b) o n with
    | none => simp
    | some cs =>
      simp only [Option.some.injEq, exists_eq_left', Option.bind_some]
      cases hn : natsV cs with
      | none => simp [goL_err]
      | some l =>
        simp only
        rw [goL_ret, LogOk_cons_rd]
        simp [LogOk_nil']
  · rfl
theorem natsV_bytes : ∀ {l : List Nat}, (∀ b ∈ l, b < 256) → natsV (bytesV l) = some l
  | [], _ => rfl
  | b :: l, h => by
    have ih := natsV_bytes (l := l) fun x hx => h x (by simp [hx])
    have hb : Nat.blt b 256 = true := by simpa [Nat.blt_eq] using h b (by simp)
    show natsV (.int .u8 (Int.ofNat b) :: bytesV l) = _
    unfold natsV
    rw [ih]
    simp [hb]
theorem bytesV_length (l : List Nat) : (bytesV l).length = l.length := by simp [bytesV]
theorem bytesV_get (l : List Nat) (i : Nat) : (bytesV l)[i]? = (l[i]?).map fun (n : Nat) => V.int .u8 n := by simp [bytesV]
end

noncomputable def wpk := And.intro @rngW_str <| And.intro @opW_range_str <| And.intro @nxtW_ptr <| And.intro @nxtB_siter <| And.intro @opW_next_str <| And.intro @cvSB_str <| And.intro @opW_conv_sb <| And.intro @cvBS_nil <| And.intro @cvBS_slice <| And.intro @cvBSb_some <| And.intro @opW_conv_bs <| And.intro @bytesV_length <| @bytesV_get

end
end Go.Wx

/-
  append to a list that grows, pointers held against nil.
-/
set_option linter.unusedSimpArgs false
set_option linter.unusedVariables false
set_option linter.defProp false
namespace Go.Wx
open Go.Lx
noncomputable section

def isPtrD : Option TypeDesc → Bool
  | some (.pointer _) => true
  | _ => false
theorem isPtrD_ok {d : Option TypeDesc} (h : isPtrD d = true) : ∃ e, d = some (.pointer e) := by
  unfold isPtrD at h
  split at h
  · exact ⟨_, rfl⟩
  · cases h
section
variable {P : Program} {t : TypeId} {c : Bool}
theorem ptr_eql_nn (h : isPtrD (P.underlying t) = true) : binV P .eql t c .nilptr .nilptr = some (bo True) := by
  obtain ⟨e, he⟩ := isPtrD_ok h
  simp [binV, eqOpV, eqT, he, isAggD, eqFlat, boolT]
theorem ptr_eql_pn (h : isPtrD (P.underlying t) = true) (k o : Nat) : binV P .eql t c (.ptr k o) .nilptr = some (bo False) := by
  obtain ⟨e, he⟩ := isPtrD_ok h
  simp [binV, eqOpV, eqT, he, isAggD, eqFlat, boolF]
theorem ptr_neq_nn (h : isPtrD (P.underlying t) = true) : binV P .neq t c .nilptr .nilptr = some (bo False) := by
  obtain ⟨e, he⟩ := isPtrD_ok h
  simp [binV, eqOpV, eqT, he, isAggD, eqFlat, boolF]
theorem ptr_neq_pn (h : isPtrD (P.underlying t) = true) (k o : Nat) : binV P .neq t c (.ptr k o) .nilptr = some (bo True) := by
  obtain ⟨e, he⟩ := isPtrD_ok h
  simp [binV, eqOpV, eqT, he, isAggD, eqFlat, boolT]
def ptrSz (P : Program) (t : TypeId) : Bool := match P.underlying t with
  | some (.pointer e) => (szT P e).isSome
  | _ => false
theorem ptr_eql_same (h : ptrSz P t = true) (k o : Nat) : binV P .eql t c (.ptr k o) (.ptr k o) = some (bo True) := by
  unfold ptrSz at h
  cases hu : P.underlying t with
  | none => rw [hu] at h; cases h
  | some d =>
    rw [hu] at h
    cases d <;> try (cases h; done)
    simp only at h
    simp [binV, eqOpV, eqT, hu, h, boolT, Nat.beq_eq_true_eq]
theorem ptr_neq_same (h : ptrSz P t = true) (k o : Nat) : binV P .neq t c (.ptr k o) (.ptr k o) = some (bo False) := by
  unfold ptrSz at h
  cases hu : P.underlying t with
  | none => rw [hu] at h; cases h
  | some d =>
    rw [hu] at h
    cases d <;> try (cases h; done)
    simp only at h
    simp [binV, eqOpV, eqT, hu, h, boolF, Nat.beq_eq_true_eq]
end

theorem nilCheckV_ptr (k o : Nat) : nilCheckV (.ptr k o) = some (.ptr k o) := rfl
theorem nilCheckV_gptr (k o : Nat) : nilCheckV (.gptr k o) = some (.gptr k o) := rfl
theorem evalE_nilIface (env : Env) : evalE env (.const .nilIface) = .nilIface := rfl
theorem cells_nilIface : V.nilIface.cells = [.nilIface] := rfl
theorem isCell_nilIface : V.nilIface.isCell = true := rfl
theorem oneOf_none : oneOf [] = .tuple [] := rfl
theorem pair_one {l : List Fp} {i j : Nat} {f g : Fp} (hf : l[i]? = some f) (hg : l[j]? = some g) (h : fpApart f g) : ∀ a b : Fp, l[i]? = some a → l[j]? = some b → fpApart a b := by
  intro a b ha hb
  rw [hf] at ha; rw [hg] at hb
  cases ha; cases hb
  exact h

def usdV (v : V) : Option V := match v with
  | .nilslice => some .nilptr
  | .slice b o _ (_ + 1) => some (.ptr b o)
  | _ => none
theorem usdV_nil : usdV .nilslice = some .nilptr := rfl
theorem usdV_slice (b o n m : Nat) : usdV (.slice b o n (m + 1)) = some (.ptr b o) := rfl
theorem opW_usd {c : Cfg} {Ok : Nat → Prop} {env : Env} {h : H} {K : V → H → Fp → Prop} (x : Operand) (t : TypeId) : opW c Ok (.call ⟨.builtin .unsafeSliceData, #[x], #[t]⟩) env h K = optP (okO (usdV (evalE env x))) (getO' (usdV (evalE env x))) [] h K := by
  refine opM_pure (nb _ _ _) (m := builtinM c.P .unsafeSliceData #[t] [evalE env x]) rfl fun s => ?_
  generalize evalE env x = v
  unfold builtinM usdV
  cases v <;> first | rfl | exact ⟨_, rfl⟩ | skip
  rename_i b o n m
  cases m
  · exact ⟨_, rfl⟩
  · rfl
def usW (c : Cfg) (Ok : Nat → Prop) (t : TypeId) (ts : Array TypeId) (p n : V) (h : H) (K : V → H → Fp → Prop) : Prop := goL h.nx Ok (builtinM c.P .unsafeString ts [p, n]) h [] K
theorem opW_us {c : Cfg} {Ok : Nat → Prop} {env : Env} {h : H} {K : V → H → Fp → Prop} (x y : Operand) (t t2 : TypeId) : opW c Ok (.call ⟨.builtin .unsafeString, #[x, y], #[t, t2]⟩) env h K = usW c Ok t #[t, t2] (evalE env x) (evalE env y) h K := opW_builtin _ _ _
theorem usW_nat {c : Cfg} {Ok : Nat → Prop} {h : H} {K : V → H → Fp → Prop} (p : V) (t t2 : TypeId) (kd : IntKind) (n : Nat) : usW c Ok t #[t, t2] p (.int kd (n : Int)) h K = goL h.nx Ok (unsafeStringM c.P t p n) h [] K := rfl
def apI (P : Program) (t : TypeId) : Option (TypeId × Nat × Nat) := match P.underlying t with
  | some (.slice e) => match szT P e, zeroT P e, (P.info? e).map (·.bytes) with
    | some size, some z, some bytes => bif Nat.beq z.cells.length size && Nat.ble bytes 65536 then some (e, size, bytes) else none
    | _, _, _ => none
  | _ => none
def Acc (n0 : Nat) (h : H) (v : V) (cells : List V) (e sz : Nat) : Prop :=
  (v = .nilslice ∧ cells = []) ∨ ∃ b n, n0 ≤ b ∧ b < h.nx ∧ v = .slice b 0 n n ∧ 0 < n ∧ h.get b = some (.cells cells e true) ∧ cells.length = n * sz
def StaysBut (v : V) (h h' : H) : Prop := h.nx ≤ h'.nx ∧ ∀ k, k < h.nx → (∀ o n m, v ≠ .slice k o n m) → h'.get k = h.get k

theorem sub_whole {c : List V} {n : Nat} (h : c.length = n) : sub c 0 n = c := by
  unfold sub
  rw [List.drop_zero, ← h, List.take_length]

variable {c : Cfg} {Ok : Nat → Prop} {env : Env} {h : H} {K : V → H → Fp → Prop}

theorem Acc.put {n0 e sz k : Nat} {v : V} {cells : List V} {ob : Ob} (ha : Acc n0 h v cells e sz) (hk : k < n0) : Acc n0 (h.put k ob) v cells e sz := by
  rcases ha with ⟨a, b⟩ | ⟨b, n, h0, h1, e1, hn, hg, hl⟩
  · exact .inl ⟨a, b⟩
  · exact .inr ⟨b, n, h0, h1, e1, hn, by rw [put_get, if_neg (by omega)]; exact hg, hl⟩
theorem Acc.push {n0 e sz : Nat} {v : V} {cells : List V} {ob : Ob} (ha : Acc n0 h v cells e sz) : Acc n0 (h.push ob) v cells e sz := by
  rcases ha with ⟨a, b⟩ | ⟨b, n, h0, h1, e1, hn, hg, hl⟩
  · exact .inl ⟨a, b⟩
  · exact .inr ⟨b, n, h0, Nat.lt_succ_of_lt h1, e1, hn, by rw [push_get_lt h1]; exact hg, hl⟩
theorem Acc.stay {n0 e sz : Nat} {v : V} {cells : List V} {h' : H} (ha : Acc n0 h v cells e sz) (hn : h.nx ≤ h'.nx) (hs : ∀ k, n0 ≤ k → k < h.nx → h'.get k = h.get k) : Acc n0 h' v cells e sz := by
  rcases ha with ⟨a, b⟩ | ⟨b, n, h0, h1, e1, hn', hg, hl⟩
  · exact .inl ⟨a, b⟩
  · exact .inr ⟨b, n, h0, Nat.lt_of_lt_of_le h1 hn, e1, hn', by rw [hs b h0 h1]; exact hg, hl⟩
theorem Acc.ne {n0 e sz k o n m : Nat} {v : V} {cells : List V} (ha : Acc n0 h v cells e sz) (hk : k < n0) : v ≠ .slice k o n m := by
  rcases ha with ⟨a, b⟩ | ⟨b, n', h0, h1, e1, hn', hg, hl⟩
  · rw [a]; simp
  · rw [e1]; intro q; cases q; omega
theorem Acc.cell {n0 e sz : Nat} {v : V} {cells : List V} (ha : Acc n0 h v cells e sz) : v.cells = [v] ∧ v.isCell = true := by
  rcases ha with ⟨a, b⟩ | ⟨b, n', h0, h1, e1, hn', hg, hl⟩
  · rw [a]; exact ⟨rfl, rfl⟩
  · rw [e1]; exact ⟨rfl, rfl⟩
theorem rdC_all {cs : List V} {e : TypeId} {p : Bool} {n : Nat} (hl : cs.length = n) : rdC (some (.cells cs e p)) 0 n = some cs := by
  unfold rdC
  simp only [Nat.zero_add, hl, Nat.ble_self_eq_true, cond_true]
  rw [sub_whole hl]

theorem StaysBut.ext {v : V} {a h h' : H} {cells : List V} {e sz n0 : Nat} (hx : Ext a h) (hs : StaysBut v h h') (ha : Acc a.nx h v cells e sz) : Ext a h' := by
  refine ⟨Nat.le_trans hx.1 hs.1, fun k hk => ?_⟩
  rw [hs.2 k (Nat.lt_of_lt_of_le hk hx.1) (fun o n m hv => ?_), hx.2 k hk]
  rcases ha with ⟨e, _⟩ | ⟨b, n', h0, _, e, _⟩
  · rw [e] at hv; cases hv
  · rw [e] at hv; cases hv; omega

noncomputable def wpl := And.intro @ptr_eql_nn <| And.intro @ptr_eql_pn <| And.intro @ptr_neq_nn <| And.intro @ptr_neq_pn <| And.intro @ptr_eql_same <| And.intro @ptr_neq_same <| And.intro @nilCheckV_ptr <| And.intro @nilCheckV_gptr <| And.intro @evalE_nilIface <| And.intro @cells_nilIface <| And.intro @isCell_nilIface <| And.intro @usdV_nil <| And.intro @usdV_slice <| And.intro @opW_usd <| And.intro @opW_us <| And.intro @usW_nat <| @oneOf_none
noncomputable def wpb := And.intro @List.getElem?_cons_zero.{0} <| And.intro @List.getElem?_cons_succ.{0} <| And.intro @Nat.zero_add <| And.intro @Nat.add_zero <| And.intro @Nat.mul_one <| And.intro @Option.map_some.{0,0} <| And.intro @Nat.zero_le <| And.intro @List.all_cons.{0} <| And.intro @List.all_nil.{0} <| And.intro @Bool.and_true <| And.intro @Nat.le_refl <| And.intro @or_true <| And.intro @true_or <| And.intro @or_false <| And.intro @false_or <| And.intro @List.drop_zero.{0} <| And.intro @List.take_succ_cons.{0} <| And.intro @List.take_zero.{0} <| And.intro @Option.bind_some.{0,0} <| And.intro @resW_some <| And.intro @List.length_append.{0} <| And.intro @List.length_drop.{0} <| And.intro @List.length_take.{0} <| And.intro @List.length_cons.{0} <| And.intro @List.length_nil.{0} <| And.intro @true_and <| And.intro @and_true <| And.intro @and_self <| And.intro @List.map_cons.{0,0} <| And.intro @List.map_nil.{0,0} <| And.intro @List.nil_append.{0} <| And.intro @List.append_nil.{0} <| And.intro @List.cons_append.{0} <| And.intro @Option.map_none.{0,0} <| And.intro @not_true_eq_false <| And.intro @not_false_eq_true <| And.intro @false_and <| And.intro @and_false <| And.intro @Int.toNat_natCast <| And.intro @Int.ofNat_le <| And.intro @Int.ofNat_lt <| And.intro @Int.natCast_nonneg <| And.intro @V.int.injEq <| @V.str.injEq
end
end Go.Wx

/-
  Growing lists: append with its log; lists of a block not before n0.
-/
set_option linter.unusedSimpArgs false
set_option linter.unusedVariables false
namespace Go.Wx
open Go.Lx
noncomputable section
variable {c : Cfg} {Ok : Nat → Prop} {env : Env} {h : H} {K : V → H → Fp → Prop}
theorem append_accG {s x : Operand} {t tx : TypeId} {e sz bytes n0 n m b2 o2 : Nat} {cells new : List V} (hap : apI c.P t = some (e, sz, bytes)) (htx : ∃ d, c.P.underlying tx = some d ∧ isIntD d = false) (hs : Acc n0 h (evalE env s) cells e sz)
    (hx : evalE env x = .slice b2 o2 n m) (hn : 0 < n) (hnew : rdC (h.get b2) o2 (n * sz) = some new) (hnl : new.length = n * sz) (hc : new.all V.isCell = true) (hroom : ∀ j, j ≤ cells.length + new.length → Nat.ble bytes 65536 = true → roomy j bytes = true) (hsz : 0 < sz)
    (hOk : ∀ k, n0 ≤ k → Ok k) (hK : ∀ v h' L, Acc n0 h' v (cells ++ new) e sz → StaysBut (evalE env s) h h' → (∀ le ∈ L, (blkOf le = b2 ∧ le.isW = false) ∨ (h.nx ≤ blkOf le ∧ blkOf le < h'.nx) ∨ ∃ n m, evalE env s = .slice (blkOf le) 0 n m) → K v h' (.lg L)) (hn0 : n0 ≤ h.nx) : opW c Ok (.call ⟨.builtin .append, #[s, x], #[t, tx]⟩) env h K := by
  obtain ⟨dx, htx, hdi⟩ := htx
  rw [opW_builtin]
  unfold apI at hap
  cases hu : c.P.underlying t with
  | none => rw [hu] at hap; cases hap
  | some d =>
    rw [hu] at hap
    cases d <;> try (cases hap; done)
    rename_i e'
    simp only at hap
    cases h1 : szT c.P e' with
    | none => rw [h1] at hap; cases hap
    | some sz' =>
      cases h2 : zeroT c.P e' with
      | none => rw [h1, h2] at hap; cases hap
      | some z =>
        cases h3 : (c.P.info? e').map (·.bytes) with
        | none => rw [h1, h2, h3] at hap; cases hap
        | some by' =>
          rw [h1, h2, h3] at hap
          simp only at hap
          cases hb : (Nat.beq z.cells.length sz' && Nat.ble by' 65536) with
          | false => rw [hb] at hap; cases hap
          | true =>
            rw [hb, cond_true] at hap
            simp only [Option.some.injEq, Prod.mk.injEq] at hap
            obtain ⟨rfl, rfl, rfl⟩ := hap
            simp only [Bool.and_eq_true] at hb
            have hlen : n ≤ cells.length + new.length := by
              have : n * 1 ≤ n * sz' := Nat.mul_le_mul_left n hsz
              omega
            have e1 : builtinM c.P .append #[t, tx] (List.map (evalE env) [s, x]) = bnd (takenM sz' (evalE env x)) fun p => appendCore e' sz' by' (evalE env s) p.1 p.2 := by
              show appendM c.P t tx (evalE env s) (evalE env x) = _
              unfold appendM
              rw [hu, htx]
              simp only [h1, h2, h3, hb.1, cond_true, hdi, cond_false]
            show goL h.nx Ok (builtinM c.P .append #[t, tx] (List.map (evalE env) [s, x])) h [] K
            rw [e1, hx]
            have e2 : (bnd (takenM sz' (V.slice b2 o2 n m)) fun p => appendCore e' sz' by' (evalE env s) p.1 p.2) = bnd (Lx.ld b2 o2 (n * sz')) fun cs => appendCore e' sz' by' (evalE env s) cs n := by
              funext st
              show Lx.bnd (Lx.bnd (Lx.ld b2 o2 (n * sz')) fun cs => Lx.ret (cs, n)) _ st = _
              unfold Lx.bnd
              cases Lx.ld b2 o2 (n * sz') st <;> rfl
            rw [e2, goL_ld]
            refine ⟨new, hnew, ?_⟩
            have hn' : Nat.beq n 0 = false := by
              cases hb : Nat.beq n 0 with
              | false => rfl
              | true => have := Nat.eq_of_beq_eq_true hb; omega
            rcases hs with ⟨hv, rfl⟩ | ⟨b, k, hb0, hb1, hv, hk, hg, hcl⟩
            · rw [hv]
              unfold appendCore
              simp only [hn', cond_false]
              have hr : roomy n by' = true := by
                exact hroom _ hlen hb.2
              rw [hr, cond_true, goL_alloc, goL_ret]
              refine ⟨?_, hK _ _ _ (.inr ⟨h.nx, n, hn0, Nat.lt_succ_self _, rfl, hn, by rw [push_get, if_pos rfl]; rfl, by simpa using hnl⟩) ⟨Nat.le_succ _, fun k hk _ => push_get_lt hk⟩ fun le hle => ?_⟩
              · rw [LogOk_cons_wrd, LogOk_cons_rd]
                exact ⟨.inl (Nat.le_refl _), LogOk_nil⟩
              · simp only [List.mem_cons, List.not_mem_nil, or_false] at hle
                rcases hle with rfl | rfl
                · exact .inr (.inl ⟨Nat.le_refl _, Nat.lt_succ_self _⟩)
                · exact .inl ⟨rfl, rfl⟩
            · rw [hv]
              unfold appendCore
              simp only [hn', cond_false]
              have hcap : Nat.ble (k + n) k = false := by
                cases hb : Nat.ble (k + n) k with
                | false => rfl
                | true => have := Nat.le_of_ble_eq_true hb; omega
              have hkn : k + n ≤ cells.length + new.length := by
                have h5 : k * 1 ≤ k * sz' := Nat.mul_le_mul_left k hsz
                have h6 : n * 1 ≤ n * sz' := Nat.mul_le_mul_left n hsz
                omega
              have hr : roomy (k + n) by' = true := by
                exact hroom _ hkn hb.2
              rw [hcap, cond_false, hr, cond_true]
              unfold growM
              rw [goL_blk]
              refine ⟨cells, e', true, hg, ?_⟩
              simp only
              rw [goL_ld]
              refine ⟨cells, ?_, ?_⟩
              · rw [hg]
                unfold rdC
                simp only [Nat.zero_add, hcl, Nat.ble_self_eq_true, cond_true]
                rw [sub_whole hcl]
              · have he : Nat.beq e' e' = true := Nat.beq_refl e'
                rw [he, hc]
                simp only [Bool.and_self, cond_true]
                rw [goL_kill]
                refine ⟨cells, e', true, hg, ?_⟩
                rw [goL_alloc, goL_ret]
                refine ⟨?_, hK _ _ _ (.inr ⟨h.nx, k + n, hn0, Nat.lt_succ_self _, rfl, by omega, ?_, ?_⟩) ⟨Nat.le_succ _, fun j hj hne => ?_⟩ fun le hle => ?_⟩
                · rw [LogOk_cons_wrd, LogOk_cons_wrd, LogOk_cons_rdd, LogOk_cons_rd, LogOk_cons_rdd, LogOk_cons_rd]
                  exact ⟨.inl (Nat.le_refl _), .inr (hOk b hb0), LogOk_nil⟩
                · show ((h.del b).push _).get (h.del b).nx = _
                  rw [push_get, if_pos rfl]
                · rw [List.length_append, hcl, hnl, Nat.add_mul]
                · show ((h.del b).push _).get j = _
                  rw [push_get_lt (by exact hj), del_get, if_neg (fun e => hne 0 k k (by rw [hv, e]))]
                · simp only [List.mem_cons, List.not_mem_nil, or_false] at hle
                  rcases hle with rfl | rfl | rfl | rfl | rfl | rfl
                  · exact .inr (.inl ⟨Nat.le_refl _, Nat.lt_succ_self _⟩)
                  · exact .inr (.inr ⟨_, _, hv⟩)
                  · exact .inr (.inr ⟨_, _, hv⟩)
                  · exact .inr (.inr ⟨_, _, hv⟩)
                  · exact .inr (.inr ⟨_, _, hv⟩)
                  · exact .inl ⟨rfl, rfl⟩
theorem append_accL {s x : Operand} {t tx : TypeId} {e sz bytes n0 n m b2 o2 : Nat} {cells new : List V} (hap : apI c.P t = some (e, sz, bytes)) (htx : ∃ d, c.P.underlying tx = some d ∧ isIntD d = false) (hs : Acc n0 h (evalE env s) cells e sz)
    (hx : evalE env x = .slice b2 o2 n m) (hn : 0 < n) (hnew : rdC (h.get b2) o2 (n * sz) = some new) (hnl : new.length = n * sz) (hc : new.all V.isCell = true) (hroom : cells.length + new.length ≤ 1073741824) (hsz : 0 < sz)
    (hOk : ∀ k, n0 ≤ k → Ok k) (hK : ∀ v h' L, Acc n0 h' v (cells ++ new) e sz → StaysBut (evalE env s) h h' → (∀ le ∈ L, (blkOf le = b2 ∧ le.isW = false) ∨ (h.nx ≤ blkOf le ∧ blkOf le < h'.nx) ∨ ∃ n m, evalE env s = .slice (blkOf le) 0 n m) → K v h' (.lg L)) (hn0 : n0 ≤ h.nx) : opW c Ok (.call ⟨.builtin .append, #[s, x], #[t, tx]⟩) env h K := append_accG hap htx hs hx hn hnew hnl hc (fun j hj hb => roomy_of (by omega) hb) hsz hOk hK hn0
theorem append_accW {s x : Operand} {t tx : TypeId} {e sz bytes n0 n m b2 o2 : Nat} {cells new : List V} {sv : V} (hsv : evalE env s = sv) (hap : apI c.P t = some (e, sz, bytes)) (htx : ∃ d, c.P.underlying tx = some d ∧ isIntD d = false) (hs : Acc n0 h sv cells e sz)
    (hx : evalE env x = .slice b2 o2 n m) (hn : 0 < n) (hnew : rdC (h.get b2) o2 (n * sz) = some new) (hnl : new.length = n * sz) (hc : new.all V.isCell = true) (hroom : cells.length + new.length ≤ 1073741824) (hsz : 0 < sz)
    (hOk : ∀ k, n0 ≤ k → Ok k) (hK : ∀ v h' L, Acc n0 h' v (cells ++ new) e sz → StaysBut sv h h' → (∀ le ∈ L, (blkOf le = b2 ∧ le.isW = false) ∨ (h.nx ≤ blkOf le ∧ blkOf le < h'.nx) ∨ ∃ n m, sv = .slice (blkOf le) 0 n m) → K v h' (.lg L)) (hn0 : n0 ≤ h.nx) : opW c Ok (.call ⟨.builtin .append, #[s, x], #[t, tx]⟩) env h K := by
  subst hsv
  exact append_accL hap htx hs hx hn hnew hnl hc hroom hsz hOk hK hn0
theorem append_strG {s x : Operand} {t tx : TypeId} {e bytes n0 : Nat} {cells : List V} {bs : List Nat} (hap : apI c.P t = some (e, 1, bytes)) (htx : ∃ d, c.P.underlying tx = some d ∧ isIntD d = false) (hs : Acc n0 h (evalE env s) cells e 1)
    (hx : evalE env x = .str bs) (hn : 0 < bs.length) (hroom : ∀ j, j ≤ cells.length + bs.length → Nat.ble bytes 65536 = true → roomy j bytes = true)
    (hOk : ∀ k, n0 ≤ k → Ok k) (hK : ∀ v h' L, Acc n0 h' v (cells ++ bytesV bs) e 1 → StaysBut (evalE env s) h h' → (∀ le ∈ L, h.nx ≤ blkOf le ∨ ∃ n m, evalE env s = .slice (blkOf le) 0 n m) → K v h' (.lg L)) (hn0 : n0 ≤ h.nx) : opW c Ok (.call ⟨.builtin .append, #[s, x], #[t, tx]⟩) env h K := by
  obtain ⟨dx, htx, hdi⟩ := htx
  obtain ⟨n, hnn⟩ : ∃ n, n = bs.length := ⟨_, rfl⟩
  obtain ⟨new, hnw⟩ : ∃ new, new = bytesV bs := ⟨_, rfl⟩
  have hnl : new.length = n * 1 := by rw [hnw, hnn, bytesV_length, Nat.mul_one]
  have hc : new.all V.isCell = true := by rw [hnw]; simp [bytesV, V.isCell]
  have hsz : 0 < 1 := Nat.one_pos
  rw [← hnn] at hn hroom
  rw [← hnw] at hK
  rw [opW_builtin]
  unfold apI at hap
  cases hu : c.P.underlying t with
  | none => rw [hu] at hap; cases hap
  | some d =>
    rw [hu] at hap
    cases d <;> try (cases hap; done)
    rename_i e'
    simp only at hap
    cases h1 : szT c.P e' with
    | none => rw [h1] at hap; cases hap
    | some sz' =>
      cases h2 : zeroT c.P e' with
      | none => rw [h1, h2] at hap; cases hap
      | some z =>
        cases h3 : (c.P.info? e').map (·.bytes) with
        | none => rw [h1, h2, h3] at hap; cases hap
        | some by' =>
          rw [h1, h2, h3] at hap
          simp only at hap
          cases hb : (Nat.beq z.cells.length sz' && Nat.ble by' 65536) with
          | false => rw [hb] at hap; cases hap
          | true =>
            rw [hb, cond_true] at hap
            simp only [Option.some.injEq, Prod.mk.injEq] at hap
            obtain ⟨rfl, rfl, rfl⟩ := hap
            simp only [Bool.and_eq_true] at hb
            have hlen : n ≤ cells.length + n := by omega
            have e1 : builtinM c.P .append #[t, tx] (List.map (evalE env) [s, x]) = bnd (takenM 1 (evalE env x)) fun p => appendCore e' 1 by' (evalE env s) p.1 p.2 := by
              show appendM c.P t tx (evalE env s) (evalE env x) = _
              unfold appendM
              rw [hu, htx]
              simp only [h1, h2, h3, hb.1, cond_true, hdi, cond_false]
            show goL h.nx Ok (builtinM c.P .append #[t, tx] (List.map (evalE env) [s, x])) h [] K
            rw [e1, hx]
            have e2 : (bnd (takenM 1 (V.str bs)) fun p => appendCore e' 1 by' (evalE env s) p.1 p.2) = appendCore e' 1 by' (evalE env s) new n := by
              rw [hnw, hnn]
              rfl
            rw [e2]
            have hn' : Nat.beq n 0 = false := by
              cases hb : Nat.beq n 0 with
              | false => rfl
              | true => have := Nat.eq_of_beq_eq_true hb; omega
            rcases hs with ⟨hv, rfl⟩ | ⟨b, k, hb0, hb1, hv, hk, hg, hcl⟩
            · rw [hv]
              unfold appendCore
              simp only [hn', cond_false]
              have hr : roomy n by' = true := by
                exact hroom _ hlen hb.2
              rw [hr, cond_true, goL_alloc, goL_ret]
              refine ⟨?_, hK _ _ _ (.inr ⟨h.nx, n, hn0, Nat.lt_succ_self _, rfl, hn, by rw [push_get, if_pos rfl]; rfl, by simpa using hnl⟩) ⟨Nat.le_succ _, fun k hk _ => push_get_lt hk⟩ fun le hle => ?_⟩
              · rw [LogOk_cons_wrd]
                exact ⟨.inl (Nat.le_refl _), LogOk_nil⟩
              · simp only [List.mem_cons, List.not_mem_nil, or_false] at hle
                subst hle
                exact .inl (Nat.le_refl _)
            · rw [hv]
              unfold appendCore
              simp only [hn', cond_false]
              have hcap : Nat.ble (k + n) k = false := by
                cases hb : Nat.ble (k + n) k with
                | false => rfl
                | true => have := Nat.le_of_ble_eq_true hb; omega
              have hkn : k + n ≤ cells.length + n := by
                have h5 : k * 1 ≤ k * 1 := Nat.mul_le_mul_left k hsz
                have h6 : n * 1 ≤ n * 1 := Nat.mul_le_mul_left n hsz
                omega
              have hr : roomy (k + n) by' = true := by
                exact hroom _ hkn hb.2
              rw [hcap, cond_false, hr, cond_true]
              unfold growM
              rw [goL_blk]
              refine ⟨cells, e', true, hg, ?_⟩
              simp only
              rw [goL_ld]
              refine ⟨cells, ?_, ?_⟩
              · rw [hg]
                unfold rdC
                simp only [Nat.zero_add, hcl, Nat.ble_self_eq_true, cond_true]
                rw [sub_whole hcl]
              · have he : Nat.beq e' e' = true := Nat.beq_refl e'
                rw [he, hc]
                simp only [Bool.and_self, cond_true]
                rw [goL_kill]
                refine ⟨cells, e', true, hg, ?_⟩
                rw [goL_alloc, goL_ret]
                refine ⟨?_, hK _ _ _ (.inr ⟨h.nx, k + n, hn0, Nat.lt_succ_self _, rfl, by omega, ?_, ?_⟩) ⟨Nat.le_succ _, fun j hj hne => ?_⟩ fun le hle => ?_⟩
                · rw [LogOk_cons_wrd, LogOk_cons_wrd, LogOk_cons_rdd, LogOk_cons_rd, LogOk_cons_rdd]
                  exact ⟨.inl (Nat.le_refl _), .inr (hOk b hb0), LogOk_nil⟩
                · show ((h.del b).push _).get (h.del b).nx = _
                  rw [push_get, if_pos rfl]
                · rw [List.length_append, hcl, hnl, Nat.add_mul]
                · show ((h.del b).push _).get j = _
                  rw [push_get_lt (by exact hj), del_get, if_neg (fun e => hne 0 k k (by rw [hv, e]))]
                · simp only [List.mem_cons, List.not_mem_nil, or_false] at hle
                  rcases hle with rfl | rfl | rfl | rfl | rfl
                  · exact .inl (Nat.le_refl _)
                  · exact .inr ⟨_, _, hv⟩
                  · exact .inr ⟨_, _, hv⟩
                  · exact .inr ⟨_, _, hv⟩
                  · exact .inr ⟨_, _, hv⟩
theorem append_strL {s x : Operand} {t tx : TypeId} {e bytes n0 : Nat} {cells : List V} {bs : List Nat} (hap : apI c.P t = some (e, 1, bytes)) (htx : ∃ d, c.P.underlying tx = some d ∧ isIntD d = false) (hs : Acc n0 h (evalE env s) cells e 1)
    (hx : evalE env x = .str bs) (hn : 0 < bs.length) (hroom : cells.length + bs.length ≤ 1073741824)
    (hOk : ∀ k, n0 ≤ k → Ok k) (hK : ∀ v h' L, Acc n0 h' v (cells ++ bytesV bs) e 1 → StaysBut (evalE env s) h h' → (∀ le ∈ L, h.nx ≤ blkOf le ∨ ∃ n m, evalE env s = .slice (blkOf le) 0 n m) → K v h' (.lg L)) (hn0 : n0 ≤ h.nx) : opW c Ok (.call ⟨.builtin .append, #[s, x], #[t, tx]⟩) env h K := append_strG hap htx hs hx hn (fun j hj hb => roomy_of (by omega) hb) hOk hK hn0
theorem append_strV {s x : Operand} {t tx : TypeId} {e bytes n0 : Nat} {cells : List V} {bs : List Nat} {sv : V} (hsv : evalE env s = sv) (hap : apI c.P t = some (e, 1, bytes)) (htx : ∃ d, c.P.underlying tx = some d ∧ isIntD d = false) (hs : Acc n0 h sv cells e 1)
    (hx : evalE env x = .str bs) (hn : 0 < bs.length) (hroom : cells.length + bs.length ≤ 1073741824)
    (hOk : ∀ k, n0 ≤ k → Ok k) (hK : ∀ v h' L, Acc n0 h' v (cells ++ bytesV bs) e 1 → StaysBut sv h h' → (∀ le ∈ L, h.nx ≤ blkOf le ∨ ∃ n m, sv = .slice (blkOf le) 0 n m) → K v h' (.lg L)) (hn0 : n0 ≤ h.nx) : opW c Ok (.call ⟨.builtin .append, #[s, x], #[t, tx]⟩) env h K := by
  subst hsv
  exact append_strL hap htx hs hx hn hroom hOk hK hn0
theorem apart_w {a b : List LE} (h : ∀ x ∈ a, ∀ y ∈ b, x.isW = true ∨ y.isW = true → blkOf x ≠ blkOf y) : fpApart (.lg a) (.lg b) :=
  ⟨hitsL_of_ne fun x hx y hy hw => h x hx y hy (.inl hw), hitsL_of_ne fun x hx y hy hw e => h y hy x hx (.inr hw) e.symm⟩
theorem apart_blk {a b : List LE} (h : ∀ x ∈ a, ∀ y ∈ b, blkOf x ≠ blkOf y) : fpApart (.lg a) (.lg b) :=
  ⟨hitsL_of_ne fun x hx y hy _ => h x hx y hy, hitsL_of_ne fun x hx y hy _ e => h y hy x hx e.symm⟩
theorem Acc.mono {n0 n1 e sz : Nat} {v : V} {cells : List V} (ha : Acc n1 h v cells e sz) (hn : n0 ≤ n1) : Acc n0 h v cells e sz := by
  rcases ha with ⟨a, b⟩ | ⟨b, n, h0, h1, e1, hn', hg, hl⟩
  · exact .inl ⟨a, b⟩
  · exact .inr ⟨b, n, Nat.le_trans hn h0, h1, e1, hn', hg, hl⟩
theorem Acc.blk {n0 e sz b o n m : Nat} {v : V} {cells : List V} (ha : Acc n0 h v cells e sz) (hv : v = .slice b o n m) : n0 ≤ b ∧ b < h.nx := by
  rcases ha with ⟨a, _⟩ | ⟨b', n', h0, h1, e1, hn', hg, hl⟩
  · rw [a] at hv; cases hv
  · rw [e1] at hv; cases hv; exact ⟨h0, h1⟩
end
end Go.Wx

/-
  Rewriting where blocks are told apart by their numbers' order; a list that grows by what was just built.
-/
set_option linter.unusedSimpArgs false
set_option linter.unusedVariables false
set_option linter.defProp false
namespace Go.Wx
open Go.Lx
noncomputable section

theorem push_eq {h : H} {o : Ob} {k : Nat} (hk : k = h.nx) : (h.push o).get k = some o := by rw [push_get, if_pos hk]
theorem push_ne {h : H} {o : Ob} {k : Nat} (hk : ¬ k = h.nx) : (h.push o).get k = h.get k := by rw [push_get, if_neg hk]
theorem put_eq {h : H} {o : Ob} {j k : Nat} (hk : k = j) : (h.put j o).get k = some o := by rw [put_get, if_pos hk]
theorem put_ne {h : H} {o : Ob} {j k : Nat} (hk : ¬ k = j) : (h.put j o).get k = h.get k := by rw [put_get, if_neg hk]
theorem del_ne {h : H} {j k : Nat} (hk : ¬ k = j) : (h.del j).get k = h.get k := by rw [del_get, if_neg hk]
noncomputable def wpyr := And.intro @run_skip <| And.intro @run_label <| And.intro @run_seq <| And.intro @run_block <| And.intro @run_exit <| And.intro @run_ret <| And.intro @run_region <| And.intro @run_regionA <| And.intro @run_region0 <| And.intro @run_draw <| And.intro @kont_nil <| And.intro @kont_seq <| And.intro @kont_seq_exit <| And.intro @kont_seq_ret <| And.intro @kont_blk <| And.intro @kont_blk_ret <| And.intro @kont_blk_exit <| And.intro @kont_lp <| And.intro @kont_lp_exit <| And.intro @kont_lp_ret <| And.intro @runOps_nil <| And.intro @runOps_cons <| And.intro @runOps_guard <| And.intro @kOps_def <| And.intro @runD_nil <| And.intro @runD_cons <| And.intro @runD_guard <| And.intro @kOpsD_def <| And.intro @putE_some <| And.intro @putE_none <| And.intro @upd_app <| And.intro @evalE_tmp <| And.intro @evalE_func <| And.intro @evalE_global <| And.intro @evalE_int <| And.intro @evalE_true <| And.intro @evalE_false <| And.intro @evalE_str <| And.intro @evalE_nilslice <| And.intro @evalE_nilptr <| And.intro @evalE_nilmap <| And.intro @evalE_nilfunc <| And.intro @slotV_def <| And.intro @slotL_zero <| And.intro @slotL_succ <| And.intro @condW_bo <| And.intro @condW_bool <| And.intro @guardOk_bo <| And.intro @guardOk_gv <| And.intro @guardOk_bool <| And.intro @guardP_true <| And.intro @guardP_false <| And.intro @guardP_bool <| And.intro @guardP_gv <| And.intro @guardOk_undef <| And.intro @guardP_undef <| And.intro @gv_true <| And.intro @gv_false <| And.intro @imp_true_l <| And.intro @imp_true_r <| And.intro @imp_false_l <| And.intro @imp_and <| And.intro @pk_bo_true <| And.intro @pk_bo_false <| And.intro @pk_same <| And.intro @pk_true <| And.intro @pk_false <| And.intro @glog_nil <| And.intro @glog_true <| And.intro @optP_def <| And.intro @gOpIf_def <| And.intro @okO_some <| And.intro @okO_none <| And.intro @getO_some <| And.intro @okO_ite <| And.intro @opW_move <| And.intro @opW_assign <| And.intro @gOp_move <| And.intro @opW_binOp <| And.intro @gOp_binOp <| And.intro @opW_unOp <| And.intro @gOp_unOp <| And.intro @isBo_bo <| And.intro @isBo_bool <| And.intro @pickV_bo <| And.intro @pickV_bool <| And.intro @opW_pick <| And.intro @gOp_pick <| And.intro @opW_extract <| And.intro @gOp_extract <| And.intro @extV_zero <| And.intro @extV_succ <| And.intro @opW_field <| And.intro @opW_fieldAddr <| And.intro @opW_indexAddr <| And.intro @opW_build <| And.intro @opW_nilCheck <| And.intro @opW_makeInterface <| And.intro @opW_makeFunc <| And.intro @gOp_field <| And.intro @gOp_fieldAddr <| And.intro @gOp_indexAddr <| And.intro @gOp_build <| And.intro @gOp_nilCheck <| And.intro @push_nx <| And.intro @put_nx <| And.intro @del_nx <| And.intro @push_eq <| And.intro @push_ne <| And.intro @put_eq <| And.intro @put_ne <| And.intro @del_ne <| And.intro @heap_get <| And.intro @alW_some <| And.intro @opW_alloc <| And.intro @opW_box <| And.intro @bsW_some <| And.intro @opW_buildSlice <| And.intro @ldV_ptr <| And.intro @ldV_gptr <| And.intro @opW_load <| And.intro @gOp_load <| And.intro @rdV_one <| And.intro @rdV_one_ro <| And.intro @rdV_agg_ro <| And.intro @rdV_agg <| And.intro @stB_cells <| And.intro @stW_ptr <| And.intro @opW_store <| And.intro @opW_call <| And.intro @callK_func <| And.intro @opW_callF_guard <| And.intro @gCall_true <| And.intro @gCall_false <| And.intro @fresh_def <| And.intro @nil1_def <| And.intro @bin_add <| And.intro @bin_sub <| And.intro @bin_mul <| And.intro @bin_quo <| And.intro @bin_rem <| And.intro @bin_or <| And.intro @bin_and <| And.intro @bin_xor <| And.intro @bin_andNot <| And.intro @bin_shl <| And.intro @bin_shr <| And.intro @bin_eql <| And.intro @bin_neq <| And.intro @bin_lss <| And.intro @bin_leq <| And.intro @bin_gtr <| And.intro @bin_geq <| And.intro @str_eql <| And.intro @str_neq <| And.intro @str_lss <| And.intro @str_add <| And.intro @un_not <| And.intro @un_not_bool <| And.intro @un_neg <| And.intro @un_xor <| And.intro @cells_int <| And.intro @cells_str <| And.intro @cells_bo <| And.intro @cells_bool <| And.intro @cells_ptr <| And.intro @cells_gptr <| And.intro @cells_nilptr <| And.intro @cells_slice <| And.intro @cells_nilslice <| And.intro @cells_map <| And.intro @cells_nilmap <| And.intro @cells_func <| And.intro @cells_agg <| And.intro @isCell_int <| And.intro @isCell_str <| And.intro @isCell_bo <| And.intro @isCell_bool <| And.intro @isCell_ptr <| And.intro @isCell_gptr <| And.intro @isCell_nilptr <| And.intro @isCell_slice <| And.intro @isCell_nilslice <| And.intro @isCell_map <| And.intro @isCell_nilmap <| And.intro @isCell_func <| And.intro @listPut_nil <| And.intro @listPut_zero <| And.intro @listPut_succ <| And.intro @idxOk_str <| And.intro @idxT_str <| And.intro @opW_idx <| And.intro @gOp_idx <| And.intro @lenO_str <| And.intro @lenO_nil <| And.intro @lenO_slice <| And.intro @opW_len <| And.intro @gOp_len <| And.intro @slOk_00 <| And.intro @slOk_10 <| And.intro @slOk_01 <| And.intro @slOk_11 <| And.intro @slT_00 <| And.intro @slT_10 <| And.intro @slT_01 <| And.intro @slT_11 <| And.intro @opW_slice_str <| And.intro @gOp_slice_str <| And.intro @cvO_int <| And.intro @opW_conv_int <| And.intro @gOp_conv_int <| And.intro @boolT <| And.intro @boolF <| And.intro @LogOk_cons_wrd <| And.intro @LogOk_cons_wr <| And.intro @LogOk_cons_rd <| And.intro @LogOk_cons_rdd <| And.intro @LogOk_nil' <| And.intro @argE_def <| And.intro @argE'_nil <| And.intro @argE'_cons <| And.intro @endQ_ret <| And.intro @endQ_normal <| And.intro @resW_some <| And.intro @resV_nil <| And.intro @resV_tmp <| And.intro @resV_cell <| And.intro @oneOf_one <| And.intro @oneOf_two <| And.intro @oneOf_three <| And.intro @at_P <| @resC_ptr
noncomputable def wpy := And.intro @run_cond <| @wpyr

variable {c : Cfg} {Ok : Nat → Prop} {env : Env} {h : H} {K : V → H → Fp → Prop}
theorem Ext.new (h : H) (o o' : Ob) : Ext h ((h.push o).put h.nx o') := ((Ext.refl h).push o).put (Nat.le_refl _) o'
theorem Acc.ext {n0 e sz : Nat} {v : V} {cells : List V} {h' : H} (ha : Acc n0 h v cells e sz) (hx : Ext h h') : Acc n0 h' v cells e sz := ha.stay hx.1 fun k _ hk => hx.2 k hk
theorem Acc.keep {n0 n1 e sz : Nat} {v : V} {cells : List V} {h' : H} (ha : Acc n0 h v cells e sz) (hn : h.nx ≤ h'.nx) (hb : h.nx ≤ n1) (hs : ∀ k, k < n1 → h'.get k = h.get k) : Acc n0 h' v cells e sz := ha.stay hn fun k _ hk => hs k (by omega)

end
end Go.Wx

/-
  Maps, looked into and written; append to a list without room, append of nothing.
-/
set_option linter.unusedSimpArgs false
set_option linter.unusedVariables false
set_option linter.defProp false
namespace Go.Wx
open Go.Lx
noncomputable section

variable {c : Cfg} {Ok : Nat → Prop} {env : Env} {h : H} {K : V → H → Fp → Prop}
def mapI (P : Program) (t : TypeId) : Option (TypeDesc × V) := match P.underlying t with
  | some (.map key elem) => match P.underlying key, zeroT P elem with
    | some d, some z => some (d, z)
    | _, _ => none
  | _ => none
theorem mapI_inv {P : Program} {t : TypeId} {d : TypeDesc} {z : V} (h : mapI P t = some (d, z)) : ∃ key elem, P.underlying t = some (.map key elem) ∧ P.underlying key = some d ∧ zeroT P elem = some z := by
  unfold mapI at h
  cases hu : P.underlying t with
  | none => rw [hu] at h; cases h
  | some x =>
    rw [hu] at h
    cases x <;> try (cases h; done)
    rename_i key elem
    simp only at h
    cases h1 : P.underlying key with
    | none => rw [h1] at h; cases h
    | some d' =>
      cases h2 : zeroT P elem with
      | none => rw [h1, h2] at h; cases h
      | some z' => rw [h1, h2] at h; cases h; exact ⟨key, elem, rfl, h1, h2⟩
def lkV (ok : Bool) (z : V) : Option (Nat × V) → V
  | some (_, v) => bif ok then .tuple [v, .bool true] else v
  | none => bif ok then .tuple [z, .bool false] else z
theorem goL_lookup {t : TypeId} {k : V} {ok : Bool} {d : TypeDesc} {z : V} {es : List ME} {clock r n0 : Nat} {lg : List LE} {q : Option (Nat × V)} (hm : mapI c.P t = some (d, z)) (hk : keyOk d k = true) (hg : h.get r = some (.map es clock)) (hf : findV d k es 0 = some q) :
    goL n0 Ok (lookupM c.P t (.map r) k ok) h lg K = (LogOk Ok n0 lg ∧ K (lkV ok z q) h (.lg (.rdd r :: lg))) := by
  obtain ⟨key, elem, h1, h2, h3⟩ := mapI_inv hm
  have hg' : h.heap.get r = some (.map es clock) := hg
  have hrun : lookupM c.P t (.map r) k ok ⟨h.heap, h.nx, lg⟩ = .ok (lkV ok z q) ⟨h.heap, h.nx, .rdd r :: lg⟩ := by
    unfold lookupM
    rw [h1]
    simp only [h2, h3, hk, cond_true]
    have e : entriesOf (.map r) = bnd (Lx.getO r) fun o => match o with
      | .map es _ => Lx.ret es
      | _ => Lx.err "entries" := rfl
    rw [e]
    unfold Lx.bnd Lx.getO
    simp only [hg', Ob.isCells, cond_false, Lx.ret, hf]
    cases q with
    | none => rfl
    | some p => rfl
  unfold goL
  rw [hrun]
  show (LogOk Ok n0 (.rdd r :: lg) ∧ _) = _
  rw [LogOk_cons_rdd]
  rfl
theorem lookup_by {t : TypeId} {x i : Operand} {ok : Bool} {d : TypeDesc} {z k : V} {es : List ME} {clock r : Nat} {q : Option (Nat × V)} (hx : evalE env x = .map r) (hi : evalE env i = k) (hm : mapI c.P t = some (d, z)) (hk : keyOk d k = true) (hg : h.get r = some (.map es clock)) (hf : findV d k es 0 = some q)
    (hK : K (lkV ok z q) h (.lg [.rdd r])) : opW c Ok (.lookup t x i ok) env h K := by
  rw [opW_lookup, hx, hi, goL_lookup hm hk hg hf]
  exact ⟨LogOk_nil, hK⟩
theorem update_new {t : TypeId} {m k x : Operand} {d : TypeDesc} {z kv xv : V} {es : List ME} {clock r : Nat} (hx : evalE env m = .map r) (hi : evalE env k = kv) (hv : evalE env x = xv) (hm : mapI c.P t = some (d, z)) (hk : keyOk d kv = true) (hg : h.get r = some (.map es clock)) (hf : findV d kv es 0 = some none) (hOk : h.nx ≤ r ∨ Ok r)
    (hK : K undefV (h.put r (.map (es ++ [⟨kv, xv, clock⟩]) (clock + 1))) (.lg [.wrd r, .rdd r, .rdd r])) : opW c Ok (.mapUpdate t m k x) env h K := by
  obtain ⟨key, elem, h1, h2, h3⟩ := mapI_inv hm
  rw [opW_mapUpdate, hx, hi, hv]
  unfold mapUpdateM
  rw [h1]
  simp only [h2, hk, cond_true]
  rw [goL_getO]
  refine ⟨_, hg, rfl, ?_⟩
  simp only [hf]
  rw [goL_setO]
  refine ⟨_, hg, rfl, rfl, ?_⟩
  rw [goL_ret, LogOk_cons_wrd, LogOk_cons_rdd, LogOk_cons_rdd]
  exact ⟨⟨hOk, LogOk_nil⟩, hK⟩
theorem opW_makeMap0 (t : TypeId) : opW c Ok (.makeMap t none) env h K = K (.map h.nx) (h.push (.map [] 0)) (.lg [.wrd h.nx]) := by
  rw [opW_makeMap]
  show goL h.nx Ok (Lx.bnd (Lx.alloc (.map [] 0)) fun k => Lx.ret (.map k)) h [] K = _
  rw [goL_alloc, goL_ret, LogOk_cons_wrd]
  refine propext ⟨fun q => q.2, fun q => ⟨⟨.inl (Nat.le_refl _), LogOk_nil⟩, q⟩⟩

theorem apI_inv {P : Program} {t : TypeId} {e sz bytes : Nat} (hap : apI P t = some (e, sz, bytes)) : ∃ z, P.underlying t = some (.slice e) ∧ szT P e = some sz ∧ zeroT P e = some z ∧ (P.info? e).map (·.bytes) = some bytes ∧ Nat.beq z.cells.length sz = true ∧ Nat.ble bytes 65536 = true := by
  unfold apI at hap
  cases hu : P.underlying t with
  | none => rw [hu] at hap; cases hap
  | some d =>
    rw [hu] at hap
    cases d <;> try (cases hap; done)
    rename_i e'
    simp only at hap
    cases h1 : szT P e' with
    | none => rw [h1] at hap; cases hap
    | some sz' =>
      cases h2 : zeroT P e' with
      | none => rw [h1, h2] at hap; cases hap
      | some z =>
        cases h3 : (P.info? e').map (·.bytes) with
        | none => rw [h1, h2, h3] at hap; cases hap
        | some by' =>
          rw [h1, h2, h3] at hap
          simp only at hap
          cases hb : (Nat.beq z.cells.length sz' && Nat.ble by' 65536) with
          | false => rw [hb] at hap; cases hap
          | true =>
            rw [hb, cond_true] at hap
            simp only [Option.some.injEq, Prod.mk.injEq] at hap
            obtain ⟨rfl, rfl, rfl⟩ := hap
            simp only [Bool.and_eq_true] at hb
            exact ⟨z, rfl, h1, h2, h3, hb.1, hb.2⟩
theorem opW_append_slice {s x : Operand} {t tx : TypeId} {e sz bytes b2 o2 n m : Nat} (hap : apI c.P t = some (e, sz, bytes)) (htx : ∃ d, c.P.underlying tx = some d ∧ isIntD d = false) (hx : evalE env x = .slice b2 o2 n m) :
    opW c Ok (.call ⟨.builtin .append, #[s, x], #[t, tx]⟩) env h K = goL h.nx Ok (Lx.bnd (Lx.ld b2 o2 (n * sz)) fun cs => appendCore e sz bytes (evalE env s) cs n) h [] K := by
  obtain ⟨dx, htx, hdi⟩ := htx
  obtain ⟨z, hu, h1, h2, h3, hb1, hb2⟩ := apI_inv hap
  rw [opW_builtin]
  have e1 : builtinM c.P .append #[t, tx] (List.map (evalE env) [s, x]) = bnd (takenM sz (evalE env x)) fun p => appendCore e sz bytes (evalE env s) p.1 p.2 := by
    show appendM c.P t tx (evalE env s) (evalE env x) = _
    unfold appendM
    rw [hu, htx]
    simp only [h1, h2, h3, hb1, cond_true, hdi, cond_false]
  show goL h.nx Ok (builtinM c.P .append #[t, tx] (List.map (evalE env) [s, x])) h [] K = _
  rw [e1, hx]
  have e2 : (bnd (takenM sz (V.slice b2 o2 n m)) fun p => appendCore e sz bytes (evalE env s) p.1 p.2) = bnd (Lx.ld b2 o2 (n * sz)) fun cs => appendCore e sz bytes (evalE env s) cs n := by
    funext st
    show Lx.bnd (Lx.bnd (Lx.ld b2 o2 (n * sz)) fun cs => Lx.ret (cs, n)) _ st = _
    unfold Lx.bnd
    cases Lx.ld b2 o2 (n * sz) st <;> rfl
  rw [e2]
theorem append_zero {s x : Operand} {t tx : TypeId} {e sz bytes b2 o2 m : Nat} {sv : V} {cs : List V} (hsv : evalE env s = sv) (hss : sv = .nilslice ∨ ∃ b o n m, sv = .slice b o n m) (hap : apI c.P t = some (e, sz, bytes)) (htx : ∃ d, c.P.underlying tx = some d ∧ isIntD d = false) (hx : evalE env x = .slice b2 o2 0 m)
    (hr : rdC (h.get b2) o2 0 = some cs) (hK : K sv h (.lg [.rd b2 o2 0])) : opW c Ok (.call ⟨.builtin .append, #[s, x], #[t, tx]⟩) env h K := by
  rw [opW_append_slice hap htx hx, goL_ld, hsv]
  refine ⟨cs, by rw [Nat.zero_mul]; exact hr, ?_⟩
  rcases hss with rfl | ⟨b, o, n, m, rfl⟩
  · show goL h.nx Ok (Lx.ret _) h _ K
    rw [goL_ret, LogOk_cons_rd, Nat.zero_mul]
    exact ⟨LogOk_nil, hK⟩
  · show goL h.nx Ok (Lx.ret _) h _ K
    rw [goL_ret, LogOk_cons_rd, Nat.zero_mul]
    exact ⟨LogOk_nil, hK⟩
theorem append_empty {s x : Operand} {t tx : TypeId} {e e2 sz bytes b o b2 o2 n m : Nat} {old new : List V} (hsv : evalE env s = .slice b o 0 0) (hb : h.get b = some (.cells old e2 false)) (ho : o ≤ old.length) (hap : apI c.P t = some (e, sz, bytes)) (htx : ∃ d, c.P.underlying tx = some d ∧ isIntD d = false) (hx : evalE env x = .slice b2 o2 n m) (hn : 0 < n)
    (hr : rdC (h.get b2) o2 (n * sz) = some new) (hroom : n ≤ 1073741824) (hK : ∀ L, (∀ le ∈ L, blkOf le = b ∨ (blkOf le = b2 ∧ le.isW = false) ∨ blkOf le = h.nx) → K (.slice h.nx 0 n n) (h.push (.cells new e true)) (.lg L)) : opW c Ok (.call ⟨.builtin .append, #[s, x], #[t, tx]⟩) env h K := by
  obtain ⟨z, hu, h1, h2, h3, hb1, hb2⟩ := apI_inv hap
  rw [opW_append_slice hap htx hx, goL_ld, hsv]
  refine ⟨new, hr, ?_⟩
  have hn' : Nat.beq n 0 = false := by
    cases hb : Nat.beq n 0 with
    | false => rfl
    | true => have := Nat.eq_of_beq_eq_true hb; omega
  have hcap : Nat.ble (0 + n) 0 = false := by
    cases hb : Nat.ble (0 + n) 0 with
    | false => rfl
    | true => have := Nat.le_of_ble_eq_true hb; omega
  have hro : roomy (0 + n) bytes = true := by
    exact roomy_of (by omega) hb2
  unfold appendCore
  simp only [hn', cond_false, hcap, hro, cond_true]
  unfold growM
  rw [goL_blk]
  refine ⟨old, e2, false, hb, ?_⟩
  simp only
  rw [goL_ld]
  refine ⟨[], ?_, ?_⟩
  · rw [hb]
    unfold rdC
    have : Nat.ble (o + 0 * sz) old.length = true := ble_iff.2 (by rw [Nat.zero_mul]; omega)
    simp only [this, cond_true]
    simp [sub]
  · simp only [cond_false]
    rw [goL_alloc, goL_ret]
    refine ⟨?_, ?_⟩
    · rw [LogOk_cons_wrd, LogOk_cons_rd, LogOk_cons_rdd, LogOk_cons_rd]
      exact ⟨.inl (Nat.le_refl _), LogOk_nil⟩
    · rw [Nat.zero_add, List.nil_append]
      refine hK _ fun le hle => ?_
      simp only [List.mem_cons, List.not_mem_nil, or_false] at hle
      rcases hle with rfl | rfl | rfl | rfl
      · exact .inr (.inr rfl)
      · exact .inl rfl
      · exact .inl rfl
      · exact .inr (.inl ⟨rfl, rfl⟩)
end
end Go.Wx

/-
  Slices of slices; append onto an empty list, or of nothing, or of anything.
-/
set_option linter.unusedSimpArgs false
set_option linter.unusedVariables false
set_option linter.defProp false
namespace Go.Wx
open Go.Lx
noncomputable section

variable {c : Cfg} {Ok : Nat → Prop} {env : Env} {h : H} {K : V → H → Fp → Prop}

theorem slice_row {t : TypeId} {x : Operand} {lo hi : Option Operand} {e e' sz b o n m l hh mm : Nat} {fl : Bool} {kc : Nat} (hu : c.P.underlying t = some (.slice e)) (hs : szT c.P e = some sz) (hx : evalE env x = .slice b o n m) (hb : blkSO (h.get b) = some (kc, e', fl)) (hfl : fl = true → e' = e)
    (hbd : boundsV (lo.map (evalE env)) (hi.map (evalE env)) none n m = some (l, hh, mm)) (hle : hh ≤ m) (hK : K (.slice b (o + l * sz) (hh - l) (mm - l)) h (.lg [.rdd b])) : opW c Ok (.slice t x lo hi none) env h K := by
  have e0 : opM c.P c.gl noCall (evalE env) (.slice t x lo hi none) = sliceM c.P t (evalE env x) (lo.map (evalE env)) (hi.map (evalE env)) none := rfl
  rw [opW_goL (nc trivial) e0, hx]
  unfold sliceM
  rw [hu]
  simp only [hbd, hs, ble_iff.2 hle, cond_true]
  rw [goL_blkS]
  refine ⟨(kc, e', fl), hb, ?_⟩
  have hc : (!fl || (szT c.P e' == some sz)) = true := by
    cases fl with
    | false => rfl
    | true => rw [hfl rfl, hs]; simp
  simp only [hc, cond_true]
  rw [goL_ret, LogOk_cons_rdd]
  exact ⟨LogOk_nil, hK⟩
theorem inI_nat {a n : Nat} (h : a ≤ n) : inI (a : Int) n = true := inI_iff.2 ⟨Int.natCast_nonneg a, by omega⟩
theorem bounds_hi {b len cap : Nat} (h1 : b ≤ cap) : boundsV none (some (.int .i64 (b : Int))) none len cap = some (0, b, cap) := by
  simp [boundsV, boundO, inI_nat h1]
theorem bounds_lo {a len cap : Nat} (h1 : a ≤ len) (h2 : len ≤ cap) : boundsV (some (.int .i64 (a : Int))) none none len cap = some (a, len, cap) := by
  simp [boundsV, boundO, inI_nat h1]
def Lst (n0 : Nat) (h : H) (v : V) (cells : List V) (e sz : Nat) : Prop := Acc n0 h v cells e sz ∨ (cells = [] ∧ ∃ b, n0 ≤ b ∧ b < h.nx ∧ v = .slice b 0 0 0 ∧ h.get b = some (.cells [] e false))
def Src (h : H) (v : V) (new : List V) (sz : Nat) : Prop := (v = .nilslice ∧ new = []) ∨ ∃ b o n m, v = .slice b o n m ∧ b < h.nx ∧ rdC (h.get b) o (n * sz) = some new ∧ new.length = n * sz
theorem Lst.ext {n0 e sz : Nat} {v : V} {cells : List V} {h h' : H} (ha : Lst n0 h v cells e sz) (hx : Ext h h') : Lst n0 h' v cells e sz := by
  rcases ha with ha | ⟨h1, b, h2, h3, h4, h5⟩
  · exact .inl (ha.ext hx)
  · exact .inr ⟨h1, b, h2, Nat.lt_of_lt_of_le h3 hx.1, h4, by rw [hx.2 b h3]; exact h5⟩
theorem Src.ext {sz : Nat} {v : V} {new : List V} {h h' : H} (ha : Src h v new sz) (hx : Ext h h') : Src h' v new sz := by
  rcases ha with ha | ⟨b, o, n, m, h1, h2, h3, h4⟩
  · exact .inl ha
  · exact .inr ⟨b, o, n, m, h1, Nat.lt_of_lt_of_le h2 hx.1, by rw [hx.2 b h2]; exact h3, h4⟩
theorem Src.keep {sz k0 : Nat} {v : V} {new : List V} {h h' : H} (ha : Src h v new sz) (hn : h.nx ≤ h'.nx) (hk : ∀ k, k < k0 → h'.get k = h.get k) (hv : ∀ b o n m, v = .slice b o n m → b < k0) : Src h' v new sz := by
  rcases ha with ha | ⟨b, o, n, m, h1, h2, h3, h4⟩
  · exact .inl ha
  · exact .inr ⟨b, o, n, m, h1, Nat.lt_of_lt_of_le h2 hn, by rw [hk b (hv _ _ _ _ h1)]; exact h3, h4⟩
theorem append_nilsrc {s x : Operand} {t tx : TypeId} {e sz bytes : Nat} {sv : V} (hsv : evalE env s = sv) (hss : sv = .nilslice ∨ ∃ b o n m, sv = .slice b o n m) (hap : apI c.P t = some (e, sz, bytes)) (htx : ∃ d, c.P.underlying tx = some d ∧ isIntD d = false) (hx : evalE env x = .nilslice)
    (hK : K sv h (.lg [])) : opW c Ok (.call ⟨.builtin .append, #[s, x], #[t, tx]⟩) env h K := by
  obtain ⟨dx, htx, hdi⟩ := htx
  obtain ⟨z, hu, h1, h2, h3, hb1, hb2⟩ := apI_inv hap
  rw [opW_builtin]
  have e1 : builtinM c.P .append #[t, tx] (List.map (evalE env) [s, x]) = bnd (takenM sz (evalE env x)) fun p => appendCore e sz bytes (evalE env s) p.1 p.2 := by
    show appendM c.P t tx (evalE env s) (evalE env x) = _
    unfold appendM
    rw [hu, htx]
    simp only [h1, h2, h3, hb1, cond_true, hdi, cond_false]
  show goL h.nx Ok (builtinM c.P .append #[t, tx] (List.map (evalE env) [s, x])) h [] K
  rw [e1, hx, hsv]
  rcases hss with rfl | ⟨b, o, n, m, rfl⟩
  · show goL h.nx Ok (Lx.ret _) h [] K
    rw [goL_ret]
    exact ⟨LogOk_nil, hK⟩
  · show goL h.nx Ok (Lx.ret _) h [] K
    rw [goL_ret]
    exact ⟨LogOk_nil, hK⟩
theorem append_lst {s x : Operand} {t tx : TypeId} {e sz bytes n0 : Nat} {cells new : List V} {sv xv : V} (hsv : evalE env s = sv) (hxv : evalE env x = xv) (hap : apI c.P t = some (e, sz, bytes)) (htx : ∃ d, c.P.underlying tx = some d ∧ isIntD d = false) (hs : Lst n0 h sv cells e sz)
    (hx : Src h xv new sz) (hc : new.all V.isCell = true) (hroom : cells.length + new.length ≤ 1073741824) (hsz : 0 < sz)
    (hOk : ∀ k, n0 ≤ k → Ok k) (hn0 : n0 ≤ h.nx) (hK : ∀ v h' L, Lst n0 h' v (cells ++ new) e sz → h.nx ≤ h'.nx → (∀ k, k < h.nx → (∀ o n m, sv ≠ .slice k o n m) → h'.get k = h.get k) → (∀ k, k < n0 → h'.get k = h.get k) → (∀ le ∈ L, ((∃ o n m, xv = .slice (blkOf le) o n m) ∧ le.isW = false) ∨ (h.nx ≤ blkOf le ∧ blkOf le < h'.nx) ∨ ∃ o n m, sv = .slice (blkOf le) o n m) → K v h' (.lg L)) : opW c Ok (.call ⟨.builtin .append, #[s, x], #[t, tx]⟩) env h K := by
  have hform : sv = .nilslice ∨ ∃ b o n m, sv = .slice b o n m := by
    rcases hs with (⟨rfl, _⟩ | ⟨b, n, _, _, rfl, _⟩) | ⟨_, b, _, _, rfl, _⟩
    · exact .inl rfl
    · exact .inr ⟨_, _, _, _, rfl⟩
    · exact .inr ⟨_, _, _, _, rfl⟩
  rcases hx with ⟨rfl, rfl⟩ | ⟨b2, o2, n, m, rfl, hb2, hr, hl⟩
  · refine append_nilsrc hsv hform hap htx hxv (hK _ _ _ (by rw [List.append_nil]; exact hs) (Nat.le_refl _) (fun _ _ _ => rfl) (fun _ _ => rfl) fun le hle => by cases hle)
  · rcases Nat.eq_zero_or_pos n with rfl | hn
    · have hn0 : new = [] := List.eq_nil_of_length_eq_zero (by omega)
      subst hn0
      rw [Nat.zero_mul] at hr
      refine append_zero hsv hform hap htx hxv hr (hK _ _ _ (by rw [List.append_nil]; exact hs) (Nat.le_refl _) (fun _ _ _ => rfl) (fun _ _ => rfl) fun le hle => ?_)
      rw [List.mem_singleton] at hle
      subst hle
      exact .inl ⟨⟨_, _, _, rfl⟩, rfl⟩
    · rcases hs with ha | ⟨rfl, b, hb0, hb1, rfl, hg⟩
      · refine append_accW hsv hap htx ha hxv hn hr hl hc hroom hsz hOk (fun v h' L h1 h2 h3 => hK v h' L (.inl h1) h2.1 h2.2 (fun k hk => h2.2 k (by omega) fun o n m => ha.ne hk) fun le hle => ?_) hn0
        rcases h3 le hle with q | q | ⟨n', m', q⟩
        · exact .inl ⟨⟨o2, n, m, by rw [q.1]⟩, q.2⟩
        · exact .inr (.inl q)
        · exact .inr (.inr ⟨_, _, _, q⟩)
      · refine append_empty (n := n) (m := m) hsv hg (Nat.le_refl _) hap htx hxv hn hr ?_ fun L hL => ?_
        · have : n ≤ n * sz := Nat.le_mul_of_pos_right n hsz
          simp at hroom
          omega
        · refine hK _ _ _ (.inl (.inr ⟨h.nx, n, hn0, Nat.lt_succ_self _, rfl, hn, push_eq rfl, by simpa using hl⟩)) (Nat.le_succ _) (fun k hk _ => push_ne (by omega)) (fun k hk => push_ne (by omega)) fun le hle => ?_
          rcases hL le hle with q | q | q
          · exact .inr (.inr ⟨0, 0, 0, by rw [q]⟩)
          · exact .inl ⟨⟨o2, n, m, by rw [q.1]⟩, q.2⟩
          · exact .inr (.inl ⟨by omega, by show blkOf le < h.nx + 1; omega⟩)
end
end Go.Wx

/-
  Arrays: places of one behind a pointer, of one that is a value, a slice of one; places of a list written one by one.
-/
set_option linter.unusedSimpArgs false
set_option linter.unusedVariables false
namespace Go.Wx
open Go.Lx
noncomputable section

variable {c : Cfg} {Ok : Nat → Prop} {env : Env} {h : H} {K : V → H → Fp → Prop}
end
end Go.Wx

/-
  Maps with int keys: how many there are, deletes; a map's entries as a list of keys and values.
-/
set_option linter.unusedSimpArgs false
set_option linter.unusedVariables false
set_option linter.unusedSectionVars false
set_option linter.defProp false
namespace Go.Wx
open Go.Lx
noncomputable section
variable {c : Cfg} {Ok : Nat → Prop} {env : Env} {h : H} {K : V → H → Fp → Prop}
structure IE where
  key : Int
  val : V
  born : Nat
end
end Go.Wx

/-
  Slices of bytes that are read: index, the rest, a part, as a text.
-/
set_option linter.unusedSimpArgs false
set_option linter.unusedVariables false
set_option linter.defProp false
namespace Go.Wx
open Go.Lx
noncomputable section

theorem sub_sub {c : List V} {o n i j : Nat} (h : i + j ≤ n) : sub c (o + i) j = ((sub c o n).drop i).take j := by
  unfold sub
  rw [List.drop_take, List.take_take, List.drop_drop, Nat.min_eq_left (by omega)]
theorem rdC_sub {ob : Option Ob} {o n i j : Nat} {cs : List V} (h : rdC ob o n = some cs) (hij : i + j ≤ n) : rdC ob (o + i) j = some ((cs.drop i).take j) := by
  unfold rdC at h ⊢
  cases ob with
  | none => cases h
  | some b =>
    cases b with
    | cells c e p =>
      simp only at h ⊢
      cases hb : Nat.ble (o + n) c.length with
      | false => rw [hb] at h; cases h
      | true =>
        rw [hb, cond_true] at h
        have hl := Nat.le_of_ble_eq_true hb
        rw [ble_iff.2 (by omega : o + i + j ≤ c.length), cond_true, sub_sub hij]
        cases h; rfl
    | ro c =>
      simp only at h ⊢
      cases hb : Nat.ble (o + n) c.length with
      | false => rw [hb] at h; cases h
      | true =>
        rw [hb, cond_true] at h
        have hl := Nat.le_of_ble_eq_true hb
        rw [ble_iff.2 (by omega : o + i + j ≤ c.length), cond_true, sub_sub hij]
        cases h; rfl
    | map es clock => cases h
    | siter s pos => cases h
    | miter m since seen last => cases h
def BS (e : TypeId) (h : H) (v : V) (l : List Nat) : Prop := (∀ x ∈ l, x < 256) ∧ ((v = .nilslice ∧ l = []) ∨ ∃ b o m, v = .slice b o l.length m ∧ b < h.nx ∧ l.length ≤ m ∧ rdC (h.get b) o l.length = some (bytesV l) ∧ ∀ kc e' fl, blkSO (h.get b) = some (kc, e', fl) → fl = true → e' = e)
variable {e : TypeId} {h : H} {v : V} {l : List Nat}
theorem BS.nil (e : TypeId) (h : H) : BS e h .nilslice [] := ⟨fun _ q => by simp at q, .inl ⟨rfl, rfl⟩⟩
theorem BS.cell (a : BS e h v l) : v.cells = [v] ∧ v.isCell = true := by
  rcases a.2 with ⟨rfl, _⟩ | ⟨b, o, m, rfl, _⟩ <;> exact ⟨rfl, rfl⟩
theorem BS.len (a : BS e h v l) (t : TypeId) : lenO (some (.slice t)) v = some (.int .i64 l.length) := by
  rcases a.2 with ⟨rfl, rfl⟩ | ⟨b, o, m, rfl, _⟩ <;> rfl
def Off (v : V) (k : Nat) : Prop := ∀ o n m, v ≠ .slice k o n m
theorem BS.keep {h' : H} (a : BS e h v l) (hn : h.nx ≤ h'.nx) (hk : ∀ k, k < h.nx → (∃ o n m, v = .slice k o n m) → h'.get k = h.get k) : BS e h' v l := by
  refine ⟨a.1, ?_⟩
  rcases a.2 with q | ⟨b, o, m, rfl, h1, h2, h3, h4⟩
  · exact .inl q
  · have hg := hk b h1 ⟨_, _, _, rfl⟩
    exact .inr ⟨b, o, m, rfl, Nat.lt_of_lt_of_le h1 hn, h2, by rw [hg]; exact h3, by rw [hg]; exact h4⟩
theorem BS.ext {h' : H} (a : BS e h v l) (hx : Ext h h') : BS e h' v l := a.keep hx.1 fun k hk _ => hx.2 k hk
theorem BS.blk {k o n m : Nat} (a : BS e h v l) (hv : v = .slice k o n m) : k < h.nx := by
  rcases a.2 with ⟨rfl, _⟩ | ⟨b, o', m', rfl, h1, _⟩
  · cases hv
  · cases hv; exact h1
theorem BS.off {k : Nat} (a : BS e h v l) (hk : h.nx ≤ k) : Off v k := fun o n m q => by have := a.blk q; omega
theorem BS.put {k : Nat} {ob : Ob} (a : BS e h v l) (hk : Off v k) : BS e (h.put k ob) v l := a.keep (Nat.le_refl _) fun j hj ⟨o, n, m, q⟩ => put_ne fun e => hk o n m (by rw [← e]; exact q)
theorem BS.at (a : BS e h v l) {i : Nat} (hi : i < l.length) : ∃ b o m, v = .slice b o l.length m ∧ b < h.nx ∧ rdV (some (1, false)) (h.get b) (o + i) = some (.int .u8 ((l.getD i 0 : Nat) : Int)) := by
  rcases a.2 with ⟨rfl, rfl⟩ | ⟨b, o, m, rfl, h1, h2, h3, h4⟩
  · simp at hi
  · refine ⟨b, o, m, rfl, h1, ?_⟩
    show oneV (rdC (h.get b) (o + i) 1) = _
    rw [rdC_sub h3 (by omega : i + 1 ≤ l.length)]
    have hl : i < (bytesV l).length := by rw [bytesV_length]; exact hi
    rw [List.drop_eq_getElem_cons hl]
    have : (bytesV l)[i] = .int .u8 ((l[i] : Nat) : Int) := by simp [bytesV]
    rw [this, List.getD_eq_getElem?_getD, List.getElem?_eq_getElem hi]
    rfl
theorem BS.str (a : BS e h v l) : ∃ L, (∀ le ∈ L, le.isW = false ∧ ∃ o n m, v = .slice (blkOf le) o n m) ∧ ∀ (c : Cfg) (Ok : Nat → Prop) (s t : TypeId) (K : V → H → Fp → Prop), cvBS c Ok s t v h K = K (.str l) h (.lg L) := by
  rcases a.2 with ⟨rfl, rfl⟩ | ⟨b, o, m, rfl, h1, h2, h3, h4⟩
  · exact ⟨[], fun _ q => by simp at q, fun _ _ _ _ _ => rfl⟩
  · refine ⟨[.rd b o l.length], fun le q => ?_, fun c Ok s t K => ?_⟩
    · rw [List.mem_singleton] at q; subst q; exact ⟨rfl, _, _, _, rfl⟩
    · rw [cvBS_slice]
      have : rdN (h.get b) o l.length = some l := by
        unfold rdN
        rw [h3, Option.bind_some]
        exact natsV_bytes a.1
      rw [this]
      rfl
theorem BS.of_acc {n0 : Nat} (hb : ∀ x ∈ l, x < 256) (a : Acc n0 h v (bytesV l) e 1) : BS e h v l := by
  refine ⟨hb, ?_⟩
  rcases a with ⟨rfl, q⟩ | ⟨b, n, h0, h1, rfl, hn, hg, hl⟩
  · exact .inl ⟨rfl, List.map_eq_nil_iff.1 q⟩
  · rw [bytesV_length, Nat.mul_one] at hl
    subst hl
    refine .inr ⟨b, 0, l.length, rfl, h1, Nat.le_refl _, ?_, fun kc e' fl q hf => ?_⟩
    · rw [hg, rdC_all (bytesV_length l)]
    · rw [hg] at q; cases q; rfl
theorem BS.of_lst {n0 : Nat} (hb : ∀ x ∈ l, x < 256) (a : Lst n0 h v (bytesV l) e 1) : BS e h v l := by
  rcases a with a | ⟨q, b, h0, h1, rfl, hg⟩
  · exact BS.of_acc hb a
  · have : l = [] := List.map_eq_nil_iff.1 q
    subst this
    exact ⟨hb, .inr ⟨b, 0, 0, rfl, h1, Nat.le_refl _, by rw [hg]; rfl, fun kc e' fl q hf => by rw [hg] at q; cases q; rfl⟩⟩
theorem BS.src (a : BS e h v l) : Src h v (bytesV l) 1 := by
  rcases a.2 with ⟨rfl, rfl⟩ | ⟨b, o, m, rfl, h1, h2, h3, h4⟩
  · exact .inl ⟨rfl, rfl⟩
  · exact .inr ⟨b, o, _, m, rfl, h1, by rw [Nat.mul_one]; exact h3, by rw [Nat.mul_one, bytesV_length]⟩
theorem BS.sub_ok (a : BS e h v l) {i j : Nat} (hij : i ≤ j) (hj : j ≤ l.length) {b o m n mm : Nat} (hv : v = .slice b o n m) (hm : j - i ≤ mm) : BS e h (.slice b (o + i) (j - i) mm) ((l.take j).drop i) := by
  rcases a.2 with ⟨rfl, rfl⟩ | ⟨b', o', m', rfl, h1, h2, h3, h4⟩
  · cases hv
  · cases hv
    have hl : ((l.take j).drop i).length = j - i := by rw [List.length_drop, List.length_take, Nat.min_eq_left hj]
    refine ⟨fun x hx => a.1 x (List.mem_of_mem_take (List.mem_of_mem_drop hx)), .inr ⟨b, o + i, mm, by rw [hl], h1, by rw [hl]; exact hm, ?_, h4⟩⟩
    rw [hl, rdC_sub h3 (by omega : i + (j - i) ≤ l.length)]
    congr 1
    simp only [bytesV, ← List.map_drop, ← List.map_take, List.drop_take]
variable {c : Cfg} {Ok : Nat → Prop} {env : Env} {K : V → H → Fp → Prop}
end
end Go.Wx

/-
  Reading numbers and texts out of bytes, in plain lists; a reader in a heap.
-/
set_option linter.unusedSimpArgs false
set_option linter.unusedVariables false
set_option linter.defProp false
namespace Go.Wx
open Go.Lx
noncomputable section
def byI (l : List Nat) (n : Nat) : Int := ((l.getD n 0 : Nat) : Int)
def rdX (l : List Nat) : Nat → Int
  | 0 => 0
  | n + 1 => iOr .u64 (rdX l n) (iShl .u64 (byI l n) (8 * (n : Int)))
theorem BS.rd {e : TypeId} {h : H} {l : List Nat} {b o n m : Nat} (a : BS e h (.slice b o n m) l) : n = l.length ∧ b < h.nx ∧ ∀ i, i < l.length → rdV (some (1, false)) (h.get b) (o + i) = some (.int .u8 (byI l i)) := by
  refine ⟨?_, a.blk rfl, fun i hi => ?_⟩
  · rcases a.2 with ⟨q, _⟩ | ⟨b', o', m', q, _⟩ <;> cases q
    rfl
  · obtain ⟨b', o', m', q, _, h2⟩ := a.at hi
    cases q
    exact h2
theorem BS.form {e : TypeId} {h : H} {v : V} {l : List Nat} (a : BS e h v l) : (v = .nilslice ∧ l = []) ∨ ∃ b o m, v = .slice b o l.length m := by
  rcases a.2 with q | ⟨b, o, m, q, _⟩
  · exact .inl q
  · exact .inr ⟨b, o, m, q⟩
def iiS (b : Int) : Nat := if b = 252 then 2 else if b = 253 then 3 else 8
def iiF (l : List Nat) : Int × Nat × Int :=
  if l.length = 0 then (0, 0, 4) else if byI l 0 ≤ 250 then (byI l 0, 1, 0) else if byI l 0 = 251 ∨ byI l 0 = 255 then (0, 0, 5)
  else if l.length - 1 < iiS (byI l 0) then (0, 0, 4) else (rdX (l.drop 1) (iiS (byI l 0)), iiS (byI l 0) + 1, 0)
structure Rd where
  bs : List Nat
  e : Int
def Rd.fix (R : Rd) (n : Nat) : Int × Rd := if R.e ≠ 0 then (0, R) else if R.bs.length < n then (0, ⟨R.bs, 4⟩) else (rdX R.bs n, ⟨R.bs.drop n, 0⟩)
def Rd.cnt (R : Rd) : Int × Rd := if R.e ≠ 0 then (0, R) else ((iiF R.bs).1, ⟨R.bs.drop (iiF R.bs).2.1, (iiF R.bs).2.2⟩)
noncomputable def Rd.bad (R : Rd) (p : Prop) : Rd := @ite _ (R.e = 0 ∧ p) (Classical.propDecidable _) ⟨R.bs, 5⟩ R
def Rd.Ok (R : Rd) : Prop := ∀ x ∈ R.bs, x < 256
def Rd.byt (R : Rd) : Int × Rd := if R.e ≠ 0 then (0, R) else if R.bs.length < 1 then (0, ⟨R.bs, 4⟩) else (byI R.bs 0, ⟨R.bs.drop 1, 0⟩)
def Rd.take (R : Rd) (n : Nat) : List Nat := if (R.fix n).2.e ≠ 0 then List.replicate n 0 else R.bs.take n
def Rd.over (R : Rd) : Rd := R.bad (R.bs ≠ [])
def okS (l : List Nat) : Int × Rd :=
  let R := (Rd.mk l 0).byt
  let R4 := (R.2.bad (R.1 ≠ 0 ∧ R.1 ≠ 254)).cnt.2.cnt.2
  (IntKind.u16.wrap (R4.fix 2).1, ((R4.fix 2).2.fix 2).2)
theorem run_blk_cut {c : Cfg} {Ok : Nat → Prop} {k : List Kt} {Q : Ex → Env → H → Prop} {env : Env} {h : H} {a b : Code} {i : Nat} (R : Env → H → Prop) (h1 : run c Ok (.blk i :: .lp R :: k) a env h Q) (h2 : ∀ env' h', R env' h' → run c Ok k b env' h' Q) : run c Ok (.blk i :: .seq b :: k) a env h Q := by
  rw [← run_block]
  refine run_cut R ?_ h2
  rw [run_block]
  exact h1
def But (r : Nat) (h h' : H) : Prop := h.nx ≤ h'.nx ∧ ∀ k, k < h.nx → k ≠ r → h'.get k = h.get k
theorem But.refl (r : Nat) (h : H) : But r h h := ⟨Nat.le_refl _, fun _ _ _ => rfl⟩
theorem But.trans {r : Nat} {a b c : H} (x : But r a b) (y : But r b c) : But r a c := ⟨Nat.le_trans x.1 y.1, fun k hk hr => by rw [y.2 k (Nat.lt_of_lt_of_le hk x.1) hr, x.2 k hk hr]⟩
theorem But.put {r : Nat} {a b : H} (x : But r a b) (o : Ob) : But r a (b.put r o) := ⟨x.1, fun k hk hr => by rw [put_get, if_neg hr, x.2 k hk hr]⟩
theorem But.ext {r : Nat} {a b c : H} (x : Ext a b) (y : But r b c) (hr : a.nx ≤ r) : Ext a c := ⟨Nat.le_trans x.1 y.1, fun k hk => by rw [y.2 k (Nat.lt_of_lt_of_le hk x.1) (by omega), x.2 k hk]⟩
structure RdS (e t : TypeId) (n0 r : Nat) (R : Rd) (h : H) : Prop where
  cell : ∃ v, h.get r = some (.cells [v, .int .i64 R.e] t false) ∧ BS e h v R.bs ∧ ∀ k, n0 ≤ k → Off v k
  lt : n0 ≤ r ∧ r < h.nx
theorem BS.low {e : TypeId} {h h' : H} {v : V} {l : List Nat} {n0 : Nat} (a : BS e h v l) (ho : ∀ k, n0 ≤ k → Off v k) (hn : h.nx ≤ h'.nx) (hk : ∀ k, k < n0 → k < h.nx → h'.get k = h.get k) : BS e h' v l :=
  a.keep hn fun k hlt ⟨o, n, m, q⟩ => hk k (Nat.lt_of_not_le fun hle => ho k hle o n m q) hlt
theorem RdS.keep {e t : TypeId} {n0 r : Nat} {R : Rd} {h h' : H} (a : RdS e t n0 r R h) (hn : h.nx ≤ h'.nx) (hr : h'.get r = h.get r) (hk : ∀ k, k < n0 → h'.get k = h.get k) : RdS e t n0 r R h' := by
  obtain ⟨⟨v, h1, h2, h3⟩, h4, h5⟩ := a
  exact ⟨⟨v, by rw [hr]; exact h1, h2.low h3 hn fun k q _ => hk k q, h3⟩, h4, Nat.lt_of_lt_of_le h5 hn⟩
theorem RdS.ext {e t : TypeId} {n0 r : Nat} {R : Rd} {h h' : H} (a : RdS e t n0 r R h) (hx : Ext h h') : RdS e t n0 r R h' :=
  a.keep hx.1 (hx.2 _ a.lt.2) fun k q => hx.2 k (Nat.lt_of_lt_of_le (Nat.lt_of_lt_of_le q a.lt.1) (Nat.le_of_lt a.lt.2))
theorem RdS.put {e t : TypeId} {n0 r : Nat} {h : H} {v : V} {R : Rd} (hb : BS e h v R.bs) (ho : ∀ k, n0 ≤ k → Off v k) (hl : n0 ≤ r ∧ r < h.nx) : RdS e t n0 r R (h.put r (.cells [v, .int .i64 R.e] t false)) :=
  ⟨⟨v, put_eq rfl, hb.put (ho r hl.1), ho⟩, hl⟩
end
end Go.Wx

/-
  Rows that are read: any cells; the rest of a row.
-/
set_option linter.unusedSimpArgs false
set_option linter.unusedVariables false
set_option linter.defProp false
namespace Go.Wx
open Go.Lx
noncomputable section
def RW (e : TypeId) (sz n : Nat) (h : H) (v : V) (cells : List V) : Prop := cells.length = n * sz ∧ ((v = .nilslice ∧ n = 0) ∨ ∃ b o m, v = .slice b o n m ∧ b < h.nx ∧ n ≤ m ∧ rdC (h.get b) o (n * sz) = some cells ∧ ∀ kc e' fl, blkSO (h.get b) = some (kc, e', fl) → fl = true → e' = e)
variable {e : TypeId} {sz n : Nat} {h : H} {v : V} {cells : List V}
theorem RW.cell (a : RW e sz n h v cells) : v.cells = [v] ∧ v.isCell = true := by
  rcases a.2 with ⟨rfl, _⟩ | ⟨b, o, m, rfl, _⟩ <;> exact ⟨rfl, rfl⟩
theorem RW.len (a : RW e sz n h v cells) (t : TypeId) : lenO (some (.slice t)) v = some (.int .i64 n) := by
  rcases a.2 with ⟨rfl, rfl⟩ | ⟨b, o, m, rfl, _⟩ <;> rfl
theorem RW.keep {h' : H} (a : RW e sz n h v cells) (hn : h.nx ≤ h'.nx) (hk : ∀ k, k < h.nx → (∃ o n m, v = .slice k o n m) → h'.get k = h.get k) : RW e sz n h' v cells := by
  refine ⟨a.1, ?_⟩
  rcases a.2 with q | ⟨b, o, m, rfl, h1, h2, h3, h4⟩
  · exact .inl q
  · have hg := hk b h1 ⟨_, _, _, rfl⟩
    exact .inr ⟨b, o, m, rfl, Nat.lt_of_lt_of_le h1 hn, h2, by rw [hg]; exact h3, by rw [hg]; exact h4⟩
theorem RW.ext {h' : H} (a : RW e sz n h v cells) (hx : Ext h h') : RW e sz n h' v cells := a.keep hx.1 fun k hk _ => hx.2 k hk
theorem RW.blk {k o n' m : Nat} (a : RW e sz n h v cells) (hv : v = .slice k o n' m) : k < h.nx := by
  rcases a.2 with ⟨rfl, _⟩ | ⟨b, o', m', rfl, h1, _⟩
  · cases hv
  · cases hv; exact h1
theorem RW.off {k : Nat} (a : RW e sz n h v cells) (hk : h.nx ≤ k) : Off v k := fun o n m q => by have := a.blk q; omega
theorem rdV_one_of {ob : Option Ob} {o n i k : Nat} {cs : List V} (h : rdC ob o n = some cs) (hi : i < n) (hl : i < cs.length) : rdV (some (k, false)) ob (o + i) = some cs[i] := by
  show oneV (rdC ob (o + i) 1) = _
  rw [rdC_sub h (by omega : i + 1 ≤ n), List.drop_eq_getElem_cons hl]
  rfl
theorem rdV_agg_of {ob : Option Ob} {o n i k : Nat} {cs : List V} (h : rdC ob o n = some cs) (hi : i + k ≤ n) : rdV (some (k, true)) ob (o + i) = some (.agg ((cs.drop i).take k)) := by
  show (rdC ob (o + i) k).map V.agg = _
  rw [rdC_sub h hi]
  rfl
theorem RW.form (a : RW e sz n h v cells) : (v = .nilslice ∧ n = 0) ∨ ∃ b o m, v = .slice b o n m := by
  rcases a.2 with q | ⟨b, o, m, q, _⟩
  · exact .inl q
  · exact .inr ⟨b, o, m, q⟩
theorem RW.rd {b o n' m : Nat} (a : RW e sz n h (.slice b o n' m) cells) : n' = n ∧ b < h.nx ∧ (∀ i k, (hi : i < cells.length) → rdV (some (k, false)) (h.get b) (o + i) = some cells[i]) ∧ ∀ i k, i + k ≤ cells.length → rdV (some (k, true)) (h.get b) (o + i) = some (.agg ((cells.drop i).take k)) := by
  rcases a.2 with ⟨q, _⟩ | ⟨b', o', m', q, h1, h2, h3, h4⟩
  · cases q
  · cases q
    exact ⟨rfl, h1, fun i k hi => rdV_one_of h3 (by rw [← a.1]; exact hi) hi, fun i k hi => rdV_agg_of h3 (by rw [← a.1]; exact hi)⟩
theorem RW.at (a : RW e sz n h v cells) (hn : 0 < n) : ∃ b o m, v = .slice b o n m := by
  rcases a.form with ⟨_, q⟩ | q
  · omega
  · exact q
theorem RW.of_acc {n0 : Nat} (a : Acc n0 h v cells e sz) (hsz : 0 < sz) : ∃ n, RW e sz n h v cells ∧ cells.length = n * sz := by
  rcases a with ⟨rfl, rfl⟩ | ⟨b, n, h0, h1, rfl, hn, hg, hl⟩
  · exact ⟨0, ⟨by simp, .inl ⟨rfl, rfl⟩⟩, by simp⟩
  · exact ⟨n, ⟨hl, .inr ⟨b, 0, n, rfl, h1, Nat.le_refl _, by rw [hg, rdC_all hl], fun kc e' fl q hf => by rw [hg] at q; cases q; rfl⟩⟩, hl⟩
variable {c : Cfg} {Ok : Nat → Prop} {env : Env} {K : V → H → Fp → Prop}
theorem append_str0 {s x : Operand} {t tx : TypeId} {e bytes : Nat} {sv : V} (hsv : evalE env s = sv) (hss : sv = .nilslice ∨ ∃ b o n m, sv = .slice b o n m) (hap : apI c.P t = some (e, 1, bytes)) (htx : ∃ d, c.P.underlying tx = some d ∧ isIntD d = false) (hx : evalE env x = .str [])
    (hK : K sv h (.lg [])) : opW c Ok (.call ⟨.builtin .append, #[s, x], #[t, tx]⟩) env h K := by
  obtain ⟨dx, htx, hdi⟩ := htx
  obtain ⟨z, hu, h1, h2, h3, hb1, hb2⟩ := apI_inv hap
  rw [opW_builtin]
  have e1 : builtinM c.P .append #[t, tx] (List.map (evalE env) [s, x]) = bnd (takenM 1 (evalE env x)) fun p => appendCore e 1 bytes (evalE env s) p.1 p.2 := by
    show appendM c.P t tx (evalE env s) (evalE env x) = _
    unfold appendM
    rw [hu, htx]
    simp only [h1, h2, h3, hb1, cond_true, hdi, cond_false]
  show goL h.nx Ok (builtinM c.P .append #[t, tx] (List.map (evalE env) [s, x])) h [] K
  rw [e1, hx, hsv]
  rcases hss with rfl | ⟨b, o, n, m, rfl⟩
  · show goL h.nx Ok (Lx.ret _) h [] K
    rw [goL_ret]
    exact ⟨LogOk_nil, hK⟩
  · show goL h.nx Ok (Lx.ret _) h [] K
    rw [goL_ret]
    exact ⟨LogOk_nil, hK⟩
end
end Go.Wx

/-
  Arguments that came in: rows of anything, rows of rows, each as a block that is read.
-/
set_option linter.unusedSimpArgs false
set_option linter.unusedVariables false
set_option linter.defProp false
namespace Go.Wx
open Go.Lx Go.Proofs
noncomputable section

abbrev ν0 : Nat → Value := fun _ => undef
structure Inc (P : Program) (w : World) (g0 : Nat) (h : Go.Wx.H) (μ : Mu) : Prop where
  ob : ∀ k o, h.heap.get k = some o → o.isRo = true ∧ ∃ p, μ k = some p ∧ ORel P μ ν0 p w.heap o
  none : ∀ k, h.nx ≤ k → μ k = Option.none
  ro : ∀ k p, μ k = some p → ∃ x, h.heap.get k = some (.ro x)
  wf : WF h.heap h.nx
  apart : ∀ k p, μ k = some p → p.blk ≠ g0
theorem Inc.start (P : Program) (w : World) (g0 : Nat) : Inc P w g0 ⟨.leaf, 0⟩ (fun _ => Option.none) :=
  ⟨fun k o q => (by cases q), fun _ _ => rfl, fun k p q => (by cases q), fun k q => absurd rfl q, fun k p q => (by cases q)⟩
variable {P : Program} {w : World} {g0 : Nat} {h : Go.Wx.H} {μ : Mu}
theorem Inc.push (I : Inc P w g0 h μ) {blk off : Nat} {cells : List V} {rc : Array Value} {et : TypeId} {frz : Nat × Nat} (hb : w.heap[blk]? = some (.cells rc et frz)) (hrel : ∀ i v, cells[i]? = some v → ∃ r, rc[off + i]? = some r ∧ VRel μ ν0 v r) (hne : blk ≠ g0) :
    Inc P w g0 (h.push (.ro cells)) (Go.Lx.upd μ h.nx ⟨blk, off, false, 0, 0⟩) ∧ Mu.le μ (Go.Lx.upd μ h.nx ⟨blk, off, false, 0, 0⟩) := by
  have hle : Mu.le μ (Go.Lx.upd μ h.nx ⟨blk, off, false, 0, 0⟩) := upd_le _ (I.none _ (Nat.le_refl _))
  refine ⟨⟨fun k o q => ?_, fun k q => ?_, fun k p q => ?_, ?_, fun k p q => ?_⟩, hle⟩
  · have q2 : (h.heap.set h.nx (some (.ro cells))).get k = some o := q
    rw [T.get_set] at q2
    by_cases e : k = h.nx
    · rw [if_pos e] at q2
      injection q2 with q2
      subst q2
      subst e
      exact ⟨rfl, _, upd_same _ _ _, rfl, rc, et, frz, hb, fun i v hv => let ⟨r, h1, h2⟩ := hrel i v hv; ⟨r, h1, h2.mono hle⟩⟩
    · rw [if_neg e] at q2
      obtain ⟨h1, p, h2, h3⟩ := I.ob k o q2
      exact ⟨h1, p, by rw [upd_ne _ _ e]; exact h2, h3.mono hle rfl⟩
  · have q : h.nx + 1 ≤ k := q
    rw [upd_ne _ _ (by omega)]
    exact I.none k (by omega)
  · show ∃ x, (h.heap.set h.nx (some (.ro cells))).get k = some (.ro x)
    rw [T.get_set]
    by_cases e : k = h.nx
    · rw [if_pos e]; exact ⟨_, rfl⟩
    · rw [if_neg e]; rw [upd_ne _ _ e] at q; exact I.ro k p q
  · intro k q
    have q : (h.heap.set h.nx (some (.ro cells))).get k ≠ Option.none := q
    show k < h.nx + 1
    rw [T.get_set] at q
    split at q
    · omega
    · have := I.wf k q; omega
  · by_cases e : k = h.nx
    · rw [e, upd_same] at q; cases q; exact hne
    · rw [upd_ne _ _ e] at q; exact I.apart k p q

section
variable {H : Type} {enc : TypeId × Value → H} {spare : Nat → Bool} {held : Bool}
theorem trod_rowS {t e : TypeId} {a : Addr} {len cap fuel : Nat} {x : DataW H × List MemPlace} (hu : P.underlying t = some (.slice e)) (hcap : 0 < cap) (hce : 0 < P.cellsOf e) (hsp : spare a.block = true)
    (h : DataW.trod enc P w 0 spare held fuel t [.slice (some a) len cap] = some x) : a.spot = none ∧ ∀ i, i < cap → ∃ cs y, DataW.trod enc P w 0 spare held (fuel - 1) e cs = some y ∧ cs.length = P.cellsOf e ∧ ∀ j, j < P.cellsOf e → w.cell? ⟨a.block, a.off + (i * P.cellsOf e + j), none⟩ = cs[j]? := by
  cases fuel with
  | zero => cases h
  | succ fuel =>
    unfold DataW.trod at h
    rw [hu] at h
    simp only at h
    split at h
    · rename_i hc
      have elem : ∀ i, i < cap → ∃ y, (w.cells? 0 (a.add (i * P.cellsOf e)) (P.cellsOf e)).bind (DataW.trod enc P w 0 spare held fuel e) = some y := by
        intro i hi
        cases hm : (List.range len).mapM (fun i => (w.cells? 0 (a.add (i * P.cellsOf e)) (P.cellsOf e)).bind (DataW.trod enc P w 0 spare held fuel e)) with
        | none => rw [hm] at h; cases h
        | some r =>
          by_cases hil : i < len
          · exact mapM_get' hm i (List.mem_range.2 hil)
          · rw [hm, Option.bind_some] at h
            cases hr : (List.range (cap - len)).mapM (fun j => (w.cells? 0 (a.add ((len + j) * P.cellsOf e)) (P.cellsOf e)).bind (DataW.trod enc P w 0 spare held fuel e)) with
            | none => rw [hr] at h; cases h
            | some r2 =>
              obtain ⟨y, hy⟩ := mapM_get' hr (i - len) (List.mem_range.2 (by omega))
              rw [show len + (i - len) = i by omega] at hy
              exact ⟨y, hy⟩
      have raw : ∀ i, i < cap → ∃ cs y, DataW.trod enc P w 0 spare held fuel e cs = some y ∧ cs.length = P.cellsOf e ∧ ∀ j, j < P.cellsOf e → w.cell? ((a.add (i * P.cellsOf e)).add j) = cs[j]? := by
        intro i hi
        obtain ⟨y, hy⟩ := elem i hi
        cases hc2 : w.cells? 0 (a.add (i * P.cellsOf e)) (P.cellsOf e) with
        | none => rw [hc2] at hy; cases hy
        | some cs =>
          rw [hc2] at hy
          simp only [Option.bind_some] at hy
          unfold World.cells? at hc2
          rw [if_pos (Nat.zero_le _)] at hc2
          have hlen : cs.length = P.cellsOf e := by
            have := (mapM_at hc2).1
            simpa using this
          refine ⟨cs, y, hy, hlen, fun j hj => ?_⟩
          have h2 := (mapM_at hc2).2 j (by simpa using hj)
          rw [List.getElem?_range hj, Option.bind_some] at h2
          exact h2
      have hs : a.spot = none := by
        obtain ⟨cs, y, h1, h2, h3⟩ := raw 0 hcap
        have h4 := h3 0 hce
        rw [Nat.zero_mul] at h4
        have e0 : (a.add 0).add 0 = a := rfl
        rw [e0, List.getElem?_eq_getElem (by omega)] at h4
        unfold World.cell? at h4
        cases hsp : a.spot with
        | none => rfl
        | some s =>
          rw [hsp] at h4
          split at h4
          · simp at h4
          · cases h4
      refine ⟨hs, fun i hi => ?_⟩
      obtain ⟨cs, y, h1, h2, h3⟩ := raw i hi
      refine ⟨cs, y, h1, h2, fun j hj => ?_⟩
      rw [← h3 j hj]
      congr 1
      obtain ⟨b, o, sp⟩ := a
      simp only at hs
      subst hs
      rw [add_none, add_none]
      simp [Nat.add_assoc]
    · cases h
theorem slice_form {t e : TypeId} {v : Value} {fuel : Nat} {x : DataW H × List MemPlace} (hu : P.underlying t = some (.slice e)) (h : DataW.trod enc P w 0 spare held fuel t [v] = some x) : v = .slice none 0 0 ∨ ∃ a len cap, v = .slice (some a) len cap ∧ len ≤ cap ∧ cap ≤ maxLen := by
  cases fuel with
  | zero => cases h
  | succ fuel =>
    unfold DataW.trod at h
    rw [hu] at h
    cases v <;> first | (cases h; done) | skip
    rename_i ao len cap
    cases ao with
    | none =>
      left
      cases len <;> cases cap <;> first | rfl | (cases h; done)
    | some a =>
      right
      simp only at h
      split at h
      · rename_i hc; exact ⟨a, len, cap, rfl, hc.2.1, hc.2.2⟩
      · cases h
theorem cell_block {b o : Nat} {v : Value} (h : w.cell? ⟨b, o, none⟩ = some v) : ∃ rc e frz, w.heap[b]? = some (.cells rc e frz) ∧ rc[o]? = some v := by
  unfold World.cell? at h
  cases hb : w.heap[b]? with
  | none => rw [hb] at h; cases h
  | some ob =>
    rw [hb] at h
    cases ob <;> first | (cases h; done) | skip
    rename_i rc e frz
    exact ⟨rc, e, frz, rfl, by simpa using h⟩
def IntAt (w : World) (g0 : Nat) (k : IntKind) : Prop := ∃ rc e frz m, w.heap[g0]? = some (.cells rc e frz) ∧ rc.size = 1 ∧ rc[0]? = some (.int k m)
def NotAt (w : World) (g0 : Nat) (k : IntKind) : Prop := IntAt w g0 k ∨ w.heap[g0]? = Option.none
def Some0 (w : World) (g0 : Nat) (v : Value) : Prop := ∀ a, v = .slice (some a) 0 0 → ∃ gF, gF ≠ g0 ∧ ∃ rc e frz, w.heap[gF]? = some (.cells rc e frz)
theorem Inc.rows (I : Inc P w g0 h μ) {α : Type} (f : α → List V) {t e : TypeId} {v : Value} {fuel sz : Nat} {x : DataW H × List MemPlace} {k : IntKind} (hu : P.underlying t = some (.slice e)) (hce : P.cellsOf e = sz) (hsz : 0 < sz) (hspare : ∀ b, spare b = true)
    (ht : DataW.trod enc P w 0 spare held fuel t [v] = some x) (hf : ∀ a, (f a).length = sz) (hg0 : NotAt w g0 k) (hgF : Some0 w g0 v)
    (hd : ∀ (cs : List Value) (fu : Nat) (y : DataW H × List MemPlace), DataW.trod enc P w 0 spare held fu e cs = some y → cs.length = sz → (∀ m, cs[0]? ≠ some (.int k m)) ∧ ∃ a : α, ∀ (j : Nat) (u : V), (f a)[j]? = some u → ∃ r, cs[j]? = some r ∧ VRel μ ν0 u r) :
    ∃ (h' : Go.Wx.H) (μ' : Mu) (vv : V) (xs : List α), Inc P w g0 h' μ' ∧ Mu.le μ μ' ∧ Ext h h' ∧ VRel μ' ν0 vv v ∧ RW e sz xs.length h' vv (xs.flatMap f) ∧ xs.length ≤ maxLen := by
  rcases slice_form hu ht with rfl | ⟨a, len, cap, rfl, hlc, hcm⟩
  · exact ⟨h, μ, .nilslice, [], I, Mu.le_refl _, Ext.refl h, .nilslice, ⟨by simp, .inl ⟨rfl, rfl⟩⟩, Nat.zero_le _⟩
  · rcases Nat.eq_zero_or_pos cap with rfl | hcap
    · obtain rfl : len = 0 := by omega
      obtain ⟨gF, hne, rc, et, frz, hb⟩ := hgF a rfl
      obtain ⟨I', hle⟩ := I.push (cells := []) (off := 0) hb (fun i v q => by simp at q) hne
      refine ⟨_, _, .slice h.nx 0 0 0, [], I', hle, (Ext.refl h).push _, .slice (upd_same _ _ _) (Nat.le_refl _) (.inl ⟨rfl, rfl⟩), ⟨by simp, .inr ⟨h.nx, 0, 0, rfl, Nat.lt_succ_self _, Nat.le_refl _, ?_, fun kc e' fl q hf => ?_⟩⟩, Nat.zero_le _⟩
      · rw [push_eq rfl, List.length_nil, Nat.zero_mul]; rfl
      · rw [push_eq rfl] at q; cases q; cases hf
    · subst hce
      obtain ⟨hs, hel⟩ := trod_rowS hu hcap hsz (hspare _) ht
      obtain ⟨c0, y0, q1, q2, q3⟩ := hel 0 hcap
      have q4 := q3 0 hsz
      have hc0 : 0 < c0.length := by omega
      rw [List.getElem?_eq_getElem hc0] at q4
      obtain ⟨rc, et, frz, hb, hr0⟩ := cell_block q4
      have hne : a.block ≠ g0 := by
        rintro q
        rcases hg0 with hg0 | hg0
        case inr => rw [← q, hb] at hg0; cases hg0
        obtain ⟨rc', e', frz', m, h1, h2, h3⟩ := hg0
        rw [← q, hb] at h1
        cases h1
        have hlt := (Array.getElem?_eq_some_iff.1 hr0).1
        have : a.off + (0 * P.cellsOf e + 0) = 0 := by omega
        rw [this, h3] at hr0
        exact (hd c0 _ y0 q1 q2).1 m (by rw [List.getElem?_eq_getElem hc0]; exact hr0.symm)
      have key : ∀ n, n ≤ len → ∃ xs : List α, xs.length = n ∧ ∀ i u, (xs.flatMap f)[i]? = some u → ∃ r, rc[a.off + i]? = some r ∧ VRel μ ν0 u r := by
        intro n
        induction n with
        | zero => exact fun _ => ⟨[], rfl, fun i u q => by simp at q⟩
        | succ n ih =>
          intro hn
          obtain ⟨xs, h1, h2⟩ := ih (by omega)
          obtain ⟨cs, y, c1, c2, c3⟩ := hel n (by omega)
          obtain ⟨_, z, hz⟩ := hd cs _ y c1 c2
          have hfl : ∀ l : List α, (l.flatMap f).length = l.length * P.cellsOf e := fun l => by
            induction l with
            | nil => simp
            | cons z l ih => rw [List.flatMap_cons, List.length_append, hf, ih, List.length_cons, Nat.succ_mul]; omega
          refine ⟨xs ++ [z], by simp [h1], fun i u q => ?_⟩
          rw [List.flatMap_append] at q
          by_cases hin : i < n * P.cellsOf e
          · rw [List.getElem?_append_left (by rw [hfl, h1]; exact hin)] at q
            exact h2 i u q
          · rw [List.getElem?_append_right (by rw [hfl, h1]; omega), hfl, h1] at q
            have q : (f z)[i - n * P.cellsOf e]? = some u := by simpa using q
            obtain ⟨r, r1, r2⟩ := hz _ u q
            have hj : i - n * P.cellsOf e < P.cellsOf e := by
              have := (List.getElem?_eq_some_iff.1 q).1
              rw [hf] at this; exact this
            have h5 := c3 _ hj
            rw [r1, cell_at hb] at h5
            refine ⟨r, ?_, r2⟩
            rw [← h5]
            congr 1
            omega
      obtain ⟨xs, h1, h2⟩ := key len (Nat.le_refl _)
      obtain ⟨I', hle⟩ := I.push (off := a.off) (cells := xs.flatMap f) hb h2 hne
      have hfl : (xs.flatMap f).length = xs.length * P.cellsOf e := by
        clear h1 h2 I' hle key
        induction xs with
        | nil => simp
        | cons z l ih => rw [List.flatMap_cons, List.length_append, hf, ih, List.length_cons, Nat.succ_mul]; omega
      subst h1
      refine ⟨_, _, .slice h.nx 0 xs.length cap, xs, I', hle, (Ext.refl h).push _, .slice (upd_same _ _ _) hlc (.inr ⟨?_, .inl rfl⟩), ⟨hfl, .inr ⟨h.nx, 0, cap, rfl, Nat.lt_succ_self _, hlc, ?_, fun kc e' fl q hf => ?_⟩⟩, Nat.le_trans hlc hcm⟩
      · obtain ⟨b, o, sp⟩ := a
        simp only at hs
        subst hs
        rfl
      · rw [push_eq rfl]
        unfold rdC
        simp only [Nat.zero_add, hfl, Nat.ble_self_eq_true, cond_true]
        rw [← hfl, sub_whole rfl]
      · rw [push_eq rfl] at q; cases q; cases hf
theorem BS.of_rw {e : TypeId} {h : Go.Wx.H} {v : V} {l : List Nat} (hb : ∀ x ∈ l, x < 256) (a : RW e 1 l.length h v (bytesV l)) : BS e h v l := by
  refine ⟨hb, ?_⟩
  rcases a.2 with ⟨rfl, q⟩ | ⟨b, o, m, rfl, h1, h2, h3, h4⟩
  · exact .inl ⟨rfl, List.eq_nil_of_length_eq_zero q⟩
  · rw [Nat.mul_one] at h3
    exact .inr ⟨b, o, m, rfl, h1, h2, h3, h4⟩
theorem Inc.bytes (I : Inc P w g0 h μ) {t e : TypeId} {v : Value} {fuel : Nat} {x : DataW H × List MemPlace} (hu : P.underlying t = some (.slice e)) (he : P.underlying e = some (.int .u8)) (hce : P.cellsOf e = 1) (hspare : ∀ b, spare b = true)
    (ht : DataW.trod enc P w 0 spare held fuel t [v] = some x) (hg0 : NotAt w g0 .i64) (hgF : Some0 w g0 v) :
    ∃ (h' : Go.Wx.H) (μ' : Mu) (vv : V) (ls : List Nat), Inc P w g0 h' μ' ∧ Mu.le μ μ' ∧ Ext h h' ∧ VRel μ' ν0 vv v ∧ BS e h' vv ls := by
  obtain ⟨h', μ', vv, xs, h1, h2, h3, h4, h5, h6⟩ := I.rows (α := { n : Nat // n < 256 }) (fun a => [.int .u8 ((a.1 : Nat) : Int)]) hu hce (by decide) hspare ht (fun _ => rfl) hg0 hgF (fun cs fu y hy hl => by
    obtain ⟨n, rfl, hwf⟩ := trod_int he hy
    have hr : 0 ≤ n ∧ n < 256 := by
      have : Lit.wf (.int .u8 n) = true := hwf
      simp [Lit.wf, IntKind.min, IntKind.max, IntKind.signed, IntKind.bits] at this
      omega
    refine ⟨fun m q => ?_, ⟨n.toNat, by omega⟩, fun j u q => ?_⟩
    · simp at q
    · cases j with
      | zero =>
        simp at q
        subst q
        refine ⟨_, rfl, ?_⟩
        rw [show (max n 0) = n by omega]
        exact .int _ _
      | succ j => simp at q)
  have e1 : xs.flatMap (fun a => [V.int .u8 ((a.1 : Nat) : Int)]) = bytesV (xs.map (·.1)) := by
    unfold bytesV
    clear h5 h6
    induction xs with
    | nil => rfl
    | cons z l ih => rw [List.flatMap_cons, ih]; rfl
  rw [e1] at h5
  refine ⟨h', μ', vv, xs.map (·.1), h1, h2, h3, h4, BS.of_rw (fun y hy => ?_) (by rw [List.length_map]; exact h5)⟩
  obtain ⟨z, _, rfl⟩ := List.mem_map.1 hy
  exact z.2
end
end
end Go.Wx

/-
  How long what came in may be: the reach that a claim's form gives (each text, each row).
-/
set_option linter.unusedSimpArgs false
set_option linter.unusedVariables false
set_option linter.defProp false
namespace Go.Wx
open Go.Lx Go.Proofs
noncomputable section

section
variable {H : Type} {enc : TypeId × Value → H} {P : Program} {w : World} {spare : Nat → Bool} {held : Bool}
end
end
end Go.Wx
