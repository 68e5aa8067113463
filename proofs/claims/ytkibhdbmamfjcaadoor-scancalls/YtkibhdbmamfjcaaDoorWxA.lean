/-
  The machine's small steps hang on the log in nothing, and what they look at is there: the ground of the rules for proofs over all inputs.
-/
import Derived.Test.YtkibhdbmamfjcaaDoorLxX
set_option linter.unusedSimpArgs false
set_option linter.unusedVariables false
namespace Go.Wx
open Go.Lx
noncomputable section

/-- the block of a log's entry -/
def blkOf : LE → Nat
  | .rd k _ _ => k
  | .wr k _ _ => k
  | .rdd k => k
  | .wrd k => k

/-- every block that is there has been given out -/
def WF (h : T Ob) (n : Nat) : Prop := ∀ k, h.get k ≠ none → k < n

/-- the log is added to -/
def addLog {α : Type} (l : List LE) : R α → R α
  | .ok a s => .ok a ⟨s.heap, s.next, s.log ++ l⟩
  | .fail w => .fail w

/-- A run that hangs on the log in nothing, and looks at what is there. -/
structure Nice {α : Type} (F : M α) : Prop where
  irr : ∀ h n l, F ⟨h, n, l⟩ = addLog l (F ⟨h, n, []⟩)
  mono : ∀ h n a s, F ⟨h, n, []⟩ = .ok a s → n ≤ s.next
  wf : ∀ h n a s, F ⟨h, n, []⟩ = .ok a s → WF h n → WF s.heap s.next ∧ ∀ e ∈ s.log, blkOf e < s.next

theorem Nice.ret {α : Type} (a : α) : Nice (Lx.ret a) := by
  refine ⟨fun h n l => rfl, fun h n b s e => ?_, fun h n b s e hw => ?_⟩ <;> obtain ⟨rfl, rfl⟩ := ret_ok e
  · exact Nat.le_refl _
  · exact ⟨hw, fun e he => by simp at he⟩

theorem Nice.err {α : Type} (w : String) : Nice (err w : M α) :=
  ⟨fun h n l => rfl, fun h n b s e => (err_ok e).elim, fun h n b s e => (err_ok e).elim⟩

theorem Nice.opt {α : Type} (o : Option α) (w : String) : Nice (Lx.opt o w) := by
  cases o with
  | none => exact Nice.err w
  | some a => exact Nice.ret a

theorem Nice.cond {α : Type} {b : Bool} {x y : M α} (hx : Nice x) (hy : Nice y) : Nice (bif b then x else y) := by
  cases b
  · exact hy
  · exact hx

theorem Nice.bnd {α β : Type} {F : M α} {G : α → M β} (hF : Nice F) (hG : ∀ a, Nice (G a)) : Nice (Lx.bnd F G) := by
  have key : ∀ h n l, Lx.bnd F G ⟨h, n, l⟩ = match F ⟨h, n, []⟩ with
      | .ok a s => addLog (s.log ++ l) (G a ⟨s.heap, s.next, []⟩)
      | .fail w => .fail w := by
    intro h n l
    unfold Lx.bnd
    rw [hF.irr h n l]
    cases F ⟨h, n, []⟩ with
    | fail w => rfl
    | ok a s =>
      show G a ⟨s.heap, s.next, s.log ++ l⟩ = _
      rw [(hG a).irr]
  refine ⟨fun h n l => ?_, fun h n b s e => ?_, fun h n b s e hw => ?_⟩
  · rw [key h n l, key h n []]
    cases F ⟨h, n, []⟩ with
    | fail w => rfl
    | ok a s =>
      show addLog (s.log ++ l) _ = addLog l (addLog (s.log ++ []) _)
      cases G a ⟨s.heap, s.next, []⟩ with
      | fail w => rfl
      | ok b s' => simp [addLog]
  · rw [key h n []] at e
    cases h1 : F ⟨h, n, []⟩ with
    | fail w => rw [h1] at e; cases e
    | ok a s1 =>
      rw [h1] at e
      change addLog (s1.log ++ []) (G a ⟨s1.heap, s1.next, []⟩) = _ at e
      cases h2 : G a ⟨s1.heap, s1.next, []⟩ with
      | fail w => rw [h2] at e; cases e
      | ok b2 s2 =>
        rw [h2] at e
        cases e
        exact Nat.le_trans (hF.mono _ _ _ _ h1) ((hG a).mono s1.heap s1.next _ s2 h2)
  · rw [key h n []] at e
    cases h1 : F ⟨h, n, []⟩ with
    | fail w => rw [h1] at e; cases e
    | ok a s1 =>
      rw [h1] at e
      change addLog (s1.log ++ []) (G a ⟨s1.heap, s1.next, []⟩) = _ at e
      cases h2 : G a ⟨s1.heap, s1.next, []⟩ with
      | fail w => rw [h2] at e; cases e
      | ok b2 s2 =>
        rw [h2] at e
        cases e
        obtain ⟨w1, l1⟩ := hF.wf _ _ _ _ h1 hw
        obtain ⟨w2, l2⟩ := (hG a).wf _ _ _ _ h2 w1
        refine ⟨w2, fun x hx => ?_⟩
        have hm := (hG a).mono _ _ _ _ h2
        change s1.next ≤ s2.next at hm
        simp only [List.append_nil, List.mem_append] at hx
        rcases hx with hx | hx
        · exact l2 x hx
        · exact Nat.lt_of_lt_of_le (l1 x hx) hm

theorem WF.lt {h : T Ob} {n k : Nat} {o : Ob} (hw : WF h n) (hg : h.get k = some o) : k < n := hw k (by rw [hg]; simp)

theorem WF.set {h : T Ob} {n k : Nat} {o : Option Ob} (hw : WF h n) (hk : k < n) : WF (h.set k o) n := by
  intro j hj
  rw [T.get_set] at hj
  split at hj
  · omega
  · exact hw j hj

theorem Nice.ld (k o n : Nat) : Nice (Lx.ld k o n) := by
  refine ⟨fun h m l => ?_, fun h m b s e => ?_, fun h m b s e hw => ?_⟩
  · unfold Lx.ld
    cases hg : h.get k with
    | none => simp [hg, addLog]
    | some ob =>
      cases ob <;> simp only [hg] <;> try rfl
      rename_i c _ _
      cases Nat.ble (o + n) c.length <;> rfl
  · obtain ⟨c, e', p, hg, hl, rfl, rfl⟩ := ld_ok e; exact Nat.le_refl _
  · obtain ⟨c, e', p, hg, hl, rfl, rfl⟩ := ld_ok e
    exact ⟨hw, fun x hx => by simp at hx; subst hx; exact hw.lt hg⟩

theorem Nice.stc (k o : Nat) (vs : List V) : Nice (Lx.stc k o vs) := by
  refine ⟨fun h m l => ?_, fun h m b s e => ?_, fun h m b s e hw => ?_⟩
  · unfold Lx.stc
    cases hg : h.get k with
    | none => simp [hg, addLog]
    | some ob =>
      cases ob <;> simp only [hg] <;> try rfl
      rename_i c _ _
      cases (Nat.ble (o + vs.length) c.length && vs.all V.isCell) <;> rfl
  · obtain ⟨c, e', p, hg, hl, hc, rfl⟩ := stc_ok e; exact Nat.le_refl _
  · obtain ⟨c, e', p, hg, hl, hc, rfl⟩ := stc_ok e
    exact ⟨hw.set (hw.lt hg), fun x hx => by simp at hx; subst hx; exact hw.lt hg⟩

theorem Nice.blk (k : Nat) : Nice (Lx.blk k) := by
  refine ⟨fun h m l => ?_, fun h m b s e => ?_, fun h m b s e hw => ?_⟩
  · unfold Lx.blk
    cases hg : h.get k with
    | none => simp [hg, addLog]
    | some ob => cases ob <;> simp only [hg] <;> rfl
  · obtain ⟨c, e', p, hg, rfl, rfl⟩ := blk_ok e; exact Nat.le_refl _
  · obtain ⟨c, e', p, hg, rfl, rfl⟩ := blk_ok e
    exact ⟨hw, fun x hx => by simp at hx; subst hx; exact hw.lt hg⟩

theorem Nice.getO (k : Nat) : Nice (Lx.getO k) := by
  refine ⟨fun h m l => ?_, fun h m b s e => ?_, fun h m b s e hw => ?_⟩
  · unfold Lx.getO
    cases hg : h.get k with
    | none => simp [hg, addLog]
    | some ob => simp only [hg]; cases ob.isCells <;> rfl
  · obtain ⟨hg, hc, rfl⟩ := getO_ok e; exact Nat.le_refl _
  · obtain ⟨hg, hc, rfl⟩ := getO_ok e
    exact ⟨hw, fun x hx => by simp at hx; subst hx; exact hw.lt hg⟩

theorem Nice.setO (k : Nat) (o : Ob) : Nice (Lx.setO k o) := by
  refine ⟨fun h m l => ?_, fun h m b s e => ?_, fun h m b s e hw => ?_⟩
  · unfold Lx.setO
    cases hg : h.get k with
    | none => simp [hg, addLog]
    | some ob => simp only [hg]; cases (ob.isCells || o.isCells) <;> rfl
  · obtain ⟨o', hg, hc, hc', rfl⟩ := setO_ok e; exact Nat.le_refl _
  · obtain ⟨o', hg, hc, hc', rfl⟩ := setO_ok e
    refine ⟨hw.set (hw.lt hg), fun x hx => ?_⟩
    simp at hx
    rcases hx with rfl | rfl <;> exact hw.lt hg

theorem Nice.kill (k : Nat) : Nice (Lx.kill k) := by
  refine ⟨fun h m l => ?_, fun h m b s e => ?_, fun h m b s e hw => ?_⟩
  · unfold Lx.kill
    cases hg : h.get k with
    | none => simp [hg, addLog]
    | some ob => cases ob <;> simp only [hg] <;> rfl
  · unfold Lx.kill at e
    cases hg : h.get k with
    | none => simp [hg] at e
    | some ob => cases ob <;> simp [hg] at e; obtain ⟨rfl, rfl⟩ := e; exact Nat.le_refl _
  · unfold Lx.kill at e
    cases hg : h.get k with
    | none => simp [hg] at e
    | some ob =>
      cases ob <;> simp [hg] at e
      obtain ⟨rfl, rfl⟩ := e
      refine ⟨hw.set (hw.lt hg), fun x hx => ?_⟩
      simp at hx
      rcases hx with rfl | rfl <;> exact hw.lt hg

theorem Nice.alloc (ob : Ob) : Nice (Lx.alloc ob) := by
  refine ⟨fun h m l => rfl, fun h m b s e => ?_, fun h m b s e hw => ?_⟩
  · unfold Lx.alloc at e; cases e; exact Nat.le_succ _
  · unfold Lx.alloc at e; cases e
    refine ⟨fun j hj => ?_, fun x hx => by simp at hx; subst hx; exact Nat.lt_succ_self _⟩
    rw [T.get_set] at hj
    split at hj
    · rename_i he; subst he; exact Nat.lt_succ_self _
    · exact Nat.lt_succ_of_lt (hw j hj)

section
variable {P : Program}

theorem nice_loadVar (t : TypeId) (k o : Nat) : Nice (loadVarM P t k o) := by
  unfold loadVarM
  repeat' (first | exact Nice.ret _ | exact Nice.err _ | exact Nice.ld _ _ _ | refine Nice.cond ?_ ?_ | refine Nice.bnd ?_ (fun _ => ?_) | split)

theorem nice_storeVar (t : TypeId) (k o : Nat) (v : V) : Nice (storeVarM P t k o v) := by
  unfold storeVarM
  repeat' (first | exact Nice.ret _ | exact Nice.err _ | exact Nice.stc _ _ _ | refine Nice.cond ?_ ?_ | refine Nice.bnd ?_ (fun _ => ?_) | split)

theorem nice_part (t : TypeId) (cs : List V) (o : Nat) : Nice (partM P t cs o) := by
  unfold partM
  repeat' (first | exact Nice.ret _ | exact Nice.err _ | refine Nice.cond ?_ ?_ | refine Nice.bnd ?_ (fun _ => ?_) | split)

theorem nice_build (t : TypeId) (ps : List (Nat × List V)) : Nice (buildM P t ps) := by
  unfold buildM
  repeat' (first | exact Nice.ret _ | exact Nice.err _ | refine Nice.cond ?_ ?_ | refine Nice.bnd ?_ (fun _ => ?_) | split)

theorem nice_buildSlice (t : TypeId) (n : Nat) (ps : List (Nat × List V)) : Nice (buildSliceM P t n ps) := by
  unfold buildSliceM
  repeat' (first | exact Nice.ret _ | exact Nice.err _ | exact Nice.alloc _ | refine Nice.cond ?_ ?_ | refine Nice.bnd ?_ (fun _ => ?_) | split)

theorem nice_slice (t : TypeId) (x : V) (a b c : Option V) : Nice (sliceM P t x a b c) := by
  unfold sliceM
  repeat' (first | exact Nice.ret _ | exact Nice.err _ | exact Nice.blk _ | refine Nice.cond ?_ ?_ | refine Nice.bnd ?_ (fun _ => ?_) | split)

theorem nice_convert (a b : TypeId) (x : V) : Nice (convertM P a b x) := by
  unfold convertM
  repeat' (first | exact Nice.ret _ | exact Nice.err _ | exact Nice.ld _ _ _ | exact Nice.blk _ | exact Nice.alloc _ | refine Nice.cond ?_ ?_ | refine Nice.bnd ?_ (fun _ => ?_) | split)

theorem nice_entries (x : V) : Nice (entriesOf x) := by
  unfold entriesOf
  repeat' (first | exact Nice.ret _ | exact Nice.err _ | exact Nice.getO _ | refine Nice.cond ?_ ?_ | refine Nice.bnd ?_ (fun _ => ?_) | split)

theorem nice_lookup (t : TypeId) (x k : V) (ok : Bool) : Nice (lookupM P t x k ok) := by
  unfold lookupM
  repeat' (first | exact Nice.ret _ | exact Nice.err _ | exact nice_entries _ | refine Nice.cond ?_ ?_ | refine Nice.bnd ?_ (fun _ => ?_) | split)

theorem nice_mapUpdate (t : TypeId) (m k v : V) : Nice (mapUpdateM P t m k v) := by
  unfold mapUpdateM
  repeat' (first | exact Nice.ret _ | exact Nice.err _ | exact Nice.getO _ | exact Nice.setO _ _ | refine Nice.cond ?_ ?_ | refine Nice.bnd ?_ (fun _ => ?_) | split)

theorem nice_delete (t : TypeId) (m k : V) : Nice (deleteM P t m k) := by
  unfold deleteM
  repeat' (first | exact Nice.ret _ | exact Nice.err _ | exact Nice.getO _ | exact Nice.setO _ _ | refine Nice.cond ?_ ?_ | refine Nice.bnd ?_ (fun _ => ?_) | split)

theorem nice_range (t : TypeId) (x : V) : Nice (rangeM P t x) := by
  unfold rangeM
  repeat' (first | exact Nice.ret _ | exact Nice.err _ | exact Nice.getO _ | exact Nice.alloc _ | refine Nice.cond ?_ ?_ | refine Nice.bnd ?_ (fun _ => ?_) | split)

theorem nice_next (it : V) (b : Bool) : Nice (nextM it b) := by
  unfold nextM
  repeat' (first | exact Nice.ret _ | exact Nice.err _ | exact Nice.getO _ | exact Nice.setO _ _ | exact nice_entries _ | refine Nice.cond ?_ ?_ | refine Nice.bnd ?_ (fun _ => ?_) | split)

theorem nice_entry (it : V) : Nice (entryM it) := by
  unfold entryM
  repeat' (first | exact Nice.ret _ | exact Nice.err _ | exact Nice.getO _ | exact nice_entries _ | refine Nice.cond ?_ ?_ | refine Nice.bnd ?_ (fun _ => ?_) | split)

theorem nice_taken (n : Nat) (x : V) : Nice (takenM n x) := by
  unfold takenM
  repeat' (first | exact Nice.ret _ | exact Nice.err _ | exact Nice.ld _ _ _ | refine Nice.cond ?_ ?_ | refine Nice.bnd ?_ (fun _ => ?_) | split)

theorem nice_grow (e : TypeId) (size b o len n : Nat) (new : List V) : Nice (growM e size b o len n new) := by
  unfold growM
  repeat' (first | exact Nice.ret _ | exact Nice.err _ | exact Nice.ld _ _ _ | exact Nice.blk _ | exact Nice.kill _ | exact Nice.alloc _ | refine Nice.cond ?_ ?_ | refine Nice.bnd ?_ (fun _ => ?_) | split)

theorem nice_appendCore (e : TypeId) (size bytes : Nat) (s : V) (new : List V) (n : Nat) : Nice (appendCore e size bytes s new n) := by
  unfold appendCore
  repeat' (first | exact Nice.ret _ | exact Nice.err _ | exact Nice.stc _ _ _ | exact Nice.alloc _ | exact nice_grow _ _ _ _ _ _ _ | refine Nice.cond ?_ ?_ | refine Nice.bnd ?_ (fun _ => ?_) | split)

theorem nice_append (t tx : TypeId) (s x : V) : Nice (appendM P t tx s x) := by
  unfold appendM
  repeat' (first | exact Nice.ret _ | exact Nice.err _ | exact nice_taken _ _ | exact nice_appendCore _ _ _ _ _ _ | refine Nice.cond ?_ ?_ | refine Nice.bnd ?_ (fun _ => ?_) | split)

theorem nice_copy (t : TypeId) (d x : V) : Nice (copyM P t d x) := by
  unfold copyM
  repeat' (first | exact Nice.ret _ | exact Nice.err _ | exact Nice.ld _ _ _ | exact Nice.stc _ _ _ | refine Nice.cond ?_ ?_ | refine Nice.bnd ?_ (fun _ => ?_) | split)

theorem nice_clear (t : TypeId) (x : V) : Nice (clearM P t x) := by
  unfold clearM
  repeat' (first | exact Nice.ret _ | exact Nice.err _ | exact Nice.getO _ | exact Nice.setO _ _ | exact Nice.stc _ _ _ | refine Nice.cond ?_ ?_ | refine Nice.bnd ?_ (fun _ => ?_) | split)

theorem nice_len (t : TypeId) (x : V) : Nice (lenM P t x) := by
  unfold lenM
  repeat' (first | exact Nice.ret _ | exact Nice.err _ | exact Nice.getO _ | exact Nice.blk _ | exact nice_entries _ | refine Nice.cond ?_ ?_ | refine Nice.bnd ?_ (fun _ => ?_) | split)

theorem nice_cap (t : TypeId) (x : V) : Nice (capM P t x) := by
  unfold capM
  repeat' (first | exact Nice.ret _ | exact Nice.err _ | exact Nice.blk _ | refine Nice.cond ?_ ?_ | refine Nice.bnd ?_ (fun _ => ?_) | split)

theorem nice_unsafeString (t : TypeId) (p : V) (n : Nat) : Nice (unsafeStringM P t p n) := by
  unfold unsafeStringM
  repeat' (first | exact Nice.ret _ | exact Nice.err _ | exact Nice.blk _ | exact Nice.ld _ _ _ | exact Nice.kill _ | refine Nice.cond ?_ ?_ | refine Nice.bnd ?_ (fun _ => ?_) | split)

theorem nice_builtin (b : Builtin) (ts : Array TypeId) (args : List V) : Nice (builtinM P b ts args) := by
  unfold builtinM
  repeat' (first | exact Nice.ret _ | exact Nice.err _ | exact Nice.opt _ _ | exact nice_unsafeString _ _ _ | exact nice_len _ _ | exact nice_cap _ _ | exact nice_append _ _ _ _ | exact nice_copy _ _ _ | exact nice_delete _ _ _ | exact nice_clear _ _ | split)

theorem nice_const (gl : T (List V)) (t : TypeId) (g o : Nat) : Nice (constM P gl t g o) := by
  unfold constM
  repeat' (first | exact Nice.ret _ | exact Nice.err _ | refine Nice.cond ?_ ?_ | split)

theorem nice_op {gl : T (List V)} {call : FuncId → List V → M V} (hc : ∀ f vs, Nice (call f vs)) (ev : Operand → V) (o : Op) : Nice (opM P gl call ev o) := by
  rw [opM_eq]
  try unfold opPick opAlloc opBox opBuild opBuildSlice opLoad opStore opNilCheck opMakeInterface opMakeFunc opMakeMap opMakeSlice opFieldAddr opField opIndexAddr opIndex opExtract opCall callV
  repeat' (first
    | exact Nice.ret _ | exact Nice.err _ | exact Nice.opt _ _ | exact Nice.alloc _ | exact hc _ _
    | exact nice_loadVar _ _ _ | exact nice_const _ _ _ _ | exact nice_storeVar _ _ _ _ | exact nice_part _ _ _ | exact nice_build _ _ | exact nice_buildSlice _ _ _ | exact nice_slice _ _ _ _ _ | exact nice_convert _ _ _
    | exact nice_lookup _ _ _ _ | exact nice_mapUpdate _ _ _ _ | exact nice_range _ _ | exact nice_next _ _ | exact nice_entry _ | exact nice_builtin _ _ _
    | refine Nice.cond ?_ ?_ | refine Nice.bnd ?_ (fun _ => ?_) | split)
end

/-- no calls -/
def noCall : FuncId → List V → M V := fun _ _ => err "call"

theorem nice_noCall (f : FuncId) (vs : List V) : Nice (noCall f vs) := Nice.err _

end
end Go.Wx
