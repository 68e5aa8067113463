/-
  What a run of the machine hangs on: operations.
-/
import Derived.Test.YtfgnpegkcmkeaaaGreatDoorLxR
set_option linter.unusedSimpArgs false
set_option linter.unusedVariables false
namespace Go.Lx
section
variable {P : Program}
theorem local_loadVar (t : TypeId) (k o : Nat) : Local (loadVarM P t k o) := by
 unfold loadVarM
 repeat' (first | exact Local.ret _ | exact Local.err _ | exact Local.ld _ _ _ | refine Local.cond ?_ ?_ | refine Local.bnd ?_ (fun _ => ?_) | split)
theorem local_storeVar (t : TypeId) (k o : Nat) (v : V) : Local (storeVarM P t k o v) := by
 unfold storeVarM
 repeat' (first | exact Local.ret _ | exact Local.err _ | exact Local.stc _ _ _ | refine Local.cond ?_ ?_ | refine Local.bnd ?_ (fun _ => ?_) | split)
theorem local_part (t : TypeId) (cs : List V) (o : Nat) : Local (partM P t cs o) := by
 unfold partM
 repeat' (first | exact Local.ret _ | exact Local.err _ | refine Local.cond ?_ ?_ | refine Local.bnd ?_ (fun _ => ?_) | split)
theorem local_build (t : TypeId) (ps : List (Nat × List V)) : Local (buildM P t ps) := by
 unfold buildM
 repeat' (first | exact Local.ret _ | exact Local.err _ | refine Local.cond ?_ ?_ | refine Local.bnd ?_ (fun _ => ?_) | split)
theorem local_buildSlice (t : TypeId) (n : Nat) (ps : List (Nat × List V)) : Local (buildSliceM P t n ps) := by
 unfold buildSliceM
 repeat' (first | exact Local.ret _ | exact Local.err _ | exact Local.alloc _ | refine Local.cond ?_ ?_ | refine Local.bnd ?_ (fun _ => ?_) | split)
theorem local_slice (t : TypeId) (x : V) (a b c : Option V) : Local (sliceM P t x a b c) := by
 unfold sliceM
 repeat' (first | exact Local.ret _ | exact Local.err _ | exact Local.blk _ | exact Local.blkS _ | refine Local.cond ?_ ?_ | refine Local.bnd ?_ (fun _ => ?_) | split)
theorem local_convert (a b : TypeId) (x : V) : Local (convertM P a b x) := by
 unfold convertM
 repeat' (first | exact Local.ret _ | exact Local.err _ | exact Local.ld _ _ _ | exact Local.blk _ | exact Local.blkS _ | exact Local.alloc _ | refine Local.cond ?_ ?_ | refine Local.bnd ?_ (fun _ => ?_) | split)
theorem local_entries (x : V) : Local (entriesOf x) := by
 unfold entriesOf
 repeat' (first | exact Local.ret _ | exact Local.err _ | exact Local.getO _ | refine Local.cond ?_ ?_ | refine Local.bnd ?_ (fun _ => ?_) | split)
theorem local_lookup (t : TypeId) (x k : V) (ok : Bool) : Local (lookupM P t x k ok) := by
 unfold lookupM
 repeat' (first | exact Local.ret _ | exact Local.err _ | exact local_entries _ | refine Local.cond ?_ ?_ | refine Local.bnd ?_ (fun _ => ?_) | split)
theorem local_mapUpdate (t : TypeId) (m k v : V) : Local (mapUpdateM P t m k v) := by
 unfold mapUpdateM
 repeat' (first | exact Local.ret _ | exact Local.err _ | exact Local.getO _ | exact Local.setO _ _ | refine Local.cond ?_ ?_ | refine Local.bnd ?_ (fun _ => ?_) | split)
theorem local_delete (t : TypeId) (m k : V) : Local (deleteM P t m k) := by
 unfold deleteM
 repeat' (first | exact Local.ret _ | exact Local.err _ | exact Local.getO _ | exact Local.setO _ _ | refine Local.cond ?_ ?_ | refine Local.bnd ?_ (fun _ => ?_) | split)
theorem local_range (t : TypeId) (x : V) : Local (rangeM P t x) := by
 unfold rangeM
 repeat' (first | exact Local.ret _ | exact Local.err _ | exact Local.getO _ | exact Local.alloc _ | refine Local.cond ?_ ?_ | refine Local.bnd ?_ (fun _ => ?_) | split)
theorem local_next (it : V) (b : Bool) : Local (nextM it b) := by
 unfold nextM
 repeat' (first | exact Local.ret _ | exact Local.err _ | exact Local.getO _ | exact Local.setO _ _ | refine Local.cond ?_ ?_ | refine Local.bnd ?_ (fun _ => ?_) | split)
theorem local_entry (it : V) : Local (entryM it) := by
 unfold entryM
 repeat' (first | exact Local.ret _ | exact Local.err _ | exact Local.getO _ | exact Local.setO _ _ | refine Local.cond ?_ ?_ | refine Local.bnd ?_ (fun _ => ?_) | split)
theorem local_taken (n : Nat) (x : V) : Local (takenM n x) := by
 unfold takenM
 repeat' (first | exact Local.ret _ | exact Local.err _ | exact Local.ld _ _ _ | refine Local.cond ?_ ?_ | refine Local.bnd ?_ (fun _ => ?_) | split)
theorem local_grow (e : TypeId) (size b o len n : Nat) (new : List V) : Local (growM e size b o len n new) := by
 unfold growM
 repeat' (first | exact Local.ret _ | exact Local.err _ | exact Local.ld _ _ _ | exact Local.blk _ | exact Local.blkS _ | exact Local.kill _ | exact Local.alloc _ | refine Local.cond ?_ ?_ | refine Local.bnd ?_ (fun _ => ?_) | split)
theorem local_appendCore (e : TypeId) (size bytes : Nat) (s : V) (new : List V) (n : Nat) : Local (appendCore e size bytes s new n) := by
 unfold appendCore
 repeat' (first | exact Local.ret _ | exact Local.err _ | exact local_grow _ _ _ _ _ _ _ | exact Local.stc _ _ _ | exact Local.alloc _ | refine Local.cond ?_ ?_ | refine Local.bnd ?_ (fun _ => ?_) | split)
theorem local_append (t tx : TypeId) (s x : V) : Local (appendM P t tx s x) := by
 unfold appendM
 repeat' (first | exact Local.err _ | exact local_taken _ _ | exact local_appendCore _ _ _ _ _ _ | refine Local.cond ?_ ?_ | refine Local.bnd ?_ (fun _ => ?_) | split)
theorem local_copy (t : TypeId) (d x : V) : Local (copyM P t d x) := by
 unfold copyM
 repeat' (first | exact Local.ret _ | exact Local.err _ | exact Local.ld _ _ _ | exact Local.stc _ _ _ | refine Local.cond ?_ ?_ | refine Local.bnd ?_ (fun _ => ?_) | split)
theorem local_clear (t : TypeId) (x : V) : Local (clearM P t x) := by
 unfold clearM
 repeat' (first | exact Local.ret _ | exact Local.err _ | exact Local.getO _ | exact Local.setO _ _ | exact Local.stc _ _ _ | refine Local.cond ?_ ?_ | refine Local.bnd ?_ (fun _ => ?_) | split)
theorem local_len (t : TypeId) (x : V) : Local (lenM P t x) := by
 unfold lenM
 repeat' (first | exact Local.ret _ | exact Local.err _ | exact Local.getO _ | refine Local.cond ?_ ?_ | refine Local.bnd ?_ (fun _ => ?_) | split)
theorem local_cap (t : TypeId) (x : V) : Local (capM P t x) := by
 unfold capM
 repeat' (first | exact Local.ret _ | exact Local.err _ | exact Local.blk _ | exact Local.blkS _ | refine Local.cond ?_ ?_ | refine Local.bnd ?_ (fun _ => ?_) | split)
theorem local_unsafeString (t : TypeId) (p : V) (n : Nat) : Local (unsafeStringM P t p n) := by
 unfold unsafeStringM
 repeat' (first | exact Local.ret _ | exact Local.err _ | exact Local.blk _ | exact Local.blkS _ | exact Local.ld _ _ _ | exact Local.kill _ | refine Local.cond ?_ ?_ | refine Local.bnd ?_ (fun _ => ?_) | split)
theorem local_builtin (b : Builtin) (ts : Array TypeId) (args : List V) : Local (builtinM P b ts args) := by
 unfold builtinM
 repeat' (first | exact Local.ret _ | exact Local.err _ | exact Local.opt _ _ | exact local_unsafeString _ _ _ | exact local_len _ _ | exact local_cap _ _ | exact local_append _ _ _ _ | exact local_copy _ _ _ | exact local_delete _ _ _ | exact local_clear _ _ | split)
theorem local_const (gl : T (List V)) (t : TypeId) (g o : Nat) : Local (constM P gl t g o) := by
 unfold constM
 repeat' (first | exact Local.ret _ | exact Local.err _ | refine Local.cond ?_ ?_ | split)
theorem local_op {gl : T (List V)} {call : FuncId → List V → M V} (hc : ∀ f vs, Local (call f vs)) (ev : Operand → V) (o : Op) : Local (opM P gl call ev o) := by
 rw [opM_eq]
 try unfold opPick opAlloc opBox opBuild opBuildSlice opLoad opStore opNilCheck opMakeInterface opMakeFunc opMakeMap opMakeSlice opFieldAddr opField opIndexAddr opIndex opExtract opCall callV
 repeat' (first
  | exact Local.ret _ | exact Local.err _ | exact Local.opt _ _ | exact Local.alloc _ | exact hc _ _
  | exact local_loadVar _ _ _ | exact local_const _ _ _ _ | exact local_storeVar _ _ _ _ | exact local_part _ _ _ | exact local_build _ _ | exact local_buildSlice _ _ _ | exact local_slice _ _ _ _ _ | exact local_convert _ _ _
  | exact local_lookup _ _ _ _ | exact local_mapUpdate _ _ _ _ | exact local_range _ _ | exact local_next _ _ | exact local_entry _ | exact local_builtin _ _ _
  | refine Local.cond ?_ ?_ | refine Local.bnd ?_ (fun _ => ?_) | split)
end
section
variable {c : Cfg} {call : FuncId → List V → M V} {ops : Array Oper}
theorem local_stepV (hc : ∀ f vs, Local (call f vs)) (o : Oper) (tm : T V) : Local (stepV c call ops o tm) := by
 rw [stepV_eq]
 repeat' (first | exact Local.ret _ | exact Local.err _ | exact local_op hc _ _ | refine Local.cond ?_ ?_ | split)
theorem local_put (nt : Nat) (d : Option Tmp) (v : V) (tm : T V) : Local (putM nt d v tm) := by
 rw [putM_eq]
 repeat' (first | exact Local.ret _ | exact Local.err _ | refine Local.cond ?_ ?_ | split)
theorem local_step (hc : ∀ f vs, Local (call f vs)) (nt : Nat) (o : Oper) (tm : T V) : Local (stepM c call ops nt o tm) :=
 Local.bnd (local_stepV hc o tm) fun _ => local_put _ _ _ _
theorem local_run (hc : ∀ f vs, Local (call f vs)) (nt : Nat) : ∀ (l : List Oper) (tm : T V), Local (runM c call ops nt l tm)
 | [], tm => Local.ret _
 | o :: l, tm => Local.bnd (local_step hc nt o tm) fun _ => local_run hc nt l _
end
end Go.Lx
