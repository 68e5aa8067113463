/-
  No cell of these rows narrows 'for every input' (looked for: loops, veiled, ifaces, maps, wideKeys, modest, calm, conditions, laid).
  DERIVED. THE GIVEN ROWS OF THIS SEAT. 4 by the template 'for every input the law returns true; each argument reads behind the call as it read before'; 0 by the template 'total and deterministic' (their statements: YtbebdlmldogcmaaTotals.lean).
  GIVEN WITH THE SEED: the statements are not yours to turn. If you find one false, say at which input.
  Laid BY PROGRAM, IN A SANDBOX (cutbox-rows.mjs): the forced cells as the released guide's own fill.sh prints them over the translation fc2de79e0ea20949… (all of the seat's roots in one cut). By AI agents, Wed Nov 11 2026. No macro, syntax, notation, axiom, sorry.
-/
import Derived.Test.YtbebdlmldogcmaaChecked
import GoSem.Claim
import GoSem.ClaimJoined
import GoSem.ClaimMapViews
import Derived.JoinedTies
import Derived.KernelRfl
namespace Go.Proofs.Ytbebdlmldogcmaa
/- THE CELL 'sum', in the pinned program and in every row, IS THE sha256 OF THE DUMP (.gsa) THAT YtbebdlmldogcmaaProg.lean LOADS. Nothing in Lean hashes anything: it is a label: what it is worth is what the hold of that sum in a sandbox is worth. -/
noncomputable def Try.pinned : Pinned := { name := "ytbebdlmldogcmaa", sum := "fc2de79e0ea209498d58ab46435c65d57cd5a580538963d36f98319f0a432287", checked := Try.checked }
namespace Rows
def none {H : Type} : Left H := { results := [], args := [] }

/-- 'sluicegatelaw28.PoolNames': WHATEVER THE INPUT: true; the input reads as it did. -/
def poolNamesSpec : ChangeSpec := { name := "poolNames", fn := fun _ => fun
  | [] => { results := [.lit (.bool true)], args := [] }
  | _ => none }
def poolNamesRow : OpenClaim := { program := "ytbebdlmldogcmaa", sum := "fc2de79e0ea209498d58ab46435c65d57cd5a580538963d36f98319f0a432287", func := "sluicegate/sluicegatelaw28.PoolNames", spec := "poolNames", unfollowed := true, recurses := true, apart := false }
def PoolNamesSaid : Prop := poolNamesRow.holds Try.pinned (OpenSpec.ofChange poolNamesSpec)

/-- ITS FALSE NEIGHBOUR: 'it returns false'. Refute it at one input. -/
def poolNamesWrong : ChangeSpec := { name := "poolNames", fn := fun _ => fun
  | [] => { results := [.lit (.bool false)], args := [] }
  | _ => none }
def PoolNamesWrongFalsely : Prop := poolNamesRow.holds Try.pinned (OpenSpec.ofChange poolNamesWrong)

/-- 'sluicegatelaw28.PoolClean': WHATEVER THE INPUT: true; the input reads as it did. -/
def poolCleanSpec : ChangeSpec := { name := "poolClean", fn := fun _ => fun
  | [d1, d2] => { results := [.lit (.bool true)], args := [d1, d2] }
  | _ => none }
def poolCleanRow : OpenClaim := { program := "ytbebdlmldogcmaa", sum := "fc2de79e0ea209498d58ab46435c65d57cd5a580538963d36f98319f0a432287", func := "sluicegate/sluicegatelaw28.PoolClean", spec := "poolClean", unfollowed := true, recurses := true, apart := false }
def PoolCleanSaid : Prop := poolCleanRow.holds Try.pinned (OpenSpec.ofChange poolCleanSpec)

/-- ITS FALSE NEIGHBOUR: 'it returns false'. Refute it at one input. -/
def poolCleanWrong : ChangeSpec := { name := "poolClean", fn := fun _ => fun
  | [d1, d2] => { results := [.lit (.bool false)], args := [d1, d2] }
  | _ => none }
def PoolCleanWrongFalsely : Prop := poolCleanRow.holds Try.pinned (OpenSpec.ofChange poolCleanWrong)

/-- 'sluicegatelaw28.PoolFair': WHATEVER THE INPUT: true; the input reads as it did. -/
def poolFairSpec : ChangeSpec := { name := "poolFair", fn := fun _ => fun
  | [d1, d2] => { results := [.lit (.bool true)], args := [d1, d2] }
  | _ => none }
def poolFairRow : OpenClaim := { program := "ytbebdlmldogcmaa", sum := "fc2de79e0ea209498d58ab46435c65d57cd5a580538963d36f98319f0a432287", func := "sluicegate/sluicegatelaw28.PoolFair", spec := "poolFair", unfollowed := true, recurses := true, apart := false }
def PoolFairSaid : Prop := poolFairRow.holds Try.pinned (OpenSpec.ofChange poolFairSpec)

/-- ITS FALSE NEIGHBOUR: 'it returns false'. Refute it at one input. -/
def poolFairWrong : ChangeSpec := { name := "poolFair", fn := fun _ => fun
  | [d1, d2] => { results := [.lit (.bool false)], args := [d1, d2] }
  | _ => none }
def PoolFairWrongFalsely : Prop := poolFairRow.holds Try.pinned (OpenSpec.ofChange poolFairWrong)

/-- 'sluicegatelaw28.PoolNil': WHATEVER THE INPUT: true; the input reads as it did. -/
def poolNilSpec : ChangeSpec := { name := "poolNil", fn := fun _ => fun
  | [d] => { results := [.lit (.bool true)], args := [d] }
  | _ => none }
def poolNilRow : OpenClaim := { program := "ytbebdlmldogcmaa", sum := "fc2de79e0ea209498d58ab46435c65d57cd5a580538963d36f98319f0a432287", func := "sluicegate/sluicegatelaw28.PoolNil", spec := "poolNil", unfollowed := true, recurses := true, apart := false }
def PoolNilSaid : Prop := poolNilRow.holds Try.pinned (OpenSpec.ofChange poolNilSpec)

/-- ITS FALSE NEIGHBOUR: 'it returns false'. Refute it at one input. -/
def poolNilWrong : ChangeSpec := { name := "poolNil", fn := fun _ => fun
  | [d] => { results := [.lit (.bool false)], args := [d] }
  | _ => none }
def PoolNilWrongFalsely : Prop := poolNilRow.holds Try.pinned (OpenSpec.ofChange poolNilWrong)

/- THE SECOND FORM. 'bulk': how many values and letters a reading holds, each counted each time it is reached (what is shared counts as often as it is met; a slice's spare places count too). A statement '..UptoSaid' is the law's where the arguments, and the package variables that the reading takes, are together of bulk at most 1048576: NARROWER than '..Said'. Prove '..Said' where nothing that the law and all that it calls make is longer than what came in: it says more and counts as full. Else prove '..UptoSaid'. A law counts once. -/
mutual
def uptoBulk {H : Type} : DataW H → Nat
  | .lit (.string bytes) => bytes.length + 1
  | .lit _ => 1
  | .nil => 1
  | .ptr d => uptoBulk d + 1
  | .slice elems spare => uptoBulkAll elems + uptoBulkAll spare + 1
  | .agg parts => uptoBulkAll parts + 1
  | .iface _ d => uptoBulk d + 1
  | .map entries => uptoBulkEntries entries + 1
  | .held _ => 1
def uptoBulkAll {H : Type} : List (DataW H) → Nat
  | [] => 0
  | d :: r => uptoBulk d + uptoBulkAll r
def uptoBulkEntries {H : Type} : List (Lit × DataW H) → Nat
  | [] => 0
  | x :: r => uptoBulkEntry x + uptoBulkEntries r
def uptoBulkEntry {H : Type} : Lit × DataW H → Nat
  | (.string bytes, d) => bytes.length + uptoBulk d + 1
  | (_, d) => uptoBulk d + 1
 end
def uptoSmall : (H : Type) → List (DataW H) → Bool := fun _ ds => decide (uptoBulkAll ds ≤ 1048576)
def OpenSpec.upto (s : _root_.Go.ChangeSpec) : _root_.Go.OpenSpec := { _root_.Go.OpenSpec.ofChange s with cond := some uptoSmall }

/-- 'sluicegatelaw28.PoolNames', WHERE WHAT IT READS IS OF BULK AT MOST 1048576: true; the input reads as it did. -/
def poolNamesUptoRow : OpenClaim := { program := "ytbebdlmldogcmaa", sum := "fc2de79e0ea209498d58ab46435c65d57cd5a580538963d36f98319f0a432287", func := "sluicegate/sluicegatelaw28.PoolNames", spec := "poolNames", unfollowed := true, recurses := true, apart := false, narrowed := true }
def PoolNamesUptoSaid : Prop := poolNamesUptoRow.holds Try.pinned (OpenSpec.upto poolNamesSpec)

/-- 'sluicegatelaw28.PoolClean', WHERE WHAT IT READS IS OF BULK AT MOST 1048576: true; the input reads as it did. -/
def poolCleanUptoRow : OpenClaim := { program := "ytbebdlmldogcmaa", sum := "fc2de79e0ea209498d58ab46435c65d57cd5a580538963d36f98319f0a432287", func := "sluicegate/sluicegatelaw28.PoolClean", spec := "poolClean", unfollowed := true, recurses := true, apart := false, narrowed := true }
def PoolCleanUptoSaid : Prop := poolCleanUptoRow.holds Try.pinned (OpenSpec.upto poolCleanSpec)

/-- 'sluicegatelaw28.PoolFair', WHERE WHAT IT READS IS OF BULK AT MOST 1048576: true; the input reads as it did. -/
def poolFairUptoRow : OpenClaim := { program := "ytbebdlmldogcmaa", sum := "fc2de79e0ea209498d58ab46435c65d57cd5a580538963d36f98319f0a432287", func := "sluicegate/sluicegatelaw28.PoolFair", spec := "poolFair", unfollowed := true, recurses := true, apart := false, narrowed := true }
def PoolFairUptoSaid : Prop := poolFairUptoRow.holds Try.pinned (OpenSpec.upto poolFairSpec)

/-- 'sluicegatelaw28.PoolNil', WHERE WHAT IT READS IS OF BULK AT MOST 1048576: true; the input reads as it did. -/
def poolNilUptoRow : OpenClaim := { program := "ytbebdlmldogcmaa", sum := "fc2de79e0ea209498d58ab46435c65d57cd5a580538963d36f98319f0a432287", func := "sluicegate/sluicegatelaw28.PoolNil", spec := "poolNil", unfollowed := true, recurses := true, apart := false, narrowed := true }
def PoolNilUptoSaid : Prop := poolNilUptoRow.holds Try.pinned (OpenSpec.upto poolNilSpec)

end Rows
end Go.Proofs.Ytbebdlmldogcmaa
