/-
  No cell of these rows narrows 'for every input' (looked for: loops, veiled, ifaces, maps, wideKeys, modest, calm, conditions, laid).
  DERIVED. THE GIVEN ROWS OF THIS SEAT. 4 by the template 'for every input the law returns true; each argument reads behind the call as it read before'; 0 by the template 'total and deterministic' (their statements: YtcccbbgjmjnagaaTotals.lean).
  GIVEN WITH THE SEED: the statements are not yours to turn. If you find one false, say at which input.
  Laid BY PROGRAM, IN A SANDBOX (cutbox-rows.mjs): the forced cells as the released guide's own fill.sh prints them over the translation 016fc57120161525… (all of the seat's roots in one cut). By AI agents, Wed Nov 11 2026. No macro, syntax, notation, axiom, sorry.
-/
import Derived.Test.YtcccbbgjmjnagaaChecked
import GoSem.Claim
import GoSem.ClaimJoined
import GoSem.ClaimMapViews
import Derived.JoinedTies
import Derived.KernelRfl
namespace Go.Proofs.Ytcccbbgjmjnagaa
/- THE CELL 'sum', in the pinned program and in every row, IS THE sha256 OF THE DUMP (.gsa) THAT YtcccbbgjmjnagaaProg.lean LOADS. Nothing in Lean hashes anything: it is a label: what it is worth is what the hold of that sum in a sandbox is worth. -/
noncomputable def Try.pinned : Pinned := { name := "ytcccbbgjmjnagaa", sum := "016fc57120161525eb17e22977c1cf7c91a065a8275be50a403a45085284ce87", checked := Try.checked }
namespace Rows
def none {H : Type} : Left H := { results := [], args := [] }

/-- 'sluicegatelaw25.StmtmapOnce': WHATEVER THE INPUT: true; the input reads as it did. -/
def stmtmapOnceSpec : ChangeSpec := { name := "stmtmapOnce", fn := fun _ => fun
  | [d] => { results := [.lit (.bool true)], args := [d] }
  | _ => none }
def stmtmapOnceRow : OpenClaim := { program := "ytcccbbgjmjnagaa", sum := "016fc57120161525eb17e22977c1cf7c91a065a8275be50a403a45085284ce87", func := "sluicegate/sluicegatelaw25.StmtmapOnce", spec := "stmtmapOnce", unfollowed := true, recurses := true, apart := false }
def StmtmapOnceSaid : Prop := stmtmapOnceRow.holds Try.pinned (OpenSpec.ofChange stmtmapOnceSpec)

/-- ITS FALSE NEIGHBOUR: 'it returns false'. Refute it at one input. -/
def stmtmapOnceWrong : ChangeSpec := { name := "stmtmapOnce", fn := fun _ => fun
  | [d] => { results := [.lit (.bool false)], args := [d] }
  | _ => none }
def StmtmapOnceWrongFalsely : Prop := stmtmapOnceRow.holds Try.pinned (OpenSpec.ofChange stmtmapOnceWrong)

/-- 'sluicegatelaw25.StmtmapNames': WHATEVER THE INPUT: true; the input reads as it did. -/
def stmtmapNamesSpec : ChangeSpec := { name := "stmtmapNames", fn := fun _ => fun
  | [] => { results := [.lit (.bool true)], args := [] }
  | _ => none }
def stmtmapNamesRow : OpenClaim := { program := "ytcccbbgjmjnagaa", sum := "016fc57120161525eb17e22977c1cf7c91a065a8275be50a403a45085284ce87", func := "sluicegate/sluicegatelaw25.StmtmapNames", spec := "stmtmapNames", unfollowed := true, recurses := true, apart := false }
def StmtmapNamesSaid : Prop := stmtmapNamesRow.holds Try.pinned (OpenSpec.ofChange stmtmapNamesSpec)

/-- ITS FALSE NEIGHBOUR: 'it returns false'. Refute it at one input. -/
def stmtmapNamesWrong : ChangeSpec := { name := "stmtmapNames", fn := fun _ => fun
  | [] => { results := [.lit (.bool false)], args := [] }
  | _ => none }
def StmtmapNamesWrongFalsely : Prop := stmtmapNamesRow.holds Try.pinned (OpenSpec.ofChange stmtmapNamesWrong)

/-- 'sluicegatelaw25.StmtmapScript': WHATEVER THE INPUT: true; the input reads as it did. -/
def stmtmapScriptSpec : ChangeSpec := { name := "stmtmapScript", fn := fun _ => fun
  | [d] => { results := [.lit (.bool true)], args := [d] }
  | _ => none }
def stmtmapScriptRow : OpenClaim := { program := "ytcccbbgjmjnagaa", sum := "016fc57120161525eb17e22977c1cf7c91a065a8275be50a403a45085284ce87", func := "sluicegate/sluicegatelaw25.StmtmapScript", spec := "stmtmapScript", unfollowed := true, recurses := true, apart := false }
def StmtmapScriptSaid : Prop := stmtmapScriptRow.holds Try.pinned (OpenSpec.ofChange stmtmapScriptSpec)

/-- ITS FALSE NEIGHBOUR: 'it returns false'. Refute it at one input. -/
def stmtmapScriptWrong : ChangeSpec := { name := "stmtmapScript", fn := fun _ => fun
  | [d] => { results := [.lit (.bool false)], args := [d] }
  | _ => none }
def StmtmapScriptWrongFalsely : Prop := stmtmapScriptRow.holds Try.pinned (OpenSpec.ofChange stmtmapScriptWrong)

/-- 'sluicegatelaw25.StmtmapNil': WHATEVER THE INPUT: true; the input reads as it did. -/
def stmtmapNilSpec : ChangeSpec := { name := "stmtmapNil", fn := fun _ => fun
  | [d] => { results := [.lit (.bool true)], args := [d] }
  | _ => none }
def stmtmapNilRow : OpenClaim := { program := "ytcccbbgjmjnagaa", sum := "016fc57120161525eb17e22977c1cf7c91a065a8275be50a403a45085284ce87", func := "sluicegate/sluicegatelaw25.StmtmapNil", spec := "stmtmapNil", unfollowed := true, recurses := true, apart := false }
def StmtmapNilSaid : Prop := stmtmapNilRow.holds Try.pinned (OpenSpec.ofChange stmtmapNilSpec)

/-- ITS FALSE NEIGHBOUR: 'it returns false'. Refute it at one input. -/
def stmtmapNilWrong : ChangeSpec := { name := "stmtmapNil", fn := fun _ => fun
  | [d] => { results := [.lit (.bool false)], args := [d] }
  | _ => none }
def StmtmapNilWrongFalsely : Prop := stmtmapNilRow.holds Try.pinned (OpenSpec.ofChange stmtmapNilWrong)

/- THE SECOND FORM. 'bulk': how many values and letters a reading holds, each counted each time it is reached (what is shared counts as often as it is met; a slice's spare places count too). A statement '..UptoSaid' is the law's where the arguments, and the package variables that the reading takes, are together of bulk at most 1048576: NARROWER than '..Said'. Prove '..Said' where nothing that the law and all that it calls make is longer than what came in: it says more and counts as full. Else prove '..UptoSaid'. A law counts once. -/
mutual
def uptoBulk {H : Type} : DataW H → Nat
  | .lit (.string bytes) => bytes.length + 1
  | .lit _ => 1
  | .nil => 1
  | .ptr d => uptoBulk d + 1
  | .slice elems spare => uptoBulkAll elems + uptoBulkAll spare + 1
  | .agg parts => uptoBulkAll parts + 1
  | .iface _ d => uptoBulk d + 1
  | .map entries => uptoBulkEntries entries + 1
  | .held _ => 1
def uptoBulkAll {H : Type} : List (DataW H) → Nat
  | [] => 0
  | d :: r => uptoBulk d + uptoBulkAll r
def uptoBulkEntries {H : Type} : List (Lit × DataW H) → Nat
  | [] => 0
  | x :: r => uptoBulkEntry x + uptoBulkEntries r
def uptoBulkEntry {H : Type} : Lit × DataW H → Nat
  | (.string bytes, d) => bytes.length + uptoBulk d + 1
  | (_, d) => uptoBulk d + 1
 end
def uptoSmall : (H : Type) → List (DataW H) → Bool := fun _ ds => decide (uptoBulkAll ds ≤ 1048576)
def OpenSpec.upto (s : _root_.Go.ChangeSpec) : _root_.Go.OpenSpec := { _root_.Go.OpenSpec.ofChange s with cond := some uptoSmall }

/-- 'sluicegatelaw25.StmtmapOnce', WHERE WHAT IT READS IS OF BULK AT MOST 1048576: true; the input reads as it did. -/
def stmtmapOnceUptoRow : OpenClaim := { program := "ytcccbbgjmjnagaa", sum := "016fc57120161525eb17e22977c1cf7c91a065a8275be50a403a45085284ce87", func := "sluicegate/sluicegatelaw25.StmtmapOnce", spec := "stmtmapOnce", unfollowed := true, recurses := true, apart := false, narrowed := true }
def StmtmapOnceUptoSaid : Prop := stmtmapOnceUptoRow.holds Try.pinned (OpenSpec.upto stmtmapOnceSpec)

/-- 'sluicegatelaw25.StmtmapNames', WHERE WHAT IT READS IS OF BULK AT MOST 1048576: true; the input reads as it did. -/
def stmtmapNamesUptoRow : OpenClaim := { program := "ytcccbbgjmjnagaa", sum := "016fc57120161525eb17e22977c1cf7c91a065a8275be50a403a45085284ce87", func := "sluicegate/sluicegatelaw25.StmtmapNames", spec := "stmtmapNames", unfollowed := true, recurses := true, apart := false, narrowed := true }
def StmtmapNamesUptoSaid : Prop := stmtmapNamesUptoRow.holds Try.pinned (OpenSpec.upto stmtmapNamesSpec)

/-- 'sluicegatelaw25.StmtmapScript', WHERE WHAT IT READS IS OF BULK AT MOST 1048576: true; the input reads as it did. -/
def stmtmapScriptUptoRow : OpenClaim := { program := "ytcccbbgjmjnagaa", sum := "016fc57120161525eb17e22977c1cf7c91a065a8275be50a403a45085284ce87", func := "sluicegate/sluicegatelaw25.StmtmapScript", spec := "stmtmapScript", unfollowed := true, recurses := true, apart := false, narrowed := true }
def StmtmapScriptUptoSaid : Prop := stmtmapScriptUptoRow.holds Try.pinned (OpenSpec.upto stmtmapScriptSpec)

/-- 'sluicegatelaw25.StmtmapNil', WHERE WHAT IT READS IS OF BULK AT MOST 1048576: true; the input reads as it did. -/
def stmtmapNilUptoRow : OpenClaim := { program := "ytcccbbgjmjnagaa", sum := "016fc57120161525eb17e22977c1cf7c91a065a8275be50a403a45085284ce87", func := "sluicegate/sluicegatelaw25.StmtmapNil", spec := "stmtmapNil", unfollowed := true, recurses := true, apart := false, narrowed := true }
def StmtmapNilUptoSaid : Prop := stmtmapNilUptoRow.holds Try.pinned (OpenSpec.upto stmtmapNilSpec)

end Rows
end Go.Proofs.Ytcccbbgjmjnagaa
