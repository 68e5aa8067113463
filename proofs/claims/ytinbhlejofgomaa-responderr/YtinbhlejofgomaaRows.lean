/-
  No cell of these rows narrows 'for every input' (looked for: loops, veiled, ifaces, maps, wideKeys, modest, calm, conditions, laid).
  DERIVED. THE GIVEN ROWS OF THIS SEAT. 3 by the template 'for every input the law returns true; each argument reads behind the call as it read before'; 0 by the template 'total and deterministic' (their statements: YtinbhlejofgomaaTotals.lean).
  GIVEN WITH THE SEED: the statements are not yours to turn. If you find one false, say at which input.
  Laid BY PROGRAM, IN A SANDBOX (cutbox-rows.mjs): the forced cells as the released guide's own fill.sh prints them over the translation 7874624ba26d54ce… (all of the seat's roots in one cut). By AI agents, Wed Nov 11 2026. No macro, syntax, notation, axiom, sorry.
-/
import Derived.Test.YtinbhlejofgomaaChecked
import GoSem.Claim
import GoSem.ClaimJoined
import GoSem.ClaimMapViews
import Derived.JoinedTies
import Derived.KernelRfl
namespace Go.Proofs.Ytinbhlejofgomaa
/- THE CELL 'sum', in the pinned program and in every row, IS THE sha256 OF THE DUMP (.gsa) THAT YtinbhlejofgomaaProg.lean LOADS. Nothing in Lean hashes anything: it is a label: what it is worth is what the hold of that sum in a sandbox is worth. -/
noncomputable def Try.pinned : Pinned := { name := "ytinbhlejofgomaa", sum := "7874624ba26d54ce1ca2eecdc29c62d11aa279322efba18597d8c47c5fe354f6", checked := Try.checked }
namespace Rows
def none {H : Type} : Left H := { results := [], args := [] }

/-- 'sluicegatelaw22.RespondNames': WHATEVER THE INPUT: true; the input reads as it did. -/
def respondNamesSpec : ChangeSpec := { name := "respondNames", fn := fun _ => fun
  | [] => { results := [.lit (.bool true)], args := [] }
  | _ => none }
def respondNamesRow : OpenClaim := { program := "ytinbhlejofgomaa", sum := "7874624ba26d54ce1ca2eecdc29c62d11aa279322efba18597d8c47c5fe354f6", func := "sluicegate/sluicegatelaw22.RespondNames", spec := "respondNames", inPlace := ["internal/bytealg.IndexByte"], unfollowed := true, recurses := true, apart := false }
def RespondNamesSaid : Prop := respondNamesRow.holds Try.pinned (OpenSpec.ofChange respondNamesSpec)

/-- ITS FALSE NEIGHBOUR: 'it returns false'. Refute it at one input. -/
def respondNamesWrong : ChangeSpec := { name := "respondNames", fn := fun _ => fun
  | [] => { results := [.lit (.bool false)], args := [] }
  | _ => none }
def RespondNamesWrongFalsely : Prop := respondNamesRow.holds Try.pinned (OpenSpec.ofChange respondNamesWrong)

/-- 'sluicegatelaw22.RespondNil': WHATEVER THE INPUT: true; the input reads as it did. -/
def respondNilSpec : ChangeSpec := { name := "respondNil", fn := fun _ => fun
  | [d] => { results := [.lit (.bool true)], args := [d] }
  | _ => none }
def respondNilRow : OpenClaim := { program := "ytinbhlejofgomaa", sum := "7874624ba26d54ce1ca2eecdc29c62d11aa279322efba18597d8c47c5fe354f6", func := "sluicegate/sluicegatelaw22.RespondNil", spec := "respondNil", inPlace := ["internal/bytealg.IndexByte"], unfollowed := true, recurses := true, apart := false }
def RespondNilSaid : Prop := respondNilRow.holds Try.pinned (OpenSpec.ofChange respondNilSpec)

/-- ITS FALSE NEIGHBOUR: 'it returns false'. Refute it at one input. -/
def respondNilWrong : ChangeSpec := { name := "respondNil", fn := fun _ => fun
  | [d] => { results := [.lit (.bool false)], args := [d] }
  | _ => none }
def RespondNilWrongFalsely : Prop := respondNilRow.holds Try.pinned (OpenSpec.ofChange respondNilWrong)

/-- 'sluicegatelaw22.RespondErr': WHATEVER THE INPUT: true; the input reads as it did. -/
def respondErrSpec : ChangeSpec := { name := "respondErr", fn := fun _ => fun
  | [d1, d2, d3, d4] => { results := [.lit (.bool true)], args := [d1, d2, d3, d4] }
  | _ => none }
def respondErrRow : OpenClaim := { program := "ytinbhlejofgomaa", sum := "7874624ba26d54ce1ca2eecdc29c62d11aa279322efba18597d8c47c5fe354f6", func := "sluicegate/sluicegatelaw22.RespondErr", spec := "respondErr", inPlace := ["internal/bytealg.IndexByte"], unfollowed := true, recurses := true, apart := false }
def RespondErrSaid : Prop := respondErrRow.holds Try.pinned (OpenSpec.ofChange respondErrSpec)

/-- ITS FALSE NEIGHBOUR: 'it returns false'. Refute it at one input. -/
def respondErrWrong : ChangeSpec := { name := "respondErr", fn := fun _ => fun
  | [d1, d2, d3, d4] => { results := [.lit (.bool false)], args := [d1, d2, d3, d4] }
  | _ => none }
def RespondErrWrongFalsely : Prop := respondErrRow.holds Try.pinned (OpenSpec.ofChange respondErrWrong)

/- THE SECOND FORM. 'bulk': how many values and letters a reading holds, each counted each time it is reached (what is shared counts as often as it is met; a slice's spare places count too). A statement '..UptoSaid' is the law's where the arguments, and the package variables that the reading takes, are together of bulk at most 1048576: NARROWER than '..Said'. Prove '..Said' where nothing that the law and all that it calls make is longer than what came in: it says more and counts as full. Else prove '..UptoSaid'. A law counts once. -/
mutual
def uptoBulk {H : Type} : DataW H → Nat
  | .lit (.string bytes) => bytes.length + 1
  | .lit _ => 1
  | .nil => 1
  | .ptr d => uptoBulk d + 1
  | .slice elems spare => uptoBulkAll elems + uptoBulkAll spare + 1
  | .agg parts => uptoBulkAll parts + 1
  | .iface _ d => uptoBulk d + 1
  | .map entries => uptoBulkEntries entries + 1
  | .held _ => 1
def uptoBulkAll {H : Type} : List (DataW H) → Nat
  | [] => 0
  | d :: r => uptoBulk d + uptoBulkAll r
def uptoBulkEntries {H : Type} : List (Lit × DataW H) → Nat
  | [] => 0
  | x :: r => uptoBulkEntry x + uptoBulkEntries r
def uptoBulkEntry {H : Type} : Lit × DataW H → Nat
  | (.string bytes, d) => bytes.length + uptoBulk d + 1
  | (_, d) => uptoBulk d + 1
 end
def uptoSmall : (H : Type) → List (DataW H) → Bool := fun _ ds => decide (uptoBulkAll ds ≤ 1048576)
def OpenSpec.upto (s : _root_.Go.ChangeSpec) : _root_.Go.OpenSpec := { _root_.Go.OpenSpec.ofChange s with cond := some uptoSmall }

/-- 'sluicegatelaw22.RespondNames', WHERE WHAT IT READS IS OF BULK AT MOST 1048576: true; the input reads as it did. -/
def respondNamesUptoRow : OpenClaim := { program := "ytinbhlejofgomaa", sum := "7874624ba26d54ce1ca2eecdc29c62d11aa279322efba18597d8c47c5fe354f6", func := "sluicegate/sluicegatelaw22.RespondNames", spec := "respondNames", inPlace := ["internal/bytealg.IndexByte"], unfollowed := true, recurses := true, apart := false, narrowed := true }
def RespondNamesUptoSaid : Prop := respondNamesUptoRow.holds Try.pinned (OpenSpec.upto respondNamesSpec)

/-- 'sluicegatelaw22.RespondNil', WHERE WHAT IT READS IS OF BULK AT MOST 1048576: true; the input reads as it did. -/
def respondNilUptoRow : OpenClaim := { program := "ytinbhlejofgomaa", sum := "7874624ba26d54ce1ca2eecdc29c62d11aa279322efba18597d8c47c5fe354f6", func := "sluicegate/sluicegatelaw22.RespondNil", spec := "respondNil", inPlace := ["internal/bytealg.IndexByte"], unfollowed := true, recurses := true, apart := false, narrowed := true }
def RespondNilUptoSaid : Prop := respondNilUptoRow.holds Try.pinned (OpenSpec.upto respondNilSpec)

/-- 'sluicegatelaw22.RespondErr', WHERE WHAT IT READS IS OF BULK AT MOST 1048576: true; the input reads as it did. -/
def respondErrUptoRow : OpenClaim := { program := "ytinbhlejofgomaa", sum := "7874624ba26d54ce1ca2eecdc29c62d11aa279322efba18597d8c47c5fe354f6", func := "sluicegate/sluicegatelaw22.RespondErr", spec := "respondErr", inPlace := ["internal/bytealg.IndexByte"], unfollowed := true, recurses := true, apart := false, narrowed := true }
def RespondErrUptoSaid : Prop := respondErrUptoRow.holds Try.pinned (OpenSpec.upto respondErrSpec)

end Rows
end Go.Proofs.Ytinbhlejofgomaa
