/-
  ProxyNil: the card of the row.
-/
import Derived.Test.YthhdkonpejmgcaaGreatDoorNilD
import Derived.Test.YthhdkonpejmgcaaGreatDoorRows
import Derived.Test.YthhdkonpejmgcaaGreatDoorGoA
import Derived.Test.YthhdkonpejmgcaaGreatDoorCloA
import Derived.Test.YthhdkonpejmgcaaGreatDoorTiJ
import Derived.Test.YthhdkonpejmgcaaGreatDoorCards
import Derived.Test.YthhdkonpejmgcaaGreatDoorLy3
import Derived.SevenTiedAt
import Derived.Stop.Joined
namespace Go.Proofs.YthhdkonpejmgcaaGreatDoor.proxyNil
open Go.Proofs Go.Shelf Go.ChangeShapes Go.WideShapes Go.ChangeAt Go.RowKit Go.Lx Go.Proofs.YthhdkonpejmgcaaGreatDoor.proxyLives
set_option linter.unusedVariables false
/-- THE STATEMENT -/
theorem proved : Rows.ProxyNilCardSaid :=
  Claim7.holds_tied_plain_at .later [] [.data, .data, .data, .data, .sentinel, .sentinel, .listed, .data, .data, .pinned] true (true, "2e9c771132211b341bde76546447f32a389b9b909598d1abab7591192e2bc905") true over (fun _ h => by cases h) c_wfNil (fun _ h => by cases h) proxyNil_row_tie rfl ⟨rfl, rfl⟩ c_main rfl
    (fun f fn hf hfn => by
      obtain rfl : f = 4 := Option.some.inj (namedNil.symm.trans hf) |>.symm
      obtain rfl : fn = Tryz.f4 := (Option.some.inj (Tryz.func4.symm.trans hfn)).symm
      exact ⟨c_looks, fun j t ht => by
        rw [Tryz.params4] at ht
        have hm : t ∈ [29] := by simpa using Array.mem_of_getElem? ht
        have hall : ([29].all fun u => !Tryz.prog.wantsStandIn u) = true := by kernel_rfl
        exact (show Tryz.prog.wantsStandIn t = false by simpa using List.all_eq_true.1 hall t hm)⟩)
    goesNil
end Go.Proofs.YthhdkonpejmgcaaGreatDoor.proxyNil
