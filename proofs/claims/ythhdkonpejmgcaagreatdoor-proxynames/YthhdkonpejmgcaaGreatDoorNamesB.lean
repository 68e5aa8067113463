/-
  ProxyNames: the card of the row.
-/
import Derived.Test.YthhdkonpejmgcaaGreatDoorNamesD
import Derived.Test.YthhdkonpejmgcaaGreatDoorRows
import Derived.Test.YthhdkonpejmgcaaGreatDoorGoA
import Derived.Test.YthhdkonpejmgcaaGreatDoorCloA
import Derived.Test.YthhdkonpejmgcaaGreatDoorTiJ
import Derived.Test.YthhdkonpejmgcaaGreatDoorCards
import Derived.Test.YthhdkonpejmgcaaGreatDoorLy3
import Derived.SevenTiedAt
import Derived.Stop.Joined
namespace Go.Proofs.YthhdkonpejmgcaaGreatDoor.proxyNames
open Go.Proofs Go.Shelf Go.ChangeShapes Go.WideShapes Go.ChangeAt Go.RowKit Go.Lx Go.Proofs.YthhdkonpejmgcaaGreatDoor.proxyLives
set_option linter.unusedVariables false
/-- THE STATEMENT -/
theorem proved : Rows.ProxyNamesCardSaid :=
  Claim7.holds_tied_plain_at .later [] [.data, .data, .data, .data, .sentinel, .sentinel, .listed, .data, .data, .pinned] true (true, "2e9c771132211b341bde76546447f32a389b9b909598d1abab7591192e2bc905") true over (fun _ h => by cases h) c_wfNames (fun _ h => by cases h) proxyNames_row_tie rfl ⟨rfl, rfl⟩ c_main rfl
    (fun f fn hf hfn => by
      obtain rfl : f = 3 := Option.some.inj (namedNames.symm.trans hf) |>.symm
      obtain rfl : fn = Tryz.f3 := (Option.some.inj (Tryz.func3.symm.trans hfn)).symm
      exact ⟨c_looks, fun j t ht => by
        rw [Tryz.params3] at ht
        simp at ht⟩)
    goesNames
end Go.Proofs.YthhdkonpejmgcaaGreatDoor.proxyNames
