/-
  The program's tie: its variables, each by itself.
-/
import Derived.Test.YthhdkonpejmgcaaGreatDoorTiA
import Derived.LaidByTextLater
import Derived.SevenTiedAt
import Derived.LaidSub
import Derived.LaidOnce
namespace Go.Proofs.YthhdkonpejmgcaaGreatDoor.ties
open Go Go.Proofs
set_option maxRecDepth 100000
noncomputable def code : Code := ((Tryz.prog.funcs[821]?).bind (·.body)).getD .skip
noncomputable def stored : List Nat := (code.laysInOrder []).getD []
noncomputable def lf (x : String × DataW Unit) : Bool := (Tryz.prog.globalNamed x.1).any fun v => (stored.contains v == (Tryz.prog.kindBase x.1 != some .zero)) && callsFit code v (Tryz.prog.kindBase x.1) &&
  ((code.storedByHandle Tryz.prog).contains v == (Tryz.prog.kindBase x.1 == some .handle)) && (x.2.handleName?.isSome == (Tryz.prog.kindBase x.1 == some .handle || Tryz.prog.kindBase x.1 == some .funcs)) &&
  (Tryz.prog.kindBase x.1 != some .handle || handlePair x) && (x.2.funcsIn?.isSome == (Tryz.prog.kindBase x.1 == some .funcs)) && mapsFit code v x.2 (Tryz.prog.kindBase x.1)
theorem v0 : ((laidAll.drop 0).take 1).all lf = true := by kernel_rfl
theorem v1 : ((laidAll.drop 1).take 1).all lf = true := by kernel_rfl
theorem v2 : ((laidAll.drop 2).take 1).all lf = true := by kernel_rfl
theorem v3 : ((laidAll.drop 3).take 1).all lf = true := by kernel_rfl
theorem v4 : ((laidAll.drop 4).take 1).all lf = true := by kernel_rfl
theorem v5 : ((laidAll.drop 5).take 1).all lf = true := by kernel_rfl
theorem v6 : ((laidAll.drop 6).take 1).all lf = true := by kernel_rfl
theorem v7 : ((laidAll.drop 7).take 1).all lf = true := by kernel_rfl
theorem v8 : ((laidAll.drop 8).take 1).all lf = true := by kernel_rfl
theorem hc : (Tryz.prog.funcs[821]?).bind (·.body) = some code := by
  have h : ((Tryz.prog.funcs[821]?).bind (·.body)).isSome = true := by kernel_rfl
  unfold code
  cases e : (Tryz.prog.funcs[821]?).bind (·.body) with
  | none => rw [e] at h; cases h
  | some c => rfl
theorem hs : code.laysInOrder [] = some stored := by
  have h : (code.laysInOrder []).isSome = true := by kernel_rfl
  unfold stored
  cases e : code.laysInOrder [] with
  | none => rw [e] at h; cases h
  | some c => rfl
theorem g1 : (stored.eraseDups.length == stored.length) = true := by kernel_rfl
theorem g2 : Tryz.prog.callsLaidAlone 821 code = true := by kernel_rfl
theorem step {p : String × DataW Unit → Bool} {l : List (String × DataW Unit)} {i : Nat} (h1 : ((l.drop i).take 1).all p = true) (h2 : (l.drop (i + 1)).all p = true) : (l.drop i).all p = true := by
  rw [← List.take_append_drop 1 (l.drop i), List.all_append, h1, List.drop_drop, h2]; rfl
theorem g3 : (laidAll.drop 0).all lf = true := (step v0 (step v1 (step v2 (step v3 (step v4 (step v5 (step v6 (step v7 (step v8 (by rfl))))))))))
theorem tn : varsNamedLaterB Tryz.prog 821 laidAll = true := by
  unfold varsNamedLaterB
  rw [hc]
  simp only
  rw [hs]
  simp only
  rw [g1, g2]
  exact g3
end Go.Proofs.YthhdkonpejmgcaaGreatDoor.ties
