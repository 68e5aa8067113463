/-
  Several texts of one walk, joined.
-/
import Derived.Test.YtinbhlejofgomaaGreatHsB
import Derived.Test.YtinbhlejofgomaaGreatPsB
set_option linter.unusedSimpArgs false
set_option linter.unusedVariables false
set_option linter.unusedSectionVars false
set_option linter.defProp false
set_option maxRecDepth 20000
set_option maxHeartbeats 2000000
namespace Go.Proofs.YtinbhlejofgomaaGreat
open Go.Proofs Go.Lx Go.Wx Go.IntWalk
noncomputable section
abbrev mayL : List Nat := [34, 35, 36, 37, 38, 39, 40, 62]
theorem RI.fin {s : RS} (i : RI s) : RI s.fin :=
 ⟨fun f q => (by cases q), fun q => (by cases q), fun q => (by cases q), fun q => (by rcases q with q | q <;> cases q), fun q => (by rcases q with q | q | q <;> cases q), i.ok, i.thn, i.lf, ⟨fun q => False.elim q, fun ⟨f, q, _⟩ => by cases q⟩⟩
theorem RI.awaitMay {s : RS} (i : RI s) (f : Nat) (hf : f ∈ mayL) (h37 : f = 39 → s.cols.length ≤ 4096) (h36 : f = 38 → s.cols = []) : RI (s.await f True) := by
 have nf : ∀ g, (s.await f True).nx = some g → g = f := fun g q => by
  have q : some f = some g := q
  injection q with q
  exact q.symm
 have no : ∀ g, (s.await f True).nx = some g → g ∉ mayL → False := fun g q h => by rw [nf g q] at h; exact h hf
 refine ⟨fun g q => ?_, fun q => (no _ q (by decide)).elim, fun q => (no _ q (by decide)).elim, fun q => ?_, fun q => ?_, i.ok, i.thn, i.lf, ⟨fun _ => ⟨f, rfl, hf⟩, fun _ => trivial⟩⟩
 ·rw [nf g q]
  simp only [mayL, List.mem_cons, List.not_mem_nil, or_false] at hf
  rcases hf with rfl | rfl | rfl | rfl | rfl | rfl | rfl | rfl <;> decide
 ·rcases q with q | q
  ·exact h37 (nf _ q).symm
  ·exact (no _ q (by decide)).elim
 ·rcases q with q | q | q
  ·exact h36 (nf _ q).symm
  ·exact (no _ q (by decide)).elim
  ·exact (no _ q (by decide)).elim
theorem RI.awaitNo {s : RS} (i : RI s) (f : Nat) (hf : f = 64 ∨ f = 106 ∨ f = 109 ∨ f = 144) (h55 : f = 64 → 1 ≤ s.left ∧ s.told.length + s.left ≤ 4096) (h77 : f = 109 → 1 ≤ s.left ∧ s.told.length + s.left ≤ 65536) (h74 : f = 106 → s.cols.length ≤ 4096) (h0 : f = 109 ∨ f = 144 → s.cols = []) : RI (s.await f False) := by
 have nf : ∀ g, (s.await f False).nx = some g → g = f := fun g q => by
  have q : some f = some g := q
  injection q with q
  exact q.symm
 have no : ∀ g, (s.await f False).nx = some g → g ∈ mayL → False := fun g q h => by
  rw [nf g q] at h
  rcases hf with rfl | rfl | rfl | rfl <;> exact absurd h (by decide)
 refine ⟨fun g q => ?_, fun q => h55 (nf _ q).symm, fun q => h77 (nf _ q).symm, fun q => ?_, fun q => ?_, i.ok, i.thn, i.lf, ⟨fun q => False.elim q, fun ⟨g, q, hg⟩ => ?_⟩⟩
 ·rw [nf g q]
  rcases hf with rfl | rfl | rfl | rfl <;> decide
 ·rcases q with q | q
  ·exact (no _ q (by decide)).elim
  ·exact h74 (nf _ q).symm
 ·rcases q with q | q | q
  ·exact (no _ q (by decide)).elim
  ·exact h0 (.inl (nf _ q).symm)
  ·exact h0 (.inr (nf _ q).symm)
 ·exact no g q hg
theorem RI.err {s : RS} (i : RI s) (l : List Nat) : RI (errS s l).1 := by
 unfold errS; split
 ·exact i
 ·exact i.fin
theorem RI.st {s : RS} (i : RI s) (x : Int) : RI { s with st := x } := ⟨i.nx, i.l55, i.l77, i.c37, i.c0, i.ok, i.thn, i.lf, i.may⟩
theorem RI.ends {s : RS} (i : RI s) (x : Int) (m : Prop) : RI (s.ends x m) := by
 unfold RS.ends; split
 ·exact i.awaitMay 37 (by decide) (fun q => by cases q) (fun q => by cases q)
 ·exact i.fin
theorem RI.done {s : RS} (i : RI s) (l : List Nat) (k : Int) (m : Prop) : RI (doneS s l k m).1 := by
 unfold doneS; split
 ·exact i
 ·exact (i.st _).ends _ _
theorem RI.ok1 {s : RS} (i : RI s) (l : List Nat) (m : Prop) : RI (okS1 s l m).1 := by
 unfold okS1; split
 ·exact i.done _ _ _
 ·exact i.err _
theorem RI.eofOrOk {s : RS} (i : RI s) (l : List Nat) : RI (eofOrOkS s l).1 := by
 unfold eofOrOkS; split
 ·exact i.ok1 _ _
 ·exact (i.st _).fin
theorem RI.text {s : RS} (i : RI s) (l : List Nat) : RI (textS s l).1 := by
 unfold textS; split
 ·exact i
 ·split
  ·exact i.err _
  ·exact i.fin
theorem RI.first {s : RS} (i : RI s) (l : List Nat) : RI (firstS s l).1 := by
 unfold firstS; split
 ·exact i.done _ _ _
 split
 ·exact i.err _
 split
 ·split
  ·exact i
  ·exact RI.awaitMay (s := { s with wants := True }) ⟨i.nx, i.l55, i.l77, i.c37, i.c0, i.ok, i.thn, i.lf, i.may⟩ 62 (by decide) (fun q => by cases q) (fun q => by cases q)
 split
 ·exact i
 ·rename_i he
  have hn := countF_in (l := l) (Classical.not_not.1 he)
  have hl : RI ({ s with left := (countF l).1, told := [], cols := [] } : RS).fin := ⟨fun f q => (by cases q), fun q => (by cases q), fun q => (by cases q), fun q => (by rcases q with q | q <;> cases q), fun q => (by rcases q with q | q | q <;> cases q), ⟨fun x hx => (by simp [RS.fin] at hx), fun x hx => (by simp [RS.fin] at hx)⟩, i.thn, ⟨(by show 0 ≤ (countF l).1; omega), (by show (countF l).1 ≤ 65535; omega)⟩, ⟨fun q => False.elim q, fun ⟨f, q, _⟩ => by cases q⟩⟩
  exact RI.awaitNo hl 64 (.inl rfl) (fun _ => ⟨hn.1, by show ((0 : Nat) : Int) + (countF l).1 ≤ 4096; omega⟩) (fun q => by cases q) (fun q => by cases q) (fun q => by rcases q with q | q <;> cases q)
theorem RI.one {s : RS} (i : RI s) (l : List Nat) (h1 : 1 ≤ s.left) : ((oneS s l).2 ≠ 0 ∧ (oneS s l).1 = s) ∨ ((oneS s l).2 = 0 ∧ (oneS s l).1 = { s with told := s.told ++ [(colF l).1], left := s.left - 1 }) := by
 unfold oneS
 split
 ·exact .inl ⟨(show (5 : Int) ≠ 0 by decide), rfl⟩
 ·exact .inr ⟨rfl, rfl⟩
theorem told_ok {s : RS} (i : RI s) (l : List Nat) : ∀ x ∈ s.told ++ [(colF l).1], x.Ok := fun x hx => by
 rcases List.mem_append.1 hx with q | q
 ·exact i.ok.2 x q
 ·rw [List.mem_singleton.1 q]; exact colF_ok l
structure RJ (s : RS) : Prop where
 ok : (∀ x ∈ s.cols, x.Ok) ∧ ∀ x ∈ s.told, x.Ok
 thn : 0 ≤ s.thn ∧ s.thn ≤ 65535
 lf : 0 ≤ s.left ∧ s.left ≤ 65535
theorem RJ.fin {s : RS} (i : RJ s) : RI s.fin :=
 ⟨fun f q => (by cases q), fun q => (by cases q), fun q => (by cases q), fun q => (by rcases q with q | q <;> cases q), fun q => (by rcases q with q | q | q <;> cases q), i.ok, i.thn, i.lf, ⟨fun q => False.elim q, fun ⟨f, q, _⟩ => by cases q⟩⟩
theorem RI.j {s : RS} (i : RI s) : RJ s := ⟨i.ok, i.thn, i.lf⟩
theorem RJ.no {s : RS} (i : RJ s) (f : Nat) (hf : f = 64 ∨ f = 106 ∨ f = 109 ∨ f = 144) (h55 : f = 64 → 1 ≤ s.left ∧ s.told.length + s.left ≤ 4096) (h77 : f = 109 → 1 ≤ s.left ∧ s.told.length + s.left ≤ 65536) (h74 : f = 106 → s.cols.length ≤ 4096) (h0 : f = 109 ∨ f = 144 → s.cols = []) : RI (s.await f False) := RI.awaitNo i.fin f hf h55 h77 h74 h0
theorem RJ.yes {s : RS} (i : RJ s) (f : Nat) (hf : f ∈ mayL) (h37 : f = 39 → s.cols.length ≤ 4096) (h36 : f = 38 → s.cols = []) : RI (s.await f True) := RI.awaitMay i.fin f hf h37 h36
theorem RI.further {s : RS} (i : RJ s) (hc : s.cols = []) : RI (furtherS s).1 := by
 have ja : RJ (furA s) ∧ (furA s).cols = [] := by
  unfold furA
  split
  ·exact ⟨⟨i.ok, i.thn, i.thn⟩, hc⟩
  ·exact ⟨i, hc⟩
 unfold furtherS
 generalize furA s = s1 at *
 split
 ·exact ja.1.fin
 ·rename_i hz
  have jl := ja.1.lf
  exact RJ.no (s := { s1 with told := [] }) ⟨⟨ja.1.ok.1, fun x hx => by cases hx⟩, ja.1.thn, ja.1.lf⟩ 109 (by decide) (fun q => (by cases q)) (fun _ => ⟨by show 1 ≤ s1.left; omega, by show ((0 : Nat) : Int) + s1.left ≤ 65536; omega⟩) (fun q => (by cases q)) (fun _ => ja.2)
theorem RI.after {s : RS} (i : RJ s) (hc : s.cols = []) : RI (afterS s).1 := by
 unfold afterS
 split
 ·exact i.fin
 ·exact RI.further i hc
theorem RI.defEnd {s : RS} (i : RI s) (h : s.nx = some 144) (l : List Nat) : RI (defEndS s l).1 := by
 unfold defEndS
 split
 ·exact i
 ·exact RI.after (s := { s with st := (eofF l).2.1 }) ⟨i.ok, i.thn, i.lf⟩ (i.c0 (.inr (.inr h)))
theorem RI.colEnd {s : RS} (i : RI s) (h : s.nx = some 106) (l : List Nat) : RI (colEndS s l).1 := by
 unfold colEndS
 split
 ·exact i
 ·show RI (@ite _ _ (Classical.propDecidable _) _ _)
  split
  ·exact (i.st _).fin
  ·exact RI.awaitMay (i.st _) 39 (by decide) (fun _ => i.c37 (.inr h)) (fun q => (by cases q))
theorem RI.prep {s : RS} (i : RI s) (h : s.nx = some 38) (l : List Nat) : RI (prepS s l).1 := by
 have hin := prepF_in l
 unfold prepS
 split
 ·exact i.err l
 split
 ·exact i
 ·exact RI.further (s := { s with left := (prepF l).2.2.1, thn := (prepF l).2.1 }) ⟨i.ok, ⟨hin.1, by show (prepF l).2.1 ≤ 65535; omega⟩, ⟨hin.2.2.1, by show (prepF l).2.2.1 ≤ 65535; omega⟩⟩ (i.c0 (.inl h))
theorem RI.row {s : RS} (i : RI s) (l : List Nat) : RI (rowS s l).1 := by
 unfold rowS
 split
 ·exact i.err l
 split
 ·exact i.done _ _ _
 split
 ·split
  ·exact i
  ·exact (i.st _).ends _ _
 split <;> exact i
theorem RI.col {s : RS} (i : RI s) (h : s.nx = some 64) (l : List Nat) : RI (colNS s l).1 := by
 have hl := i.l55 h
 have ilf := i.lf
 unfold colNS
 rcases i.one l hl.1 with ⟨h1, h2⟩ | ⟨h1, h2⟩
 ·rw [if_pos h1, h2]; exact i
 ·rw [if_neg (fun q => q h1), h2]
  have j : RJ { s with told := s.told ++ [(colF l).1], left := s.left - 1, cols := s.told ++ [(colF l).1] } := ⟨⟨told_ok i l, told_ok i l⟩, i.thn, ⟨by show 0 ≤ s.left - 1; omega, by show s.left - 1 ≤ 65535; omega⟩⟩
  have hlen : (s.told ++ [(colF l).1]).length = s.told.length + 1 := by rw [List.length_append]; rfl
  show RI (colN _)
  unfold colN
  split
  ·split
   ·exact RJ.no j 106 (by decide) (fun q => (by cases q)) (fun q => (by cases q)) (fun _ => by show (s.told ++ [(colF l).1]).length ≤ 4096; omega) (fun q => (by rcases q with q | q <;> cases q))
   ·exact RJ.yes j 39 (by decide) (fun _ => by show (s.told ++ [(colF l).1]).length ≤ 4096; omega) (fun q => (by cases q))
  ·rename_i hz
   have hz : ¬ s.left - 1 = 0 := hz
   have hne : ∀ f, s.nx = some f → f = 64 := fun f q => by rw [h] at q; injection q with q; exact q.symm
   refine ⟨i.nx, fun _ => ⟨by show 1 ≤ s.left - 1; omega, by show ((s.told ++ [(colF l).1]).length : Int) + (s.left - 1) ≤ 4096; omega⟩, fun q => ?_, fun q => ?_, fun q => ?_, j.ok, j.thn, j.lf, i.may⟩
   ·have q : s.nx = some 109 := q
    rw [h] at q; cases q
   ·have q : s.nx = some 39 ∨ s.nx = some 106 := q
    rw [h] at q; rcases q with q | q <;> cases q
   ·have q : s.nx = some 38 ∨ s.nx = some 109 ∨ s.nx = some 144 := q
    rw [h] at q; rcases q with q | q | q <;> cases q
theorem RI.dfn {s : RS} (i : RI s) (h : s.nx = some 109) (l : List Nat) : RI (defNS s l).1 := by
 have hl := i.l77 h
 have ilf := i.lf
 have hc := i.c0 (.inr (.inl h))
 unfold defNS
 rcases i.one l hl.1 with ⟨h1, h2⟩ | ⟨h1, h2⟩
 ·rw [if_pos h1, h2]; exact i
 ·rw [if_neg (fun q => q h1), h2]
  have j : RJ { s with told := s.told ++ [(colF l).1], left := s.left - 1 } := ⟨⟨i.ok.1, told_ok i l⟩, i.thn, ⟨by show 0 ≤ s.left - 1; omega, by show s.left - 1 ≤ 65535; omega⟩⟩
  have hlen : (s.told ++ [(colF l).1]).length = s.told.length + 1 := by rw [List.length_append]; rfl
  show RI (defN _).1
  unfold defN
  split
  ·split
   ·exact RJ.no j 144 (by decide) (fun q => (by cases q)) (fun q => (by cases q)) (fun q => (by cases q)) (fun _ => hc)
   ·exact RI.after j hc
  ·rename_i hz
   have hz : ¬ s.left - 1 = 0 := hz
   refine ⟨i.nx, fun q => ?_, fun _ => ⟨by show 1 ≤ s.left - 1; omega, by show ((s.told ++ [(colF l).1]).length : Int) + (s.left - 1) ≤ 65536; omega⟩, fun q => ?_, fun _ => hc, j.ok, j.thn, j.lf, i.may⟩
   ·have q : s.nx = some 64 := q
    rw [h] at q; cases q
   ·have q : s.nx = some 39 ∨ s.nx = some 106 := q
    rw [h] at q; rcases q with q | q <;> cases q
theorem RI.next {s : RS} (i : RI s) {f : Nat} (hf : s.nx = some f) (l : List Nat) : RI (nextS s l).1 := by
 have hm := i.nx f hf
 simp only [List.mem_cons, List.not_mem_nil, or_false] at hm
 rcases hm with rfl | rfl | rfl | rfl | rfl | rfl | rfl | rfl | rfl | rfl | rfl | rfl
 ·rw [show nextS s l = okS1 s l False by unfold nextS; rw [hf]; rfl]; exact i.ok1 _ _
 ·rw [show nextS s l = eofOrOkS s l by unfold nextS; rw [hf]; rfl]; exact i.eofOrOk _
 ·rw [show nextS s l = textS s l by unfold nextS; rw [hf]; rfl]; exact i.text _
 ·rw [show nextS s l = firstS s l by unfold nextS; rw [hf]; rfl]; exact i.first _
 ·rw [show nextS s l = prepS s l by unfold nextS; rw [hf]; rfl]; exact i.prep hf _
 ·rw [show nextS s l = rowS s l by unfold nextS; rw [hf]; rfl]; exact i.row _
 ·rw [show nextS s l = errS s l by unfold nextS; rw [hf]; rfl]; exact i.err _
 ·rw [show nextS s l = okS1 s l True by unfold nextS; rw [hf]; rfl]; exact i.ok1 _ _
 ·rw [show nextS s l = colNS s l by unfold nextS; rw [hf]; rfl]; exact i.col hf _
 ·rw [show nextS s l = colEndS s l by unfold nextS; rw [hf]; rfl]; exact i.colEnd hf _
 ·rw [show nextS s l = defNS s l by unfold nextS; rw [hf]; rfl]; exact i.dfn hf _
 ·rw [show nextS s l = defEndS s l by unfold nextS; rw [hf]; rfl]; exact i.defEnd hf _
theorem RI.feed {s : RS} (i : RI s) (l : List Nat) : RI (feedS s l).1 := by
 unfold feedS
 cases hf : s.nx with
 | none => rw [if_pos rfl]; exact i
 | some f =>
   rw [if_neg (fun q => by cases q)]
   split
   ·exact i
   ·split
    ·exact (i.next hf l).fin
    ·exact i.next hf l
theorem RI.file {s : RS} (i : RI s) (l : List Nat) : RI (fileS s l).1 := by
 unfold fileS
 split
 ·exact i
 ·split
  ·exact ⟨i.nx, i.l55, i.l77, i.c37, i.c0, i.ok, i.thn, i.lf, i.may⟩
  ·exact i
theorem RI.new (c k fl : Int) : RI (newS c k fl []) := by
 have hc : (newS c k fl []).cols = [] := by unfold newS; simp
 have hn : (answerF k = 1 ∧ (newS c k fl []).nx = none) ∨ (¬ answerF k = 1 ∧ ∃ f, (newS c k fl []).nx = some f ∧ f ∈ mayL) := by
  show (answerF k = 1 ∧ firstN k = none) ∨ (¬ answerF k = 1 ∧ ∃ f, firstN k = some f ∧ f ∈ mayL)
  unfold firstN
  by_cases h1 : answerF k = 1
  ·exact .inl ⟨h1, if_pos h1⟩
  ·refine .inr ⟨h1, ?_⟩
   rw [if_neg h1]
   repeat' split
   all_goals exact ⟨_, rfl, by decide⟩
 have ns : ∀ f, (newS c k fl []).nx = some f → f ∈ mayL := fun f q => by
  rcases hn with ⟨_, e⟩ | ⟨_, g, e, hg⟩
  ·rw [e] at q; cases q
  ·rw [e] at q; cases q; exact hg
 refine ⟨fun f q => ?_, fun q => absurd (ns _ q) (by decide), fun q => absurd (ns _ q) (by decide), fun q => (by rw [hc]; exact Nat.zero_le _), fun q => hc, ⟨fun x hx => (by rw [hc] at hx; cases hx), fun x hx => (by cases hx)⟩, ⟨Int.le_refl 0, (show (0 : Int) ≤ 65535 by decide)⟩, ⟨Int.le_refl 0, (show (0 : Int) ≤ 65535 by decide)⟩, ?_⟩
 ·have := ns f q
  simp only [mayL, List.mem_cons, List.not_mem_nil, or_false] at this
  rcases this with rfl | rfl | rfl | rfl | rfl | rfl | rfl | rfl <;> decide
 ·show (¬ answerF k = 1) ↔ _
  rcases hn with ⟨h1, e⟩ | ⟨h1, g, e, hg⟩
  ·rw [e]
   exact ⟨fun q => absurd h1 q, fun ⟨f, q, _⟩ => by cases q⟩
  ·exact ⟨fun _ => ⟨g, e, hg⟩, fun _ => h1⟩
end
end Go.Proofs.YtinbhlejofgomaaGreat
set_option maxRecDepth 10000
set_option maxHeartbeats 1000000
namespace Go.Proofs.YtinbhlejofgomaaGreat
open Go.Proofs Go.Lx Go.Wx Go.IntWalk
noncomputable section
def stO (f : Nat) (w s : Prop) : Int :=
 if f = 34 ∨ f = 35 ∨ f = 36 ∨ f = 40 then 1 else if f = 37 then 2 else if f = 64 then 3 else if f = 106 then 4 else if f = 39 then 5 else
 if f = 62 then @ite _ w (Classical.propDecidable _) 6 7 else if f = 38 then 8 else if f = 109 then @ite _ s (Classical.propDecidable _) 11 9 else @ite _ s (Classical.propDecidable _) 12 10
def stF (s : RS) : Int := match s.nx with
 | none => 0
 | some f => stO f s.wants s.second
structure Sim (s : RS) (d : XD) : Prop where
 c : d.c = s.c
 k : d.k = s.k
 fl : d.fl = s.fl
 st : d.st = stF s
 cols : d.cols = s.cols
 last : d.last = s.st
 left : s.nx = some 64 ∨ s.nx = some 109 → d.left = s.left
 beh : s.nx = some 109 ∨ s.nx = some 144 → ¬ s.second → d.beh = s.thn
def ansOk (f : Nat) (k : Int) : Prop := (f = 34 → answerF k = 2) ∧ (f = 35 → answerF k = 3) ∧ (f = 36 → answerF k = 4) ∧ (f = 40 → answerF k = 9) ∧ (f = 37 ∨ f = 62 ∨ f = 64 ∨ f = 106 → answerF k = 5) ∧ (f = 39 → answerF k = 5 ∨ k = 28) ∧ (f = 38 ∨ f = 109 ∨ f = 144 → answerF k = 6)
structure KI (s : RS) : Prop where
 ans : ∀ f, s.nx = some f → ansOk f s.k
 wt : s.wants → s.nx = some 62
 bin : s.bin ↔ ¬ s.k = 3
 sec : s.second → s.nx = none ∨ s.nx = some 109 ∨ s.nx = some 144
 ct : s.nx = some 64 → s.cols = s.told
 lz : s.nx = some 144 → s.left = 0
def Out (p : RS × PT × Int) (q : XD × PT × Int) : Prop := q.2.2 = p.2.2 ∧ (p.2.2 = 0 → q.2.1 = p.2.1 ∧ Sim p.1 q.1 ∧ KI p.1) ∧ (p.2.2 ≠ 0 → q.2.1 = PT.z ∧ Sim p.1.fin q.1 ∧ KI p.1.fin)
theorem ans28 : answerF 28 = 7 := by decide
theorem more_iff {k : Int} (h : answerF k = 5 ∨ k = 28) : (¬ k = 28) ↔ answerF k = 5 := by
 constructor
 ·intro q; rcases h with h | h
  ·exact h
  ·exact absurd h q
 ·intro q w; rw [w, ans28] at q; cases q
theorem Sim.fin {s : RS} {d : XD} (i : Sim s d) : Sim s.fin { d with st := 0 } := ⟨i.c, i.k, i.fl, rfl, i.cols, i.last, fun q => (by rcases q with q | q <;> cases q), fun q => (by rcases q with q | q <;> cases q)⟩
theorem KI.fin {s : RS} (i : KI s) (w : ¬ s.wants) : KI s.fin := ⟨fun f q => (by cases q), fun q => absurd q w, i.bin, fun q => .inl rfl, fun q => (by cases q), fun q => (by cases q)⟩
theorem out_bad {s : RS} {d : XD} (i : Sim s d) (k : KI s) (w : ¬ s.wants) (p : PT) : Out (s, p, 5) d.bad := ⟨rfl, fun q => absurd q ne5, fun _ => ⟨rfl, i.fin, k.fin w⟩⟩
theorem out_err {s : RS} {d : XD} (i : Sim s d) (k : KI s) (w : ¬ s.wants) (l : List Nat) : Out (errS s l) (xErr d l) := by
 unfold errS xErr
 split
 ·exact out_bad i k w _
 ·exact ⟨rfl, fun _ => ⟨rfl, i.fin, k.fin w⟩, fun q => absurd rfl q⟩
theorem Sim.sts {s : RS} {d : XD} (i : Sim s d) (x : Int) : Sim { s with st := x } { d with last := x } := ⟨i.c, i.k, i.fl, i.st, i.cols, rfl, i.left, i.beh⟩
theorem KI.sts {s : RS} (i : KI s) (x : Int) : KI { s with st := x } := ⟨i.ans, i.wt, i.bin, i.sec, i.ct, i.lz⟩
theorem Sim.aw {s : RS} {d : XD} (i : Sim s d) (f : Nat) (m : Prop) (h : ¬ (f = 64 ∨ f = 109 ∨ f = 144)) {t : Int} (ht : t = stO f s.wants s.second) : Sim (s.await f m) { d with st := t } :=
 ⟨i.c, i.k, i.fl, ht, i.cols, i.last, fun q => (by
   rcases q with q | q
   ·injection q with q; exact absurd (.inl q) h
   ·injection q with q; exact absurd (.inr (.inl q)) h), fun q => (by
   rcases q with q | q
   ·injection q with q; exact absurd (.inr (.inl q)) h
   ·injection q with q; exact absurd (.inr (.inr q)) h)⟩
theorem KI.aw {s : RS} (i : KI s) (f : Nat) (m : Prop) (w : ¬ s.wants) (z : ¬ s.second) (a : ansOk f s.k) (h : f ≠ 64 ∧ f ≠ 144) : KI (s.await f m) := ⟨fun g q => (by injection q with q; rw [← q]; exact a), fun q => absurd q w, i.bin, fun q => absurd q z, fun q => (by injection q with q; exact absurd q h.1), fun q => (by injection q with q; exact absurd q h.2)⟩
theorem ends_sim {s : RS} {d : XD} (i : Sim s d) (k : KI s) (w : ¬ s.wants) (z : ¬ s.second) (x : Int) {m : Prop} (hm : m ↔ answerF s.k = 5) : Sim (({ s with st := x } : RS).ends x m) (d.ends x) ∧ KI (({ s with st := x } : RS).ends x m) ∧ ((d.ends x).st = 0 ↔ ¬ (m ∧ ¬ iAnd .u16 x 8 = 0)) := by
 have hk : answerF d.k = answerF s.k := by rw [i.k]
 unfold RS.ends XD.ends
 by_cases h : m ∧ ¬ iAnd .u16 x 8 = 0
 ·have h5 := hm.1 h.1
  rw [if_pos h, if_pos ⟨h.2, hk.trans h5⟩]
  refine ⟨(i.sts x).aw 37 True (by decide) rfl, (k.sts x).aw 37 True w z ⟨fun q => (by cases q), fun q => (by cases q), fun q => (by cases q), fun q => (by cases q), fun _ => h5, fun q => (by cases q), fun q => (by rcases q with q | q | q <;> cases q)⟩ (by decide), ⟨fun q => absurd (show (2 : Int) = 0 from q) (by decide), fun q => absurd h q⟩⟩
 ·rw [if_neg h, if_neg (fun q => h ⟨hm.2 (hk.symm.trans q.2), q.1⟩)]
  exact ⟨(i.sts x).fin, (k.sts x).fin w, ⟨fun _ => h, fun _ => rfl⟩⟩
theorem out_done {s : RS} {d : XD} (i : Sim s d) (k : KI s) (w : ¬ s.wants) (z : ¬ s.second) (l : List Nat) (kk : Int) {m : Prop} (hm : m ↔ answerF s.k = 5) : Out (doneS s l kk m) (xOk d l kk) := by
 unfold doneS xOk
 rw [i.c]
 split
 ·exact out_bad i k w _
 ·obtain ⟨e1, e2, e3⟩ := ends_sim i k w z (okV l s.c).s hm
  exact ⟨rfl, fun _ => ⟨by rw [propext e3], e1, e2⟩, fun q => absurd rfl q⟩
theorem errF_no {l : List Nat} {c : Int} (hb : ∀ x ∈ l, x < 256) (h : firstF l c ≠ 2) : (errF l).2.2.2 ≠ 0 := by
 have e : ∀ R : Rd, R.e ≠ 0 → (errG (mustF (R.fix 2).2 [35]) (R.fix 2).1).2.2.2 ≠ 0 := fun R hR => by
  rw [Rd.fix_err _ hR]
  have : (mustF R [35]).e ≠ 0 := by
   unfold mustF
   rw [Rd.fix_err _ hR, bad_e hR]
   exact hR
  unfold errG
  rw [if_neg this]
  exact this
 refine e _ ?_
 rcases l with _ | ⟨a, t⟩
 ·rw [must_byt (R := ⟨[], 0⟩) hb 255]
  have q : (Rd.mk [] 0).byt = (0, ⟨[], 4⟩) := rfl
  rw [q, bad_e (show Rd.e ⟨[], 4⟩ ≠ 0 from ne4)]
  exact ne4
 ·by_cases ha : a = 255
  ·subst ha
   exfalso
   apply h
   unfold firstF
   rw [if_neg (by simp), if_neg (by show ¬ ((255 : Nat) : Int) = 0; decide), if_pos (show byI (255 :: t) 0 = 255 from rfl)]
  ·rw [must_no hb ha]; exact ne5
theorem first2 {l : List Nat} {c : Int} (h : firstF l c = 2) : ∃ t, l = 255 :: t := by
 unfold firstF at h
 rcases l with _ | ⟨a, t⟩
 ·rw [if_pos (show ([] : List Nat).length = 0 from rfl)] at h; cases h
 ·rw [if_neg (by simp)] at h
  by_cases h0 : byI (a :: t) 0 = 0
  ·rw [if_pos h0] at h; cases h
  ·rw [if_neg h0] at h
   by_cases h1 : byI (a :: t) 0 = 255
   ·have : (a : Int) = 255 := h1
    exact ⟨t, by rw [show a = 255 by omega]⟩
   ·rw [if_neg h1] at h
    split at h <;> cases h
theorem first_b {l : List Nat} {c : Int} (h : firstF l c ≠ 2) (h0 : ¬ l.length = 0) : ¬ byI l 0 = 255 := fun q => h (by
 unfold firstF
 rw [if_neg h0, if_neg (by rw [q]; decide), if_pos q])
theorem eofF_iff {l : List Nat} (hb : ∀ x ∈ l, x < 256) : (eofF l).2.2 = 0 ↔ l.length = 5 ∧ byI l 0 = 254 := by
 unfold eofF eofG
 rw [must_byt (R := ⟨l, 0⟩) hb 254]
 by_cases h0 : l.length = 0
 ·have e : (Rd.mk l 0).byt = (0, ⟨l, 4⟩) := by
   unfold Rd.byt
   rw [if_neg (fun u => u rfl), if_pos (by show l.length < 1; omega)]
  rw [e]
  have h4 : (Rd.mk l 4).e ≠ 0 := ne4
  rw [bad_e h4, Rd.fix_err _ h4, Rd.fix_err _ h4]
  unfold overF Rd.over
  rw [bad_e h4, if_neg h4]
  exact ⟨fun q => absurd q h4, fun q => absurd q.1 (by omega)⟩
 have e : (Rd.mk l 0).byt = (byI l 0, ⟨l.drop 1, 0⟩) := go_byt (l := l) (a := 0) (by omega)
 have e1 : (Rd.mk l 0).byt.2.bad (¬ (Rd.mk l 0).byt.1 = (254 : Nat)) = (Rd.mk (l.drop 1) 0).bad (¬ byI l 0 = 254) := by rw [e]; rfl
 rw [e1]
 by_cases h254 : byI l 0 = 254
 case neg =>
  rw [Rd.bad_yes ⟨rfl, h254⟩]
  have h5 : (Rd.mk (l.drop 1) 5).e ≠ 0 := ne5
  dsimp only
  rw [Rd.fix_err _ h5, Rd.fix_err _ h5]
  unfold overF Rd.over
  rw [bad_e h5, if_neg h5]
  exact ⟨fun q => absurd q h5, fun q => absurd q.2 h254⟩
 rw [Rd.bad_no (show ¬ ((Rd.mk (l.drop 1) 0).e = 0 ∧ ¬ byI l 0 = 254) from fun q => q.2 h254)]
 have adv := ((adv_fix ⟨l.drop 1, 0⟩ 2).trans (adv_fix _ 2)).trans (adv_bad _ ((((Rd.mk (l.drop 1) 0).fix 2).2.fix 2).2.bs ≠ []))
 unfold overF Rd.over
 by_cases h5 : l.length = 5
 ·rw [go_fix (a := 1) (by omega), go_fix (by omega)]
  have hn : l.drop (1 + 2 + 2) = [] := List.drop_eq_nil_of_le (by omega)
  rw [hn, Rd.bad_no (show ¬ ((Rd.mk [] 0).e = 0 ∧ (Rd.mk [] 0).bs ≠ []) from fun q => q.2 rfl), if_pos (show (Rd.mk [] 0).e = 0 from rfl)]
  exact ⟨fun _ => ⟨h5, h254⟩, fun _ => rfl⟩
 ·refine ⟨fun q => ?_, fun q => absurd q.1 h5⟩
  by_cases hE : ((((Rd.mk (l.drop 1) 0).fix 2).2.fix 2).2.bad ((((Rd.mk (l.drop 1) 0).fix 2).2.fix 2).2.bs ≠ [])).e = 0
  ·have a := adv hE
   have b := bad0 hE
   have c := a.2.2
   rw [Rd.bad_bs, Classical.not_not.1 b.2] at c
   have d : (l.drop 1).length ≤ 4 := List.drop_eq_nil_iff.1 c.symm
   have e := a.2.1
   simp only [List.length_drop] at d e
   omega
  ·rw [if_neg hE] at q
   exact absurd q hE
theorem eof_no {d : XD} {l : List Nat} (h : (eofF l).2.2 ≠ 0) : d.eof l = d := if_neg h
theorem eof_yes {d : XD} {l : List Nat} (h : (eofF l).2.2 = 0) : d.eof l = { d with last := (eofF l).2.1 } := if_pos h
end
noncomputable section
theorem ansOf {f : Nat} {k : Int} (h34 : f = 34 → answerF k = 2) (h35 : f = 35 → answerF k = 3) (h36 : f = 36 → answerF k = 4) (h40 : f = 40 → answerF k = 9) (h5 : f = 37 ∨ f = 62 ∨ f = 64 ∨ f = 106 → answerF k = 5) (h39 : f = 39 → answerF k = 5 ∨ k = 28) (h6 : f = 38 ∨ f = 109 ∨ f = 144 → answerF k = 6) : ansOk f k := ⟨h34, h35, h36, h40, h5, h39, h6⟩
theorem xs_err {d : XD} {l : List Nat} (h : firstF l d.c = 2) : xSingle d l = xErr d l := if_pos h
theorem xs_9 {d : XD} {l : List Nat} (h : firstF l d.c ≠ 2) (a : answerF d.k = 9) : xSingle d l = d.bad := by unfold xSingle; rw [if_neg h, if_pos a]
theorem xs_4 {d : XD} {l : List Nat} (h : firstF l d.c ≠ 2) (a : answerF d.k = 4) : xSingle d l = if l.length = 0 then d.bad else ({ d with st := 0 }, { PT.z with k := 10, last := True }, 0) := by unfold xSingle; rw [if_neg h, if_neg (by omega), if_pos a]
theorem xs_3 {d : XD} {l : List Nat} (h : firstF l d.c ≠ 2) (a : answerF d.k = 3) (q : l.length = 5 ∧ byI l 0 = 254) (he : (eofF l).2.2 = 0) : xSingle d l = ({ d.eof l with st := 0 }, { PT.z with k := 6, last := True, fw := (eofF l).1, fs := (eofF l).2.1 }, 0) := by unfold xSingle; rw [if_neg h, if_neg (by omega), if_neg (by omega), if_pos ⟨a, q⟩, if_pos he]
theorem xs_ok {d : XD} {l : List Nat} (a9 : answerF d.k ≠ 9) (a4 : answerF d.k ≠ 4) (a3 : ¬ (answerF d.k = 3 ∧ l.length = 5 ∧ byI l 0 = 254)) (h : firstF l d.c = 1) : xSingle d l = xOk d l 1 := by unfold xSingle; rw [if_neg (by omega), if_neg a9, if_neg a4, if_neg a3, if_neg (fun q => q h)]
theorem xs_bad {d : XD} {l : List Nat} (a9 : answerF d.k ≠ 9) (a4 : answerF d.k ≠ 4) (a3 : ¬ (answerF d.k = 3 ∧ l.length = 5 ∧ byI l 0 = 254)) (h2 : firstF l d.c ≠ 2) (h : firstF l d.c ≠ 1) : xSingle d l = d.bad := by unfold xSingle; rw [if_neg h2, if_neg a9, if_neg a4, if_neg a3, if_pos h]
theorem ok_yes {s : RS} {l : List Nat} {m : Prop} (h : firstF l s.c = 1) : okS1 s l m = doneS s l 1 m := if_pos h
theorem ok_no {s : RS} {l : List Nat} {m : Prop} (h : firstF l s.c ≠ 1) : okS1 s l m = errS s l := if_neg h
theorem err_no {s : RS} {l : List Nat} (h : (errF l).2.2.2 ≠ 0) : errS s l = (s, PT.z, 5) := if_pos h
section
variable {s : RS} {d : XD} {l : List Nat} (i : Sim s d) (k : KI s) (w : ¬ s.wants) (hb : ∀ x ∈ l, x < 256)
include i k w hb
theorem o34 (h : s.nx = some 34) : Out (okS1 s l False) (xSingle d l) := by
 have ha := (k.ans _ h).1 rfl
 have z : ¬ s.second := fun q => by rcases k.sec q with q | q | q <;> rw [h] at q <;> cases q
 have ak : answerF d.k = 2 := by rw [i.k]; exact ha
 by_cases f2 : firstF l s.c = 2
 ·rw [ok_no (by omega), xs_err (by rw [i.c]; exact f2)]
  exact out_err i k w l
 by_cases f1 : firstF l s.c = 1
 ·rw [ok_yes f1, xs_ok (by omega) (by omega) (fun q => by have := q.1; omega) (by rw [i.c]; exact f1)]
  exact out_done i k w z l 1 ⟨fun q => q.elim, fun q => by rw [ha] at q; cases q⟩
 ·rw [ok_no f1, err_no (errF_no hb f2), xs_bad (by omega) (by omega) (fun q => by have := q.1; omega) (by rw [i.c]; exact f2) (by rw [i.c]; exact f1)]
  exact out_bad i k w _
theorem o35 (h : s.nx = some 35) : Out (eofOrOkS s l) (xSingle d l) := by
 have ha := (k.ans _ h).2.1 rfl
 have z : ¬ s.second := fun q => by rcases k.sec q with q | q | q <;> rw [h] at q <;> cases q
 have ak : answerF d.k = 3 := by rw [i.k]; exact ha
 have hf := eofF_iff hb
 by_cases he : (eofF l).2.2 = 0
 ·have e : eofOrOkS s l = (({ s with st := (eofF l).2.1 } : RS).fin, { PT.z with k := 6, last := True, fw := (eofF l).1, fs := (eofF l).2.1 }, 0) := if_neg fun q => q he
  have f2 : firstF l s.c ≠ 2 := fun q => by
   obtain ⟨t, rfl⟩ := first2 q
   exact eofF_err hb rfl he
  rw [e, xs_3 (by rw [i.c]; exact f2) ak (hf.1 he) he, eof_yes he]
  exact ⟨rfl, fun _ => ⟨rfl, (i.sts _).fin, (k.sts _).fin w⟩, fun q => absurd rfl q⟩
 have e : eofOrOkS s l = okS1 s l False := if_pos he
 have a3 : ¬ (answerF d.k = 3 ∧ l.length = 5 ∧ byI l 0 = 254) := fun q => he (hf.2 q.2)
 rw [e]
 by_cases f2 : firstF l s.c = 2
 ·rw [ok_no (by omega), xs_err (by rw [i.c]; exact f2)]
  exact out_err i k w l
 by_cases f1 : firstF l s.c = 1
 ·rw [ok_yes f1, xs_ok (by omega) (by omega) a3 (by rw [i.c]; exact f1)]
  exact out_done i k w z l 1 ⟨fun q => q.elim, fun q => by rw [ha] at q; cases q⟩
 ·rw [ok_no f1, err_no (errF_no hb f2), xs_bad (by omega) (by omega) a3 (by rw [i.c]; exact f2) (by rw [i.c]; exact f1)]
  exact out_bad i k w _
theorem o36 (h : s.nx = some 36) : Out (textS s l) (xSingle d l) := by
 have ha := (k.ans _ h).2.2.1 rfl
 have ak : answerF d.k = 4 := by rw [i.k]; exact ha
 by_cases f2 : firstF l s.c = 2
 ·obtain ⟨t, rfl⟩ := first2 f2
  have e : textS s (255 :: t) = errS s (255 :: t) := by unfold textS; rw [if_neg (by simp), if_pos (show byI (255 :: t) 0 = 255 from rfl)]
  rw [e, xs_err (by rw [i.c]; exact f2)]
  exact out_err i k w _
 rw [xs_4 (by rw [i.c]; exact f2) ak]
 by_cases h0 : l.length = 0
 ·have e : textS s l = (s, PT.z, 5) := if_pos h0
  rw [e, if_pos h0]
  exact out_bad i k w _
 ·have e : textS s l = (s.fin, { PT.z with k := 10, last := True }, 0) := by unfold textS; rw [if_neg h0, if_neg (first_b f2 h0)]
  rw [e, if_neg h0]
  exact ⟨rfl, fun _ => ⟨rfl, i.fin, k.fin w⟩, fun q => absurd rfl q⟩
theorem o40 (h : s.nx = some 40) : Out (errS s l) (xSingle d l) := by
 have ha := (k.ans _ h).2.2.2.1 rfl
 have ak : answerF d.k = 9 := by rw [i.k]; exact ha
 by_cases f2 : firstF l s.c = 2
 ·rw [xs_err (by rw [i.c]; exact f2)]
  exact out_err i k w _
 ·rw [err_no (errF_no hb f2), xs_9 (by rw [i.c]; exact f2) ak]
  exact out_bad i k w _
theorem o37 (h : s.nx = some 37) : Out (firstS s l) (xResult d l) := by
 have ha := (k.ans _ h).2.2.2.2.1 (.inl rfl)
 have z : ¬ s.second := fun q => by rcases k.sec q with q | q | q <;> rw [h] at q <;> cases q
 have hst : ¬ d.st = 7 := by
  have : d.st = 2 := by rw [i.st]; unfold stF; rw [h]; rfl
  omega
 by_cases f1 : firstF l s.c = 1
 ·have e1 : firstS s l = doneS s l 1 True := if_pos f1
  have e2 : xResult d l = xOk d l 1 := by unfold xResult; rw [i.c, if_neg (by omega), if_pos f1]
  rw [e1, e2]
  exact out_done i k w z l 1 ⟨fun _ => ha, fun _ => trivial⟩
 by_cases f2 : firstF l s.c = 2
 ·have e1 : firstS s l = errS s l := by unfold firstS; rw [if_neg f1, if_pos f2]
  have e2 : xResult d l = xErr d l := by unfold xResult; rw [i.c, if_pos f2]
  rw [e1, e2]
  exact out_err i k w _
 by_cases f4 : firstF l s.c = 4
 ·by_cases hf : fileE l = 0
  ·have e1 : firstS s l = (({ s with wants := True } : RS).await 62 True, { PT.z with k := 3 }, 0) := by unfold firstS; rw [if_neg f1, if_neg f2, if_pos f4, if_neg (fun q => q hf)]
   have e2 : xResult d l = ({ d with st := 6 }, { PT.z with k := 3 }, 0) := by unfold xResult; rw [i.c, if_neg f2, if_neg f1, if_neg hst, if_pos f4, if_neg (fun q => q hf)]
   rw [e1, e2]
   refine ⟨rfl, fun _ => ⟨rfl, ⟨i.c, i.k, i.fl, ?_, i.cols, i.last, fun q => (by rcases q with q | q <;> cases q), fun q => (by rcases q with q | q <;> cases q)⟩, ⟨fun g q => ?_, fun _ => rfl, k.bin, fun q => absurd q z, fun q => (by cases q), fun q => (by cases q)⟩⟩, fun q => absurd rfl q⟩
   ·show (6 : Int) = stO 62 True s.second
    unfold stO
    rw [if_neg (by decide), if_neg (by decide), if_neg (by decide), if_neg (by decide), if_neg (by decide), if_pos rfl, if_pos trivial]
   ·injection q with q
    rw [← q]
    exact ansOf (fun q => (by cases q)) (fun q => (by cases q)) (fun q => (by cases q)) (fun q => (by cases q)) (fun _ => ha) (fun q => (by cases q)) (fun q => (by rcases q with q | q | q <;> cases q))
  ·have e1 : firstS s l = (s, PT.z, 5) := by unfold firstS; rw [if_neg f1, if_neg f2, if_pos f4, if_pos hf]
   have e2 : xResult d l = d.bad := by unfold xResult; rw [i.c, if_neg f2, if_neg f1, if_neg hst, if_pos f4, if_pos hf]
   rw [e1, e2]
   exact out_bad i k w _
 by_cases hc : (countF l).2 = 0
 ·have e1 : firstS s l = (({ s with left := (countF l).1, told := [], cols := [] } : RS).await 64 False, { PT.z with k := 4 }, 0) := by unfold firstS; rw [if_neg f1, if_neg f2, if_neg f4, if_neg (fun q => q hc)]
  have e2 : xResult d l = ({ d with st := 3, left := (countF l).1, cols := [] }, { PT.z with k := 4 }, 0) := by unfold xResult; rw [i.c, if_neg f2, if_neg f1, if_neg hst, if_neg f4, if_neg (fun q => q hc)]
  rw [e1, e2]
  refine ⟨rfl, fun _ => ⟨rfl, ⟨i.c, i.k, i.fl, rfl, rfl, i.last, fun _ => rfl, fun q => (by rcases q with q | q <;> cases q)⟩, ⟨fun g q => ?_, fun q => absurd q w, k.bin, fun q => absurd q z, fun _ => rfl, fun q => (by cases q)⟩⟩, fun q => absurd rfl q⟩
  injection q with q
  rw [← q]
  exact ansOf (fun q => (by cases q)) (fun q => (by cases q)) (fun q => (by cases q)) (fun q => (by cases q)) (fun _ => ha) (fun q => (by cases q)) (fun q => (by rcases q with q | q | q <;> cases q))
 ·have e1 : firstS s l = (s, PT.z, 5) := by unfold firstS; rw [if_neg f1, if_neg f2, if_neg f4, if_pos hc]
  have e2 : xResult d l = d.bad := by unfold xResult; rw [i.c, if_neg f2, if_neg f1, if_neg hst, if_neg f4, if_pos hc]
  rw [e1, e2]
  exact out_bad i k w _
theorem o62 (h : s.nx = some 62) : Out (okS1 s l True) (xResult d l) := by
 have ha := (k.ans _ h).2.2.2.2.1 (.inr (.inl rfl))
 have z : ¬ s.second := fun q => by rcases k.sec q with q | q | q <;> rw [h] at q <;> cases q
 have hst : d.st = 7 := by
  rw [i.st]; unfold stF; rw [h]
  show stO 62 s.wants s.second = 7
  unfold stO
  rw [if_neg (by decide), if_neg (by decide), if_neg (by decide), if_neg (by decide), if_neg (by decide), if_pos rfl, if_neg w]
 by_cases f1 : firstF l s.c = 1
 ·have e2 : xResult d l = xOk d l 1 := by unfold xResult; rw [i.c, if_neg (by omega), if_pos f1]
  rw [ok_yes f1, e2]
  exact out_done i k w z l 1 ⟨fun _ => ha, fun _ => trivial⟩
 by_cases f2 : firstF l s.c = 2
 ·have e2 : xResult d l = xErr d l := by unfold xResult; rw [i.c, if_pos f2]
  rw [ok_no f1, e2]
  exact out_err i k w _
 have e2 : xResult d l = d.bad := by unfold xResult; rw [i.c, if_neg f2, if_neg f1, if_pos hst]
 rw [ok_no f1, e2, err_no (errF_no hb f2)]
 exact out_bad i k w _
theorem o106 (h : s.nx = some 106) : Out (colEndS s l) (xBehind d l) := by
 have ha := (k.ans _ h).2.2.2.2.1 (.inr (.inr (.inr rfl)))
 have z : ¬ s.second := fun q => by rcases k.sec q with q | q | q <;> rw [h] at q <;> cases q
 have hst : d.st = 4 := by rw [i.st]; unfold stF; rw [h]; rfl
 have hf := eofF_iff hb
 by_cases he : (eofF l).2.2 = 0
 case neg =>
  have e1 : colEndS s l = (s, PT.z, 5) := if_pos he
  have e2 : xBehind d l = d.bad := if_pos fun q => he (hf.2 q)
  rw [e1, e2]
  exact out_bad i k w _
 have e2 : xBehind d l = ((d.eof l).beh2 (eofF l).2.1, { PT.z with k := 6, last := ((d.eof l).beh2 (eofF l).2.1).st = 0, fw := (eofF l).1, fs := (eofF l).2.1 }, 0) := by unfold xBehind; rw [if_neg (fun q => q (hf.1 he)), if_neg (fun q => q he)]
 rw [e2, eof_yes he]
 by_cases hc : s.k = 23 ∧ s.fl = 1 ∧ ¬ iAnd .u16 (eofF l).2.1 64 = 0
 ·have e1 : colEndS s l = (({ s with st := (eofF l).2.1 } : RS).fin, { PT.z with k := 6, last := s.k = 23 ∧ s.fl = 1 ∧ ¬ iAnd .u16 (eofF l).2.1 64 = 0, fw := (eofF l).1, fs := (eofF l).2.1 }, 0) := by unfold colEndS; rw [if_neg (fun q => q he), if_pos hc]
  have e3 : ({ d with last := (eofF l).2.1 } : XD).beh2 (eofF l).2.1 = { d with last := (eofF l).2.1, st := 0 } := by unfold XD.beh2; rw [if_pos ⟨hst, by rw [← i.k, ← i.fl] at hc; exact hc⟩]
  rw [e1, e3]
  exact ⟨rfl, fun _ => ⟨by rw [show ((0 : Int) = 0) = (s.k = 23 ∧ s.fl = 1 ∧ ¬ iAnd .u16 (eofF l).2.1 64 = 0) from propext ⟨fun _ => hc, fun _ => rfl⟩], (i.sts _).fin, (k.sts _).fin w⟩, fun q => absurd rfl q⟩
 ·have e1 : colEndS s l = (({ s with st := (eofF l).2.1 } : RS).await 39 True, { PT.z with k := 6, last := s.k = 23 ∧ s.fl = 1 ∧ ¬ iAnd .u16 (eofF l).2.1 64 = 0, fw := (eofF l).1, fs := (eofF l).2.1 }, 0) := by unfold colEndS; rw [if_neg (fun q => q he), if_neg hc]
  have e3 : ({ d with last := (eofF l).2.1 } : XD).beh2 (eofF l).2.1 = { d with last := (eofF l).2.1, st := 5 } := by unfold XD.beh2; rw [if_neg (fun q => hc (by have q := q.2; rw [← i.k, ← i.fl]; exact q)), if_pos hst]
  rw [e1, e3]
  exact ⟨rfl, fun _ => ⟨by rw [show ((5 : Int) = 0) = (s.k = 23 ∧ s.fl = 1 ∧ ¬ iAnd .u16 (eofF l).2.1 64 = 0) from propext ⟨fun q => absurd q (by decide), fun q => absurd q hc⟩], (i.sts _).aw 39 True (by decide) rfl, (k.sts _).aw 39 True w z (ansOf (fun q => (by cases q)) (fun q => (by cases q)) (fun q => (by cases q)) (fun q => (by cases q)) (fun q => (by rcases q with q | q | q | q <;> cases q)) (fun _ => .inl ha) (fun q => (by rcases q with q | q | q <;> cases q))) (by decide)⟩, fun q => absurd rfl q⟩
theorem o39 (h : s.nx = some 39) : Out (rowS s l) (xRow d l) := by
 have ha := (k.ans _ h).2.2.2.2.2.1 rfl
 have z : ¬ s.second := fun q => by rcases k.sec q with q | q | q <;> rw [h] at q <;> cases q
 have hm := more_iff ha
 by_cases f2 : lastF l s.c = 2
 ·have e1 : rowS s l = errS s l := if_pos f2
  have e2 : xRow d l = xErr d l := by unfold xRow; rw [i.c, if_pos f2]
  rw [e1, e2]
  exact out_err i k w _
 by_cases f1 : lastF l s.c = 1
 ·have e1 : rowS s l = doneS s l 8 (¬ s.k = 28) := by unfold rowS; rw [if_neg f2, if_pos f1]
  have e2 : xRow d l = xOk d l 8 := by unfold xRow; rw [i.c, if_neg f2, if_pos f1]
  rw [e1, e2]
  exact out_done i k w z l 8 hm
 by_cases f3 : lastF l s.c = 3
 ·by_cases he : (eofF l).2.2 = 0
  ·have e1 : rowS s l = (({ s with st := (eofF l).2.1 } : RS).ends (eofF l).2.1 (¬ s.k = 28), { PT.z with k := 8, last := ¬ ((¬ s.k = 28) ∧ ¬ iAnd .u16 (eofF l).2.1 8 = 0), fw := (eofF l).1, fs := (eofF l).2.1 }, 0) := by unfold rowS; rw [if_neg f2, if_neg f1, if_pos f3, if_neg (fun q => q he)]
   have e2 : xRow d l = ((d.eof l).ends (eofF l).2.1, { PT.z with k := 8, last := ((d.eof l).ends (eofF l).2.1).st = 0, fw := (eofF l).1, fs := (eofF l).2.1 }, 0) := by unfold xRow; rw [i.c, if_neg f2, if_neg f1, if_pos f3, if_neg (fun q => q he)]
   obtain ⟨x1, x2, x3⟩ := ends_sim i k w z (eofF l).2.1 hm
   have e4 : ({ d with last := (eofF l).2.1 } : XD).ends (eofF l).2.1 = d.ends (eofF l).2.1 := rfl
   rw [e1, e2, eof_yes he, e4]
   exact ⟨rfl, fun _ => ⟨by rw [propext x3], x1, x2⟩, fun q => absurd rfl q⟩
  ·have e1 : rowS s l = (s, PT.z, 5) := by unfold rowS; rw [if_neg f2, if_neg f1, if_pos f3, if_pos he]
   have e2 : xRow d l = (d.eof l).bad := by unfold xRow; rw [i.c, if_neg f2, if_neg f1, if_pos f3, if_pos he]
   rw [e1, e2, eof_no he]
   exact out_bad i k w _
 have hE : xRowE d l = rowE s l := by
  unfold xRowE rowE
  rw [i.k, i.cols]
  by_cases h3 : s.k = 3
  ·rw [if_pos h3, if_neg (fun q => k.bin.1 q h3)]
  ·rw [if_neg h3, if_pos (k.bin.2 h3)]
 by_cases he : rowE s l = 0
 ·have e1 : rowS s l = (s, { PT.z with k := 7 }, 0) := by unfold rowS; rw [if_neg f2, if_neg f1, if_neg f3, if_neg (fun q => q he)]
  have e2 : xRow d l = (d, { PT.z with k := 7 }, 0) := by unfold xRow; rw [i.c, if_neg f2, if_neg f1, if_neg f3, hE, if_neg (fun q => q he)]
  rw [e1, e2]
  exact ⟨rfl, fun _ => ⟨rfl, i, k⟩, fun q => absurd rfl q⟩
 ·have e1 : rowS s l = (s, PT.z, 5) := by unfold rowS; rw [if_neg f2, if_neg f1, if_neg f3, if_pos he]
  have e2 : xRow d l = d.bad := by unfold xRow; rw [i.c, if_neg f2, if_neg f1, if_neg f3, hE, if_pos he]
  rw [e1, e2]
  exact out_bad i k w _
end
end
noncomputable section
theorem one_no {s : RS} {l : List Nat} (h : (colF l).2 ≠ 0) : oneS s l = (s, 5) := if_pos h
theorem one_yes {s : RS} {l : List Nat} (h : (colF l).2 = 0) : oneS s l = ({ s with told := s.told ++ [(colF l).1], left := s.left - 1 }, 0) := if_neg fun q => q h
theorem ans6 {f : Nat} {k : Int} (h : f = 109 ∨ f = 144) (ha : answerF k = 6) : ansOk f k := by
 rcases h with rfl | rfl <;> exact ansOf (fun q => (by cases q)) (fun q => (by cases q)) (fun q => (by cases q)) (fun q => (by cases q)) (fun q => (by rcases q with q | q | q | q <;> cases q)) (fun q => (by cases q)) (fun _ => ha)
theorem st109 {w z : Prop} : stO 109 w z = @ite _ z (Classical.propDecidable _) 11 9 := by
 unfold stO
 rw [if_neg (by decide), if_neg (by decide), if_neg (by decide), if_neg (by decide), if_neg (by decide), if_neg (by decide), if_neg (by decide), if_pos rfl]
theorem st144 {w z : Prop} : stO 144 w z = @ite _ z (Classical.propDecidable _) 12 10 := by
 unfold stO
 rw [if_neg (by decide), if_neg (by decide), if_neg (by decide), if_neg (by decide), if_neg (by decide), if_neg (by decide), if_neg (by decide), if_neg (by decide)]
theorem prep_no {l : List Nat} (hb : ∀ x ∈ l, x < 256) (h : l.length = 0 ∨ ¬ byI l 0 = 0) : (prepF l).2.2.2.2 ≠ 0 := by
 have e : ∀ R : Rd, R.e ≠ 0 → (prepG R).2.2.2.2 ≠ 0 := fun R hR => by
  unfold prepG
  simp only [Rd.fix_err _ hR]
  have : (mustF R [0]) = R := by
   unfold mustF
   rw [Rd.fix_err _ hR, bad_e hR]
  rw [this]
  simp only [Rd.fix_err _ hR]
  unfold prepH overF Rd.over
  rw [bad_e hR, if_neg hR]
  exact hR
 unfold prepF
 refine e _ ?_
 rw [must_byt (R := ⟨l, 0⟩) hb 0]
 by_cases h0 : l.length = 0
 ·have q : (Rd.mk l 0).byt = (0, ⟨l, 4⟩) := by
   unfold Rd.byt
   rw [if_neg (fun u => u rfl), if_pos (by show l.length < 1; omega)]
  rw [q, bad_e (show Rd.e ⟨l, 4⟩ ≠ 0 from ne4)]
  exact ne4
 ·have q : (Rd.mk l 0).byt = (byI l 0, ⟨l.drop 1, 0⟩) := go_byt (l := l) (a := 0) (by omega)
  have h1 : ¬ byI l 0 = 0 := h.resolve_left h0
  have e1 : (Rd.mk l 0).byt.2.bad (¬ (Rd.mk l 0).byt.1 = (0 : Nat)) = (Rd.mk (l.drop 1) 0).bad (¬ byI l 0 = 0) := by rw [q]; rfl
  rw [e1, Rd.bad_yes ⟨rfl, h1⟩]
  exact ne5
theorem further_sim {s : RS} {d : XD} (hc : d.c = s.c) (hk : d.k = s.k) (hfl : d.fl = s.fl) (hcol : d.cols = s.cols) (hl : d.last = s.st) (ha : answerF s.k = 6) (w : ¬ s.wants) (hbin : s.bin ↔ ¬ s.k = 3) (z : ¬ s.second) (h0 : s.left = 0) (hb : d.beh = s.thn) : ((furtherS s).2 ↔ d.told.st = 0) ∧ Sim (furtherS s).1 d.told ∧ KI (furtherS s).1 := by
 have fa : furA s = { s with second := True, left := s.thn } := if_pos ⟨h0, z⟩
 unfold furtherS
 rw [fa]
 unfold XD.told
 by_cases ht : s.thn = 0
 ·rw [if_pos (show ({ s with second := True, left := s.thn } : RS).left = 0 from ht), if_pos (hb.trans ht)]
  exact ⟨⟨fun _ => rfl, fun _ => trivial⟩, ⟨hc, hk, hfl, rfl, hcol, hl, fun q => (by rcases q with q | q <;> cases q), fun q => (by rcases q with q | q <;> cases q)⟩, ⟨fun f q => (by cases q), fun q => absurd q w, hbin, fun _ => .inl rfl, fun q => (by cases q), fun q => (by cases q)⟩⟩
 ·rw [if_neg (show ¬ ({ s with second := True, left := s.thn } : RS).left = 0 from ht), if_neg (fun q => ht (hb.symm.trans q))]
  refine ⟨⟨fun q => q.elim, fun q => absurd (show (11 : Int) = 0 from q) (by decide)⟩, ⟨hc, hk, hfl, ?_, hcol, hl, fun _ => hb, fun _ q => absurd trivial q⟩, ⟨fun f q => ?_, fun q => absurd q w, hbin, fun _ => .inr (.inl rfl), fun q => (by cases q), fun q => (by cases q)⟩⟩
  ·show (11 : Int) = stO 109 s.wants True
   rw [st109, if_pos trivial]
  ·injection q with q
   rw [← q]
   exact ans6 (.inl rfl) ha
theorem xcol_bad {d : XD} {l : List Nat} (h : (colF l).2 ≠ 0) : xColumn d l = d.bad := if_pos h
theorem xcol_yes {d : XD} {l : List Nat} (h : (colF l).2 = 0) : xColumn d l = (xCol2 d l, { PT.z with k := 5, last := (xCol2 d l).st = 0 }, 0) := if_neg fun q => q h
theorem colN_sim {T : RS} {D : XD} (S : Sim T D) (K : KI T) (hnx : T.nx = some 64) (w : ¬ T.wants) (z : ¬ T.second) (ha : answerF T.k = 5) (hst : D.st = 3) : Sim (colN T) (if D.left = 0 then D.columned else D) ∧ KI (colN T) ∧ (if D.left = 0 then D.columned else D).st ≠ 0 := by
 have hl := S.left (.inl hnx)
 unfold colN
 rw [hl]
 by_cases h0 : T.left = 0
 ·rw [if_pos h0, if_pos h0]
  by_cases hp : iAnd .u32 T.c 16777216 = 0
  ·have hp' : plainP D.c := by unfold plainP; rw [S.c]; exact hp
   have e : D.columned = { D with st := 4 } := by unfold XD.columned; rw [if_pos ⟨hst, hp'⟩]
   rw [if_pos hp, e]
   exact ⟨S.aw 106 False (by decide) rfl, K.aw 106 False w z (ansOf (fun q => (by cases q)) (fun q => (by cases q)) (fun q => (by cases q)) (fun q => (by cases q)) (fun _ => ha) (fun q => (by cases q)) (fun q => (by rcases q with q | q | q <;> cases q))) (by decide), (by decide : (4 : Int) ≠ 0)⟩
  ·have hp' : ¬ plainP D.c := by unfold plainP; rw [S.c]; exact hp
   have e : D.columned = { D with st := 5 } := by unfold XD.columned; rw [if_neg (fun q => hp' q.2), if_pos hst]
   rw [if_neg hp, e]
   exact ⟨S.aw 39 True (by decide) rfl, K.aw 39 True w z (ansOf (fun q => (by cases q)) (fun q => (by cases q)) (fun q => (by cases q)) (fun q => (by cases q)) (fun q => (by rcases q with q | q | q | q <;> cases q)) (fun _ => .inl ha) (fun q => (by rcases q with q | q | q <;> cases q))) (by decide), (by decide : (5 : Int) ≠ 0)⟩
 ·rw [if_neg h0, if_neg h0]
  exact ⟨S, K, by rw [hst]; decide⟩
theorem defN_sim {T : RS} {D : XD} (S : Sim T D) (K : KI T) (hnx : T.nx = some 109) (w : ¬ T.wants) (ha : answerF T.k = 6) : ((defN T).2 ↔ (if D.left = 0 then D.columned else D).st = 0) ∧ Sim (defN T).1 (if D.left = 0 then D.columned else D) ∧ KI (defN T).1 := by
 have hl := S.left (.inr hnx)
 have hst : D.st = @ite _ T.second (Classical.propDecidable _) 11 9 := by rw [S.st]; unfold stF; rw [hnx]; exact st109
 unfold defN
 rw [hl]
 by_cases h0 : T.left = 0
 ·rw [if_pos h0, if_pos h0]
  by_cases hp : iAnd .u32 T.c 16777216 = 0
  ·have hp' : plainP D.c := by unfold plainP; rw [S.c]; exact hp
   rw [if_pos hp]
   have key : ∀ t : Int, t ≠ 0 → t = stO 144 T.wants T.second → D.columned = { D with st := t } → (((T.await 144 False, False) : RS × Prop).2 ↔ D.columned.st = 0) ∧ Sim ((T.await 144 False, False) : RS × Prop).1 D.columned ∧ KI ((T.await 144 False, False) : RS × Prop).1 := fun t t0 t1 e => by
    rw [e]
    exact ⟨⟨fun q => q.elim, fun q => absurd q t0⟩, ⟨S.c, S.k, S.fl, t1, S.cols, S.last, fun q => (by rcases q with q | q <;> cases q), fun _ q => S.beh (.inl hnx) q⟩, ⟨fun f q => (by injection q with q; rw [← q]; exact ans6 (.inr rfl) ha), fun q => absurd q w, K.bin, fun _ => .inr (.inr rfl), fun q => (by cases q), fun _ => h0⟩⟩
   by_cases z : T.second
   ·rw [if_pos z] at hst
    refine key 12 (by decide) (by rw [st144, if_pos z]) ?_
    unfold XD.columned
    rw [if_neg (fun q => by have := q.1; omega), if_neg (by omega), if_neg (fun q => by have := q.1; omega), if_neg (by omega), if_pos hp']
   ·rw [if_neg z] at hst
    refine key 10 (by decide) (by rw [st144, if_neg z]) ?_
    unfold XD.columned
    rw [if_neg (fun q => by have := q.1; omega), if_neg (by omega), if_pos ⟨hst, hp'⟩]
  ·have hp' : ¬ plainP D.c := by unfold plainP; rw [S.c]; exact hp
   rw [if_neg hp]
   unfold afterS
   by_cases z : T.second
   ·rw [if_pos z] at hst
    have e : D.columned = { D with st := 0 } := by
     unfold XD.columned
     rw [if_neg (fun q => by have := q.1; omega), if_neg (by omega), if_neg (fun q => by have := q.1; omega), if_neg (by omega), if_neg hp']
    rw [if_pos z, e]
    exact ⟨⟨fun _ => rfl, fun _ => trivial⟩, S.fin, K.fin w⟩
   ·rw [if_neg z] at hst
    have e : D.columned = D.told := by
     unfold XD.columned
     rw [if_neg (fun q => by have := q.1; omega), if_neg (by omega), if_neg (fun q => hp' q.2), if_pos hst]
    rw [if_neg z, e]
    exact further_sim S.c S.k S.fl S.cols S.last ha w K.bin z h0 (S.beh (.inl hnx) z)
 ·rw [if_neg h0, if_neg h0]
  refine ⟨⟨fun q => q.elim, fun q => ?_⟩, S, K⟩
  rw [hst] at q
  split at q <;> exact absurd q (by decide)
section
variable {s : RS} {d : XD} {l : List Nat} (i : Sim s d) (k : KI s) (w : ¬ s.wants) (hb : ∀ x ∈ l, x < 256)
include i k w hb
theorem o64 (h : s.nx = some 64) : Out (colNS s l) (xColumn d l) := by
 have ha := (k.ans _ h).2.2.2.2.1 (.inr (.inr (.inl rfl)))
 have z : ¬ s.second := fun q => by rcases k.sec q with q | q | q <;> rw [h] at q <;> cases q
 have hst : d.st = 3 := by rw [i.st]; unfold stF; rw [h]; rfl
 by_cases he : (colF l).2 = 0
 case neg =>
  have e1 : colNS s l = (s, PT.z, 5) := by unfold colNS; rw [one_no he]; rfl
  rw [e1, xcol_bad he]
  exact out_bad i k w _
 have e1 : colNS s l = (colN { s with told := s.told ++ [(colF l).1], left := s.left - 1, cols := s.told ++ [(colF l).1] }, { PT.z with k := 5 }, 0) := by unfold colNS; rw [one_yes he]; rfl
 have d1 : xCol1 d l = { d with cols := d.cols ++ [(colF l).1], left := d.left - 1 } := by unfold xCol1; rw [if_pos hst]
 have hcols : d.cols ++ [(colF l).1] = s.told ++ [(colF l).1] := by rw [i.cols, k.ct h]
 have hleft := i.left (.inl h)
 rw [e1, xcol_yes he]
 unfold xCol2 colN
 rw [d1]
 have S1 : Sim { s with told := s.told ++ [(colF l).1], left := s.left - 1, cols := s.told ++ [(colF l).1] } { d with cols := d.cols ++ [(colF l).1], left := d.left - 1 } := ⟨i.c, i.k, i.fl, i.st, hcols, i.last, fun _ => by show d.left - 1 = s.left - 1; rw [hleft], i.beh⟩
 have K1 : KI { s with told := s.told ++ [(colF l).1], left := s.left - 1, cols := s.told ++ [(colF l).1] } := ⟨k.ans, k.wt, k.bin, k.sec, fun _ => rfl, fun q => by have q : s.nx = some 144 := q; rw [h] at q; cases q⟩
 obtain ⟨x1, x2, x3⟩ := colN_sim S1 K1 h w z ha hst
 exact ⟨rfl, fun _ => ⟨by
  show ({ PT.z with k := 5, last := _ } : PT) = { PT.z with k := 5 }
  rw [show (_ = (0 : Int)) = False from eq_false x3]
  rfl, x1, x2⟩, fun q => absurd rfl q⟩
theorem o109 (h : s.nx = some 109) : Out (defNS s l) (xColumn d l) := by
 have ha := (k.ans _ h).2.2.2.2.2.2 (.inr (.inl rfl))
 have hst : ¬ d.st = 3 := by
  have : d.st = @ite _ s.second (Classical.propDecidable _) 11 9 := by rw [i.st]; unfold stF; rw [h]; exact st109
  rw [this]
  split <;> decide
 by_cases he : (colF l).2 = 0
 case neg =>
  have e1 : defNS s l = (s, PT.z, 5) := by unfold defNS; rw [one_no he]; rfl
  rw [e1, xcol_bad he]
  exact out_bad i k w _
 have e1 : defNS s l = ((defN { s with told := s.told ++ [(colF l).1], left := s.left - 1 }).1, { PT.z with k := 5, last := (defN { s with told := s.told ++ [(colF l).1], left := s.left - 1 }).2 }, 0) := by unfold defNS; rw [one_yes he]; rfl
 have d1 : xCol1 d l = { d with cols := d.cols, left := d.left - 1 } := by unfold xCol1; rw [if_neg hst]
 have hleft := i.left (.inr h)
 rw [e1, xcol_yes he]
 unfold xCol2
 rw [d1]
 have S1 : Sim { s with told := s.told ++ [(colF l).1], left := s.left - 1 } { d with cols := d.cols, left := d.left - 1 } := ⟨i.c, i.k, i.fl, i.st, i.cols, i.last, fun _ => by show d.left - 1 = s.left - 1; rw [hleft], i.beh⟩
 have K1 : KI { s with told := s.told ++ [(colF l).1], left := s.left - 1 } := ⟨k.ans, k.wt, k.bin, k.sec, fun q => (by have q : s.nx = some 64 := q; rw [h] at q; cases q), fun q => (by have q : s.nx = some 144 := q; rw [h] at q; cases q)⟩
 obtain ⟨x1, x2, x3⟩ := defN_sim S1 K1 h w ha
 exact ⟨rfl, fun _ => ⟨by rw [propext x1], x2, x3⟩, fun q => absurd rfl q⟩
theorem o144 (h : s.nx = some 144) : Out (defEndS s l) (xBehind d l) := by
 have ha := (k.ans _ h).2.2.2.2.2.2 (.inr (.inr rfl))
 have hst : d.st = @ite _ s.second (Classical.propDecidable _) 12 10 := by rw [i.st]; unfold stF; rw [h]; exact st144
 have hf := eofF_iff hb
 by_cases he : (eofF l).2.2 = 0
 case neg =>
  have e1 : defEndS s l = (s, PT.z, 5) := if_pos he
  have e2 : xBehind d l = d.bad := if_pos fun q => he (hf.2 q)
  rw [e1, e2]
  exact out_bad i k w _
 have e2 : xBehind d l = ((d.eof l).beh2 (eofF l).2.1, { PT.z with k := 6, last := ((d.eof l).beh2 (eofF l).2.1).st = 0, fw := (eofF l).1, fs := (eofF l).2.1 }, 0) := by unfold xBehind; rw [if_neg (fun q => q (hf.1 he)), if_neg (fun q => q he)]
 have e1 : defEndS s l = ((afterS { s with st := (eofF l).2.1 }).1, { PT.z with k := 6, last := (afterS { s with st := (eofF l).2.1 }).2, fw := (eofF l).1, fs := (eofF l).2.1 }, 0) := if_neg fun q => q he
 rw [e1, e2, eof_yes he]
 unfold afterS
 by_cases z : s.second
 ·rw [if_pos z] at hst
  have e3 : ({ d with last := (eofF l).2.1 } : XD).beh2 (eofF l).2.1 = { d with last := (eofF l).2.1, st := 0 } := by
   unfold XD.beh2
   rw [if_neg (fun q => by have q : d.st = 4 := q.1; omega), if_neg (show ¬ d.st = 4 by omega), if_neg (show ¬ d.st = 10 by omega)]
  rw [if_pos (show ({ s with st := (eofF l).2.1 } : RS).second from z), e3]
  exact ⟨rfl, fun _ => ⟨by rw [show ((0 : Int) = 0) = True from eq_true rfl], (i.sts _).fin, (k.sts _).fin w⟩, fun q => absurd rfl q⟩
 ·rw [if_neg z] at hst
  have e3 : ({ d with last := (eofF l).2.1 } : XD).beh2 (eofF l).2.1 = ({ d with last := (eofF l).2.1 } : XD).told := by
   unfold XD.beh2
   rw [if_neg (fun q => by have q : d.st = 4 := q.1; omega), if_neg (show ¬ d.st = 4 by omega), if_pos (show d.st = 10 from hst)]
  rw [if_neg (show ¬ ({ s with st := (eofF l).2.1 } : RS).second from z), e3]
  obtain ⟨x1, x2, x3⟩ := further_sim (s := { s with st := (eofF l).2.1 }) (d := { d with last := (eofF l).2.1 }) i.c i.k i.fl i.cols rfl ha w k.bin z (k.lz h) (i.beh (.inr h) z)
  exact ⟨rfl, fun _ => ⟨by rw [propext x1], x2, x3⟩, fun q => absurd rfl q⟩
theorem o38 (h : s.nx = some 38) : Out (prepS s l) (xPrepared d l) := by
 have ha := (k.ans _ h).2.2.2.2.2.2 (.inl rfl)
 have z : ¬ s.second := fun q => by rcases k.sec q with q | q | q <;> rw [h] at q <;> cases q
 by_cases f2 : firstF l s.c = 2
 ·obtain ⟨t, rfl⟩ := first2 f2
  have e1 : prepS s (255 :: t) = errS s (255 :: t) := if_pos (.inr (by show ¬ ((255 : Nat) : Int) = 0; decide))
  have e2 : xPrepared d (255 :: t) = xErr d (255 :: t) := by unfold xPrepared; rw [i.c, if_pos f2]
  rw [e1, e2]
  exact out_err i k w _
 by_cases h0 : l.length = 0 ∨ ¬ byI l 0 = 0
 ·have e1 : prepS s l = errS s l := if_pos h0
  have e2 : xPrepared d l = d.bad := by unfold xPrepared; rw [i.c, if_neg f2, if_pos (prep_no hb h0)]
  rw [e1, e2, err_no (errF_no hb f2)]
  exact out_bad i k w _
 by_cases he : (prepF l).2.2.2.2 = 0
 case neg =>
  have e1 : prepS s l = (s, PT.z, 5) := by unfold prepS; rw [if_neg h0, if_pos he]
  have e2 : xPrepared d l = d.bad := by unfold xPrepared; rw [i.c, if_neg f2, if_pos he]
  rw [e1, e2]
  exact out_bad i k w _
 have e1 : prepS s l = ((furtherS { s with left := (prepF l).2.2.1, thn := (prepF l).2.1 }).1, { PT.z with k := 9, last := (furtherS { s with left := (prepF l).2.2.1, thn := (prepF l).2.1 }).2, p1 := (prepF l).1, p2 := (prepF l).2.1, p3 := (prepF l).2.2.1, p4 := (prepF l).2.2.2.1 }, 0) := by unfold prepS; rw [if_neg h0, if_neg (fun q => q he)]
 have e2 : xPrepared d l = (xPrep2 d l, { PT.z with k := 9, last := (xPrep2 d l).st = 0, p1 := (prepF l).1, p2 := (prepF l).2.1, p3 := (prepF l).2.2.1, p4 := (prepF l).2.2.2.1 }, 0) := by unfold xPrepared; rw [i.c, if_neg f2, if_neg (fun q => q he)]
 rw [e1, e2]
 unfold xPrep2
 by_cases hp : (prepF l).2.2.1 = 0
 ·rw [if_pos hp]
  obtain ⟨x1, x2, x3⟩ := further_sim (s := { s with left := (prepF l).2.2.1, thn := (prepF l).2.1 }) (d := { d with beh := (prepF l).2.1, st := 9, left := (prepF l).2.2.1 }) i.c i.k i.fl i.cols i.last ha w k.bin z hp rfl
  exact ⟨rfl, fun _ => ⟨by rw [propext x1], x2, x3⟩, fun q => absurd rfl q⟩
 ·rw [if_neg hp]
  have fa : furA ({ s with left := (prepF l).2.2.1, thn := (prepF l).2.1 } : RS) = { s with left := (prepF l).2.2.1, thn := (prepF l).2.1 } := if_neg fun q => hp q.1
  unfold furtherS
  rw [fa, if_neg (show ¬ ({ s with left := (prepF l).2.2.1, thn := (prepF l).2.1 } : RS).left = 0 from hp)]
  refine ⟨rfl, fun _ => ⟨by rw [show ((9 : Int) = 0) = False from by decide], ⟨i.c, i.k, i.fl, ?_, i.cols, i.last, fun _ => rfl, fun _ _ => rfl⟩, ⟨fun f q => ?_, fun q => absurd q w, k.bin, fun _ => .inr (.inl rfl), fun q => (by cases q), fun q => (by cases q)⟩⟩, fun q => absurd rfl q⟩
  ·show (9 : Int) = stO 109 s.wants s.second
   rw [st109, if_neg z]
  ·injection q with q
   rw [← q]
   exact ans6 (.inl rfl) ha
theorem next_sim {f : Nat} (hf : s.nx = some f) (hin : f ∈ [34, 35, 36, 37, 38, 39, 40, 62, 64, 106, 109, 144]) : Out (nextS s l) (xFeed d l) := by
 have st : d.st = stO f s.wants s.second := by rw [i.st]; unfold stF; rw [hf]
 have ne : ∀ a, s.nx = some a ↔ f = a := fun a => by rw [hf]; exact ⟨fun q => by injection q, fun q => by rw [q]⟩
 simp only [List.mem_cons, List.not_mem_nil, or_false] at hin
 unfold nextS
 simp only [ne]
 rcases hin with rfl | rfl | rfl | rfl | rfl | rfl | rfl | rfl | rfl | rfl | rfl | rfl
 ·have e : xFeed d l = xSingle d l := by unfold xFeed; rw [st]; rfl
  rw [e]; exact o34 i k w hb hf
 ·have e : xFeed d l = xSingle d l := by unfold xFeed; rw [st]; rfl
  rw [e]; exact o35 i k w hb hf
 ·have e : xFeed d l = xSingle d l := by unfold xFeed; rw [st]; rfl
  rw [e]; exact o36 i k w hb hf
 ·have e : xFeed d l = xResult d l := by unfold xFeed; rw [st]; rfl
  rw [e]; exact o37 i k w hb hf
 ·have e : xFeed d l = xPrepared d l := by unfold xFeed; rw [st]; rfl
  rw [e]; exact o38 i k w hb hf
 ·have e : xFeed d l = xRow d l := by unfold xFeed; rw [st]; rfl
  rw [e]; exact o39 i k w hb hf
 ·have e : xFeed d l = xSingle d l := by unfold xFeed; rw [st]; rfl
  rw [e]; exact o40 i k w hb hf
 ·have s7 : stO 62 s.wants s.second = 7 := by
   unfold stO
   rw [if_neg (by decide), if_neg (by decide), if_neg (by decide), if_neg (by decide), if_neg (by decide), if_pos rfl, if_neg w]
  have e : xFeed d l = xResult d l := by unfold xFeed; rw [st, s7]; rfl
  rw [e]; exact o62 i k w hb hf
 ·have e : xFeed d l = xColumn d l := by unfold xFeed; rw [st]; rfl
  rw [e]; exact o64 i k w hb hf
 ·have e : xFeed d l = xBehind d l := by unfold xFeed; rw [st]; rfl
  rw [e]; exact o106 i k w hb hf
 ·have e : xFeed d l = xColumn d l := by
   unfold xFeed
   rw [st, st109]
   split <;> rfl
  rw [e]; exact o109 i k w hb hf
 ·have e : xFeed d l = xBehind d l := by
   unfold xFeed
   rw [st, st144]
   split <;> rfl
  rw [e]; exact o144 i k w hb hf
end
theorem feed_sim {s : RS} {d : XD} {l : List Nat} (i : Sim s d) (k : KI s) (r : RI s) (hb : ∀ x ∈ l, x < 256) : (xFeed d l).2.1 = (feedS s l).2.1 ∧ (xFeed d l).2.2 = (feedS s l).2.2 ∧ Sim (feedS s l).1 (xFeed d l).1 ∧ KI (feedS s l).1 := by
 cases hn : s.nx with
 | none =>
   have e1 : feedS s l = (s, PT.z, 9) := if_pos hn
   have e2 : xFeed d l = (d, PT.z, 9) := if_pos (by rw [i.st]; unfold stF; rw [hn])
   rw [e1, e2]
   exact ⟨rfl, rfl, i, k⟩
 | some f =>
   by_cases w : s.wants
   ·have h62 := k.wt w
    have e1 : feedS s l = (s, PT.z, 6) := by unfold feedS; rw [if_neg (by rw [hn]; exact fun q => by cases q), if_pos w]
    have s6 : d.st = 6 := by
     rw [i.st]; unfold stF; rw [h62]
     show stO 62 s.wants s.second = 6
     unfold stO
     rw [if_neg (by decide), if_neg (by decide), if_neg (by decide), if_neg (by decide), if_neg (by decide), if_pos rfl, if_pos w]
    have e2 : xFeed d l = (d, PT.z, 6) := by unfold xFeed; rw [if_neg (by rw [s6]; decide), if_pos s6]
    rw [e1, e2]
    exact ⟨rfl, rfl, i, k⟩
   ·obtain ⟨o1, o2, o3⟩ := next_sim i k w hb hn (r.nx f hn)
    have e0 : feedS s l = if (nextS s l).2.2 ≠ 0 then ((nextS s l).1.fin, PT.z, (nextS s l).2.2) else ((nextS s l).1, (nextS s l).2.1, 0) := by unfold feedS; rw [if_neg (by rw [hn]; exact fun q => by cases q), if_neg w]
    by_cases he : (nextS s l).2.2 = 0
    ·rw [e0, if_neg (fun q => q he)]
     obtain ⟨x1, x2, x3⟩ := o2 he
     exact ⟨x1, by rw [o1, he], x2, x3⟩
    ·rw [e0, if_pos he]
     obtain ⟨x1, x2, x3⟩ := o3 he
     exact ⟨x1, o1, x2, x3⟩
theorem file_sim {s : RS} {d : XD} {l : List Nat} (i : Sim s d) (k : KI s) (r : RI s) : (xFile d l).2 = (fileS s l).2 ∧ Sim (fileS s l).1 (xFile d l).1 ∧ KI (fileS s l).1 := by
 cases hn : s.nx with
 | none =>
   have e1 : fileS s l = (s, 9) := if_pos hn
   have e2 : xFile d l = (d, 9) := if_pos (by rw [i.st]; unfold stF; rw [hn])
   rw [e1, e2]
   exact ⟨rfl, i, k⟩
 | some f =>
   have nn : ¬ s.nx = none := by rw [hn]; exact fun q => by cases q
   by_cases w : s.wants
   ·have h62 := k.wt w
    have e1 : fileS s l = ({ s with wants := 0 < l.length }, 0) := by unfold fileS; rw [if_neg nn, if_pos w]
    have s62 : ∀ p : Prop, stO 62 p s.second = @ite _ p (Classical.propDecidable _) 6 7 := fun p => by
     unfold stO
     rw [if_neg (by decide), if_neg (by decide), if_neg (by decide), if_neg (by decide), if_neg (by decide), if_pos rfl]
    have s6 : d.st = 6 := by
     rw [i.st]; unfold stF; rw [h62]
     show stO 62 s.wants s.second = 6
     rw [s62, if_pos w]
    have K1 : KI ({ s with wants := 0 < l.length } : RS) := ⟨k.ans, fun _ => h62, k.bin, k.sec, k.ct, k.lz⟩
    have hst : stF ({ s with wants := 0 < l.length } : RS) = @ite _ (0 < l.length) (Classical.propDecidable _) 6 7 := by
     unfold stF
     show (match s.nx with | none => (0 : Int) | some f => stO f (0 < l.length) s.second) = _
     rw [h62]
     exact s62 _
    by_cases h0 : l.length = 0
    ·have e2 : xFile d l = ({ d with st := 7 }, 0) := by unfold xFile; rw [if_neg (by rw [s6]; decide), if_neg (fun q => q s6), if_pos h0]
     rw [e1, e2]
     exact ⟨rfl, ⟨i.c, i.k, i.fl, by rw [hst, if_neg (by omega)], i.cols, i.last, i.left, i.beh⟩, K1⟩
    ·have e2 : xFile d l = (d, 0) := by unfold xFile; rw [if_neg (by rw [s6]; decide), if_neg (fun q => q s6), if_neg h0]
     rw [e1, e2]
     exact ⟨rfl, ⟨i.c, i.k, i.fl, by rw [hst, if_pos (by omega)]; exact s6, i.cols, i.last, i.left, i.beh⟩, K1⟩
   ·have e1 : fileS s l = (s, 6) := by unfold fileS; rw [if_neg nn, if_neg w]
    have hst := i.st
    unfold stF at hst
    rw [hn] at hst
    have s0 : d.st ≠ 0 ∧ d.st ≠ 6 := by
     rw [hst]
     show stO f s.wants s.second ≠ 0 ∧ stO f s.wants s.second ≠ 6
     unfold stO
     repeat' split
     all_goals (first | decide | contradiction)
    have e2 : xFile d l = (d, 6) := by unfold xFile; rw [if_neg s0.1, if_pos s0.2]
    rw [e1, e2]
    exact ⟨rfl, i, k⟩
theorem ask_sim {s : RS} {d : XD} (i : Sim s d) (k : KI s) (r : RI s) : (d.st = 6 ↔ s.wants) ∧ (d.st = 0 ↔ s.nx = none) ∧ ((d.st = 1 ∨ d.st = 2 ∨ d.st = 5 ∨ d.st = 7 ∨ d.st = 8) ↔ s.may ∧ ¬ s.wants) := by
 have hst := i.st
 unfold stF at hst
 cases hn : s.nx with
 | none =>
   rw [hn] at hst
   have hst : d.st = 0 := hst
   have nw : ¬ s.wants := fun q => by have := k.wt q; rw [hn] at this; cases this
   have nm : ¬ s.may := fun q => by obtain ⟨f, q1, _⟩ := r.may.1 q; rw [hn] at q1; cases q1
   exact ⟨⟨fun q => by omega, fun q => absurd q nw⟩, ⟨fun _ => rfl, fun _ => hst⟩, ⟨fun q => by omega, fun q => absurd q.1 nm⟩⟩
 | some f =>
   rw [hn] at hst
   have hst : d.st = stO f s.wants s.second := hst
   have hin := r.nx f hn
   have hm : s.may ↔ f ∈ [34, 35, 36, 37, 38, 39, 40, 62] := by
    rw [r.may]
    exact ⟨fun ⟨g, q1, q2⟩ => by rw [hn] at q1; injection q1 with q1; rw [q1]; exact q2, fun q => ⟨f, hn, q⟩⟩
   have hw : s.wants → f = 62 := fun q => by have := k.wt q; rw [hn] at this; injection this
   rw [hm, hst]
   simp only [List.mem_cons, List.not_mem_nil, or_false] at hin
   rcases hin with rfl | rfl | rfl | rfl | rfl | rfl | rfl | rfl | rfl | rfl | rfl | rfl
   case inr.inr.inr.inr.inr.inr.inr.inl =>
    have s62 : stO 62 s.wants s.second = @ite _ s.wants (Classical.propDecidable _) 6 7 := by
     unfold stO
     rw [if_neg (by decide), if_neg (by decide), if_neg (by decide), if_neg (by decide), if_neg (by decide), if_pos rfl]
    rw [s62]
    by_cases w : s.wants
    ·rw [if_pos w]
     exact ⟨⟨fun _ => w, fun _ => rfl⟩, ⟨fun q => absurd q (by decide), fun q => by cases q⟩, ⟨fun q => absurd q (by decide), fun q => absurd w q.2⟩⟩
    ·rw [if_neg w]
     exact ⟨⟨fun q => absurd q (by decide), fun q => absurd q w⟩, ⟨fun q => absurd q (by decide), fun q => by cases q⟩, ⟨fun _ => ⟨by decide, w⟩, fun _ => by decide⟩⟩
   all_goals
    have nw : ¬ s.wants := fun q => absurd (hw q) (by decide)
    refine ⟨⟨fun q => ?_, fun q => absurd q nw⟩, ⟨fun q => ?_, fun q => by cases q⟩, ⟨fun q => ⟨?_, nw⟩, fun q => ?_⟩⟩
    all_goals (first | (rw [st109] at q; split at q <;> simp at q) | (rw [st144] at q; split at q <;> simp at q) | (rw [st109]; simp at q) | (rw [st144]; simp at q) | (simp [stO] at q ⊢))
end
noncomputable section
theorem colV_all : ∀ l : List CO, (colV l).all V.isCell = true
 | [] => rfl
 | x :: l => by
   have := colV_all l
   unfold colV at this ⊢
   rw [List.flatMap_cons, List.all_append, this, Bool.and_true]
   rfl
theorem src_of_rw {e sz n : Nat} {h : H} {v : V} {cells : List V} (a : RW e sz n h v cells) : Src h v cells sz := by
 rcases a.2 with ⟨rfl, rfl⟩ | ⟨b, o, m, rfl, h1, _, h3, _⟩
 ·exact .inl ⟨rfl, List.eq_nil_of_length_eq_zero (by rw [a.1, Nat.zero_mul])⟩
 ·exact .inr ⟨b, o, n, m, rfl, h1, h3, a.1⟩
theorem RF.cong {X : RX} {n0 r : Nat} {s s' : RS} {cv tv : V} {h : H} (a : RF X n0 r s cv tv h) (e : s = s') : RF X n0 r s' cv tv h := e ▸ a
def colsOk (cs : List CO) : Prop := cs.length ≤ 4096 ∧ ∀ i (hi : i < cs.length), colOk cs[i]
variable {S : Set0} (hS : StdX S)
include hS
theorem clone_spec {v : V} {cs : List CO} {h : H} (a : RW 67 10 cs.length h v (colV cs)) (hn : cs.length ≤ 65536) : Pure S.cfg 32 [v] h fun w h' => Lst h.nx h' w (colV cs) 67 10 := by
 refine into Tryz.f32 _ Tryz.func32 (hS.ownR _ (by decide)) rfl rfl (by kernel_rfl) (by kernel_rfl) ?_
 rcases a.form with ⟨rfl, h0⟩ | ⟨b, o, m, rfl⟩
 ·have e : ∀ t, binV Tryz.prog .eql 28 (constO (.tmp t) || constO (.const (Value.slice none 0 0))) .nilslice .nilslice = some (bo True) := fun t => by
   rw [show bo True = .bool true by simp [bo]]
   rfl
  have hc : cs = [] := List.eq_nil_of_length_eq_zero h0
  subst hc
  refine ww1 (cj @Tryz.f32.eq_1 e) ?_
  exact ⟨Ext.refl h, lst_nil _ _ _ _⟩
 ·have e : ∀ t, binV Tryz.prog .eql 28 (constO (.tmp t) || constO (.const (Value.slice none 0 0))) (.slice b o cs.length m) .nilslice = some (bo False) := fun t => by
   rw [show bo False = .bool false by simp [bo]]
   rfl
  refine ww1 (cj @Tryz.f32.eq_1 e) ?_
  have b1 : Ext h (h.push (.cells [] 67 false)) := (Ext.refl h).push _
  refine append_lst (n0 := h.nx) (cells := []) (new := colV cs) rfl rfl ap28' ⟨.slice 67, by kernel_rfl, rfl⟩ (.inr ⟨rfl, h.nx, Nat.le_refl _, Nat.lt_succ_self _, rfl, push_eq rfl⟩) (src_of_rw (a.ext b1)) (colV_all _) ?_ (by decide) (fun k hk => by rw [fresh_def]; exact .inl hk) (Nat.le_succ _) ?_
  ·rw [colV_len]; simp only [List.length_nil]; omega
  intro v2 h2 L2 hl2 n2 hk2 hk3 hL2
  refine ww1 @Tryz.f32.eq_1 ?_
  exact ⟨⟨Nat.le_trans b1.1 n2, fun k hk => by rw [hk3 k hk, b1.2 k hk]⟩, hl2⟩
theorem new2_spec {X : RX} {d : List Nat} {h : H} (b : BS 5 h X.x7 d) {v : V} {cs : List CO} (rc : RW 67 10 cs.length h v (colV cs)) (hok : ∀ x ∈ cs, x.Ok) (c k fl : Int) : Pure S.cfg 6 [.int .u32 c, .agg (cmdC X k fl), v] h fun w h' => (newOk X c k fl d.length ∧ colsOk cs → ∃ r cv, w = .tuple [.ptr r 0, .int .i64 0] ∧ RF X h.nx r (newS c k fl cs) cv .nilslice h') ∧ (¬ (newOk X c k fl d.length ∧ colsOk cs) → w = .tuple [.nilptr, .int .i64 2]) := by
 refine into Tryz.f6 _ Tryz.func6 (hS.ownR _ (by decide)) rfl rfl (by kernel_rfl) (by kernel_rfl) ?_
 have hX := b.cell
 have x1 := hX.1
 have x2 := hX.2
 have rl := rc.len 67
 have ck := fun h b => check_spec hS.toStdR (X := X) (d := d) (h := h) b k fl
 unfold cmdC at ck ⊢
 refine ww1 (cj @Tryz.f6.eq_1 <| cj x1 x2) ?_
 generalize hhA : H.push h _ = hA
 have hxA : Ext h hA := by rw [← hhA]; exact (Ext.refl h).push _
 have nA : hA.nx = h.nx + 1 := by rw [← hhA]; rfl
 have gA : hA.get h.nx = some (.cells [.int .u8 k, .str X.x1, .int .u32 X.x2, .int .u16 X.x3, .int .u8 fl, .int .u32 X.x5, .int .u16 X.x6, X.x7] 27 false) := by rw [← hhA]; exact push_eq rfl
 clear hhA
 refine callF_pure (answer_spec hS.toStdR k _) ?_
 rintro _ h1 hx1 rfl
 have n1 := hx1.1
 have g1 := (hx1.2 _ (by omega)).trans gA
 have hxh1 := hxA.trans hx1
 refine ww0 ?_
 refine callF_exact (caps_spec hS.toStdR c _) ?_
 by_cases hc : iAnd .u32 c 565760 = 565760
 case neg =>
  rw [if_neg hc]
  refine wew0 ?_
  exact ⟨hxh1, fun q => absurd q.1.1 hc⟩
 rw [if_pos hc]
 refine wew1 g1 ?_
 refine callF_pure (ck _ (b.ext hxh1)) ?_
 rintro _ h2 hx2 rfl
 have n2 := hx2.1
 have g2 := (hx2.2 _ (by omega)).trans g1
 have hxh2 := hxh1.trans hx2
 by_cases hk : cmdOk X k fl d.length
 case neg =>
  rw [if_neg hk]
  refine wew0 ?_
  exact ⟨hxh2, fun q => absurd q.1.2.1 hk⟩
 rw [if_pos hk]
 by_cases h8 : answerF k = 8
 ·refine wew1 h8 ?_
  exact ⟨hxh2, fun q => absurd h8 q.1.2.2⟩
 have hok1 : newOk X c k fl d.length := ⟨hc, hk, h8⟩
 by_cases hl : cs.length ≤ 4096
 case neg =>
  have hl' : (4096 : Int) < cs.length := by omega
  refine wew1 (cj h8 <| cj rl hl') ?_
  exact ⟨hxh2, fun q => absurd q.2.1 hl⟩
 have hl' : ¬ (4096 : Int) < cs.length := by omega
 refine wew1 (cj h8 <| cj rl hl') ?_
 refine run_loop (fun m env h' => ∃ i : Nat, m = cs.length - i ∧ i ≤ cs.length ∧ env 0 = .int .u32 c ∧ env 2 = v ∧ env 4 = .ptr h.nx 0 ∧ env 8 = .int .i64 (answerF k) ∧ env 32 = v ∧ env 33 = .int .i64 cs.length ∧ env 34 = .int .i64 i ∧ Ext h h' ∧ h.nx < h'.nx ∧ h'.get h.nx = some (.cells [.int .u8 k, .str X.x1, .int .u32 X.x2, .int .u16 X.x3, .int .u8 fl, .int .u32 X.x5, .int .u16 X.x6, X.x7] 27 false) ∧ ∀ j (hj : j < cs.length), j < i → colOk cs[j]) cs.length ⟨0, ?_⟩ ?_
 ·refine ww0 ?_
  exact ⟨(Nat.sub_zero _).symm, hxh2, by omega, g2, fun j _ q => by omega⟩
 rintro _ env h' ⟨i, rfl, hi, e0, e2, e4, e8, e32, e33, e34, hx, hnx, g3, hcj⟩
 by_cases hin : i < cs.length
 ·have hin' : (i : Int) < cs.length := by omega
  obtain ⟨bb, o, m, hv⟩ := rc.at (by omega)
  obtain ⟨_, hb, _, hr⟩ := RW.rd (hv ▸ rc)
  have hr1 := hr (i * 10) 10 (by rw [colV_len]; omega)
  rw [colV_at cs i hin] at hr1
  have hr2 : rdV (some (10, true)) (h'.get bb) (o + i * 10) = some (.agg cs[i].cells) := by rw [hx.2 bb hb]; exact hr1
  have oki := hok cs[i] (List.getElem_mem hin)
  have sp := fun h => pcolck_spec hS cs[i] oki h
  unfold CO.cells at hr2 sp
  refine ww1 (cj e0 <| cj e2 <| cj e4 <| cj e8 <| cj e32 <| cj e33 <| cj e34 <| cj hin <| cj hin' <| cj hv hr2) ?_
  generalize hhC : H.put _ _ _ = hC
  have hxC : Ext h' hC := by rw [← hhC]; exact Ext.new _ _ _
  have gC : hC.get h'.nx = some (.cells [.str cs[i].s0, .str cs[i].s1, .str cs[i].s2, .str cs[i].s3, .str cs[i].s4, .int .u16 cs[i].c, .int .u32 cs[i].l, .int .u8 cs[i].t, .int .u16 cs[i].f, .int .u8 cs[i].d] 67 false) := by rw [← hhC]; exact put_eq rfl
  clear hhC
  have nC := hxC.1
  refine ⟨.inr hx.1, callF_pure (sp _) ?_⟩
  rintro _ h4 hx4 rfl
  have hx5 := (hx.trans hxC).trans hx4
  have n4 := hx4.1
  by_cases ho : colOk cs[i]
  ·rw [if_pos ho]
   have g4 : h4.get h.nx = _ := (hx4.2 _ (by omega)).trans ((hxC.2 _ hnx).trans g3)
   refine wew1 (cj e0 <| cj e2 <| cj e4 <| cj e8 <| cj e32 <| cj e33 e34) ?_
   exact ⟨_, by omega, i + 1, rfl, by omega, hv.symm ▸ rfl, hv.symm ▸ rfl, rfl, hx5, by omega, g4, fun j hj q => (Nat.lt_succ_iff_lt_or_eq.1 q).elim (hcj j hj) fun w => by subst w; exact ho⟩
  ·rw [if_neg ho]
   refine wew1 (cj e0 <| cj e2 <| cj e4 <| cj e8 <| cj e32 <| cj e33 e34) ?_
   exact ⟨hx5, fun q => absurd (q.2.2 i hin) ho⟩
 obtain rfl : i = cs.length := by omega
 have hin' : ¬ (cs.length : Int) < cs.length := by omega
 have hall : newOk X c k fl d.length ∧ colsOk cs := ⟨hok1, hl, fun j hj => hcj j hj hj⟩
 generalize hhB : h'.push (.cells [.int .u32 c, .int .u8 k, .str X.x1, .int .u32 X.x2, .int .u16 X.x3, .int .u8 fl, .int .u32 X.x5, .int .u16 X.x6, X.x7, .nilfunc, bo False, bo False, .int .i64 0, .nilslice, .nilslice, .int .i64 0, bo False, .int .u16 0, bo (¬ k = 3), bo True] 71 false) = hB
 have hxB : Ext h hB := by rw [← hhB]; exact hx.push _
 have hxB' : Ext h' hB := by rw [← hhB]; exact (Ext.refl _).push _
 have nB : hB.nx = h'.nx + 1 := by rw [← hhB]; rfl
 have gr : hB.get h'.nx = some (.cells [.int .u32 c, .int .u8 k, .str X.x1, .int .u32 X.x2, .int .u16 X.x3, .int .u8 fl, .int .u32 X.x5, .int .u16 X.x6, X.x7, .nilfunc, bo False, bo False, .int .i64 0, .nilslice, .nilslice, .int .i64 0, bo False, .int .u16 0, bo (¬ k = 3), bo True] 71 false) := by rw [← hhB]; exact push_eq rfl
 obtain ⟨s0, hs0⟩ : ∃ s0 : RS, (⟨c, k, fl, none, False, False, 0, [], [], 0, False, 0, ¬ k = 3⟩ : RS) = s0 := ⟨_, rfl⟩
 have a0 : RR X h.nx h'.nx s0 .nilslice .nilslice hB := by
  rw [← hs0]
  exact ⟨gr, lst_nil _ _ _ _, fun _ => rfl, off_nil _, off_nil _, ⟨rfl, rfl⟩, ⟨hx.1, by omega⟩, hX⟩
 have c0 : s0.cols = [] := by rw [← hs0]
 have okr : ∀ j, j = h'.nx → fresh h.nx nil1 j := fun j hj => by rw [fresh_def]; exact .inl (by omega)
 by_cases e1 : answerF k = 1
 ·have hn : s0 = newS c k fl cs := by rw [← hs0]; unfold newS firstN; rw [e1]; simp
  refine wew1 (cj e0 <| cj e2 <| cj e4 <| cj e8 <| cj e32 <| cj e33 <| cj e34 <| cj hin' <| cj g3 <| cj x1 <| cj x2 <| cj e1 hhB) ?_
  exact ⟨hxB, fun _ => ⟨h'.nx, _, rfl, RF.cong ⟨a0, rcs_nil c0, .inr (sep_nil _)⟩ hn⟩, fun q => absurd hall q⟩
 by_cases e7 : answerF k = 7
 ·refine wew1 (cj e0 <| cj e2 <| cj e4 <| cj e8 <| cj e32 <| cj e33 <| cj e34 <| cj hin' <| cj g3 <| cj x1 <| cj x2 <| cj e7 hhB) ?_
  refine callF_pure (clone_spec hS (rc.ext hxB) (by omega)) ?_
  rintro cv hD hxD lc
  have cc := lst_form lc
  have u1 := cc.1
  have u2 := cc.2
  have nD := hxD.1
  have gr2 : hD.get h'.nx = _ := (hxD.2 _ (by omega)).trans gr
  have oc : Off cv h'.nx := lc.off _ (by omega)
  refine wew1 (cj gr2 <| cj u1 <| cj u2 <| cj e0 <| cj e2 <| cj e4 <| cj e8 e7) ?_
  have a1 : RR X h.nx h'.nx { s0 with cols := cs } cv .nilslice (hD.put h'.nx (.cells (rsC X h'.nx { s0 with cols := cs } cv .nilslice) 71 false)) := ⟨put_eq rfl, by rw [← hs0]; exact lst_nil _ _ _ _, fun _ => rfl, off_nil _, oc, cc, ⟨hx.1, by show h'.nx < hD.nx; omega⟩, hX⟩
  have b1 : Ext h (hD.put h'.nx (.cells (rsC X h'.nx { s0 with cols := cs } cv .nilslice) 71 false)) := (hxB.trans hxD).put hx.1 _
  have r1 : RCs { s0 with cols := cs } cv (hD.put h'.nx (.cells (rsC X h'.nx { s0 with cols := cs } cv .nilslice) 71 false)) := rw_of_lst (lc.put_off oc) (by decide) (colV_len _)
  rw [← hs0] at a1 b1
  refine ⟨.inr (by omega), callF_of (await_spec hS.toStdR a1 39 True) okr ?_⟩
  rintro _ h5 ⟨rfl, p5⟩
  refine ww1 (cj e0 <| cj e2 <| cj e4 e8) ?_
  rw [hs0] at p5 b1
  exact ⟨b1.trans_but' p5.2 hx.1, fun _ => ⟨h'.nx, _, rfl, RF.cong ⟨p5.1, RCs.but r1 oc p5.2, .inr (sep_nil _)⟩ (by rw [← hs0]; unfold newS firstN RS.await; rw [e7]; simp)⟩, fun q => absurd hall q⟩
 obtain e | e | e | e | e | e : answerF k = 2 ∨ answerF k = 3 ∨ answerF k = 4 ∨ answerF k = 5 ∨ answerF k = 6 ∨ answerF k = 9 := by have := answer_in k; omega
 all_goals
  refine wew1 (cj e0 <| cj e2 <| cj e4 <| cj e8 <| cj e32 <| cj e33 <| cj e34 <| cj hin' <| cj g3 <| cj x1 <| cj x2 <| cj e hhB) ?_
  refine callF_of (await_spec hS.toStdR a0 _ True) okr ?_
  rintro _ h5 ⟨rfl, p5⟩
  refine ww1 (cj e0 <| cj e2 <| cj e4 e8) ?_
  exact ⟨hxB.trans_but' p5.2 hx.1, fun _ => ⟨h'.nx, _, rfl, RF.cong ⟨p5.1, rcs_nil c0, .inr (sep_nil _)⟩ (by rw [← hs0]; unfold newS firstN RS.await; rw [e]; simp)⟩, fun q => absurd hall q⟩
end
noncomputable section
def newD (c k fl : Int) (cols : List CO) : XD := ⟨c, k, fl, if answerF k = 1 then 0 else if answerF k = 5 then 2 else if answerF k = 6 then 8 else if answerF k = 7 then 5 else 1, 0, 0, if answerF k = 7 then cols else [], 0⟩
theorem ans7 {k : Int} (h : answerF k = 7) : k = 28 := by
 unfold answerF at h
 split at h <;> first | omega | skip
 all_goals (repeat' (split at h <;> first | omega | skip))
theorem new_sim (c k fl : Int) (cs : List CO) : Sim (newS c k fl cs) (newD c k fl cs) := by
 refine ⟨rfl, rfl, rfl, ?_, rfl, rfl, fun q => ?_, fun q => ?_⟩
 ·rcases answer_in k with e | e | e | e | e | e | e | e | e
  all_goals simp [newD, newS, stF, stO, firstN, e]
 ·exfalso; unfold newS firstN at q
  rcases answer_in k with e | e | e | e | e | e | e | e | e
  all_goals (rw [e] at q; revert q; simp)
 ·exfalso; unfold newS firstN at q
  rcases answer_in k with e | e | e | e | e | e | e | e | e
  all_goals (rw [e] at q; revert q; simp)
theorem new_ki (c k fl : Int) (h8 : ¬ answerF k = 8) (cs : List CO) : KI (newS c k fl cs) := by
 refine ⟨fun f q => ?_, fun q => q.elim, Iff.rfl, fun q => q.elim, fun q => ?_, fun q => ?_⟩
 ·unfold newS firstN at q
  have h7 := @ans7 k
  rcases answer_in k with e | e | e | e | e | e | e | e | e
  all_goals
   rw [e] at q h8 h7
   simp at q h8 h7
  all_goals
   subst q
   unfold ansOk
   simp [newS, e, h7]
 ·exfalso; unfold newS firstN at q
  rcases answer_in k with e | e | e | e | e | e | e | e | e
  all_goals (rw [e] at q; revert q; simp)
 ·exfalso; unfold newS firstN at q
  rcases answer_in k with e | e | e | e | e | e | e | e | e
  all_goals (rw [e] at q; revert q; simp)
theorem new_ri (c k fl : Int) (cs : List CO) (hok : ∀ x ∈ cs, x.Ok) (hl : cs.length ≤ 4096) : RI (newS c k fl cs) := by
 have hc : ∀ x ∈ (newS c k fl cs).cols, x.Ok := fun x hx => by
  unfold newS at hx
  by_cases h : answerF k = 7
  ·simp [h] at hx; exact hok x hx
  ·simp [h] at hx
 refine ⟨fun f q => ?_, fun q => ?_, fun q => ?_, fun q => ?_, fun q => ?_, ⟨hc, fun x hx => by cases hx⟩, ⟨show (0 : Int) ≤ 0 by decide, show (0 : Int) ≤ 65535 by decide⟩, ⟨show (0 : Int) ≤ 0 by decide, show (0 : Int) ≤ 65535 by decide⟩, ?_⟩
 ·unfold newS firstN at q
  rcases answer_in k with e | e | e | e | e | e | e | e | e
  all_goals (rw [e] at q; simp at q)
  all_goals (subst q; decide)
 ·exfalso; unfold newS firstN at q
  rcases answer_in k with e | e | e | e | e | e | e | e | e
  all_goals (rw [e] at q; revert q; simp)
 ·exfalso; unfold newS firstN at q
  rcases answer_in k with e | e | e | e | e | e | e | e | e
  all_goals (rw [e] at q; revert q; simp)
 ·unfold newS
  by_cases h : answerF k = 7
  ·simp [h]; exact hl
  ·simp [h]
 ·unfold newS firstN at q ⊢
  rcases answer_in k with e | e | e | e | e | e | e | e | e
  all_goals (simp [e] at q ⊢)
 ·unfold newS firstN
  rcases answer_in k with e | e | e | e | e | e | e | e | e
  all_goals (simp [e])
theorem _root_.Go.Wx.Lst.mono {n0 n1 e sz : Nat} {h : H} {v : V} {cells : List V} (a : Lst n1 h v cells e sz) (hn : n0 ≤ n1) : Lst n0 h v cells e sz := by
 rcases a with a | ⟨h1, b, h2, h3⟩
 ·exact .inl (a.mono hn)
 ·exact .inr ⟨h1, b, by omega, h3⟩
theorem XR.cong {X : RX} {n0 x : Nat} {d d' : XD} {cv : V} {h : H} (a : XR X n0 x d cv h) (e : d = d') : XR X n0 x d' cv h := e ▸ a
variable {S : Set0} (hS : StdX S)
include hS
theorem xnew_spec {X : RX} {d : List Nat} {h : H} (b : BS 5 h X.x7 d) {v : V} {cs : List CO} (rc : RW 67 10 cs.length h v (colV cs)) (hok : ∀ x ∈ cs, x.Ok) (c k fl : Int) : Pure S.cfg 7 [.int .u32 c, .agg (cmdC X k fl), v] h fun w h' => (newOk X c k fl d.length ∧ colsOk cs → ∃ r cv, w = .tuple [.ptr r 0, .int .i64 0] ∧ XR X h.nx r (newD c k fl cs) cv h') ∧ (¬ (newOk X c k fl d.length ∧ colsOk cs) → w = .tuple [.nilptr, .int .i64 2]) := by
 refine into Tryz.f7 _ Tryz.func7 (hS.ownX _ (by decide)) rfl rfl (by kernel_rfl) (by kernel_rfl) ?_
 have hX := b.cell
 have x1 := hX.1
 have x2 := hX.2
 have rl := rc.len 67
 have ck := fun h b => xcheck_spec hS (X := X) (d := d) (h := h) b k fl
 unfold cmdC at ck ⊢
 refine ww1 (cj @Tryz.f7.eq_1 <| cj x1 x2) ?_
 generalize hhA : H.push h _ = hA
 have hxA : Ext h hA := by rw [← hhA]; exact (Ext.refl h).push _
 have nA : hA.nx = h.nx + 1 := by rw [← hhA]; rfl
 have gA : hA.get h.nx = some (.cells [.int .u8 k, .str X.x1, .int .u32 X.x2, .int .u16 X.x3, .int .u8 fl, .int .u32 X.x5, .int .u16 X.x6, X.x7] 27 false) := by rw [← hhA]; exact push_eq rfl
 clear hhA
 refine callF_exact (xcaps_spec hS c _) ?_
 by_cases hc : iAnd .u32 c 565760 = 565760
 case neg =>
  rw [if_neg hc]
  refine wew0 ?_
  exact ⟨hxA, fun q => absurd q.1.1 hc⟩
 rw [if_pos hc]
 refine wew1 gA ?_
 refine callF_pure (ck _ (b.ext hxA)) ?_
 rintro _ h2 hx2 rfl
 have n2 := hx2.1
 have g2 := (hx2.2 _ (by omega)).trans gA
 have hxh2 := hxA.trans hx2
 by_cases hk : cmdOk X k fl d.length
 case neg =>
  rw [if_neg hk]
  refine wew0 ?_
  exact ⟨hxh2, fun q => absurd q.1.2.1 hk⟩
 rw [if_pos hk]
 refine wew1 g2 ?_
 refine callF_pure (xanswer_spec hS k _) ?_
 rintro _ h3 hx3 rfl
 have n3 := hx3.1
 have g3 := (hx3.2 _ (by omega)).trans g2
 have hxh3 := hxh2.trans hx3
 by_cases h8 : answerF k = 8
 ·refine wew1 h8 ?_
  exact ⟨hxh3, fun q => absurd h8 q.1.2.2⟩
 have hok1 : newOk X c k fl d.length := ⟨hc, hk, h8⟩
 by_cases hl : cs.length ≤ 4096
 case neg =>
  have hl' : (4096 : Int) < cs.length := by omega
  refine wew1 (cj h8 <| cj rl hl') ?_
  exact ⟨hxh3, fun q => absurd q.2.1 hl⟩
 have hl' : ¬ (4096 : Int) < cs.length := by omega
 refine wew1 (cj h8 <| cj rl hl') ?_
 refine run_loop (fun m env h' => ∃ i : Nat, m = cs.length - i ∧ i ≤ cs.length ∧ env 0 = .int .u32 c ∧ env 2 = v ∧ env 4 = .ptr h.nx 0 ∧ env 8 = .int .i64 i ∧ Ext h h' ∧ h.nx < h'.nx ∧ h'.get h.nx = some (.cells [.int .u8 k, .str X.x1, .int .u32 X.x2, .int .u16 X.x3, .int .u8 fl, .int .u32 X.x5, .int .u16 X.x6, X.x7] 27 false) ∧ ∀ j (hj : j < cs.length), j < i → colOk cs[j]) cs.length ⟨0, ?_⟩ ?_
 ·refine ww0 ?_
  exact ⟨(Nat.sub_zero _).symm, hxh3, by omega, g3, fun j _ q => by omega⟩
 rintro _ env h' ⟨i, rfl, hi, e0, e2, e4, e8, hx, hnx, g4, hcj⟩
 by_cases hin : i < cs.length
 ·have hin' : (i : Int) < cs.length := by omega
  obtain ⟨bb, o, m, hv⟩ := rc.at (by omega)
  obtain ⟨_, hb, _, hr⟩ := RW.rd (hv ▸ rc)
  have hr1 := hr (i * 10) 10 (by rw [colV_len]; omega)
  rw [colV_at cs i hin] at hr1
  have hr2 : rdV (some (10, true)) (h'.get bb) (o + i * 10) = some (.agg cs[i].cells) := by rw [hx.2 bb hb]; exact hr1
  have oki := hok cs[i] (List.getElem_mem hin)
  have sp := fun h => xcolck_spec hS cs[i] oki h
  refine ww1 (cj e0 <| cj e2 <| cj e4 <| cj e8 <| cj hin <| cj hin' <| cj hv hr2) ?_
  refine callF_pure (sp _) ?_
  rintro _ h4 hx4 rfl
  have hx5 := hx.trans hx4
  have n4 := hx4.1
  by_cases ho : colOk cs[i]
  ·rw [if_pos ho]
   have g5 : h4.get h.nx = _ := (hx4.2 _ hnx).trans g4
   refine wew1 (cj e0 <| cj e2 <| cj e4 e8) ?_
   exact ⟨_, by omega, i + 1, rfl, by omega, hv.symm ▸ rfl, rfl, hx5, by omega, g5, fun j hj q => (Nat.lt_succ_iff_lt_or_eq.1 q).elim (hcj j hj) fun w => by subst w; exact ho⟩
  ·rw [if_neg ho]
   refine wew1 (cj e0 <| cj e2 <| cj e4 e8) ?_
   exact ⟨hx5, fun q => absurd (q.2.2 i hin) ho⟩
 obtain rfl : i = cs.length := by omega
 have hin' : ¬ (cs.length : Int) < cs.length := by omega
 have hall : newOk X c k fl d.length ∧ colsOk cs := ⟨hok1, hl, fun j hj => hcj j hj hj⟩
 refine ww1 (cj e0 <| cj e2 <| cj e4 <| cj e8 <| cj hin' <| cj rl g4) ?_
 generalize hhB : h'.push _ = hB
 have hxB : Ext h hB := by rw [← hhB]; exact hx.push _
 have nB : hB.nx = h'.nx + 1 := by rw [← hhB]; rfl
 have aB : XR X h.nx h'.nx ⟨c, k, fl, 1, 0, 0, [], 0⟩ .nilslice hB := ⟨by rw [← hhB]; exact push_eq rfl, lst_nil _ _ _ _, off_nil _, ⟨hx.1, by omega⟩, hX⟩
 clear hhB
 refine callF_pure (xanswer_spec hS k _) ?_
 rintro _ h4 hx4 rfl
 have a4 := aB.ext hx4
 have n4 := hx4.1
 have gr := a4.get
 have hxh4 := hxB.trans hx4
 unfold xdC at gr
 by_cases e7 : answerF k = 7
 ·refine wew1 (cj e0 <| cj e2 <| cj e4 <| cj e8 <| cj e7 gr) ?_
  have a5 : XR X h.nx h'.nx ⟨c, k, fl, 5, 0, 0, [], 0⟩ .nilslice (h4.put h'.nx (.cells (xdC X ⟨c, k, fl, 5, 0, 0, [], 0⟩ .nilslice) 75 false)) := a4.put rfl
  have x5 : Ext h (h4.put h'.nx (.cells (xdC X ⟨c, k, fl, 5, 0, 0, [], 0⟩ .nilslice) 75 false)) := hxh4.put hx.1 _
  refine ⟨.inr hx.1, append_lst (n0 := h4.nx) (sv := .nilslice) (xv := v) (cells := []) (new := colV cs) rfl rfl ap28' ⟨.slice 67, by kernel_rfl, rfl⟩ (lst_nil _ _ _ _) (src_of_rw (rc.ext x5)) (colV_all _) ?_ (by decide) (fun k hk => by rw [fresh_def]; exact .inl (by omega)) (Nat.le_refl _) ?_⟩
  ·rw [colV_len]; simp only [List.length_nil]; omega
  intro v2 h2 L2 hl2 n2' hk2 hk3 hL2
  have cc := lst_form hl2
  have u1 := cc.1
  have u2 := cc.2
  have gr2 : h2.get h'.nx = _ := (hk3 _ (by omega)).trans a5.get
  have oc : Off v2 h'.nx := hl2.off _ (by omega)
  unfold xdC at gr2
  have n2'' : h4.nx ≤ h2.nx := n2'
  refine ww1 (cj e0 <| cj e2 <| cj e4 <| cj e8 <| cj gr2 <| cj u1 u2) ?_
  have lm : Lst h.nx h2 v2 (colV cs) 67 10 := hl2.mono (by omega)
  have x6 : Ext h h2 := ⟨by omega, fun k hk => by rw [hk3 k (by omega)]; exact x5.2 k hk⟩
  exact ⟨.inr hx.1, x6.put hx.1 _, fun _ => ⟨h'.nx, v2, rfl, XR.cong (d := ⟨c, k, fl, 5, 0, 0, cs, 0⟩) ⟨put_eq rfl, lm.put_off oc, oc, ⟨hx.1, by show h'.nx < h2.nx; omega⟩, hX⟩ (by unfold newD; rw [e7]; simp)⟩, fun q => absurd hall q⟩
 by_cases e1 : answerF k = 1
 ·refine wew1 (cj e0 <| cj e2 <| cj e4 <| cj e8 <| cj e1 gr) ?_
  exact ⟨.inr hx.1, hxh4.put hx.1 _, fun _ => ⟨h'.nx, _, rfl, (a4.put (d' := ⟨c, k, fl, 0, 0, 0, [], 0⟩) rfl).cong (by unfold newD; rw [e1]; simp)⟩, fun q => absurd hall q⟩
 by_cases e5 : answerF k = 5
 ·refine wew1 (cj e0 <| cj e2 <| cj e4 <| cj e8 <| cj e5 gr) ?_
  exact ⟨.inr hx.1, hxh4.put hx.1 _, fun _ => ⟨h'.nx, _, rfl, (a4.put (d' := ⟨c, k, fl, 2, 0, 0, [], 0⟩) rfl).cong (by unfold newD; rw [e5]; simp)⟩, fun q => absurd hall q⟩
 by_cases e6 : answerF k = 6
 ·refine wew1 (cj e0 <| cj e2 <| cj e4 <| cj e8 <| cj e6 gr) ?_
  exact ⟨.inr hx.1, hxh4.put hx.1 _, fun _ => ⟨h'.nx, _, rfl, (a4.put (d' := ⟨c, k, fl, 8, 0, 0, [], 0⟩) rfl).cong (by unfold newD; rw [e6]; simp)⟩, fun q => absurd hall q⟩
 refine wew1 (cj e0 <| cj e2 <| cj e4 <| cj e8 <| cj e1 <| cj e5 <| cj e6 <| cj e7 gr) ?_
 exact ⟨hxh4, fun _ => ⟨h'.nx, _, rfl, a4.cong (by unfold newD; simp [e1, e5, e6, e7])⟩, fun q => absurd hall q⟩
end
noncomputable section
theorem after_c (s : RS) : (afterS s).1.cols = s.cols := by
 unfold afterS furtherS furA
 repeat' split
 all_goals rfl
theorem colN_c (s : RS) : (colN s).cols = s.cols := by
 unfold colN
 repeat' split
 all_goals rfl
theorem defN_c (s : RS) : (defN s).1.cols = s.cols := by
 unfold defN
 repeat' split
 all_goals first | rfl | exact after_c s
theorem next_c {s : RS} (r : RI s) (hc : s.cols.length ≤ 4096) (l : List Nat) (hn : s.nx ≠ none) : (nextS s l).1.cols.length ≤ 4096 := by
 have k1 := fun m => congrArg List.length (okS1_ct s l m).1
 have k2 := congrArg List.length (eofOrOkS_ct s l).1
 have k3 := congrArg List.length (textS_ct s l).1
 have k4 := congrArg List.length (errS_ct s l).1
 have k5 := fun k m => congrArg List.length (doneS_ct s l k m).1
 cases hf : s.nx with
 | none => exact absurd hf hn
 | some f =>
   have hm := r.nx f hf
   simp only [List.mem_cons, List.not_mem_nil, or_false] at hm
   rcases hm with rfl | rfl | rfl | rfl | rfl | rfl | rfl | rfl | rfl | rfl | rfl | rfl
   ·rw [show nextS s l = okS1 s l False by unfold nextS; rw [hf]; rfl, k1]; exact hc
   ·rw [show nextS s l = eofOrOkS s l by unfold nextS; rw [hf]; rfl, k2]; exact hc
   ·rw [show nextS s l = textS s l by unfold nextS; rw [hf]; rfl, k3]; exact hc
   ·rw [show nextS s l = firstS s l by unfold nextS; rw [hf]; rfl]
    unfold firstS
    repeat' split
    all_goals first | (rw [k5]; exact hc) | (rw [k4]; exact hc) | exact hc | exact Nat.zero_le _
   ·rw [show nextS s l = prepS s l by unfold nextS; rw [hf]; rfl]
    unfold prepS furtherS furA
    repeat' split
    all_goals first | (rw [k4]; exact hc) | exact hc
   ·rw [show nextS s l = rowS s l by unfold nextS; rw [hf]; rfl]
    unfold rowS
    repeat' split
    all_goals first | (rw [k5]; exact hc) | (rw [k4]; exact hc) | exact hc | (unfold RS.ends; split <;> exact hc)
   ·rw [show nextS s l = errS s l by unfold nextS; rw [hf]; rfl, k4]; exact hc
   ·rw [show nextS s l = okS1 s l True by unfold nextS; rw [hf]; rfl, k1]; exact hc
   ·rw [show nextS s l = colNS s l by unfold nextS; rw [hf]; rfl]
    have l5 := r.l55 hf
    unfold colNS
    split
    ·rw [oneS_cols]; exact hc
    ·show (colN _).cols.length ≤ _
     rw [colN_c]
     show (oneS s l).1.told.length ≤ _
     unfold oneS
     split
     ·show s.told.length ≤ _; omega
     ·show (s.told ++ [_]).length ≤ _
      rw [List.length_append, List.length_singleton]; omega
   ·rw [show nextS s l = colEndS s l by unfold nextS; rw [hf]; rfl]
    unfold colEndS
    repeat' split
    all_goals exact hc
   ·rw [show nextS s l = defNS s l by unfold nextS; rw [hf]; rfl]
    unfold defNS
    split
    ·rw [oneS_cols]; exact hc
    ·show (defN _).1.cols.length ≤ _
     rw [defN_c, oneS_cols]; exact hc
   ·rw [show nextS s l = defEndS s l by unfold nextS; rw [hf]; rfl]
    unfold defEndS
    split
    ·exact hc
    ·show (afterS _).1.cols.length ≤ _
     rw [after_c]; exact hc
theorem feed_c {s : RS} (r : RI s) (hc : s.cols.length ≤ 4096) (l : List Nat) : (feedS s l).1.cols.length ≤ 4096 := by
 unfold feedS
 split
 ·exact hc
 ·rename_i hn
  split
  ·exact hc
  ·split
   ·exact next_c r hc l hn
   ·exact next_c r hc l hn
theorem file_c {s : RS} (hc : s.cols.length ≤ 4096) (l : List Nat) : (fileS s l).1.cols.length ≤ 4096 := by
 unfold fileS
 repeat' split
 all_goals exact hc
theorem new_c (c k fl : Int) {cs : List CO} (hc : cs.length ≤ 4096) : (newS c k fl cs).cols.length ≤ 4096 := by
 show (if answerF k = 7 then cs else []).length ≤ _
 split
 ·exact hc
 ·exact Nat.zero_le _
structure BB (s : RS) (d : XD) : Prop where
 sim : Sim s d
 ki : KI s
 ri : RI s
 cl : s.cols.length ≤ 4096
theorem BB.feed {s : RS} {d : XD} (b : BB s d) {l : List Nat} (hb : ∀ x ∈ l, x < 256) : (xFeed d l).2.1 = (feedS s l).2.1 ∧ (xFeed d l).2.2 = (feedS s l).2.2 ∧ BB (feedS s l).1 (xFeed d l).1 := by
 obtain ⟨h1, h2, h3, h4⟩ := feed_sim b.sim b.ki b.ri hb
 exact ⟨h1, h2, h3, h4, b.ri.feed l, feed_c b.ri b.cl l⟩
theorem BB.file {s : RS} {d : XD} (b : BB s d) (l : List Nat) : (xFile d l).2 = (fileS s l).2 ∧ BB (fileS s l).1 (xFile d l).1 := by
 obtain ⟨h1, h2, h3⟩ := file_sim (l := l) b.sim b.ki b.ri
 exact ⟨h1, h2, h3, b.ri.file l, file_c b.cl l⟩
theorem BB.ask {s : RS} {d : XD} (b : BB s d) : (d.st = 6 ↔ s.wants) ∧ (d.st = 0 ↔ s.nx = none) ∧ ((d.st = 1 ∨ d.st = 2 ∨ d.st = 5 ∨ d.st = 7 ∨ d.st = 8) ↔ s.may ∧ ¬ s.wants) := ask_sim b.sim b.ki b.ri
theorem BB.new {c k fl : Int} (h8 : ¬ answerF k = 8) {cs : List CO} (hok : ∀ x ∈ cs, x.Ok) (hl : cs.length ≤ 4096) : BB (newS c k fl cs) (newD c k fl cs) := ⟨new_sim _ _ _ _, new_ki _ _ _ h8 _, new_ri _ _ _ _ hok hl, new_c _ _ _ hl⟩
theorem BB.need {s : RS} {d : XD} (b : BB s d) : (0 ≤ d.st ∧ d.st ≤ 12) ∧ (d.st = 3 ∨ d.st = 9 ∨ d.st = 11 → 1 ≤ d.left ∧ d.left ≤ 65536) ∧ d.cols.length ≤ 65536 ∧ (d.st = 5 → d.cols.length ≤ 4096) ∧ ∀ c ∈ d.cols, c.Ok := by
 have hst := b.sim.st
 have hcl := b.cl
 have hcs := b.sim.cols
 refine ⟨?_, ?_, by rw [hcs]; omega, fun _ => by rw [hcs]; exact hcl, by rw [hcs]; exact b.ri.ok.1⟩
 ·rw [hst]; unfold stF
  cases hn : s.nx with
  | none => exact ⟨show (0 : Int) ≤ 0 by decide, show (0 : Int) ≤ 12 by decide⟩
  | some f =>
    show 0 ≤ stO _ _ _ ∧ stO _ _ _ ≤ 12
    unfold stO
    repeat' split
    all_goals exact ⟨by decide, by decide⟩
 ·intro q
  unfold stF at hst
  cases hn : s.nx with
  | none => rw [hn] at hst; have hst : d.st = 0 := hst; omega
  | some f =>
    rw [hn] at hst
    have hst : d.st = stO f s.wants s.second := hst
    have hin := b.ri.nx f hn
    by_cases h64 : f = 64
    ·subst h64
     have := b.ri.l55 hn
     rw [b.sim.left (.inl hn)]; omega
    by_cases h109 : f = 109
    ·subst h109
     have := b.ri.l77 hn
     rw [b.sim.left (.inr hn)]; omega
    exfalso
    rw [hst] at q
    revert q
    simp only [List.mem_cons, List.not_mem_nil, or_false] at hin
    rcases hin with rfl | rfl | rfl | rfl | rfl | rfl | rfl | rfl | rfl | rfl | rfl | rfl
    all_goals first | (exact absurd rfl h64) | (exact absurd rfl h109) | (unfold stO; repeat' split) 
    all_goals first | omega | contradiction
end
noncomputable section
structure PK (h : H) (lv : V) (ls : List (List Nat)) (cs : List V) : Prop where
 row : RW 25 1 ls.length h lv cs
 each : ∀ i (hi : i < ls.length) (hc : i < cs.length), BS 5 h cs[i] ls[i]
theorem PK.at {h : H} {lv : V} {ls : List (List Nat)} {cs : List V} (a : PK h lv ls cs) (i : Nat) (hi : i < ls.length) : ∃ b o m, ∃ v, lv = .slice b o ls.length m ∧ b < h.nx ∧ rdV (some (1, false)) (h.get b) (o + i) = some v ∧ BS 5 h v ls[i] := by
 have hc : i < cs.length := by rw [a.row.1]; omega
 obtain ⟨b, o, m, hv⟩ := a.row.at (by omega)
 obtain ⟨_, hb, hr, _⟩ := RW.rd (hv ▸ a.row)
 exact ⟨b, o, m, cs[i], hv, hb, hr i 1 hc, a.each i hi hc⟩
theorem PK.ext {h h' : H} {lv : V} {ls : List (List Nat)} {cs : List V} (a : PK h lv ls cs) (x : Ext h h') : PK h' lv ls cs := ⟨a.row.ext x, fun i hi hc => (a.each i hi hc).ext x⟩
def fedS (s : RS) : RS := @ite _ s.wants (Classical.propDecidable _) (fileS s []).1 s
def allF : List (List Nat) → RS → Nat → Int × Int
 | [], s, i => if s.nx = none then (i, 0) else (0, 9)
 | l :: ls, s, i => if s.nx = none then (i, 0) else if (feedS (fedS s) l).2.2 = 0 then allF ls (feedS (fedS s) l).1 (i + 1) else (i, (feedS (fedS s) l).2.2)
def allP (X : RX) (c k fl : Int) (n : Nat) (cs : List CO) (ls : List (List Nat)) : Int × Int := @ite _ (newOk X c k fl n ∧ colsOk cs) (Classical.propDecidable _) (allF ls (newS c k fl cs) 0) (0, 2)
theorem file_ct (s : RS) (l : List Nat) : (fileS s l).1.cols = s.cols ∧ (fileS s l).1.told = s.told := by
 unfold fileS
 split
 ·exact ⟨rfl, rfl⟩
 ·first | exact ⟨rfl, rfl⟩ | (split <;> exact ⟨rfl, rfl⟩)
theorem all_end {ls : List (List Nat)} {s s0 : RS} {i : Nat} (h : allF ls s0 0 = allF (ls.drop i) s i) (hi : i ≤ ls.length) (hs : s.nx = none) : allF ls s0 0 = ((i : Int), 0) := by
 rw [h]
 cases ls.drop i with
 | nil => exact if_pos hs
 | cons l ls => exact if_pos hs
theorem all_nine {ls : List (List Nat)} {s s0 : RS} {i : Nat} (h : allF ls s0 0 = allF (ls.drop i) s i) (hi : ls.length ≤ i) (hs : ¬ s.nx = none) : allF ls s0 0 = (0, 9) := by
 rw [h, List.drop_eq_nil_of_le hi]
 exact if_neg hs
theorem all_step {ls : List (List Nat)} {s s0 : RS} {i : Nat} (h : allF ls s0 0 = allF (ls.drop i) s i) (hi : i < ls.length) (hs : ¬ s.nx = none) (he : (feedS (fedS s) ls[i]).2.2 = 0) : allF ls s0 0 = allF (ls.drop (i + 1)) (feedS (fedS s) ls[i]).1 (i + 1) := by
 rw [h, List.drop_eq_getElem_cons hi]
 show (if s.nx = none then _ else _) = _
 rw [if_neg hs, if_pos he]
theorem all_err {ls : List (List Nat)} {s s0 : RS} {i : Nat} (h : allF ls s0 0 = allF (ls.drop i) s i) (hi : i < ls.length) (hs : ¬ s.nx = none) (he : ¬ (feedS (fedS s) ls[i]).2.2 = 0) : allF ls s0 0 = ((i : Int), (feedS (fedS s) ls[i]).2.2) := by
 rw [h, List.drop_eq_getElem_cons hi]
 show (if s.nx = none then _ else _) = _
 rw [if_neg hs, if_neg he]
variable {S : Set0} (hS : StdX S)
include hS
theorem all_spec {X : RX} {d : List Nat} {h : H} (b : BS 5 h X.x7 d) {v : V} {cs : List CO} (rc : RW 67 10 cs.length h v (colV cs)) (hok : ∀ x ∈ cs, x.Ok) {lv : V} {ls : List (List Nat)} {pc : List V} (al : PK h lv ls pc) (hs5 : ∀ i (hi : i < ls.length), ls[i].length ≤ 5000) (hs4 : ls.length ≤ 400) (c k fl : Int) : Pure S.cfg 8 [.int .u32 c, .agg (cmdC X k fl), v, lv] h fun w _ => w = .tuple [.int .i64 (allP X c k fl d.length cs ls).1, .int .i64 (allP X c k fl d.length cs ls).2] := by
 refine into Tryz.f8 _ Tryz.func8 (hS.ownX _ (by decide)) rfl rfl (by kernel_rfl) (by kernel_rfl) ?_
 have hX := b.cell
 have x1 := hX.1
 have x2 := hX.2
 have hlen := al.row.len 25
 have nw := fun h b rc => new2_spec hS (X := X) (d := d) (h := h) b (v := v) (cs := cs) rc hok c k fl
 unfold cmdC at nw ⊢
 refine ww1 (cj @Tryz.f8.eq_1 <| cj x1 x2) ?_
 generalize hhA : H.push h _ = hA
 have hxA : Ext h hA := by rw [← hhA]; exact (Ext.refl h).push _
 clear hhA
 refine callF_pure (nw _ (b.ext hxA) (rc.ext hxA)) ?_
 rintro w1 h1 hx1 ⟨r1, r2⟩
 have n1 := hx1.1
 have hxh1 := hxA.trans hx1
 unfold allP
 by_cases hnew : newOk X c k fl d.length ∧ colsOk cs
 case neg =>
  rw [r2 hnew, if_neg hnew]
  refine wew0 ?_
  exact hxh1
 obtain ⟨r, cv, rfl, f1⟩ := r1 hnew
 rw [if_pos hnew]
 have lt1 := f1.rr.lt
 have nA := hxA.1
 have okn : ∀ j, hA.nx ≤ j → fresh h.nx nil1 j := fun j hj => by rw [fresh_def]; exact .inl (by omega)
 have okr : ∀ j, j = r → fresh h.nx nil1 j := fun j hj => by rw [fresh_def]; exact .inl (by omega)
 have ri0 : RI (newS c k fl cs) := new_ri c k fl cs hok hnew.2.1
 refine wew1 hlen ?_
 refine run_loop (fun m env h' => ∃ i : Nat, m = ls.length - i ∧ i ≤ ls.length ∧ env 3 = lv ∧ env 10 = .ptr r 0 ∧ env 26 = lv ∧ env 27 = .int .i64 ls.length ∧ env 28 = .int .i64 i ∧ Stp0 hA.nx h1 h' ∧ ∃ s cv tv, RI s ∧ RF X hA.nx r s cv tv h' ∧ allF ls (newS c k fl cs) 0 = allF (ls.drop i) s i) ls.length ⟨0, ?_⟩ ?_
 ·refine ww0 ?_
  exact ⟨(Nat.sub_zero _).symm, ⟨Nat.le_refl _, fun _ _ => rfl⟩, _, _, _, ri0, f1, rfl⟩
 rintro m env h2 ⟨i, rfl, hi, e3, e10, e26, e27, e28, st2, s, cv2, tv2, ri, rf, ha⟩
 have n2 := st2.1
 have hx2 : Ext hA h2 := ⟨by omega, fun j hj => by rw [st2.2 j hj, hx1.2 j hj]⟩
 have hxh2 := hxA.trans hx2
 by_cases hin : i < ls.length
 ·have hin' : (i : Int) < ls.length := by omega
  obtain ⟨pb, po, pm, pv, hpv, hpb, hpr, bs⟩ := al.at i hin
  have hbl := hs5 i hin
  have hpr2 : rdV (some (1, false)) (h2.get pb) (po + i) = some pv := by rw [hxh2.2 pb hpb]; exact hpr
  have b2 := bs.ext hxh2
  obtain ⟨pc1, pc2⟩ := b2.cell
  refine ww1 (cj e3 <| cj e10 <| cj e26 <| cj e27 <| cj e28 <| cj hin <| cj hin' <| cj hpv hpr2) ?_
  refine callF_exact (over_sp hS.toStdR rf.rr) ?_
  by_cases hnx : s.nx = none
  ·have hnx' := eq_true hnx
   rw [all_end ha hi hnx]
   refine ww1 (cj e3 <| cj e10 <| cj e26 <| cj e27 <| cj e28 hnx') ?_
   exact hxh2
  refine ww1 (cj e3 <| cj e10 <| cj e26 <| cj e27 <| cj e28 hnx) ?_
  refine callF_exact (wants_spec hS.toStdR rf.rr) ?_
  refine wr1 (cj e3 <| cj e10 <| cj e26 <| cj e27 e28) ?_
  refine run_cut (fun env' h' => env' 3 = lv ∧ env' 10 = .ptr r 0 ∧ env' 12 = .int .i64 i ∧ env' 13 = pv ∧ env' 26 = lv ∧ env' 27 = .int .i64 ls.length ∧ env' 28 = .int .i64 i ∧ Stp0 hA.nx h1 h' ∧ ∃ cv tv, RI (fedS s) ∧ RF X hA.nx r (fedS s) cv tv h') ?_ ?_
  ·by_cases hw : s.wants
   ·have hw' := eq_true hw
    have ef : fedS s = (fileS s []).1 := if_pos hw
    refine ww1 (cj e3 <| cj e10 <| cj e26 <| cj e27 <| cj e28 hw') ?_
    refine callF_of (file_spec hS.toStdR rf.rr (BS.nil 5 h2)) okr ?_
    rintro _ h7 ⟨rfl, p7⟩
    have ct := file_ct s []
    refine ww1 (cj e3 <| cj e10 <| cj e26 <| cj e27 e28) ?_
    rw [ef]
    exact ⟨st2.trans (Stp0.but p7.2 (by omega) lt1.1), _, _, ri.file [], rf.step p7 ct.1 ct.2⟩
   ·have ef : fedS s = s := if_neg hw
    refine ww1 (cj e3 <| cj e10 <| cj e26 <| cj e27 <| cj e28 hw) ?_
    rw [ef]
    exact ⟨st2, _, _, ri, rf⟩
  rintro env3 h7 ⟨e3, e10, e12, e13, e26, e27, e28, st7, cv7, tv7, ri7, rf7⟩
  have n7 := st7.1
  have hx7 : Ext hA h7 := ⟨by omega, fun j hj => by rw [st7.2 j hj, hx1.2 j hj]⟩
  have hxh7 := hxA.trans hx7
  have w1 : IntKind.i64.wrap ((i : Int) + 1) = ((i + 1 : Nat) : Int) := i64_in _ (by omega)
  refine ww1 (cj e3 <| cj e10 <| cj e12 <| cj e13 <| cj e26 <| cj e27 e28) ?_
  refine callF_of (feed_spec hS.toStdR rf7 ri7 (bs.ext hxh7) (by omega) (bs.off (by omega))) okn ?_
  rintro w8 h8 ⟨cv8, tv8, pr8, rf8, st8, fr8⟩
  have n8 := st8.1
  obtain ⟨y, rfl, by8, ho8⟩ := pr8
  obtain ⟨yc1, yc2⟩ := by8.cell
  have lt8 := rf8.rr.lt
  have oy : ∀ o1 o2, Ext h8 ((h8.push o1).put h8.nx o2) := fun o1 o2 => ((Ext.refl h8).push o1).put (Nat.le_refl _) o2
  have st9 := st7.trans st8
  have hx9 : Ext h h8 := hxA.trans ⟨by omega, fun j hj => by rw [st9.2 j hj, hx1.2 j hj]⟩
  by_cases he : (feedS (fedS s) ls[i]).2.2 = 0
  ·have he' := eq_true he
   have ha2 := all_step ha hin hnx he
   unfold PT.cells
   refine ww1 (cj e3 <| cj e10 <| cj e12 <| cj e13 <| cj e26 <| cj e27 <| cj e28 <| cj yc1 <| cj yc2 <| cj he' w1) ?_
   exact ⟨.inr (by omega), ls.length - (i + 1), by omega, i + 1, rfl, by omega, hpv, hpv, rfl, st9.trans (Stp0.ext (oy _ _) (by omega)), _, cv8, tv8, ri7.feed _, rf8.step (RP.same rf8.rr (oy _ _)) rfl rfl, ha2⟩
  ·rw [all_err ha hin hnx he]
   unfold PT.cells
   refine ww1 (cj e3 <| cj e10 <| cj e12 <| cj e13 <| cj e26 <| cj e27 <| cj e28 <| cj yc1 <| cj yc2 <| cj he w1) ?_
   exact ⟨.inr (by omega), (hx9.push _).put (by omega) _⟩
 obtain rfl : i = ls.length := by omega
 have hin' : ¬ (ls.length : Int) < ls.length := by omega
 refine ww1 (cj e3 <| cj e10 <| cj e26 <| cj e27 <| cj e28 hin') ?_
 refine callF_exact (over_sp hS.toStdR rf.rr) ?_
 by_cases hnx : s.nx = none
 ·have hnx' := eq_true hnx
  rw [all_end ha hi hnx]
  refine ww1 (cj e3 <| cj e10 <| cj e26 <| cj e27 <| cj e28 <| cj hnx' hlen) ?_
  exact hxh2
 ·rw [all_nine ha (Nat.le_refl _) hnx]
  refine ww1 (cj e3 <| cj e10 <| cj e26 <| cj e27 <| cj e28 hnx) ?_
  exact hxh2
end
noncomputable section
def fedX (d : XD) : XD := if d.st = 6 then (xFile d []).1 else d
theorem BB.fed {s : RS} {d : XD} (b : BB s d) : BB (fedS s) (fedX d) := by
 unfold fedS fedX
 by_cases hw : s.wants
 ·rw [if_pos hw, if_pos (b.ask.1.2 hw)]; exact (b.file []).2
 ·rw [if_neg hw, if_neg (fun q => hw (b.ask.1.1 q))]; exact b
variable {S : Set0} (hS : StdX S)
include hS
theorem xall_spec {X : RX} {d : List Nat} {h : H} (b : BS 5 h X.x7 d) {v : V} {cs : List CO} (rc : RW 67 10 cs.length h v (colV cs)) (hok : ∀ x ∈ cs, x.Ok) {lv : V} {ls : List (List Nat)} {pc : List V} (al : PK h lv ls pc) (hs5 : ∀ i (hi : i < ls.length), ls[i].length ≤ 5000) (hs4 : ls.length ≤ 400) (c k fl : Int) : Pure S.cfg 9 [.int .u32 c, .agg (cmdC X k fl), v, lv] h fun w _ => w = .tuple [.int .i64 (allP X c k fl d.length cs ls).1, .int .i64 (allP X c k fl d.length cs ls).2] := by
 refine into Tryz.f9 _ Tryz.func9 (hS.ownX _ (by decide)) rfl rfl (by kernel_rfl) (by kernel_rfl) ?_
 have hX := b.cell
 have x1 := hX.1
 have x2 := hX.2
 have hlen := al.row.len 25
 have nw := fun h b rc => xnew_spec hS (X := X) (d := d) (h := h) b (v := v) (cs := cs) rc hok c k fl
 unfold cmdC at nw ⊢
 refine ww1 (cj @Tryz.f9.eq_1 <| cj x1 x2) ?_
 generalize hhA : H.push h _ = hA
 have hxA : Ext h hA := by rw [← hhA]; exact (Ext.refl h).push _
 clear hhA
 refine callF_pure (nw _ (b.ext hxA) (rc.ext hxA)) ?_
 rintro w1 h1 hx1 ⟨r1, r2⟩
 have n1 := hx1.1
 have hxh1 := hxA.trans hx1
 unfold allP
 by_cases hnew : newOk X c k fl d.length ∧ colsOk cs
 case neg =>
  rw [r2 hnew, if_neg hnew]
  refine wew0 ?_
  exact hxh1
 obtain ⟨r, cv, rfl, f1⟩ := r1 hnew
 rw [if_pos hnew]
 have lt1 := f1.lt
 have nA := hxA.1
 have okn : ∀ j, hA.nx ≤ j → fresh h.nx nil1 j := fun j hj => by rw [fresh_def]; exact .inl (by omega)
 have okr : ∀ j, j = r → fresh h.nx nil1 j := fun j hj => by rw [fresh_def]; exact .inl (by omega)
 have bb0 : BB (newS c k fl cs) (newD c k fl cs) := BB.new hnew.1.2.2 hok hnew.2.1
 refine wew0 ?_
 refine run_loop (fun m env h' => ∃ i : Nat, m = ls.length - i ∧ i ≤ ls.length ∧ env 3 = lv ∧ env 10 = .ptr r 0 ∧ env 12 = .int .i64 i ∧ Stp0 hA.nx h1 h' ∧ ∃ s D cv, BB s D ∧ XR X hA.nx r D cv h' ∧ allF ls (newS c k fl cs) 0 = allF (ls.drop i) s i) ls.length ⟨0, ?_⟩ ?_
 ·refine ww0 ?_
  exact ⟨(Nat.sub_zero _).symm, ⟨Nat.le_refl _, fun _ _ => rfl⟩, _, _, _, bb0, f1, rfl⟩
 rintro m env h2 ⟨i, rfl, hi, e3, e10, e12, st2, s, D, cv2, bb, rf, ha⟩
 have n2 := st2.1
 have hx2 : Ext hA h2 := ⟨by omega, fun j hj => by rw [st2.2 j hj, hx1.2 j hj]⟩
 have hxh2 := hxA.trans hx2
 obtain ⟨aw, ao, _⟩ := bb.ask
 by_cases hin : i < ls.length
 ·have hin' : (i : Int) < ls.length := by omega
  obtain ⟨pb, po, pm, pv, hpv, hpb, hpr, bs⟩ := al.at i hin
  have hbl := hs5 i hin
  refine ww1 (cj e3 <| cj e10 <| cj e12 <| cj hlen <| cj hin hin') ?_
  refine callF_exact (xover_spec hS rf) ?_
  by_cases hnx : D.st = 0
  ·have hnx' := eq_true hnx
   rw [all_end ha hi (ao.1 hnx)]
   refine ww1 (cj e3 <| cj e10 <| cj e12 hnx') ?_
   exact hxh2
  have hns : ¬ s.nx = none := fun q => hnx (ao.2 q)
  refine ww1 (cj e3 <| cj e10 <| cj e12 hnx) ?_
  refine callF_exact (xwants_spec hS rf) ?_
  refine wr1 (cj e3 <| cj e10 e12) ?_
  refine run_cut (fun env' h' => env' 3 = lv ∧ env' 10 = .ptr r 0 ∧ env' 12 = .int .i64 i ∧ Stp0 hA.nx h1 h' ∧ ∃ cv, XR X hA.nx r (fedX D) cv h') ?_ ?_
  ·by_cases hw : D.st = 6
   ·have hw' := eq_true hw
    have ef : fedX D = (xFile D []).1 := if_pos hw
    refine ww1 (cj e3 <| cj e10 <| cj e12 hw') ?_
    refine callF_of (xfile_spec hS rf (BS.nil 5 h2)) okr ?_
    rintro _ h7 ⟨rfl, p7⟩
    refine ww1 (cj e3 <| cj e10 e12) ?_
    rw [ef]
    exact ⟨st2.trans (Stp0.but p7.2 (by omega) lt1.1), _, p7.1⟩
   ·have ef : fedX D = D := if_neg hw
    refine ww1 (cj e3 <| cj e10 <| cj e12 hw) ?_
    rw [ef]
    exact ⟨st2, _, rf⟩
  rintro env3 h7 ⟨e3, e10, e12, st7, cv7, rf7⟩
  have bb7 := bb.fed
  obtain ⟨d1, d2, d3, d4, d5⟩ := bb7.need
  have n7 := st7.1
  have hx7 : Ext hA h7 := ⟨by omega, fun j hj => by rw [st7.2 j hj, hx1.2 j hj]⟩
  have hxh7 := hxA.trans hx7
  have hpr7 : rdV (some (1, false)) (h7.get pb) (po + i) = some pv := by rw [hxh7.2 pb hpb]; exact hpr
  have w1 : IntKind.i64.wrap ((i : Int) + 1) = ((i + 1 : Nat) : Int) := i64_in _ (by omega)
  refine ww1 (cj e3 <| cj e10 <| cj e12 <| cj hpv <| cj hpr7 <| cj hin hin') ?_
  refine callF_of (xfeed_spec hS rf7 (bs.ext hxh7) (by omega) d1 d2 d3 d4 d5) okn ?_
  rintro w8 h8 ⟨cv8, pr8, rf8, fx8⟩
  have n8 := fx8.nx
  obtain ⟨y, rfl, by8, ho8⟩ := pr8
  obtain ⟨yc1, yc2⟩ := by8.cell
  have lt8 := rf8.lt
  have oy : ∀ o1 o2, Ext h8 ((h8.push o1).put h8.nx o2) := fun o1 o2 => ((Ext.refl h8).push o1).put (Nat.le_refl _) o2
  have st9 := st7.trans (⟨n8, fun j hj => fx8.get j (by omega) (by omega) (rf7.cols.off j hj)⟩ : Stp0 hA.nx h7 h8)
  have hx9 : Ext h h8 := hxA.trans ⟨by omega, fun j hj => by rw [st9.2 j hj, hx1.2 j hj]⟩
  obtain ⟨q1, q2, q3⟩ := bb7.feed bs.1
  by_cases he : (feedS (fedS s) ls[i]).2.2 = 0
  ·have he' := eq_true (q2.trans he)
   have ha2 := all_step ha hin hns he
   unfold PT.cells
   refine ww1 (cj e3 <| cj e10 <| cj e12 <| cj yc1 <| cj yc2 <| cj he' w1) ?_
   exact ⟨.inr (by omega), ls.length - (i + 1), by omega, i + 1, rfl, by omega, hpv, rfl, st9.trans (Stp0.ext (oy _ _) (by omega)), _, _, cv8, q3, rf8.ext (oy _ _), ha2⟩
  ·rw [all_err ha hin hns he, ← q2]
   rw [← q2] at he
   unfold PT.cells
   refine ww1 (cj e3 <| cj e10 <| cj e12 <| cj yc1 <| cj yc2 <| cj he w1) ?_
   exact ⟨.inr (by omega), (hx9.push _).put (by omega) _⟩
 obtain rfl : i = ls.length := by omega
 have hin' : ¬ (ls.length : Int) < ls.length := by omega
 refine ww1 (cj e3 <| cj e10 <| cj e12 <| cj hin' hlen) ?_
 refine callF_exact (xover_spec hS rf) ?_
 by_cases hnx : D.st = 0
 ·have hnx' := eq_true hnx
  rw [all_end ha hi (ao.1 hnx)]
  refine ww1 (cj e3 <| cj e10 <| cj e12 <| cj hnx' hlen) ?_
  exact hxh2
 ·rw [all_nine ha (Nat.le_refl _) (fun q => hnx (ao.2 q))]
  refine ww1 (cj e3 <| cj e10 <| cj e12 hnx) ?_
  exact hxh2
end
noncomputable section
structure StdL (S : Set0) : Prop extends StdX S where
 ownL : ∀ f, f ∈ [3, 5] → sums S.exts f = none
 lives : ∀ h, Exact S.cfg 4 [] h (bo True)
theorem eqn_refl : ∀ s : List Nat, eqNats s s = true
 | [] => rfl
 | x :: s => by
   show (Nat.beq x x && eqNats s s) = true
   rw [eqn_refl s]
   simp
theorem eqV_of {t : TypeId} {c : Bool} {a : V} (e : binV Tryz.prog .eql t c a a = eqOpV Tryz.prog .eql t a a) (h : eqT Tryz.prog t a a = some true) : binV Tryz.prog .eql t c a a = some (bo True) := by
 rw [e]
 unfold eqOpV
 rw [h]
 simp [bo]
theorem neqV_of {t : TypeId} {c : Bool} {a : V} (e : binV Tryz.prog .neq t c a a = eqOpV Tryz.prog .neq t a a) (h : eqT Tryz.prog t a a = some true) : binV Tryz.prog .neq t c a a = some (bo False) := by
 rw [e]
 unfold eqOpV
 rw [h]
 simp [bo]
theorem bo_eql (c : Bool) (p q : Prop) : binV Tryz.prog .eql 4 c (bo p) (bo q) = some (bo (p ↔ q)) := by
 have e : ∀ a b : Bool, binV Tryz.prog .eql 4 c (.bool a) (.bool b) = some (.bool (a == b)) := fun a b => by kernel_rfl
 unfold bo
 rw [e]
 by_cases hp : p <;> by_cases hq : q <;> simp [hp, hq]
theorem bo_neq (c : Bool) (p q : Prop) : binV Tryz.prog .neq 4 c (bo p) (bo q) = some (bo (¬ (p ↔ q))) := by
 have e : ∀ a b : Bool, binV Tryz.prog .neq 4 c (.bool a) (.bool b) = some (.bool (!(a == b))) := fun a b => by kernel_rfl
 unfold bo
 rw [e]
 by_cases hp : p <;> by_cases hq : q <;> simp [hp, hq]
theorem eq47 (a : Int) (s t : List Nat) : eqT Tryz.prog 47 (.agg [.int .u16 a, .str s, .str t]) (.agg [.int .u16 a, .str s, .str t]) = some true := by
 have e : eqT Tryz.prog 47 (.agg [.int .u16 a, .str s, .str t]) (.agg [.int .u16 a, .str s, .str t]) = (match some (a == a) with
  | some true => (match some (eqNats s s) with
    | some true => (match some (eqNats t t) with
      | some true => some true
      | r => r)
    | r => r)
  | r => r) := by kernel_rfl
 rw [e, eqn_refl, eqn_refl]
 simp
theorem eq49 (a b : Int) : eqT Tryz.prog 49 (.agg [.int .u16 a, .int .u16 b]) (.agg [.int .u16 a, .int .u16 b]) = some true := by
 have e : eqT Tryz.prog 49 (.agg [.int .u16 a, .int .u16 b]) (.agg [.int .u16 a, .int .u16 b]) = (match some (a == a) with
  | some true => (match some (b == b) with
    | some true => some true
    | r => r)
  | r => r) := by kernel_rfl
 rw [e]
 simp
theorem eq51 (a b c d : Int) : eqT Tryz.prog 51 (.agg [.int .u32 a, .int .u16 b, .int .u16 c, .int .u16 d]) (.agg [.int .u32 a, .int .u16 b, .int .u16 c, .int .u16 d]) = some true := by
 have e : eqT Tryz.prog 51 (.agg [.int .u32 a, .int .u16 b, .int .u16 c, .int .u16 d]) (.agg [.int .u32 a, .int .u16 b, .int .u16 c, .int .u16 d]) = (match some (a == a) with
  | some true => (match some (b == b) with
    | some true => (match some (c == c) with
      | some true => (match some (d == d) with
        | some true => some true
        | r => r)
      | r => r)
    | r => r)
  | r => r) := by kernel_rfl
 rw [e]
 simp
theorem eq67 (x : CO) : eqT Tryz.prog 67 (.agg x.cells) (.agg x.cells) = some true := by
 have e : eqT Tryz.prog 67 (.agg x.cells) (.agg x.cells) = (match some (eqNats x.s0 x.s0) with
  | some true => (match some (eqNats x.s1 x.s1) with
    | some true => (match some (eqNats x.s2 x.s2) with
      | some true => (match some (eqNats x.s3 x.s3) with
        | some true => (match some (eqNats x.s4 x.s4) with
          | some true => (match some (x.c == x.c) with
            | some true => (match some (x.l == x.l) with
              | some true => (match some (x.t == x.t) with
                | some true => (match some (x.f == x.f) with
                  | some true => (match some (x.d == x.d) with
                    | some true => some true
                    | r => r)
                  | r => r)
                | r => r)
              | r => r)
            | r => r)
          | r => r)
        | r => r)
      | r => r)
    | r => r)
  | r => r) := by kernel_rfl
 rw [e]
 simp only [eqn_refl, beq_self_eq_true]
theorem tk8 (a1 a2 a3 a4 a5 a6 a7 a8 a9 b1 b2 b3 b4 b5 b6 b7 b8 : V) : List.take 3 (List.drop 8 [a1, a2, a3, a4, a5, a6, a7, a8, a9, b1, b2, b3, b4, b5, b6, b7, b8]) = [a9, b1, b2] := rfl
theorem tk11 (a1 a2 a3 a4 a5 a6 a7 a8 a9 b1 b2 b3 b4 b5 b6 b7 b8 : V) : List.take 2 (List.drop 11 [a1, a2, a3, a4, a5, a6, a7, a8, a9, b1, b2, b3, b4, b5, b6, b7, b8]) = [b3, b4] := rfl
theorem tk13 (a1 a2 a3 a4 a5 a6 a7 a8 a9 b1 b2 b3 b4 b5 b6 b7 b8 : V) : List.take 4 (List.drop 13 [a1, a2, a3, a4, a5, a6, a7, a8, a9, b1, b2, b3, b4, b5, b6, b7, b8]) = [b5, b6, b7, b8] := rfl
variable {S : Set0} (hS : StdL S)
include hS
theorem status_spec {X : RX} {n0 r : Nat} {s : RS} {cv tv : V} {h : H} (a : RR X n0 r s cv tv h) : Exact S.cfg 21 [.ptr r 0] h (.int .u16 s.st) := by
 refine into Tryz.f21 _ Tryz.func21 (hS.ownX _ (by decide)) rfl rfl (by kernel_rfl) (by kernel_rfl) ?_
 have g := a.get
 unfold rsC at g
 refine ww1 @Tryz.f21.eq_1 ?_
 refine callF_exact (none_spec hS.toStdX.toStdR a) ?_
 exact wv1 g
theorem cols_spec {X : RX} {n0 r : Nat} {s : RS} {cv tv : V} {h : H} (a : RF X n0 r s cv tv h) (hc : s.cols.length ≤ 65536) : Pure S.cfg 24 [.ptr r 0] h fun w h' => RW 67 10 s.cols.length h' w (colV s.cols) := by
 refine into Tryz.f24 _ Tryz.func24 (hS.ownX _ (by decide)) rfl rfl (by kernel_rfl) (by kernel_rfl) ?_
 have g := a.rr.get
 unfold rsC at g
 have cs : RW 67 10 s.cols.length h cv (colV s.cols) := a.cs
 refine ww1 @Tryz.f24.eq_1 ?_
 refine callF_exact (none_spec hS.toStdX.toStdR a.rr) ?_
 refine ww1 g ?_
 refine callF_pure (clone_spec hS.toStdX cs hc) ?_
 rintro w h1 hx1 l1
 refine ww0 ?_
 exact ⟨hx1, rw_of_lst l1 (by decide) (colV_len _)⟩
theorem xcols_spec {X : RX} {n0 x : Nat} {d : XD} {cv : V} {h : H} (a : XR X n0 x d cv h) (hc : d.cols.length ≤ 65536) : Pure S.cfg 25 [.ptr x 0] h fun w h' => RW 67 10 d.cols.length h' w (colV d.cols) := by
 refine into Tryz.f25 _ Tryz.func25 (hS.ownX _ (by decide)) rfl rfl (by kernel_rfl) (by kernel_rfl) ?_
 have g := a.get
 unfold xdC at g
 have cs : RW 67 10 d.cols.length h cv (colV d.cols) := rw_of_lst a.cols (by decide) (colV_len _)
 refine ww1 @Tryz.f25.eq_1 ?_
 refine callF_exact (xnone_spec hS.toStdX a) ?_
 refine ww1 g ?_
 refine append_lst (n0 := h.nx) (sv := .nilslice) (xv := cv) (cells := []) (new := colV d.cols) rfl rfl ap28' ⟨.slice 67, by kernel_rfl, rfl⟩ (lst_nil _ _ _ _) (src_of_rw cs) (colV_all _) ?_ (by decide) (fun k hk => by rw [fresh_def]; exact .inl hk) (Nat.le_refl _) ?_
 ·rw [colV_len]; simp only [List.length_nil]; omega
 intro v2 h2 L2 hl2 n2 hk2 hk3 hL2
 refine ww0 ?_
 exact ⟨⟨n2, hk3⟩, rw_of_lst hl2 (by decide) (colV_len _)⟩
theorem small_spec {lv : V} {ls : List (List Nat)} {cs : List V} {h : H} (a : PK h lv ls cs) (hl : ls.length < 2 ^ 63) : Pure S.cfg 5 [lv] h fun w _ => ∃ p : Prop, w = bo p ∧ (p → (∀ i (hi : i < ls.length), ls[i].length ≤ 5000) ∧ ls.length ≤ 400) := by
 refine into Tryz.f5 _ Tryz.func5 (hS.ownL _ (by decide)) rfl rfl (by kernel_rfl) (by kernel_rfl) ?_
 have a1 := a.row.len 25
 refine ww1 @Tryz.f5.eq_1 ?_
 refine run_loop (fun k env h' => ∃ i : Nat, k = ls.length - i ∧ i ≤ ls.length ∧ h' = h ∧ env 0 = lv ∧ env 3 = .int .i64 i ∧ ∀ j (hj : j < ls.length), j < i → ls[j].length ≤ 5000) ls.length ⟨0, ?_⟩ ?_
 ·refine ww0 ?_
  exact ⟨(Nat.sub_zero _).symm, fun j _ q => by omega⟩
 rintro k env h' ⟨i, rfl, hi, rfl, e0, e3, hk⟩
 by_cases hin : i < ls.length
 ·have hin' : (i : Int) < ls.length := by omega
  obtain ⟨b, o, m, v, hv, hb, hr, bs⟩ := a.at i hin
  have a2 := bs.len 5
  have w1 : IntKind.i64.wrap ((i : Int) + 1) = ((i + 1 : Nat) : Int) := i64_in _ (by omega)
  by_cases hs : 5000 < ls[i].length
  ·have hs' : (5000 : Int) < ls[i].length := by omega
   refine ww1 (cj e0 <| cj e3 <| cj a1 <| cj hin <| cj hin' <| cj hv <| cj hr <| cj a2 <| cj hs hs') ?_
   exact ⟨Ext.refl _, False, rfl, fun q => q.elim⟩
  ·have hs' : ¬ (5000 : Int) < ls[i].length := by omega
   refine ww1 (cj e0 <| cj e3 <| cj a1 <| cj hin <| cj hin' <| cj hv <| cj hr <| cj a2 <| cj hs <| cj hs' w1) ?_
   refine ⟨ls.length - (i + 1), by omega, i + 1, rfl, by omega, rfl, fun j hj hji => ?_⟩
   rcases (by omega : j < i ∨ j = i) with q | rfl
   ·exact hk j hj q
   ·omega
 obtain rfl : i = ls.length := by omega
 refine ww1 (cj e0 <| cj e3 <| cj a1 hin) ?_
 exact ⟨Ext.refl _, _, rfl, fun q => ⟨fun j hj => hk j hj hj, q⟩⟩
theorem same_spec {v w : V} {l : List Nat} {h : H} (a : BS 5 h v l) (b : BS 5 h w l) : Exact S.cfg 54 [v, w] h (bo True) := by
 refine into Tryz.f54 _ Tryz.func54 (hS.ownX _ (by decide)) rfl rfl (by kernel_rfl) (by kernel_rfl) ?_
 obtain ⟨L1, _, e1⟩ := a.str
 obtain ⟨L2, _, e2⟩ := b.str
 have hll : (l = l) = True := by simp
 exact wv1 (cj @Tryz.f54.eq_1 <| cj e1 <| cj e2 hll)
theorem parts_spec {p : PT} {y z : V} {h : H} (by1 : BS 5 h y p.ok.k) (bz : BS 5 h z p.ok.k) : Pure S.cfg 14 [.agg (p.cells y), .agg (p.cells z)] h fun w _ => w = bo True := by
 refine into Tryz.f14 _ Tryz.func14 (hS.ownX _ (by decide)) rfl rfl (by kernel_rfl) (by kernel_rfl) ?_
 obtain ⟨yc1, yc2⟩ := by1.cell
 obtain ⟨zc1, zc2⟩ := bz.cell
 have q1 : ¬ h.nx = h.nx + 1 := by omega
 have n47 := fun c => eqV_of (c := c) rfl (eq47 p.ec p.es p.et)
 have n49 := fun c => eqV_of (c := c) rfl (eq49 p.fw p.fs)
 have n51 := fun c => eqV_of (c := c) rfl (eq51 p.p1 p.p2 p.p3 p.p4)
 have bx : ∀ o1 o2, Ext h ((h.push o1).push o2) := fun o1 o2 => ((Ext.refl h).push o1).push o2
 unfold PT.cells
 simp +contextual (disch := first | exact dd | fail) only [wpy, fW, Int.reduceLE, Int.reduceLT, Nat.reduceLeDiff, UInt8.reduceToNat, ↓reduceIte, Nat.reduceEqDiff, Nat.reduceAdd, reduceCtorEq, Int.reduceToNat, Tryz.f14, yc1, yc2, zc1, zc2, q1, bo_eql, List.append_eq, List.cons_append, List.nil_append]
 refine callF_exact (same_spec hS (by1.ext (bx _ _)) (bz.ext (bx _ _))) ?_
 refine ww1 (cj q1 <| cj tk8 <| cj tk11 <| cj tk13 <| cj n47 <| cj n49 n51) ?_
 exact bx _ _
theorem columns_spec {v w : V} {cs : List CO} {h : H} (a : RW 67 10 cs.length h v (colV cs)) (b : RW 67 10 cs.length h w (colV cs)) (hn : cs.length ≤ 65536) : Exact S.cfg 23 [v, w] h (bo True) := by
 refine into Tryz.f23 _ Tryz.func23 (hS.ownX _ (by decide)) rfl rfl (by kernel_rfl) (by kernel_rfl) ?_
 have a1 := a.len 67
 have b1 := b.len 67
 refine ww1 (cj @Tryz.f23.eq_1 <| cj a1 b1) ?_
 refine run_loop (fun k env h' => ∃ i : Nat, k = cs.length - i ∧ i ≤ cs.length ∧ h' = h ∧ env 0 = v ∧ env 1 = w ∧ env 5 = .int .i64 i) cs.length ⟨0, ?_⟩ ?_
 ·refine ww0 ?_
  exact (Nat.sub_zero _).symm
 rintro k env h' ⟨i, rfl, hi, rfl, e0, e1, e5⟩
 by_cases hin : i < cs.length
 ·have hin' : (i : Int) < cs.length := by omega
  obtain ⟨b1', o1, m1, hv⟩ := a.at (by omega)
  obtain ⟨b2', o2, m2, hw⟩ := b.at (by omega)
  obtain ⟨_, _, _, hr⟩ := RW.rd (hv ▸ a)
  obtain ⟨_, _, _, hs⟩ := RW.rd (hw ▸ b)
  have hr1 := hr (i * 10) 10 (by rw [colV_len]; omega)
  have hs1 := hs (i * 10) 10 (by rw [colV_len]; omega)
  rw [colV_at cs i hin] at hr1 hs1
  have w1 : IntKind.i64.wrap ((i : Int) + 1) = ((i + 1 : Nat) : Int) := i64_in _ (by omega)
  have nq := fun c => neqV_of (c := c) rfl (eq67 cs[i])
  unfold CO.cells at hr1 hs1 nq
  refine ww1 (cj e0 <| cj e1 <| cj e5 <| cj a1 <| cj hin hin') ?_
  refine draw_by [] (by kernel_rfl) ?_
  refine ww1 (cj e0 <| cj e1 <| cj e5 <| cj hin <| cj hin' <| cj hv <| cj hw <| cj hr1 <| cj hs1 <| cj nq w1) ?_
  exact ⟨fun p hp => (by cases hp), cs.length - (i + 1), by omega, i + 1, rfl, by omega, rfl⟩
 obtain rfl : i = cs.length := by omega
 exact wv1 (cj e0 <| cj e1 <| cj e5 <| cj a1 hin)
end
noncomputable section
theorem Lst.kept {n0 e sz : Nat} {h h' : H} {v : V} {cells : List V} (a : Lst n0 h v cells e sz) (hn : h.nx ≤ h'.nx) (hk : ∀ k, k < h.nx → (∃ o n m, v = .slice k o n m) → h'.get k = h.get k) : Lst n0 h' v cells e sz := by
 rcases a with a | ⟨h1, k, h2, h3, rfl, h5⟩
 ·rcases a with ⟨rfl, rfl⟩ | ⟨k, n, h1, h2, rfl, h3, h4, h5⟩
  ·exact .inl (.inl ⟨rfl, rfl⟩)
  ·exact .inl (.inr ⟨k, n, h1, Nat.lt_of_lt_of_le h2 hn, rfl, h3, by rw [hk k h2 ⟨_, _, _, rfl⟩]; exact h4, h5⟩)
 ·exact .inr ⟨h1, k, h2, Nat.lt_of_lt_of_le h3 hn, rfl, by rw [hk k h3 ⟨_, _, _, rfl⟩]; exact h5⟩
structure TW (X : RX) (n0 r x : Nat) (s : RS) (D : XD) (cv tv xv : V) (h : H) : Prop where
 rf : RF X n0 r s cv tv h
 xr : XR X n0 x D xv h
 ne : r ≠ x
 ocx : Off cv x
 otx : Off tv x
 oxr : Off xv r
 sc : Sep cv xv
 st : Sep tv xv
theorem TW.ext {X : RX} {n0 r x : Nat} {s : RS} {D : XD} {cv tv xv : V} {h h' : H} (a : TW X n0 r x s D cv tv xv h) (e : Ext h h') : TW X n0 r x s D cv tv xv h' := ⟨a.rf.step (RP.same a.rf.rr e) rfl rfl, a.xr.ext e, a.ne, a.ocx, a.otx, a.oxr, a.sc, a.st⟩
theorem TW.prog {X : RX} {n0 r x : Nat} {s s' : RS} {D : XD} {cv tv cv' tv' xv : V} {h h' : H} (a : TW X n0 r x s D cv tv xv h) (f : RF X n0 r s' cv' tv' h') (fr : Fr r cv tv h cv' tv' h') (hn : h.nx ≤ h'.nx) : TW X n0 r x s' D cv' tv' xv h' := by
 have lx := a.xr.lt.2
 have ox := fr.off x lx a.otx a.ocx
 have bl : ∀ b o n m, xv = .slice b o n m → b < h.nx := fun b o n m q => Classical.byContradiction fun u => a.xr.cols.off_new (Nat.le_of_not_lt u) o n m q
 refine ⟨f, ⟨by rw [fr.get x lx (fun q => a.ne q.symm) a.otx]; exact a.xr.get, Lst.kept a.xr.cols hn fun k hk ⟨o, n, m, q⟩ => fr.get k hk (fun e => a.oxr o n m (e ▸ q)) (a.st _ _ _ _ q), a.xr.off, ⟨a.xr.lt.1, by omega⟩, a.xr.x7⟩, a.ne, ox.2, ox.1, a.oxr, fun b o n m q => (fr.off b (bl _ _ _ _ q) (a.st _ _ _ _ q) (a.sc _ _ _ _ q)).2, fun b o n m q => (fr.off b (bl _ _ _ _ q) (a.st _ _ _ _ q) (a.sc _ _ _ _ q)).1⟩
theorem Sep.symm {v w : V} (a : Sep v w) {b o n m : Nat} (q : v = .slice b o n m) : Off w b := fun o' n' m' q' => a b o' n' m' q' o n m q
theorem TW.doc {X : RX} {n0 r x : Nat} {s : RS} {D D' : XD} {cv tv xv xv' : V} {h h' : H} (a : TW X n0 r x s D cv tv xv h) (f : XR X n0 x D' xv' h') (fx : FX x xv h xv' h') : TW X n0 r x s D' cv tv xv' h' := by
 have lr := a.rf.rr.lt.2
 have hn := fx.nx
 have bc : ∀ b o n m, cv = .slice b o n m → b < h.nx := fun b o n m q => RW.blk a.rf.cs q
 have bt : ∀ b o n m, tv = .slice b o n m → b < h.nx := fun b o n m q => Classical.byContradiction fun u => a.rf.rr.told.off_new (Nat.le_of_not_lt u) o n m q
 have gr : h'.get r = h.get r := fx.get r lr a.ne a.oxr
 refine ⟨⟨⟨by rw [gr]; exact a.rf.rr.get, Lst.kept a.rf.rr.told hn fun k hk ⟨o, n, m, q⟩ => fx.get k hk (fun e => a.otx o n m (e ▸ q)) (a.st.symm q), a.rf.rr.tn, a.rf.rr.toff, a.rf.rr.coff, a.rf.rr.ccell, ⟨a.rf.rr.lt.1, by omega⟩, a.rf.rr.x7⟩, RW.keep a.rf.cs hn fun k hk ⟨o, n, m, q⟩ => fx.get k hk (fun e => a.ocx o n m (e ▸ q)) (a.sc.symm q), a.rf.sep⟩, f, a.ne, a.ocx, a.otx, fx.off r lr a.oxr, fun b o n m q o' n' m' q' => fx.off b (bc _ _ _ _ q') (a.sc.symm q') _ _ _ q, fun b o n m q o' n' m' q' => fx.off b (bt _ _ _ _ q') (a.st.symm q') _ _ _ q⟩
structure FL (h : H) (fv : V) (nb : Nat) (fc : List V) : Prop where
 row : RW 4 1 nb h fv fc
 each : ∀ i (hc : i < fc.length), ∃ p : Prop, fc[i] = bo p
theorem FL.at {h : H} {fv : V} {nb : Nat} {fc : List V} (a : FL h fv nb fc) (i : Nat) (hi : i < nb) : ∃ b o m, ∃ p : Prop, fv = .slice b o nb m ∧ b < h.nx ∧ rdV (some (1, false)) (h.get b) (o + i) = some (bo p) := by
 have hc : i < fc.length := by rw [a.row.1]; omega
 obtain ⟨b, o, m, hv⟩ := a.row.at (by omega)
 obtain ⟨_, hb, hr, _⟩ := RW.rd (hv ▸ a.row)
 obtain ⟨p, hp⟩ := a.each i hc
 exact ⟨b, o, m, p, hv, hb, by rw [hr i 1 hc, hp]⟩
variable {S : Set0} (hS : StdL S)
include hS
theorem law_spec {X : RX} {d : List Nat} {h : H} (b : BS 5 h X.x7 d) {v : V} {cs : List CO} (rc : RW 67 10 cs.length h v (colV cs)) (hok : ∀ x ∈ cs, x.Ok) {lv : V} {ls : List (List Nat)} {pc : List V} (al : PK h lv ls pc) (hls : ls.length < 2 ^ 63) {fv : V} {nb : Nat} {fc : List V} (fl : FL h fv nb fc) (c k fg : Int) : Pure S.cfg 3 [.int .u32 c, .agg (cmdC X k fg), v, lv, fv] h fun w _ => w = bo True := by
 refine into Tryz.f3 _ Tryz.func3 (hS.ownL _ (by decide)) rfl rfl (by kernel_rfl) (by kernel_rfl) ?_
 have hX := b.cell
 have x1 := hX.1
 have x2 := hX.2
 have hlen := al.row.len 25
 have clen := rc.len 67
 have flen := fl.row.len 4
 have nw := fun h b rc => new2_spec hS.toStdX (X := X) (d := d) (h := h) b (v := v) (cs := cs) rc hok c k fg
 have xnw := fun h b rc => xnew_spec hS.toStdX (X := X) (d := d) (h := h) b (v := v) (cs := cs) rc hok c k fg
 have aw := fun hs5 hs4 h b rc al => all_spec hS.toStdX (X := X) (d := d) (h := h) b (v := v) (cs := cs) rc hok (lv := lv) (ls := ls) (pc := pc) al hs5 hs4 c k fg
 have xaw := fun hs5 hs4 h b rc al => xall_spec hS.toStdX (X := X) (d := d) (h := h) b (v := v) (cs := cs) rc hok (lv := lv) (ls := ls) (pc := pc) al hs5 hs4 c k fg
 unfold cmdC at nw xnw aw xaw ⊢
 refine ww1 (cj @Tryz.f3.eq_1 <| cj x1 x2) ?_
 refine callF_exact (hS.lives _) ?_
 refine ww0 ?_
 generalize hhA : H.push h _ = hA
 have hxA : Ext h hA := by rw [← hhA]; exact (Ext.refl h).push _
 have nA : hA.nx = h.nx + 1 := by rw [← hhA]; rfl
 have gA : hA.get h.nx = some (.cells [.int .u8 k, .str X.x1, .int .u32 X.x2, .int .u16 X.x3, .int .u8 fg, .int .u32 X.x5, .int .u16 X.x6, X.x7] 27 false) := by rw [← hhA]; exact push_eq rfl
 clear hhA
 refine callF_pure (small_spec hS (al.ext hxA) hls) ?_
 rintro _ h1 hx1 ⟨p, rfl, hp⟩
 have n1 := hx1.1
 have g1 := (hx1.2 _ (by omega)).trans gA
 have hxh1 := hxA.trans hx1
 by_cases hq : p
 case neg =>
  refine ww1 hq ?_
  exact hxh1
 obtain ⟨hs5, hs4⟩ := hp hq
 have hq' := eq_true hq
 by_cases hcl : 200 < cs.length
 ·have hcl' : (200 : Int) < cs.length := by omega
  refine ww1 (cj hq' <| cj clen <| cj hcl hcl') ?_
  exact hxh1
 have hcl' : ¬ (200 : Int) < cs.length := by omega
 refine ww1 (cj hq' <| cj clen <| cj hcl <| cj hcl' g1) ?_
 refine callF_pure (nw _ (b.ext hxh1) (rc.ext hxh1)) ?_
 rintro w2 h2 hx2 ⟨p1, p2⟩
 have n2 := hx2.1
 have hxh2 := hxh1.trans hx2
 have g2 := (hx2.2 _ (by omega)).trans g1
 by_cases hnew : newOk X c k fg d.length ∧ colsOk cs
 case neg =>
  rw [p2 hnew]
  refine ww1 g2 ?_
  refine callF_pure (xnw _ (b.ext hxh2) (rc.ext hxh2)) ?_
  rintro w3 h3 hx3 ⟨_, q2⟩
  have n3 := hx3.1
  have hxh3 := hxh2.trans hx3
  have g3 := (hx3.2 _ (by omega)).trans g2
  rw [q2 hnew]
  refine ww1 (cj g3 bo_neq) ?_
  refine callF_pure (aw hs5 hs4 _ (b.ext hxh3) (rc.ext hxh3) (al.ext hxh3)) ?_
  rintro w4 h4 hx4 rfl
  have n4 := hx4.1
  have hxh4 := hxh3.trans hx4
  have g4 := (hx4.2 _ (by omega)).trans g3
  refine ww1 g4 ?_
  refine callF_pure (xaw hs5 hs4 _ (b.ext hxh4) (rc.ext hxh4) (al.ext hxh4)) ?_
  rintro w5 h5 hx5 rfl
  refine ww0 ?_
  exact hxh4.trans hx5
 obtain ⟨r, cv, rfl, rf2⟩ := p1 hnew
 refine ww1 g2 ?_
 refine callF_pure (xnw _ (b.ext hxh2) (rc.ext hxh2)) ?_
 rintro w3 h3 hx3 ⟨q1, _⟩
 have n3 := hx3.1
 have hxh3 := hxh2.trans hx3
 have g3 := (hx3.2 _ (by omega)).trans g2
 obtain ⟨x, xv, rfl, xr3⟩ := q1 hnew
 refine ww1 (cj g3 bo_neq) ?_
 refine callF_pure (aw hs5 hs4 _ (b.ext hxh3) (rc.ext hxh3) (al.ext hxh3)) ?_
 rintro w4 h4 hx4 rfl
 have n4 := hx4.1
 have hxh4 := hxh3.trans hx4
 have g4 := (hx4.2 _ (by omega)).trans g3
 refine ww1 g4 ?_
 refine callF_pure (xaw hs5 hs4 _ (b.ext hxh4) (rc.ext hxh4) (al.ext hxh4)) ?_
 rintro w5 h5 hx5 rfl
 have n5 := hx5.1
 have hxh5 := hxh4.trans hx5
 have lr2 := rf2.rr.lt
 have lx3 := xr3.lt
 have tw : TW X h1.nx r x (newS c k fg cs) (newD c k fg cs) cv .nilslice xv h5 := by
  have t3 : TW X h1.nx r x (newS c k fg cs) (newD c k fg cs) cv .nilslice xv h3 := ⟨rf2.step (RP.same rf2.rr hx3) rfl rfl, ⟨xr3.get, xr3.cols.mono n2, xr3.off, ⟨by omega, by omega⟩, xr3.x7⟩, by omega, fun o n m q => by have := RW.blk rf2.cs q; omega, off_nil _, fun o n m q => xr3.cols.off r (by omega) o n m q, fun b o n m q o' n' m' q' => by have := RW.blk rf2.cs q'; exact xr3.cols.off b (by omega) _ _ _ q, fun b o n m q => off_nil _⟩
  exact t3.ext (hx4.trans hx5)
 have bb : BB (newS c k fg cs) (newD c k fg cs) := BB.new hnew.1.2.2 hok hnew.2.1
 refine ww0 ?_
 refine run_loop (fun m env h' => ∃ i : Nat, m = ls.length - i ∧ i ≤ ls.length ∧ env 3 = lv ∧ env 4 = fv ∧ env 11 = .ptr r 0 ∧ env 13 = .ptr x 0 ∧ env 19 = .int .i64 i ∧ Stp0 h1.nx h5 h' ∧ ∃ s D cv tv xv, BB s D ∧ TW X h1.nx r x s D cv tv xv h') ls.length ⟨0, ?_⟩ ?_
 ·refine ww0 ?_
  exact ⟨(Nat.sub_zero _).symm, ⟨Nat.le_refl _, fun _ _ => rfl⟩, _, _, _, _, _, bb, tw⟩
 rintro m env h' ⟨i, rfl, hi, e3, e4, e11, e13, e19, st, s, D, cv', tv', xv', bb, tw⟩
 have nst := st.1
 have hx' : Ext h h' := ⟨by have := hxh5.1; omega, fun j hj => by rw [st.2 j (by omega)]; exact hxh5.2 j hj⟩
 by_cases hin : i < ls.length
 case neg =>
  refine ww1 (cj e3 <| cj e4 <| cj e11 <| cj e13 <| cj e19 <| cj hlen hin) ?_
  exact hx'
 have hin' : (i : Int) < ls.length := by omega
 obtain ⟨P, hP⟩ : ∃ P : Prop, (∃ fb fo fm, i < nb ∧ fv = .slice fb fo nb fm ∧ rdV (some (1, false)) (h'.get fb) (fo + i) = some (bo P)) ∨ (¬ i < nb ∧ ¬ P) := by
  by_cases hf : i < nb
  ·obtain ⟨fb, fo, fm, p, q1, q2, q3⟩ := fl.at i hf
   exact ⟨p, .inl ⟨fb, fo, fm, hf, q1, by rw [hx'.2 fb q2]; exact q3⟩⟩
  ·exact ⟨False, .inr ⟨hf, id⟩⟩
 refine wr1 (cj e3 <| cj e4 <| cj e11 <| cj e13 <| cj e19 <| cj hlen <| cj hin hin') ?_
 refine cond_yes (p := True) (by exact wv1 hin') trivial ?_
 simp only [run_skip, kont_seq, kont_blk, run_block, run_seq]
 refine run_cut (fun env' h2 => env' 3 = lv ∧ env' 4 = fv ∧ env' 11 = .ptr r 0 ∧ env' 13 = .ptr x 0 ∧ env' 19 = .int .i64 i ∧ env' 99 = bo P ∧ h2 = h') ?_ ?_
 ·rcases hP with ⟨fb, fo, fm, hf, hfv, hfr⟩ | ⟨hf, hp⟩
  ·have hf' : (i : Int) < nb := by omega
   exact wv1 (cj e3 <| cj e4 <| cj e11 <| cj e13 <| cj e19 <| cj flen <| cj hf <| cj hf' <| cj hfv hfr)
  ·have hf' : ¬ (i : Int) < nb := by omega
   exact wv1 (cj e3 <| cj e4 <| cj e11 <| cj e13 <| cj e19 <| cj flen <| cj hf <| cj hf' hp)
 rintro env2 h2' ⟨e3, e4, e11, e13, e19, e99, rfl⟩
 obtain ⟨pb, po, pm, pv, hpv, hpb, hpr, bs⟩ := al.at i hin
 have hbl := hs5 i hin
 have hpr1 : rdV (some (1, false)) (h2'.get pb) (po + i) = some pv := by rw [hx'.2 pb hpb]; exact hpr
 have hh5 := hxh5.1
 have okn : ∀ j, h1.nx ≤ j → fresh h.nx nil1 j := fun j hj => by rw [fresh_def]; exact .inl (by omega)
 have okr : ∀ j, j = r → fresh h.nx nil1 j := fun j hj => by rw [fresh_def]; exact .inl (by omega)
 have okx : ∀ j, j = x → fresh h.nx nil1 j := fun j hj => by rw [fresh_def]; exact .inl (by omega)
 have lr := tw.rf.rr.lt
 have lx := tw.xr.lt
 refine run_cut (fun env' h2 => env' 3 = lv ∧ env' 4 = fv ∧ env' 11 = .ptr r 0 ∧ env' 13 = .ptr x 0 ∧ env' 19 = .int .i64 i ∧ Stp0 h1.nx h5 h2 ∧ ∃ s D cv tv xv, BB s D ∧ TW X h1.nx r x s D cv tv xv h2) ?_ ?_
 ·by_cases hPP : P
  ·have hPP' := eq_true hPP
   refine ww1 (cj e3 <| cj e4 <| cj e11 <| cj e13 <| cj e19 <| cj e99 hPP') ?_
   refine draw_by [(5, 10)] (by kernel_rfl) ?_
   refine ww1 (cj e3 <| cj e4 <| cj e11 <| cj e13 <| cj e19 <| cj hpv <| cj hpr1 <| cj hin hin') ?_
   refine callF_of (file_spec hS.toStdX.toStdR tw.rf.rr (bs.ext hx')) okr ?_
   rintro _ h7 ⟨rfl, p7⟩
   have n7 := p7.2.1
   have ct := file_ct s ls[i]
   have tw7 := tw.prog (tw.rf.step p7 ct.1 ct.2) (Fr.but p7.2) n7
   have st7 := st.trans (Stp0.but p7.2 (by omega) lr.1)
   have hx7 : Ext h h7 := ⟨by omega, fun j hj => by rw [st7.2 j (by omega)]; exact hxh5.2 j hj⟩
   have hpr7 : rdV (some (1, false)) (h7.get pb) (po + i) = some pv := by rw [hx7.2 pb hpb]; exact hpr
   refine ww1 (cj e3 <| cj e4 <| cj e11 <| cj e13 <| cj e19 <| cj hpv <| cj hpr7 <| cj hin hin') ?_
   refine callF_of (xfile_spec hS.toStdX tw7.xr (bs.ext hx7)) okx ?_
   rintro _ h8 ⟨rfl, p8⟩
   obtain ⟨q1, q2⟩ := bb.file ls[i]
   rw [q1]
   have tw8 := tw7.doc p8.1 (FX.but p8.2)
   refine ww1 (cj e3 <| cj e4 <| cj e11 <| cj e13 e19) ?_
   exact ⟨fun p hp => by
    rw [List.mem_singleton.1 hp]
    exact pair_one rfl rfl fun e he => by
     rw [List.mem_singleton.1 (show e ∈ [_] from he)]
     exact .inr ⟨rfl, show pb < _ by omega, show ¬ pb = r by omega⟩, hpv, st7.trans (Stp0.but p8.2 (by omega) (by omega)), _, _, _, _, _, q2, tw8⟩
  ·refine ww1 (cj e3 <| cj e4 <| cj e11 <| cj e13 <| cj e19 <| cj e99 <| cj hPP <| cj hpv <| cj hpr1 <| cj hin hin') ?_
   refine callF_of (feed_spec hS.toStdX.toStdR tw.rf bb.ri (bs.ext hx') (by omega) (bs.off (by omega))) okn ?_
   rintro w7 h7 ⟨cv7, tv7, pr7, rf7, st7, fr7⟩
   have n7 := st7.1
   have tw7 := tw.prog rf7 fr7 n7
   have st7 := st.trans st7
   have hx7 : Ext h h7 := ⟨by omega, fun j hj => by rw [st7.2 j (by omega)]; exact hxh5.2 j hj⟩
   obtain ⟨y, rfl, by7, oy7⟩ := pr7
   obtain ⟨yc1, yc2⟩ := by7.cell
   obtain ⟨q1, q2, q3⟩ := bb.feed bs.1
   obtain ⟨pp, hpp⟩ : ∃ p, (feedS s ls[i]).2.1 = p := ⟨_, rfl⟩
   rw [hpp] at by7 q1 ⊢
   have ps := fun h y z b1 b2 => parts_spec hS (p := pp) (y := y) (z := z) (h := h) b1 b2
   unfold PT.cells at ps ⊢
   have hpr7 : rdV (some (1, false)) (h7.get pb) (po + i) = some pv := by rw [hx7.2 pb hpb]; exact hpr
   refine ww1 (cj e3 <| cj e4 <| cj e11 <| cj e13 <| cj e19 <| cj yc1 <| cj yc2 <| cj hpv <| cj hin <| cj hin' hpr7) ?_
   refine ⟨.inr (by omega), ?_⟩
   generalize hhC : H.put (H.push h7 _) h7.nx _ = hC
   have hxC : Ext h7 hC := by rw [← hhC]; exact ((Ext.refl h7).push _).put (Nat.le_refl _) _
   have nC : hC.nx = h7.nx + 1 := by rw [← hhC]; rfl
   have gC : hC.get h7.nx = some (.cells [.int .i64 pp.k, bo pp.last, .int .u64 pp.ok.a, .int .u64 pp.ok.i, .int .u16 pp.ok.s, .int .u16 pp.ok.w, .str pp.ok.t, y, .int .u16 pp.ec, .str pp.es, .str pp.et, .int .u16 pp.fw, .int .u16 pp.fs, .int .u32 pp.p1, .int .u16 pp.p2, .int .u16 pp.p3, .int .u16 pp.p4] 53 false) := by rw [← hhC]; exact put_eq rfl
   have twC := tw7.ext hxC
   have hxh := hx7.trans hxC
   clear hhC
   obtain ⟨d1, d2, d3, d4, d5⟩ := bb.need
   refine callF_of (xfeed_spec hS.toStdX twC.xr (bs.ext hxh) (by omega) d1 d2 d3 d4 d5) okn ?_
   rintro w8 h8 ⟨xv8, pr8, rf8, fx8⟩
   have n8 := fx8.nx
   have tw8 := twC.doc rf8 fx8
   have g8 := (fx8.get h7.nx (by omega) (by omega) (tw7.xr.cols.off_new (Nat.le_refl _))).trans gC
   have by8 : BS 5 h8 y pp.ok.k := (by7.ext hxC).keep n8 fun k hk ⟨o, n, m, q⟩ => fx8.get k hk (fun e => oy7 x lx.2 o n m (e ▸ q)) fun o' n' m' q' => oy7 k (Classical.byContradiction fun u => tw.xr.cols.off_new (Nat.le_of_not_lt u) o' n' m' q') o n m q
   rw [q1, q2] at pr8
   obtain ⟨z, rfl, bz8, oz8⟩ := pr8
   obtain ⟨zc1, zc2⟩ := bz8.cell
   unfold PT.cells
   refine ww1 (cj e3 <| cj e4 <| cj e11 <| cj e13 <| cj e19 <| cj zc1 <| cj zc2 g8) ?_
   refine ⟨.inr (by omega), ?_⟩
   generalize hhE : H.put (H.push h8 _) h8.nx _ = hE
   have hxE : Ext h8 hE := by rw [← hhE]; exact ((Ext.refl h8).push _).put (Nat.le_refl _) _
   clear hhE
   refine callF_pure (ps _ _ _ (by8.ext hxE) (bz8.ext hxE)) ?_
   rintro _ hF hxF rfl
   have hxEF := hxE.trans hxF
   have st8 : Stp0 h1.nx hC h8 := ⟨n8, fun j hj => fx8.get j (by omega) (by omega) (twC.xr.cols.off j (by omega))⟩
   refine ww1 (cj e3 <| cj e4 <| cj e11 <| cj e13 e19) ?_
   exact ⟨hpv, ((st7.trans (Stp0.ext hxC (by omega))).trans st8).trans (Stp0.ext hxEF (by omega)), _, _, _, _, _, q3, tw8.ext hxEF⟩
 rintro env3 h9 ⟨e3, e4, e11, e13, e19, st9, s9, D9, cv9, tv9, xv9, bb9, tw9⟩
 obtain ⟨a6, a0, am⟩ := bb9.ask
 have n9 := st9.1
 have xw : Exact S.cfg 16 [.ptr x 0] h9 (bo s9.wants) := by rw [← bo_iff a6]; exact xwants_spec hS.toStdX tw9.xr
 have xo : Exact S.cfg 18 [.ptr x 0] h9 (bo (s9.nx = none)) := by rw [← bo_iff a0]; exact xover_spec hS.toStdX tw9.xr
 have xm : Exact S.cfg 20 [.ptr x 0] h9 (bo (s9.may ∧ ¬ s9.wants)) := by rw [← bo_iff am]; exact xmay_spec hS.toStdX tw9.xr
 have xs : Exact S.cfg 22 [.ptr x 0] h9 (.int .u16 s9.st) := by rw [← bb9.sim.last]; exact xstatus_spec hS.toStdX tw9.xr
 have cl := bb9.cl
 have dc := bb9.sim.cols
 have w1 : IntKind.i64.wrap ((i : Int) + 1) = ((i + 1 : Nat) : Int) := i64_in _ (by omega)
 refine ww1 (cj e3 <| cj e4 <| cj e11 <| cj e13 e19) ?_
 refine callF_exact (wants_spec hS.toStdX.toStdR tw9.rf.rr) ?_
 refine ww1 (cj e3 <| cj e4 <| cj e11 <| cj e13 e19) ?_
 refine callF_exact xw ?_
 refine ww1 (cj e3 <| cj e4 <| cj e11 <| cj e13 <| cj e19 bo_neq) ?_
 refine callF_exact (over_sp hS.toStdX.toStdR tw9.rf.rr) ?_
 refine ww1 (cj e3 <| cj e4 <| cj e11 <| cj e13 e19) ?_
 refine callF_exact xo ?_
 refine ww1 (cj e3 <| cj e4 <| cj e11 <| cj e13 <| cj e19 bo_neq) ?_
 refine callF_exact (may_spec hS.toStdX.toStdR tw9.rf.rr) ?_
 refine ww1 (cj e3 <| cj e4 <| cj e11 <| cj e13 e19) ?_
 refine callF_exact xm ?_
 refine ww1 (cj e3 <| cj e4 <| cj e11 <| cj e13 <| cj e19 bo_neq) ?_
 refine callF_exact (status_spec hS tw9.rf.rr) ?_
 refine ww1 (cj e3 <| cj e4 <| cj e11 <| cj e13 e19) ?_
 refine callF_exact xs ?_
 refine ww1 (cj e3 <| cj e4 <| cj e11 <| cj e13 e19) ?_
 refine callF_pure (cols_spec hS tw9.rf (by omega)) ?_
 rintro wc hG hxG rG
 have nG := hxG.1
 have twG := tw9.ext hxG
 refine ww1 (cj e3 <| cj e4 <| cj e11 <| cj e13 e19) ?_
 refine callF_pure (xcols_spec hS twG.xr (by rw [dc]; omega)) ?_
 rintro wx hI hxI rI
 rw [dc] at rI
 have hxGI := hxG.trans hxI
 refine ww1 (cj e3 <| cj e4 <| cj e11 <| cj e13 e19) ?_
 refine callF_exact (columns_spec hS (rG.ext hxI) rI (by omega)) ?_
 refine ww1 (cj e3 <| cj e4 <| cj e11 <| cj e13 <| cj e19 w1) ?_
 exact ⟨ls.length - (i + 1), by omega, i + 1, rfl, by omega, rfl, st9.trans (Stp0.ext hxGI (by omega)), _, _, _, _, _, bb9, tw9.ext hxGI⟩
end
end Go.Proofs.YtinbhlejofgomaaGreat
