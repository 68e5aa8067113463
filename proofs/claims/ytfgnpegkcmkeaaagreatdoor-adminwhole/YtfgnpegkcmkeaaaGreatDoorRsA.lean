/-
  Several texts of one walk, joined.
-/
import Derived.Test.YtfgnpegkcmkeaaaGreatDoorScA
import Derived.Test.YtfgnpegkcmkeaaaGreatDoorLxZ
import Derived.Test.YtfgnpegkcmkeaaaGreatDoorWxZ
set_option linter.unusedSimpArgs false
set_option linter.unusedVariables false
set_option linter.unusedSectionVars false
set_option linter.defProp false
set_option maxRecDepth 10000
set_option maxHeartbeats 1000000
namespace Go.Proofs.YtfgnpegkcmkeaaaGreatDoor.Rs
open Go.Proofs Go.Lx Go.Wx Go.IntWalk
noncomputable section
structure StdB (S : Set0) : Prop where
 ownB : ∀ f, f ∈ [111, 124, 136, 37, 159, 161, 156, 129, 158, 123, 157, 130, 115, 112, 121, 78] → sums S.exts f = none
 bidx : sums S.exts 181 = some idxM
theorem cfgP (S : Set0) : S.cfg.P = Tryz.prog := rfl
section
variable {c : Cfg} {Ok : Nat → Prop} {env : Env} {h : H} {K : V → H → Fp → Prop}
theorem gOp_no {op : Op} : gOp c Ok False op env h K = K undefV h (.lg []) := by unfold gOp; simp
theorem gOp_yes {op : Op} : gOp c Ok True op env h K = opW c Ok op env h K := by unfold gOp; simp
end
noncomputable def facts := And.intro @cfgP <| And.intro @factsT <| And.intro @gOp_no @gOp_yes
noncomputable def Knx := And.intro @push_nx <| And.intro @put_nx @del_nx
noncomputable def K3 := And.intro @clsL.eq_1 <| And.intro @clsL.eq_2 <| And.intro @clsL.eq_3 <| And.intro @clsS.eq_1 <| And.intro @clsS.eq_2 <| And.intro @clsC.eq_1 <| And.intro @clsC.eq_2 @clsC.eq_3
noncomputable def fq := And.intro @facts <| And.intro @K3 <| And.intro @isPtrD.eq_1 @isPtrD.eq_2
noncomputable def fW := And.intro @facts <| And.intro @wpb <| And.intro @cst <| And.intro @wpk <| And.intro @wpl <| And.intro @forall_const.{0} <| And.intro @forall_const.{1} <| And.intro @implies_true.{0} <| And.intro @implies_true.{1} <| And.intro @false_implies @K3
theorem inn {S : Set0} {Ok : Nat → Prop} {f : FuncId} {args : List V} {h : H} {K : V → H → Prop} {fn : Func} {code : Code} (hf : Tryz.prog.funcs[f]? = some fn) (hs : sums S.exts f = none) (hn : (fn.name == "runtime.NumGoroutine") = false) (hb : fn.body = some code) (hw : run S.cfg (fresh h.nx Ok) [] code (argE args) h (endQ S.cfg fn.results.toList K)) (hok : okCode fn.ntmps code = true := by kernel_rfl) (hd : noDefer code = true := by kernel_rfl) : callW S.cfg Ok f args h K := into fn code hf hs hn hb hok hd hw
theorem dd {P : Prop} (h : P := by first | (simp only [fq]; done) | omega | (simp only [Knx]; omega) | (apply Nat.le_antisymm <;> simp only [Knx] <;> omega) | fail) : P := h
theorem de {P : Prop} (h : P := by first | (simp only [fq]; done) | omega | (simp only [Knx]; omega) | (apply Nat.le_antisymm <;> simp only [Knx] <;> omega) | exact dok (by kernel_rfl)) : P := h
theorem ww0 {A B : Prop} (b : B) (h : A = B := by simp +contextual (disch := first | (simp only [fq]; done) | omega | (simp only [Knx]; omega) | (apply Nat.le_antisymm <;> simp only [Knx] <;> omega) | fail) only [wpy, fW, Int.reduceLE, Int.reduceLT, Nat.reduceLeDiff, UInt8.reduceToNat, ↓reduceIte, Nat.reduceEqDiff, Nat.reduceAdd, reduceCtorEq, Int.reduceToNat]; rfl) : A := (h).mpr b
theorem ww1 {X A B : Prop} (x : X) (b : B) (h : X → A = B := by intro x; simp +contextual (disch := first | (simp only [fq]; done) | omega | (simp only [Knx]; omega) | (apply Nat.le_antisymm <;> simp only [Knx] <;> omega) | fail) only [wpy, fW, Int.reduceLE, Int.reduceLT, Nat.reduceLeDiff, UInt8.reduceToNat, ↓reduceIte, Nat.reduceEqDiff, Nat.reduceAdd, reduceCtorEq, Int.reduceToNat, x]; rfl) : A := (h x).mpr b
theorem wr0 {A B : Prop} (b : B) (h : A = B := by simp +contextual (disch := first | (simp only [fq]; done) | omega | (simp only [Knx]; omega) | (apply Nat.le_antisymm <;> simp only [Knx] <;> omega) | fail) only [wpyr, fW, Int.reduceLE, Int.reduceLT, Nat.reduceLeDiff, UInt8.reduceToNat, ↓reduceIte, Nat.reduceEqDiff, Nat.reduceAdd, reduceCtorEq, Int.reduceToNat]; rfl) : A := (h).mpr b
theorem wr1 {X A B : Prop} (x : X) (b : B) (h : X → A = B := by intro x; simp +contextual (disch := first | (simp only [fq]; done) | omega | (simp only [Knx]; omega) | (apply Nat.le_antisymm <;> simp only [Knx] <;> omega) | fail) only [wpyr, fW, Int.reduceLE, Int.reduceLT, Nat.reduceLeDiff, UInt8.reduceToNat, ↓reduceIte, Nat.reduceEqDiff, Nat.reduceAdd, reduceCtorEq, Int.reduceToNat, x]; rfl) : A := (h x).mpr b
theorem wv0 {A : Prop} (h : A := by simp +contextual (disch := first | (simp only [fq]; done) | omega | (simp only [Knx]; omega) | (apply Nat.le_antisymm <;> simp only [Knx] <;> omega) | fail) only [wpy, fW, Int.reduceLE, Int.reduceLT, Nat.reduceLeDiff, UInt8.reduceToNat, ↓reduceIte, Nat.reduceEqDiff, Nat.reduceAdd, reduceCtorEq, Int.reduceToNat]) : A := h
theorem wv1 {X A : Prop} (x : X) (h : X → A := by intro x; simp +contextual (disch := first | (simp only [fq]; done) | omega | (simp only [Knx]; omega) | (apply Nat.le_antisymm <;> simp only [Knx] <;> omega) | fail) only [wpy, fW, Int.reduceLE, Int.reduceLT, Nat.reduceLeDiff, UInt8.reduceToNat, ↓reduceIte, Nat.reduceEqDiff, Nat.reduceAdd, reduceCtorEq, Int.reduceToNat, x]) : A := h x
theorem wew0 {A B : Prop} (b : B) (h : A = B := by simp +contextual (disch := first | (simp only [fq]; done) | omega | (simp only [Knx]; omega) | (apply Nat.le_antisymm <;> simp only [Knx] <;> omega) | fail) only [wpy, fW, Int.reduceLE, Int.reduceLT, Nat.reduceLeDiff, UInt8.reduceToNat, ↓reduceIte, Nat.reduceEqDiff, Nat.reduceAdd, reduceCtorEq, Int.reduceToNat, Int.reduceEq]; rfl) : A := (h).mpr b
theorem wew1 {X A B : Prop} (x : X) (b : B) (h : X → A = B := by intro x; simp +contextual (disch := first | (simp only [fq]; done) | omega | (simp only [Knx]; omega) | (apply Nat.le_antisymm <;> simp only [Knx] <;> omega) | fail) only [wpy, fW, Int.reduceLE, Int.reduceLT, Nat.reduceLeDiff, UInt8.reduceToNat, ↓reduceIte, Nat.reduceEqDiff, Nat.reduceAdd, reduceCtorEq, Int.reduceToNat, Int.reduceEq, x]; rfl) : A := (h x).mpr b
theorem wer1 {X A B : Prop} (x : X) (b : B) (h : X → A = B := by intro x; simp +contextual (disch := first | (simp only [fq]; done) | omega | (simp only [Knx]; omega) | (apply Nat.le_antisymm <;> simp only [Knx] <;> omega) | fail) only [wpyr, fW, Int.reduceLE, Int.reduceLT, Nat.reduceLeDiff, UInt8.reduceToNat, ↓reduceIte, Nat.reduceEqDiff, Nat.reduceAdd, reduceCtorEq, Int.reduceToNat, Int.reduceEq, x]; rfl) : A := (h x).mpr b
theorem ubs : Tryz.prog.underlying 48 = some (.slice 5) := kR
theorem szb : szT Tryz.prog 5 = some 1 := kR
theorem n40 : ((4 : Int) = 0) = False := dC
theorem n50 : ((5 : Int) = 0) = False := dC
variable {S : Set0} (hS : StdB S)
include hS
theorem rfx_spec {v : V} {l : List Nat} {h : H} (a : BS 5 h v l) (hl : l.length < 2 ^ 62) (n : Nat) (hn : 1 ≤ n ∧ n ≤ 8) : Exact S.cfg 111 [v, .int .i64 n] h (.tuple [.int .u64 (if l.length < n then 0 else rdX l n), .int .i64 (if l.length < n then 4 else 0)]) := by
 refine inn Tryz.func111 (hS.ownB _ dC) rfl rfl ?_
 have a1 := a.len 5
 have n1 : ¬ n < 1 := oM
 have n2 : ¬ 8 < n := oM
 by_cases h1 : l.length < n
 ·rw [if_pos h1, if_pos h1]
  exact wv1 (cj @Tryz.f111.eq_1 <| cj a1 <| cj h1 <| cj n1 n2)
 rw [if_neg h1, if_neg h1]
 obtain ⟨b, o, m, rfl, _, _⟩ := a.at (i := 0) oM
 obtain ⟨_, hb, hrd⟩ := a.rd
 refine ww1 (cj @Tryz.f111.eq_1 <| cj a1 <| cj h1 <| cj n1 n2) ?_
 refine run_loop (fun k env h' => ∃ i : Nat, k = n - i ∧ i ≤ n ∧ env 0 = .slice b o l.length m ∧ env 18 = .int .i64 n ∧ env 19 = .int .i64 i ∧ env 6 = .int .u64 (rdX l i) ∧ h' = h) n ⟨0, ?_⟩ ?_
 ·refine ww0 ?_
  exact ⟨rfl, rfl⟩
 rintro k env h' ⟨i, rfl, hi, e0, e18, e19, e6, rfl⟩
 by_cases hin : i < n
 ·have hr := hrd i oM
  have hby := byI_in a.1 i
  have hil : i < l.length := oM
  have w1 : IntKind.i64.wrap (8 * (i : Int)) = 8 * (i : Int) := i64_in _ oM
  have w2 : ¬ (8 * (i : Int) < 0) := oM
  have w3 : IntKind.u64.wrap (byI l i) = byI l i := u64_in _ oM
  refine ww1 (cj e0 <| cj e18 <| cj e19 <| cj e6 <| cj hin <| cj hil <| cj hr <| cj w1 <| cj w2 w3) ?_
  exact ⟨_, by omega, i + 1, rfl, by omega, rfl, rfl⟩
 ·obtain rfl : i = n := oM
  exact wv1 (cj e0 <| cj e18 <| cj e19 <| cj e6 hin)
theorem rin_spec {v : V} {l : List Nat} {h : H} (a : BS 5 h v l) (hl : l.length < 2 ^ 62) : Exact S.cfg 124 [v] h (.tuple [.int .u64 (iiF l).1, .int .i64 ((iiF l).2.1 : Nat), .int .i64 (iiF l).2.2]) := by
 refine inn Tryz.func124 (hS.ownB _ dC) rfl rfl ?_
 have a1 := a.len 5
 by_cases h0 : l.length = 0
 ·have e : iiF l = (0, 0, 4) := by unfold iiF; rw [if_pos h0]
  rw [e]
  refine ww1 (cj @Tryz.f124.eq_1 <| cj a1 h0) ?_
  rfl
 obtain ⟨b, o, m, rfl, _, _⟩ := a.at (i := 0) oM
 obtain ⟨_, hb, hrd⟩ := a.rd
 have hr := hrd 0 oM
 rw [Nat.add_zero] at hr
 have hby := byI_in a.1 0
 have hl0 : 0 < l.length := oM
 have w3 : IntKind.u64.wrap (byI l 0) = byI l 0 := u64_in _ oM
 by_cases h1 : byI l 0 ≤ 250
 ·have e : iiF l = (byI l 0, 1, 0) := by unfold iiF; rw [if_neg h0, if_pos h1]
  have n1 : ¬ byI l 0 = 252 := oM
  have n2 : ¬ byI l 0 = 253 := oM
  have n3 : ¬ byI l 0 = 254 := oM
  have n4 : ¬ byI l 0 = 251 := oM
  have n5 : ¬ byI l 0 = 255 := oM
  rw [e]
  refine ww1 (cj @Tryz.f124.eq_1 <| cj a1 <| cj h0 <| cj hl0 <| cj hr <| cj w3 <| cj n1 <| cj n2 <| cj n3 <| cj n4 n5) ?_
  rfl
 by_cases h2 : byI l 0 = 251 ∨ byI l 0 = 255
 ·have e : iiF l = (0, 0, 5) := by unfold iiF; rw [if_neg h0, if_neg h1, if_pos h2]
  have n1 : ¬ byI l 0 = 252 := oM
  have n2 : ¬ byI l 0 = 253 := oM
  have n3 : ¬ byI l 0 = 254 := oM
  rw [e]
  rcases h2 with h2 | h2
  ·have h2 := eq_true h2
   refine ww1 (cj @Tryz.f124.eq_1 <| cj a1 <| cj h0 <| cj hl0 <| cj hr <| cj w3 <| cj n1 <| cj n2 <| cj n3 h2) ?_
   rfl
  ·have n4 : ¬ byI l 0 = 251 := oM
   have h2 := eq_true h2
   refine ww1 (cj @Tryz.f124.eq_1 <| cj a1 <| cj h0 <| cj hl0 <| cj hr <| cj w3 <| cj n1 <| cj n2 <| cj n3 <| cj n4 h2) ?_
   rfl
 have hs := iiS_in (byI l 0)
 have hd : (l.drop 1).length = l.length - 1 := List.length_drop
 have key : ∀ n : Nat, iiS (byI l 0) = n → iiF l = if l.length - 1 < n then (0, 0, 4) else (rdX (l.drop 1) n, n + 1, 0) := fun n hn => by
  unfold iiF; rw [if_neg h0, if_neg h1, if_neg h2, hn]
 by_cases c1 : byI l 0 = 252
 ·rw [key 2 (by unfold iiS; rw [if_pos c1])]
  have c1 := eq_true c1
  refine ww1 (cj @Tryz.f124.eq_1 <| cj a1 <| cj h0 <| cj hl0 <| cj hr <| cj w3 c1) ?_
  refine drop_bs (i := 1) a ubs szb (by exact wv0) (by exact wv0) hl0 fun w L hw _ _ => ?_
  refine ww1 @Tryz.f124.eq_1 ?_
  refine callF_exact (rfx_spec hS hw (by rw [hd]; omega) 2 oM) ?_
  rw [hd]
  by_cases h5 : l.length - 1 < 2
  ·rw [if_pos h5]; refine ww1 (cj @Tryz.f124.eq_1 <| cj h5 n40) ?_; rfl
  ·rw [if_neg h5]; refine ww1 (cj @Tryz.f124.eq_1 h5) ?_; rfl
 by_cases c2 : byI l 0 = 253
 ·rw [key 3 (by unfold iiS; rw [if_neg c1, if_pos c2])]
  have c2 := eq_true c2
  refine ww1 (cj @Tryz.f124.eq_1 <| cj a1 <| cj h0 <| cj hl0 <| cj hr <| cj w3 <| cj c1 c2) ?_
  refine drop_bs (i := 1) a ubs szb (by exact wv0) (by exact wv0) hl0 fun w L hw _ _ => ?_
  refine ww1 @Tryz.f124.eq_1 ?_
  refine callF_exact (rfx_spec hS hw (by rw [hd]; omega) 3 oM) ?_
  rw [hd]
  by_cases h5 : l.length - 1 < 3
  ·rw [if_pos h5]; refine ww1 (cj @Tryz.f124.eq_1 <| cj h5 n40) ?_; rfl
  ·rw [if_neg h5]; refine ww1 (cj @Tryz.f124.eq_1 h5) ?_; rfl
 have c3 : byI l 0 = 254 := oM
 ·rw [key 8 (by unfold iiS; rw [if_neg c1, if_neg c2])]
  have c3 := eq_true c3
  refine ww1 (cj @Tryz.f124.eq_1 <| cj a1 <| cj h0 <| cj hl0 <| cj hr <| cj w3 <| cj c1 <| cj c2 c3) ?_
  refine drop_bs (i := 1) a ubs szb (by exact wv0) (by exact wv0) hl0 fun w L hw _ _ => ?_
  refine ww1 @Tryz.f124.eq_1 ?_
  refine callF_exact (rfx_spec hS hw (by rw [hd]; omega) 8 oM) ?_
  rw [hd]
  by_cases h5 : l.length - 1 < 8
  ·rw [if_pos h5]; refine ww1 (cj @Tryz.f124.eq_1 <| cj h5 n40) ?_; rfl
  ·rw [if_neg h5]; refine ww1 (cj @Tryz.f124.eq_1 h5) ?_; rfl
theorem rtx_spec {v : V} {l : List Nat} {h : H} (a : BS 5 h v l) (hl : l.length < 2 ^ 62) : Exact S.cfg 136 [v] h (.tuple [.str (txF l).1, .int .i64 ((txF l).2.1 : Nat), .int .i64 (txF l).2.2]) := by
 refine inn Tryz.func136 (hS.ownB _ dC) rfl rfl ?_
 have a1 := a.len 5
 have hi := iiF_ok a.1
 refine ww1 @Tryz.f136.eq_1 ?_
 refine callF_exact (rin_spec hS a hl) ?_
 by_cases h0 : (iiF l).2.2 ≠ 0
 ·have e : txF l = ([], 0, (iiF l).2.2) := by unfold txF; rw [if_pos h0]
  have h0' : ¬ (iiF l).2.2 = 0 := h0
  rw [e]
  refine ww1 h0' ?_
  rfl
 have h0' : (iiF l).2.2 = 0 := Classical.not_not.1 h0
 obtain ⟨i1, i2, i3, i4, _⟩ := hi
 have i4 := i4 h0'
 have s1 : IntKind.i64.wrap ((l.length : Int) - ((iiF l).2.1 : Nat)) = ((l.length - (iiF l).2.1 : Nat) : Int) := by rw [i64_in _ oM]; omega
 have s2 : IntKind.u64.wrap ((l.length - (iiF l).2.1 : Nat) : Int) = ((l.length - (iiF l).2.1 : Nat) : Int) := u64_in _ oM
 by_cases h1 : ((l.length - (iiF l).2.1 : Nat) : Int) < (iiF l).1
 ·have e : txF l = ([], 0, 4) := by unfold txF; rw [if_neg h0, if_pos h1]
  rw [e]
  refine ww1 (cj h0' <| cj a1 <| cj s1 <| cj s2 h1) ?_
  rfl
 have e : txF l = ((l.take ((iiF l).2.1 + (iiF l).1.toNat)).drop (iiF l).2.1, (iiF l).2.1 + (iiF l).1.toNat, 0) := by unfold txF; rw [if_neg h0, if_neg h1]
 rw [e]
 have s3 : IntKind.i64.wrap (iiF l).1 = (iiF l).1 := i64_in _ oM
 have s4 : IntKind.i64.wrap (((iiF l).2.1 : Int) + (iiF l).1) = (((iiF l).2.1 + (iiF l).1.toNat : Nat) : Int) := by rw [i64_in _ oM]; omega
 refine ww1 (cj h0' <| cj a1 <| cj s1 <| cj s2 <| cj h1 <| cj s3 s4) ?_
 refine mid_bs (i := (iiF l).2.1) (j := (iiF l).2.1 + (iiF l).1.toNat) a ubs szb (by exact wv0) (by exact wv0) (by exact wv0) oM oM fun w L hw _ _ => ?_
 obtain ⟨L2, _, hc⟩ := hw.str
 exact wv1 (cj hc <| cj s3 s4)
end
noncomputable section
def RdR (t : TypeId) (n0 r : Nat) (R : Rd) (h h' : H) : Prop := RdS 5 t n0 r R h' ∧ But r h h'
variable {S : Set0} (hS : StdB S)
include hS
theorem step_spec {n0 r : Nat} {R : Rd} {h : H} (a : RdS 5 208 n0 r R h) (n : Nat) (e : Int) (hn : e = 0 → n ≤ R.bs.length) : callW S.cfg (· = r) 161 [.ptr r 0, .int .i64 n, .int .i64 e] h fun v h' => RdR 208 n0 r (if e ≠ 0 then ⟨R.bs, e⟩ else ⟨R.bs.drop n, R.e⟩) h h' := by
 refine inn Tryz.func161 (hS.ownB _ dC) rfl rfl ?_
 obtain ⟨⟨v, g, hb, ho⟩, hl⟩ := a
 obtain ⟨c1, c2⟩ := hb.cell
 by_cases he : e = 0
 ·subst he
  refine ww1 (cj @Tryz.f161.eq_1 g) ?_
  refine drop_bs (i := n) hb ubs szb (by exact wv0) (by exact wv0) (hn rfl) fun w L hw ho2 _ => ?_
  obtain ⟨d1, d2⟩ := hw.cell
  refine ww1 (cj @Tryz.f161.eq_1 <| cj g <| cj d1 d2) ?_
  exact ⟨RdS.put (R := ⟨R.bs.drop n, R.e⟩) hw (fun k hk => ho2 k (ho k hk)) hl, (But.refl r h).put _⟩
 ·rw [if_pos he]
  refine ww1 (cj @Tryz.f161.eq_1 <| cj g he) ?_
  exact ⟨RdS.put (R := ⟨R.bs, e⟩) hb ho hl, (But.refl r h).put _⟩
theorem fix_spec {n0 r : Nat} {R : Rd} {h : H} (a : RdS 5 208 n0 r R h) (hl : R.bs.length < 2 ^ 62) (n : Nat) (hn : 1 ≤ n ∧ n ≤ 8) : callW S.cfg (· = r) 129 [.ptr r 0, .int .i64 n] h fun v h' => v = .int .u64 (R.fix n).1 ∧ RdR 208 n0 r (R.fix n).2 h h' := by
 refine inn Tryz.func129 (hS.ownB _ dC) rfl rfl ?_
 have a' := a
 obtain ⟨⟨v, g, hb, ho⟩, hlt⟩ := a
 obtain ⟨c1, c2⟩ := hb.cell
 by_cases he : R.e ≠ 0
 ·rw [Rd.fix_err n he]
  have he' : ¬ R.e = 0 := he
  refine ww1 (cj @Tryz.f129.eq_1 <| cj g he') ?_
  exact ⟨a', But.refl r h⟩
 have he' : R.e = 0 := Classical.not_not.1 he
 refine ww1 (cj @Tryz.f129.eq_1 <| cj g he') ?_
 refine callF_exact (rfx_spec hS hb hl n hn) ?_
 refine ww1 g ?_
 refine callF_of (step_spec hS a' n (if R.bs.length < n then 4 else 0) (fun q => by
  by_cases h5 : R.bs.length < n
  ·rw [if_pos h5] at q; cases q
  ·omega)) (fun k hk => .inr hk) ?_
 rintro w h' hr
 refine ww0 ?_
 unfold Rd.fix
 rw [if_neg he]
 by_cases h5 : R.bs.length < n
 ·rw [if_pos h5, if_pos h5]
  rw [if_pos h5, if_pos dC] at hr
  exact ⟨rfl, hr⟩
 ·rw [if_neg h5, if_neg h5]
  rw [if_neg h5, if_neg dC, he'] at hr
  exact ⟨rfl, hr⟩
theorem cnt_spec {n0 r : Nat} {R : Rd} {h : H} (a : RdS 5 208 n0 r R h) (hl : R.bs.length < 2 ^ 62) : callW S.cfg (· = r) 156 [.ptr r 0] h fun v h' => v = .int .u64 R.cnt.1 ∧ RdR 208 n0 r R.cnt.2 h h' := by
 refine inn Tryz.func156 (hS.ownB _ dC) rfl rfl ?_
 have a' := a
 obtain ⟨⟨v, g, hb, ho⟩, hlt⟩ := a
 obtain ⟨c1, c2⟩ := hb.cell
 by_cases he : R.e ≠ 0
 ·rw [Rd.cnt_err he]
  have he' : ¬ R.e = 0 := he
  refine ww1 (cj @Tryz.f156.eq_1 <| cj g he') ?_
  exact ⟨a', But.refl r h⟩
 have he' : R.e = 0 := Classical.not_not.1 he
 have hi := iiF_ok hb.1
 refine ww1 (cj @Tryz.f156.eq_1 <| cj g he') ?_
 refine callF_exact (rin_spec hS hb hl) ?_
 refine ww1 g ?_
 refine callF_of (step_spec hS a' _ _ (fun q => hi.2.2.1)) (fun k hk => .inr hk) ?_
 rintro w h' hr
 refine ww0 ?_
 unfold Rd.cnt
 rw [if_neg he]
 refine ⟨rfl, ?_⟩
 by_cases h5 : (iiF R.bs).2.2 = 0
 ·rw [if_neg (fun q => q h5), he'] at hr
  show RdR _ _ _ ⟨_, _⟩ _ _
  rw [h5]; exact hr
 ·rw [if_pos h5] at hr
  show RdR _ _ _ ⟨_, _⟩ _ _
  rw [(hi.2.2.2.2.1 h5).2, List.drop_zero]; exact hr
theorem txt_spec {n0 r : Nat} {R : Rd} {h : H} (a : RdS 5 208 n0 r R h) (hl : R.bs.length < 2 ^ 62) : callW S.cfg (· = r) 158 [.ptr r 0] h fun v h' => v = .str R.txt.1 ∧ RdR 208 n0 r R.txt.2 h h' := by
 refine inn Tryz.func158 (hS.ownB _ dC) rfl rfl ?_
 have a' := a
 obtain ⟨⟨v, g, hb, ho⟩, hlt⟩ := a
 obtain ⟨c1, c2⟩ := hb.cell
 by_cases he : R.e ≠ 0
 ·rw [Rd.txt_err he]
  have he' : ¬ R.e = 0 := he
  refine ww1 (cj @Tryz.f158.eq_1 <| cj g he') ?_
  exact ⟨a', But.refl r h⟩
 have he' : R.e = 0 := Classical.not_not.1 he
 have hi := txF_ok hb.1
 refine ww1 (cj @Tryz.f158.eq_1 <| cj g he') ?_
 refine callF_exact (rtx_spec hS hb hl) ?_
 refine ww1 g ?_
 refine callF_of (step_spec hS a' _ _ (fun q => hi.1)) (fun k hk => .inr hk) ?_
 rintro w h' hr
 refine ww0 ?_
 unfold Rd.txt
 rw [if_neg he]
 refine ⟨rfl, ?_⟩
 by_cases h5 : (txF R.bs).2.2 = 0
 ·rw [if_neg (fun q => q h5), he'] at hr
  show RdR _ _ _ ⟨_, _⟩ _ _
  rw [h5]; exact hr
 ·rw [if_pos h5] at hr
  show RdR _ _ _ ⟨_, _⟩ _ _
  rw [(hi.2.1 h5).2, List.drop_zero]; exact hr
omit hS in
theorem nice_idxM (vs : List V) : Nice (idxM vs) := by
 unfold idxM
 repeat' (first | exact Nice.ret _ | exact Nice.err _ | exact Nice.ld _ _ _ | exact Nice.opt _ _ | refine Nice.cond ?_ ?_ | refine Nice.bnd ?_ (fun _ => ?_) | split)
omit hS in
theorem bytesOfV_bytes : ∀ {l : List Nat}, (∀ x ∈ l, x < 256) → bytesOfV (bytesV l) = some l
 | [], _ => rfl
 | x :: l, h => by
   have ih := bytesOfV_bytes (l := l) fun y hy => h y (.tail _ hy)
   have hx := h x (.head _)
   show (match byteV (.int .u8 (x : Nat)), bytesOfV (bytesV l) with
    | some n, some ns => some (n :: ns)
    | _, _ => none) = _
   have e : byteV (.int .u8 (x : Nat)) = some x := by
    have q : (x : Int) < 256 := oM
    simp [byteV, q]
   rw [ih, e]
theorem aidx_spec {v : V} {l : List Nat} {h : H} (a : BS 5 h v l) (c : Int) (hc : 0 ≤ c ∧ c < 256) : Exact S.cfg 181 [v, .int .u8 c] h (.int .i64 (idxNats l c.toNat)) := by
 rcases a.2 with ⟨rfl, rfl⟩ | ⟨b, o, m, rfl, h1, h2, h3, h4⟩
 ·exact callW_sum (s := h.st) hS.bidx (nice_idxM _) rfl LogOk_nil ⟨rfl, rfl⟩
 ·refine callW_sum (s := ⟨h.heap, h.nx, [.rd b o l.length]⟩) hS.bidx (nice_idxM _) ?_ ?_ ⟨rfl, rfl⟩
  ·show (bif decide (0 ≤ c) && decide (c < 256) then Lx.bnd (Lx.ld b o l.length) fun cs => Lx.bnd (Lx.opt (bytesOfV cs) "bytes") fun ns => Lx.ret (V.int .i64 (idxNats ns c.toNat)) else err "byte") ⟨h.heap, h.nx, []⟩ = _
   rw [show (decide (0 ≤ c) && decide (c < 256)) = true by simp [hc], cond_true, bnd_eq (ld_rdC (s := ⟨h.heap, h.nx, []⟩) h3), bytesOfV_bytes a.1]
   rfl
  ·rw [LogOk_cons_rd]
   exact LogOk_nil
theorem bidx_spec {v : V} {l : List Nat} {h : H} (a : BS 5 h v l) (c : Int) (hc : 0 ≤ c ∧ c < 256) : Exact S.cfg 159 [v, .int .u8 c] h (.int .i64 (idxNats l c.toNat)) := by
 refine inn Tryz.func159 (hS.ownB _ dC) rfl rfl ?_
 refine ww1 @Tryz.f159.eq_1 ?_
 refine callF_exact (aidx_spec hS a c hc) ?_
 exact wv0
def mustF (R : Rd) (ls : List Nat) : Rd := (R.fix 1).2.bad (idxNats ls (IntKind.u8.wrap (R.fix 1).1).toNat < 0)
omit hS in
theorem u8_wrap_in (n : Int) : 0 ≤ IntKind.u8.wrap n ∧ IntKind.u8.wrap n < 256 := by
 rw [IntKind.wrap_u8]; omega
theorem must_spec {n0 r : Nat} {R : Rd} {h : H} (a : RdS 5 208 n0 r R h) (hl : R.bs.length < 2 ^ 62) {vl : V} {ls : List Nat} (al : BS 5 h vl ls) (ho : Off vl r) : callW S.cfg (· = r) 123 [.ptr r 0, vl] h fun v h' => RdR 208 n0 r (mustF R ls) h h' := by
 refine inn Tryz.func123 (hS.ownB _ dC) rfl rfl ?_
 refine ww1 @Tryz.f123.eq_1 ?_
 refine callF_of (fix_spec hS a hl 1 oM) (fun k hk => .inr hk) ?_
 rintro w h1 ⟨rfl, a1, b1⟩
 have hu := u8_wrap_in (R.fix 1).1
 have al1 : BS 5 h1 vl ls := al.keep b1.1 fun k hk ⟨o, n, m, q⟩ => b1.2 k hk fun e => ho o n m (by rw [← e]; exact q)
 obtain ⟨⟨v, g, hb, ho1⟩, hlt⟩ := a1
 have a1 : RdS 5 208 n0 r (R.fix 1).2 h1 := ⟨⟨v, g, hb, ho1⟩, hlt⟩
 refine ww1 g ?_
 refine gCall_exact (first := []) (cap := []) (fun _ => bidx_spec hS al1 _ hu) fun fp => ?_
 by_cases hq : (R.fix 1).2.e = 0 ∧ idxNats ls (IntKind.u8.wrap (R.fix 1).1).toNat < 0
 ·have q1 := eq_true hq.1
  have q2 := hq.2
  have e : mustF R ls = ⟨(R.fix 1).2.bs, 5⟩ := Rd.bad_yes hq
  rw [e]
  refine ww1 (cj g <| cj q1 q2) ?_
  exact ⟨RdS.put (R := ⟨(R.fix 1).2.bs, 5⟩) hb ho1 hlt, b1.put _⟩
 ·have e : mustF R ls = (R.fix 1).2 := Rd.bad_no hq
  rw [e]
  by_cases q1 : (R.fix 1).2.e = 0
  ·have q2 : ¬ idxNats ls (IntKind.u8.wrap (R.fix 1).1).toNat < 0 := fun q => hq ⟨q1, q⟩
   have q1 := eq_true q1
   refine ww1 (cj g <| cj q1 q2) ?_
   exact ⟨a1, b1⟩
  ·refine ww1 (cj g q1) ?_
   exact ⟨a1, b1⟩
def overF (R : Rd) : Rd := R.over
theorem over_spec {n0 r : Nat} {R : Rd} {h : H} (a : RdS 5 208 n0 r R h) : callW S.cfg (· = r) 130 [.ptr r 0] h fun v h' => v = .int .i64 (overF R).e ∧ RdR 208 n0 r (overF R) h h' := by
 refine inn Tryz.func130 (hS.ownB _ dC) rfl rfl ?_
 have a' := a
 obtain ⟨⟨v, g, hb, ho⟩, hlt⟩ := a
 have a1 := hb.len 5
 by_cases hq : R.e = 0 ∧ R.bs ≠ []
 ·have q1 := eq_true hq.1
  have q2 : 0 < R.bs.length := List.length_pos_iff.2 hq.2
  have e : overF R = ⟨R.bs, 5⟩ := Rd.bad_yes hq
  rw [e]
  refine ww1 (cj @Tryz.f130.eq_1 <| cj g <| cj a1 <| cj q1 q2) ?_
  exact ⟨RdS.put (R := ⟨R.bs, 5⟩) hb ho hlt, (But.refl r h).put _⟩
 ·have e : overF R = R := Rd.bad_no hq
  rw [e]
  by_cases q1 : R.e = 0
  ·have q3 : R.bs = [] := Classical.not_not.1 fun q => hq ⟨q1, q⟩
   have q2 : ¬ 0 < R.bs.length := by rw [q3]; decide
   have q1 := eq_true q1
   refine ww1 (cj @Tryz.f130.eq_1 <| cj g <| cj a1 <| cj q1 q2) ?_
   exact ⟨a', But.refl r h⟩
  ·refine ww1 (cj @Tryz.f130.eq_1 <| cj g <| cj a1 q1) ?_
   exact ⟨a', But.refl r h⟩
omit hS in
theorem nil_bs {lv : V} (hv : lv = .nilslice ∨ ∃ b o n m, lv = .slice b o n m) : binV Tryz.prog .eql 48 (constO (.tmp 3) || constO (.const (Value.slice none 0 0))) lv .nilslice = some (bo (lv = .nilslice)) := by
 rcases hv with rfl | ⟨b, o, n, m, rfl⟩
 ·have e : binV Tryz.prog .eql 48 (constO (.tmp 3) || constO (.const (Value.slice none 0 0))) .nilslice .nilslice = some (.bool true) := kR
  rw [e]; simp [bo]
 ·have e : binV Tryz.prog .eql 48 (constO (.tmp 3) || constO (.const (Value.slice none 0 0))) (.slice b o n m) .nilslice = some (.bool false) := kR
  rw [e]; simp [bo]
omit hS in
theorem isCell_bytes (l : List Nat) : (bytesV l).all V.isCell = true := by simp [bytesV, V.isCell]
omit hS in
theorem _root_.Go.Wx.Lst.off {n0 : Nat} {h : H} {v : V} {cells : List V} {e sz : Nat} (a : Lst n0 h v cells e sz) : ∀ k, k < n0 → Off v k := fun k hk o n m q => by
 rcases a with a | ⟨_, b, h0, h1, q2, _⟩
 ·exact a.ne hk q
 ·rw [q2] at q; cases q; omega
theorem bclone_spec {v : V} {l : List Nat} {h : H} (a : BS 5 h v l) (hl : l.length < 2 ^ 28) : Pure S.cfg 37 [v] h fun w h' => Lst h.nx h' w (bytesV l) 5 1 := by
 refine inn Tryz.func37 (hS.ownB _ dC) rfl rfl ?_
 have hn : binV Tryz.prog .eql 48 (constO (.tmp 3) || constO (.const (Value.slice none 0 0))) v .nilslice = some (bo (v = .nilslice)) := nil_bs (by
  rcases a.form with ⟨rfl, rfl⟩ | ⟨b, o, m, rfl⟩
  ·exact .inl rfl
  ·exact .inr ⟨_, _, _, _, rfl⟩)
 by_cases h0 : v = .nilslice
 ·have hls : l = [] := by
   rcases a.form with ⟨_, q⟩ | ⟨b, o, m, q⟩
   ·exact q
   ·rw [h0] at q; cases q
  subst h0
  subst hls
  refine ww1 (cj @Tryz.f37.eq_1 hn) ?_
  exact ⟨Ext.refl h, .inl (.inl ⟨rfl, rfl⟩)⟩
 ·refine ww1 (cj @Tryz.f37.eq_1 <| cj hn h0) ?_
  generalize hhA : h.push (Ob.cells [] 5 false) = hA
  have hxA : Ext h hA := by rw [← hhA]; exact (Ext.refl h).push _
  have hgA : hA.get h.nx = some (.cells [] 5 false) := by rw [← hhA]; exact push_eq rfl
  have hnA : hA.nx = h.nx + 1 := by rw [← hhA]; rfl
  clear hhA
  refine append_lst (n0 := h.nx) (sv := .slice h.nx 0 0 0) (xv := v) (cells := []) (new := bytesV l) ?_ ?_ ap48 ⟨.slice 5, by kernel_rfl, rfl⟩ (.inr ⟨rfl, h.nx, Nat.le_refl _, by omega, rfl, hgA⟩) (a.ext hxA).src (isCell_bytes _) ?_ dC (fun k hk => by rw [fresh_def]; exact .inl hk) oM ?_
  ·exact wv0
  ·exact wv0
  ·rw [bytesV_length]; simp only [List.length_nil]; omega
  intro w h1 L hl1 hn1 hk1 hf1 hL1
  refine ww1 @Tryz.f37.eq_1 ?_
  exact ⟨⟨by omega, fun k hk => by rw [hf1 k hk, hxA.2 k hk]⟩, hl1⟩
theorem rest_spec {n0 r : Nat} {R : Rd} {h : H} (a : RdS 5 208 n0 r R h) (hl : R.bs.length < 2 ^ 28) : callW S.cfg (· = r) 157 [.ptr r 0] h fun w h' => BS 5 h' w R.bs ∧ RdR 208 n0 r ⟨[], R.e⟩ h h' := by
 refine inn Tryz.func157 (hS.ownB _ dC) rfl rfl ?_
 obtain ⟨⟨v, g, hb, ho⟩, hlt⟩ := a
 refine ww1 (cj @Tryz.f157.eq_1 g) ?_
 refine callF_pure (bclone_spec hS hb hl) ?_
 intro w h1 hx hw
 have g1 : h1.get r = some (.cells [v, .int .i64 R.e] 208 false) := by rw [hx.2 r hlt.2]; exact g
 have hlt1 : n0 ≤ r ∧ r < h1.nx := ⟨hlt.1, Nat.lt_of_lt_of_le hlt.2 hx.1⟩
 refine ww1 g1 ?_
 exact ⟨(BS.of_lst hb.1 hw).put (hw.off r hlt.2), RdS.put (R := ⟨[], R.e⟩) (BS.nil _ _) (fun _ _ _ _ _ q => by cases q) hlt1, (But.of_ext hx).put _⟩
end
end Go.Proofs.YtfgnpegkcmkeaaaGreatDoor.Rs
set_option maxHeartbeats 2000000
namespace Go.Proofs.YtfgnpegkcmkeaaaGreatDoor.Rs
open Go.Proofs Go.Lx Go.Wx Go.IntWalk
noncomputable section
def hasP (c x : Int) : Prop := ¬ iAnd .u32 c x = 0
def sessP (c : Int) : Prop := hasP c 8388608
def chgP (st : Int) : Prop := ¬ iAnd .u16 st 16384 = 0
def trkP (c st : Int) : Prop := sessP c ∧ chgP st
def okeF (l : List Nat) (c : Int) : Int := okE l (sessP c) (trkP c (okS l).1)
def oz : List V := [.int .u64 0, .int .u64 0, .int .u16 0, .int .u16 0, .str [], .nilslice]
theorem RdR.trans {t n0 r : Nat} {R R1 : Rd} {h h1 h2 : H} (a : RdR t n0 r R h h1) (b : RdR t n0 r R1 h1 h2) : RdR t n0 r R1 h h2 := ⟨b.1, a.2.trans b.2⟩
theorem txt_bytes {R : Rd} (h : ∀ x ∈ R.bs, x < 256) : ∀ x ∈ R.txt.1, x < 256 := fun x hx => by
 unfold Rd.txt at hx
 split at hx
 ·cases hx
 ·exact (txF_ok h).2.2.1 x hx
def okX (l : List Nat) : Int × Int × Int :=
 let R := (Rd.mk l 0).byt
 let R2 := R.2.bad (R.1 ≠ 0 ∧ R.1 ≠ 254)
 (R2.cnt.1, R2.cnt.2.cnt.1, IntKind.u16.wrap ((R2.cnt.2.cnt.2.fix 2).2.fix 2).1)
def okI (R : Rd) (has trk : Prop) : List Nat × List Nat := @ite _ (R.e ≠ 0) (Classical.propDecidable _) ([], []) (@ite _ has (Classical.propDecidable _) (@ite _ trk (Classical.propDecidable _) (R.txt.1, R.txt.2.txt.1) (@ite _ (R.bs ≠ []) (Classical.propDecidable _) (R.txt.1, []) ([], []))) (R.bs, []))
structure OkV where
 a : Int
 i : Int
 s : Int
 w : Int
 t : List Nat
 k : List Nat
def OkV.z : OkV := ⟨0, 0, 0, 0, [], []⟩
def okV (l : List Nat) (c : Int) : OkV := @ite _ (okeF l c = 0) (Classical.propDecidable _) ⟨(okX l).1, (okX l).2.1, (okS l).1, (okX l).2.2, (okI (okS l).2 (sessP c) (trkP c (okS l).1)).1, (okI (okS l).2 (sessP c) (trkP c (okS l).1)).2⟩ OkV.z
def OkV.cells (o : OkV) (y : V) : List V := [.int .u64 o.a, .int .u64 o.i, .int .u16 o.s, .int .u16 o.w, .str o.t, y]
variable {S : Set0} (hS : StdB S)
include hS
theorem has_spec (c x : Int) (h : H) : Exact S.cfg 115 [.int .u32 c, .int .u32 x] h (bo (hasP c x)) := by
 refine inn Tryz.func115 (hS.ownB _ dC) rfl rfl ?_
 refine ww1 @Tryz.f115.eq_1 ?_
 rfl
theorem tracked_spec (c a b s w : Int) (t : List Nat) (x : V) (hx : x.cells = [x] ∧ x.isCell = true) (h : H) : Pure S.cfg 112 [.int .u32 c, .agg [.int .u64 a, .int .u64 b, .int .u16 s, .int .u16 w, .str t, x]] h fun v _ => v = bo (trkP c s) := by
 refine inn Tryz.func112 (hS.ownB _ dC) rfl rfl ?_
 have hx1 := hx.1
 have hx2 := hx.2
 refine ww1 (cj @Tryz.f112.eq_1 <| cj hx1 hx2) ?_
 refine callF_exact (has_spec hS c 8388608 _) ?_
 by_cases hq : sessP c
 ·have hq1 : hasP c 8388608 := hq
  refine ww1 hq1 ?_
  exact ⟨(Ext.refl h).push _, bo_eq ⟨fun q => ⟨hq, q⟩, fun q => q.2⟩⟩
 ·have hq1 : ¬ hasP c 8388608 := hq
  refine ww1 hq1 ?_
  exact ⟨(Ext.refl h).push _, bo_eq ⟨fun q => q.elim, fun q => hq q.1⟩⟩
theorem first_spec {v : V} {l : List Nat} {h : H} (a : BS 5 h v l) (c : Int) : Exact S.cfg 78 [v, .int .u32 c] h (.int .i64 (@ite _ (l.length = 0) (Classical.propDecidable _) 0 (@ite _ (byI l 0 = 0) (Classical.propDecidable _) 1 (@ite _ (byI l 0 = 255) (Classical.propDecidable _) 2 (@ite _ (byI l 0 = 251 ∧ hasP c 128) (Classical.propDecidable _) 4 0))))) := by
 refine inn Tryz.func78 (hS.ownB _ dC) rfl rfl ?_
 have a1 := a.len 5
 by_cases h0 : l.length = 0
 ·rw [if_pos h0]
  exact wv1 (cj @Tryz.f78.eq_1 <| cj a1 h0)
 rw [if_neg h0]
 obtain ⟨b, o, m, rfl, _, _⟩ := a.at (i := 0) oM
 obtain ⟨_, hb, hrd⟩ := a.rd
 have hr := hrd 0 oM
 rw [Nat.add_zero] at hr
 have hl0 : 0 < l.length := oM
 by_cases h1 : byI l 0 = 0
 ·rw [if_pos h1]
  have h1 := eq_true h1
  exact wv1 (cj @Tryz.f78.eq_1 <| cj a1 <| cj h0 <| cj hl0 <| cj hr h1)
 rw [if_neg h1]
 by_cases h2 : byI l 0 = 255
 ·rw [if_pos h2]
  have h2 := eq_true h2
  exact wv1 (cj @Tryz.f78.eq_1 <| cj a1 <| cj h0 <| cj hl0 <| cj hr <| cj h1 h2)
 rw [if_neg h2]
 refine ww1 (cj @Tryz.f78.eq_1 <| cj a1 <| cj h0 <| cj hl0 <| cj hr <| cj h1 h2) ?_
 refine gCall_exact (first := []) (cap := []) (fun _ => has_spec hS c 128 _) fun fp => ?_
 by_cases h3 : byI l 0 = 251
 ·by_cases h4 : hasP c 128
  ·rw [if_pos ⟨h3, h4⟩]
   have h3 := eq_true h3
   exact wv1 (cj a1 <| cj h0 <| cj hl0 <| cj hr <| cj h1 <| cj h2 <| cj h3 h4)
  ·rw [if_neg (fun q => h4 q.2)]
   have h3 := eq_true h3
   exact wv1 (cj a1 <| cj h0 <| cj hl0 <| cj hr <| cj h1 <| cj h2 <| cj h3 h4)
 ·rw [if_neg (fun q => h3 q.1)]
  exact wv1 (cj a1 <| cj h0 <| cj hl0 <| cj hr <| cj h1 <| cj h2 h3)
theorem readok_spec {v : V} {l : List Nat} {h : H} (a : BS 5 h v l) (hl : l.length < 2 ^ 28) (c : Int) : Pure S.cfg 121 [v, .int .u32 c] h fun w h' => ∃ y, w = .tuple [.agg ((okV l c).cells y), .int .i64 (okeF l c)] ∧ BS 5 h' y (okV l c).k ∧ ∀ k, k < h.nx → Off y k := by
 refine inn Tryz.func121 (hS.ownB _ dC) rfl rfl ?_
 obtain ⟨c1, c2⟩ := a.cell
 refine ww1 (cj @Tryz.f121.eq_1 <| cj c1 c2) ?_
 generalize hhA : H.push _ (Ob.cells [V.int IntKind.u8 0, V.int IntKind.u8 254] 5 false) = hA
 have hxA : Ext h hA := by rw [← hhA]; exact (((Ext.refl h).push _).push _).push _
 have hnA : hA.nx = h.nx + 3 := by rw [← hhA]; rfl
 have gR : hA.get (h.nx + 1) = some (.cells [v, .int .i64 0] 208 false) := by rw [← hhA, push_ne (by simp only [push_nx]; omega)]; exact push_eq rfl
 have gZ : hA.get h.nx = some (.cells oz 63 false) := by rw [← hhA, push_ne (by simp only [push_nx]; omega), push_ne (by simp only [push_nx]; omega)]; exact push_eq rfl
 have gL : hA.get (h.nx + 1 + 1) = some (.cells (bytesV [0, 254]) 5 false) := by rw [← hhA]; exact push_eq rfl
 clear hhA
 have al : BS 5 hA (.slice (h.nx + 1 + 1) 0 2 2) [0, 254] := ⟨by intro x hx; simp at hx; omega, .inr ⟨_, 0, 2, rfl, by omega, by decide, by rw [gL]; rfl, fun kc e' fl q hf => by rw [gL] at q; cases q; cases hf⟩⟩
 have a2 : RdS 5 208 h.nx (h.nx + 1) ⟨l, 0⟩ hA := ⟨⟨v, gR, a.ext hxA, fun k hk => a.off hk⟩, by omega, by omega⟩
 have okf : ∀ k, k = h.nx + 1 → fresh h.nx nil1 k := fun k hk => by rw [fresh_def]; exact .inl oM
 have hR2 : mustF ⟨l, 0⟩ [0, 254] = (Rd.mk l 0).byt.2.bad ((Rd.mk l 0).byt.1 ≠ 0 ∧ (Rd.mk l 0).byt.1 ≠ 254) := by
  unfold mustF
  rw [(Rd.byt_fix (R := ⟨l, 0⟩) a.1).1, (Rd.byt_fix (R := ⟨l, 0⟩) a.1).2, must_two _ (Rd.byt_in (R := ⟨l, 0⟩) a.1).1]
 have l0 : (Rd.mk l 0).byt.2.bs.length ≤ l.length := by rw [← (Rd.byt_fix (R := ⟨l, 0⟩) a.1).2]; exact Rd.fix_len _ _
 refine callF_of (must_spec hS a2 (by show l.length < _; omega) al (fun o n m q => by injection q; omega)) okf ?_
 rw [hR2]
 generalize hgR2 : (Rd.mk l 0).byt.2.bad ((Rd.mk l 0).byt.1 ≠ 0 ∧ (Rd.mk l 0).byt.1 ≠ 254) = R2
 have l2 : R2.bs.length ≤ l.length := by rw [← hgR2, Rd.bad_bs]; exact l0
 rintro w1 h1 r1
 refine ww0 ?_
 refine callF_of (cnt_spec hS r1.1 oM) okf ?_
 have l3 := Rd.cnt_len R2
 rintro _ h2 ⟨rfl, r2⟩
 refine ww0 ?_
 refine callF_of (cnt_spec hS r2.1 oM) okf ?_
 have l4 := Rd.cnt_len R2.cnt.2
 rintro _ h3 ⟨rfl, r3⟩
 refine ww0 ?_
 refine callF_of (fix_spec hS r3.1 oM 2 oM) okf ?_
 have l5 := Rd.fix_len R2.cnt.2.cnt.2 2
 rintro _ h4 ⟨rfl, r4⟩
 refine ww0 ?_
 refine callF_of (fix_spec hS r4.1 oM 2 oM) okf ?_
 have l6 := Rd.fix_len (R2.cnt.2.cnt.2.fix 2).2 2
 rintro _ h5 ⟨rfl, r5⟩
 have hS5 : okS l = (IntKind.u16.wrap (R2.cnt.2.cnt.2.fix 2).1, ((R2.cnt.2.cnt.2.fix 2).2.fix 2).2) := by rw [← hgR2]; rfl
 have hX : okX l = (R2.cnt.1, R2.cnt.2.cnt.1, IntKind.u16.wrap ((R2.cnt.2.cnt.2.fix 2).2.fix 2).1) := by rw [← hgR2]; rfl
 have hRa : okeF l c = (okR l (sessP c) (trkP c (IntKind.u16.wrap (R2.cnt.2.cnt.2.fix 2).1))).over.e := by unfold okeF okE; rw [hS5]
 have hRb : ∀ p q : Prop, okR l p q = @ite _ (((R2.cnt.2.cnt.2.fix 2).2.fix 2).2.e ≠ 0) (Classical.propDecidable _) ((R2.cnt.2.cnt.2.fix 2).2.fix 2).2 (@ite _ p (Classical.propDecidable _) (@ite _ q (Classical.propDecidable _) ((R2.cnt.2.cnt.2.fix 2).2.fix 2).2.txt.2.txt.2 (@ite _ (((R2.cnt.2.cnt.2.fix 2).2.fix 2).2.bs ≠ []) (Classical.propDecidable _) ((R2.cnt.2.cnt.2.fix 2).2.fix 2).2.txt.2 ((R2.cnt.2.cnt.2.fix 2).2.fix 2).2)) ⟨[], ((R2.cnt.2.cnt.2.fix 2).2.fix 2).2.e⟩) := fun p q => by unfold okR; rw [hS5]
 have hV : okV l c = @ite _ ((okR l (sessP c) (trkP c (IntKind.u16.wrap (R2.cnt.2.cnt.2.fix 2).1))).over.e = 0) (Classical.propDecidable _) ⟨R2.cnt.1, R2.cnt.2.cnt.1, IntKind.u16.wrap (R2.cnt.2.cnt.2.fix 2).1, IntKind.u16.wrap ((R2.cnt.2.cnt.2.fix 2).2.fix 2).1, (okI ((R2.cnt.2.cnt.2.fix 2).2.fix 2).2 (sessP c) (trkP c (IntKind.u16.wrap (R2.cnt.2.cnt.2.fix 2).1))).1, (okI ((R2.cnt.2.cnt.2.fix 2).2.fix 2).2 (sessP c) (trkP c (IntKind.u16.wrap (R2.cnt.2.cnt.2.fix 2).1))).2⟩ OkV.z := by unfold okV; rw [hRa, hS5, hX]
 rw [hRa, hV]
 clear hRa hV hX
 have b5 : But (h.nx + 1) hA h5 := ((((r1.2.trans r2.2).trans r3.2).trans r4.2).trans r5.2)
 generalize ((R2.cnt.2.cnt.2.fix 2).2.fix 2).2 = R6 at *
 generalize (IntKind.u16.wrap (R2.cnt.2.cnt.2.fix 2).1) = st at *
 generalize ((R2.cnt.2.cnt.2.fix 2).2.fix 2).1 = x5 at *
 obtain ⟨x4, hx4⟩ : ∃ x4, x4 = IntKind.u16.wrap x5 := ⟨_, rfl⟩
 rw [← hx4]
 generalize R2.cnt.1 = x1 at *
 generalize R2.cnt.2.cnt.1 = x2 at *
 have l7 : R6.bs.length < 2 ^ 28 := oM
 have b5n := b5.1
 have gZ5 : h5.get h.nx = some (.cells oz 63 false) := by rw [b5.2 _ oM oM]; exact gZ
 obtain ⟨⟨v5, g5, hb5, ho5⟩, hlt5⟩ := r5.1
 refine wr1 g5 ?_
 refine ⟨.inr oM, ?_⟩
 generalize hhC : H.put _ _ _ = hC
 have hxC : Ext h5 hC := by rw [← hhC]; exact Ext.new _ _ _
 have hnC : hC.nx = h5.nx + 1 := by rw [← hhC]; rfl
 have gC : hC.get h5.nx = some (.cells [.int .u64 x1, .int .u64 x2, .int .u16 st, .int .u16 x4, .str [], .nilslice] 63 false) := by rw [← hhC, hx4]; exact put_eq rfl
 clear hhC
 have gZC : hC.get h.nx = some (.cells oz 63 false) := by rw [hxC.2 _ oM]; exact gZ5
 have rC : RdS 5 208 h.nx (h.nx + 1) R6 hC := r5.1.ext hxC
 have gRC : hC.get (h.nx + 1) = some (.cells [v5, .int .i64 R6.e] 208 false) := by rw [hxC.2 _ oM]; exact g5
 refine run_blk_cut (fun env' h' => env' 4 = .ptr h.nx 0 ∧ env' 6 = .ptr (h.nx + 1) 0 ∧ env' 7 = .ptr h5.nx 0 ∧ RdS 5 208 h.nx (h.nx + 1) (okR l (sessP c) (trkP c st)) h' ∧ Ext h h' ∧ h'.get h.nx = some (.cells oz 63 false) ∧ h5.nx < h'.nx ∧ ∃ y, h'.get h5.nx = some (.cells [.int .u64 x1, .int .u64 x2, .int .u16 st, .int .u16 x4, .str (okI R6 (sessP c) (trkP c st)).1, y] 63 false) ∧ BS 5 h' y (okI R6 (sessP c) (trkP c st)).2 ∧ ∀ k, k ≤ h.nx + 1 → Off y k) ?_ ?_
 ·have hxhC : Ext h hC := But.ext hxA (b5.trans (But.of_ext hxC)) oM
  by_cases he : R6.e ≠ 0
  ·have hI : okI R6 (sessP c) (trkP c st) = ([], []) := if_pos he
   rw [hRb, if_pos he, hI]
   have he' : ¬ R6.e = 0 := he
   refine ww1 (cj gRC he') ?_
   exact ⟨rC, hxhC, gZC, by omega, .nilslice, gC, BS.nil _ _, fun k _ o n m q => by cases q⟩
  have he0 : R6.e = 0 := Classical.not_not.1 he
  refine ww1 (cj gRC he0) ?_
  refine callF_exact (has_spec hS c 8388608 _) ?_
  by_cases hs : sessP c
  ·have hs' : hasP c 8388608 := hs
   refine ww1 (cj hs' gC) ?_
   refine callF_pure (tracked_spec hS c _ _ _ _ _ _ ⟨rfl, rfl⟩ _) ?_
   rintro _ hD hxD rfl
   have gD : hD.get h5.nx = some (.cells [.int .u64 x1, .int .u64 x2, .int .u16 st, .int .u16 x4, .str [], .nilslice] 63 false) := by rw [hxD.2 _ oM]; exact gC
   have gZD : hD.get h.nx = some (.cells oz 63 false) := by rw [hxD.2 _ oM]; exact gZC
   have gRD : hD.get (h.nx + 1) = some (.cells [v5, .int .i64 R6.e] 208 false) := by rw [hxD.2 _ oM]; exact gRC
   have hnD := hxD.1
   have rD := rC.ext hxD
   have hxhD := hxhC.trans hxD
   by_cases ht : trkP c st
   ·have hI : okI R6 (sessP c) (trkP c st) = (R6.txt.1, R6.txt.2.txt.1) := by unfold okI; rw [if_neg he, if_pos hs, if_pos ht]
    rw [hRb, if_neg he, if_pos hs, if_pos ht, hI]
    refine ww1 ht ?_
    refine callF_of (txt_spec hS rD oM) okf ?_
    rintro _ h8 ⟨rfl, r8⟩
    have n8 := r8.2.1
    have g8 : h8.get h5.nx = some (.cells [.int .u64 x1, .int .u64 x2, .int .u16 st, .int .u16 x4, .str [], .nilslice] 63 false) := by rw [r8.2.2 _ oM oM]; exact gD
    have gZ8 : h8.get h.nx = some (.cells oz 63 false) := by rw [r8.2.2 _ oM oM]; exact gZD
    have hxh8 : Ext h h8 := But.ext hxhD r8.2 oM
    refine ww1 g8 ?_
    refine ⟨.inr oM, ?_⟩
    generalize hh9 : H.put h8 _ _ = h9
    have hn9 : h9.nx = h8.nx := by rw [← hh9]; rfl
    have g9 : h9.get h5.nx = some (.cells [.int .u64 x1, .int .u64 x2, .int .u16 st, .int .u16 x4, .str R6.txt.1, .nilslice] 63 false) := by rw [← hh9]; exact put_eq rfl
    have gZ9 : h9.get h.nx = some (.cells oz 63 false) := by rw [← hh9, put_ne oM]; exact gZ8
    have hxh9 : Ext h h9 := by rw [← hh9]; exact hxh8.put oM _
    have r9 : RdS 5 208 h.nx (h.nx + 1) R6.txt.2 h9 := r8.1.keep oM (by rw [← hh9, put_ne oM]) fun k hk => by rw [← hh9, put_ne oM]
    clear hh9
    have l8 := Rd.txt_len R6
    refine callF_of (txt_spec hS r9 oM) okf ?_
    rintro _ hE ⟨rfl, rE⟩
    have nE := rE.2.1
    have gE : hE.get h5.nx = some (.cells [.int .u64 x1, .int .u64 x2, .int .u16 st, .int .u16 x4, .str R6.txt.1, .nilslice] 63 false) := by rw [rE.2.2 _ oM oM]; exact g9
    have gZE : hE.get h.nx = some (.cells oz 63 false) := by rw [rE.2.2 _ oM oM]; exact gZ9
    have hxhE : Ext h hE := But.ext hxh9 rE.2 oM
    have qE : ¬ h5.nx = hE.nx := oM
    refine ww1 (cj gE qE) ?_
    refine ⟨.inr oM, ?_, (hxhE.push _).put oM _, ?_, by omega, _, rfl, ?_, fun k hk o n m q => by injection q; omega⟩
    ·exact rE.1.keep (by simp only [put_nx, push_nx]; omega) (by rw [put_ne oM, push_ne oM]) fun k hk => by rw [put_ne oM, push_ne oM]
    ·exact gZE
    ·have hbt : ∀ x ∈ R6.txt.2.txt.1, x < 256 := by
      obtain ⟨⟨v9, _, hb9, _⟩, _⟩ := r9
      exact txt_bytes hb9.1
     exact ⟨hbt, .inr ⟨hE.nx, 0, _, rfl, by simp only [put_nx, push_nx]; omega, Nat.le_refl _, by rw [put_ne oM, push_eq rfl]; exact rdC_all (bytesV_length _), fun kc e' fl q hf => by rw [put_ne oM, push_eq rfl] at q; cases q; rfl⟩⟩
   ·have hlen := hb5.len 5
    by_cases hb0 : R6.bs = []
    ·have hI : okI R6 (sessP c) (trkP c st) = ([], []) := by unfold okI; rw [if_neg he, if_pos hs, if_neg ht, if_neg (fun q => q hb0)]
     rw [hRb, if_neg he, if_pos hs, if_neg ht, if_neg (fun q => q hb0), hI]
     have hb1 : ¬ 0 < R6.bs.length := by rw [hb0]; decide
     refine ww1 (cj ht <| cj gRD <| cj hlen hb1) ?_
     exact ⟨rD, hxhD, gZD, by omega, .nilslice, gD, BS.nil _ _, fun k _ o n m q => by cases q⟩
    ·have hI : okI R6 (sessP c) (trkP c st) = (R6.txt.1, []) := by unfold okI; rw [if_neg he, if_pos hs, if_neg ht, if_pos hb0]
     rw [hRb, if_neg he, if_pos hs, if_neg ht, if_pos hb0, hI]
     have hb1 : 0 < R6.bs.length := List.length_pos_iff.2 hb0
     refine ww1 (cj ht <| cj gRD <| cj hlen hb1) ?_
     refine callF_of (txt_spec hS rD oM) okf ?_
     rintro _ h8 ⟨rfl, r8⟩
     have n8 := r8.2.1
     have g8 : h8.get h5.nx = some (.cells [.int .u64 x1, .int .u64 x2, .int .u16 st, .int .u16 x4, .str [], .nilslice] 63 false) := by rw [r8.2.2 _ oM oM]; exact gD
     have gZ8 : h8.get h.nx = some (.cells oz 63 false) := by rw [r8.2.2 _ oM oM]; exact gZD
     have hxh8 : Ext h h8 := But.ext hxhD r8.2 oM
     refine ww1 g8 ?_
     refine ⟨.inr oM, ?_, hxh8.put oM _, ?_, by omega, .nilslice, rfl, BS.nil _ _, fun k _ o n m q => by cases q⟩
     ·exact r8.1.keep (Nat.le_refl _) (by rw [put_ne oM]) fun k hk => by rw [put_ne oM]
     ·exact gZ8
  ·have hI : okI R6 (sessP c) (trkP c st) = (R6.bs, []) := by unfold okI; rw [if_neg he, if_neg hs]
   rw [hRb, if_neg he, if_neg hs, hI]
   have hs' : ¬ hasP c 8388608 := hs
   refine ww1 hs' ?_
   refine callF_of (rest_spec hS rC l7) okf ?_
   rintro w8 h8 ⟨hw8, r8⟩
   have n8 := r8.2.1
   have g8 : h8.get h5.nx = some (.cells [.int .u64 x1, .int .u64 x2, .int .u16 st, .int .u16 x4, .str [], .nilslice] 63 false) := by rw [r8.2.2 _ oM oM]; exact gC
   have gZ8 : h8.get h.nx = some (.cells oz 63 false) := by rw [r8.2.2 _ oM oM]; exact gZC
   have hxh8 : Ext h h8 := But.ext hxhC r8.2 oM
   obtain ⟨L8, _, hc8⟩ := hw8.str
   refine ww1 (cj hc8 g8) ?_
   refine ⟨.inr oM, ?_, hxh8.put oM _, ?_, by omega, .nilslice, rfl, BS.nil _ _, fun k _ o n m q => by cases q⟩
   ·exact r8.1.keep (Nat.le_refl _) (by rw [put_ne oM]) fun k hk => by rw [put_ne oM]
   ·exact gZ8
 ·rintro env' h6 ⟨e4, e6, e7, r6, hx6, gZ6, hn6, y, gO6, hy, hyo⟩
  obtain ⟨yc1, yc2⟩ := hy.cell
  refine ww1 (cj e4 <| cj e6 e7) ?_
  refine callF_of (over_spec hS r6) okf ?_
  rintro _ h7 ⟨rfl, r7⟩
  have gZ7 : h7.get h.nx = some (.cells oz 63 false) := by rw [r7.2.2 _ oM oM]; exact gZ6
  unfold oz at gZ7
  have gO7 : h7.get h5.nx = some (.cells [.int .u64 x1, .int .u64 x2, .int .u16 st, .int .u16 x4, .str (okI R6 (sessP c) (trkP c st)).1, y] 63 false) := by rw [r7.2.2 _ hn6 oM]; exact gO6
  have hx7 : Ext h h7 := But.ext hx6 r7.2 oM
  have hy7 : BS 5 h7 y (okI R6 (sessP c) (trkP c st)).2 := hy.keep r7.2.1 fun k hk ⟨o, n, m, q⟩ => r7.2.2 k hk fun e => hyo k oM o n m q
  by_cases he : (overF (okR l (sessP c) (trkP c st))).e = 0
  ·have he' := eq_true he
   have he2 : (okR l (sessP c) (trkP c st)).over.e = 0 := he
   rw [if_pos he2]
   unfold OkV.cells
   refine ww1 (cj e4 <| cj e6 <| cj e7 <| cj gZ7 <| cj gO7 <| cj he' <| cj he2 <| cj yc1 yc2) ?_
   exact ⟨hx7.put (Nat.le_refl _) _, y, rfl, hy7.put (hyo _ oM), fun k hk => hyo k oM⟩
  ·have he2 : ¬ (okR l (sessP c) (trkP c st)).over.e = 0 := he
   rw [if_neg he2]
   unfold OkV.cells OkV.z
   refine ww1 (cj e4 <| cj e6 <| cj e7 <| cj gZ7 <| cj gO7 he) ?_
   exact ⟨hx7.put (Nat.le_refl _) _, .nilslice, rfl, BS.nil _ _, fun k _ o n m q => by cases q⟩
end
noncomputable section
structure GS (tt : TypeId) (z : List V) (h : H) (o : Nat) (R : Rd) (cs : List V) (h' : H) : Prop where
 rd : RdS 5 208 h.nx (h.nx + 1) R h'
 ext : Ext h h'
 z : h'.get h.nx = some (.cells z tt false)
 ob : h'.get o = some (.cells cs tt false)
 lt : h.nx + 1 < o ∧ o < h'.nx
theorem GS.call {tt : TypeId} {z : List V} {h : H} {o : Nat} {R R1 : Rd} {cs : List V} {h1 h2 : H} (a : GS tt z h o R cs h1) (b : RdR 208 h.nx (h.nx + 1) R1 h1 h2) : GS tt z h o R1 cs h2 := by
 have l1 := a.lt
 have n2 := b.2.1
 exact ⟨b.1, But.ext a.ext b.2 oM, by rw [b.2.2 _ oM oM]; exact a.z, by rw [b.2.2 _ oM oM]; exact a.ob, by omega, by omega⟩
theorem GS.put {tt : TypeId} {z : List V} {h : H} {o : Nat} {R : Rd} {cs : List V} {h1 : H} (a : GS tt z h o R cs h1) (cs' : List V) : GS tt z h o R cs' (h1.put o (.cells cs' tt false)) := by
 have l1 := a.lt
 exact ⟨a.rd.keep (Nat.le_refl _) (put_ne oM) fun k hk => put_ne oM, a.ext.put oM _, by rw [put_ne oM]; exact a.z, put_eq rfl, l1⟩
theorem GS.ext2 {tt : TypeId} {z : List V} {h : H} {o : Nat} {R : Rd} {cs : List V} {h1 h2 : H} (a : GS tt z h o R cs h1) (hx : Ext h1 h2) : GS tt z h o R cs h2 := by
 have l1 := a.lt
 exact ⟨a.rd.ext hx, a.ext.trans hx, by rw [hx.2 _ oM]; exact a.z, by rw [hx.2 _ oM]; exact a.ob, l1.1, Nat.lt_of_lt_of_le l1.2 hx.1⟩
theorem bs_one {h : H} (c k : Nat) (hk : k = h.nx) (hc : c < 256) : BS 5 (h.push (.cells [.int .u8 c] 5 false)) (.slice k 0 1 1) [c] := by
 refine ⟨fun x hx => by rw [List.mem_singleton.1 hx]; exact hc, .inr ⟨k, 0, 1, rfl, by rw [hk]; exact Nat.lt_succ_self _, Nat.le_refl _, ?_, fun kc e' fl q hf => ?_⟩⟩
 ·rw [push_eq hk]; rfl
 ·rw [push_eq hk] at q; cases q; cases hf
theorem must_one (x : Int) (c : Nat) (hx : 0 ≤ x) : (idxNats [c] x.toNat < 0) = (x ≠ c) := by
 obtain ⟨n, rfl⟩ : ∃ n : Nat, x = n := ⟨x.toNat, by omega⟩
 rw [Int.toNat_natCast]
 by_cases h0 : n = c
 ·subst h0
  have : idxNats [n] n = 0 := by simp [idxNats]
  rw [this]
  exact propext ⟨fun q => absurd q dC, fun q => absurd rfl q⟩
 ·have e0 : (c == n) = false := by simpa using fun q => h0 q.symm
  have e : idxNats [c] n = -1 := by simp [idxNats, e0]
  rw [e]
  exact propext ⟨fun _ q => h0 oM, fun _ => by decide⟩
theorem must_ok {c : Nat} {t : List Nat} (hb : ∀ x ∈ c :: t, x < 256) : mustF ⟨c :: t, 0⟩ [c] = ⟨t, 0⟩ := by
 have hf := Rd.byt_fix (R := ⟨c :: t, 0⟩) hb
 unfold mustF
 rw [hf.1, hf.2, must_one _ _ (Rd.byt_in (R := ⟨c :: t, 0⟩) hb).1]
 have e : (Rd.mk (c :: t) 0).byt = ((c : Int), ⟨t, 0⟩) := rfl
 rw [e]
 exact Rd.bad_no fun q => q.2 rfl
theorem must_no {c d : Nat} {t : List Nat} (hb : ∀ x ∈ c :: t, x < 256) (hne : c ≠ d) : mustF ⟨c :: t, 0⟩ [d] = ⟨t, 5⟩ := by
 have hf := Rd.byt_fix (R := ⟨c :: t, 0⟩) hb
 unfold mustF
 rw [hf.1, hf.2, must_one _ _ (Rd.byt_in (R := ⟨c :: t, 0⟩) hb).1]
 have e : (Rd.mk (c :: t) 0).byt = ((c : Int), ⟨t, 0⟩) := rfl
 rw [e]
 exact Rd.bad_yes ⟨rfl, by show (c : Int) ≠ d; omega⟩
theorem mustF_len (R : Rd) (ls : List Nat) : (mustF R ls).bs.length ≤ R.bs.length := by
 unfold mustF
 rw [Rd.bad_bs]
 exact Rd.fix_len _ _
theorem u16_wrap_in (n : Int) : 0 ≤ IntKind.u16.wrap n ∧ IntKind.u16.wrap n < 65536 := by
 rw [IntKind.wrap_u16]; omega
def eofG (R : Rd) : Int × Int × Int := @ite _ ((overF ((R.fix 2).2.fix 2).2).e = 0) (Classical.propDecidable _) (IntKind.u16.wrap (R.fix 2).1, IntKind.u16.wrap ((R.fix 2).2.fix 2).1, 0) (0, 0, (overF ((R.fix 2).2.fix 2).2).e)
def eofF (l : List Nat) : Int × Int × Int := eofG (mustF ⟨l, 0⟩ [254])
theorem eofF_err {l t : List Nat} (hb : ∀ x ∈ l, x < 256) (h : l = 255 :: t) : (eofF l).2.2 ≠ 0 := by
 have h0 : (mustF ⟨l, 0⟩ [254]).e ≠ 0 := by
  have hb : ∀ x ∈ 255 :: t, x < 256 := by rw [← h]; exact hb
  rw [h, must_no hb dC]
  show (5 : Int) ≠ 0
  decide
 unfold eofF
 generalize mustF ⟨l, 0⟩ [254] = R2 at *
 have q : (overF ((R2.fix 2).2.fix 2).2).e ≠ 0 := by
  rw [Rd.fix_err 2 h0, Rd.fix_err 2 h0]
  show (R2.bad _).e ≠ 0
  rw [Rd.bad_no fun w => h0 w.1]
  exact h0
 unfold eofG
 rw [if_neg q]
 exact q
def prepH (R2 R3 R4 R6 : Int × Rd) : Int × Int × Int × Int × Int := @ite _ ((overF R6.2).e = 0) (Classical.propDecidable _) (IntKind.u32.wrap R2.1, IntKind.u16.wrap R3.1, IntKind.u16.wrap R4.1, IntKind.u16.wrap R6.1, 0) (0, 0, 0, 0, (overF R6.2).e)
def prepG (R : Rd) : Int × Int × Int × Int × Int := prepH (R.fix 4) ((R.fix 4).2.fix 2) (((R.fix 4).2.fix 2).2.fix 2) ((mustF (((R.fix 4).2.fix 2).2.fix 2).2 [0]).fix 2)
def prepF (l : List Nat) : Int × Int × Int × Int × Int := prepG (mustF ⟨l, 0⟩ [0])
theorem prepF_in (l : List Nat) : 0 ≤ (prepF l).2.1 ∧ (prepF l).2.1 < 65536 ∧ 0 ≤ (prepF l).2.2.1 ∧ (prepF l).2.2.1 < 65536 := by
 unfold prepF prepG prepH
 split
 ·have a := u16_wrap_in ((((mustF ⟨l, 0⟩ [0]).fix 4).2.fix 2).1)
  have b := u16_wrap_in ((((mustF ⟨l, 0⟩ [0]).fix 4).2.fix 2).2.fix 2).1
  exact ⟨a.1, a.2, b.1, b.2⟩
 ·exact ⟨Int.le_refl 0, (by decide : (0 : Int) < 65536), Int.le_refl 0, (by decide : (0 : Int) < 65536)⟩
structure StdG (S : Set0) : Prop extends StdB S where
 ownG : ∀ f, f ∈ [122, 92, 85, 81, 87, 76, 114] → sums S.exts f = none
variable {S : Set0} (hS : StdG S)
include hS
theorem readeof_spec {v : V} {l : List Nat} {h : H} (a : BS 5 h v l) (hl : l.length < 2 ^ 28) : Pure S.cfg 122 [v] h fun w _ => w = .tuple [.agg [.int .u16 (eofF l).1, .int .u16 (eofF l).2.1], .int .i64 (eofF l).2.2] := by
 refine inn Tryz.func122 (hS.ownG _ dC) rfl rfl ?_
 obtain ⟨c1, c2⟩ := a.cell
 refine ww1 (cj @Tryz.f122.eq_1 <| cj c1 c2) ?_
 generalize hhA : H.push (H.push h _) _ = hA
 have hxA : Ext h hA := by rw [← hhA]; exact ((Ext.refl h).push _).push _
 have hnA : hA.nx = h.nx + 2 := by rw [← hhA]; rfl
 have gR : hA.get (h.nx + 1) = some (.cells [v, .int .i64 0] 208 false) := by rw [← hhA]; exact push_eq rfl
 have gZ : hA.get h.nx = some (.cells [.int .u16 0, .int .u16 0] 67 false) := by rw [← hhA, push_ne (by simp only [push_nx]; omega)]; exact push_eq rfl
 clear hhA
 have a2 : RdS 5 208 h.nx (h.nx + 1) ⟨l, 0⟩ hA := ⟨⟨v, gR, a.ext hxA, fun k hk => a.off hk⟩, by omega, by omega⟩
 have okf : ∀ k, k = h.nx + 1 → fresh h.nx nil1 k := fun k hk => by rw [fresh_def]; exact .inl oM
 have al := bs_one (h := hA) 254 (h.nx + 1 + 1) oM dC
 refine callF_of (must_spec hS.toStdB (a2.ext ((Ext.refl hA).push _)) (by show l.length < _; omega) al (fun o n m q => by injection q; omega)) okf ?_
 rintro w1 h1 r1
 have r1 : RdR 208 h.nx (h.nx + 1) (mustF ⟨l, 0⟩ [254]) hA h1 := ⟨r1.1, (But.of_ext ((Ext.refl hA).push _)).trans r1.2⟩
 have l2 : (mustF ⟨l, 0⟩ [254]).bs.length ≤ l.length := mustF_len _ _
 have hF : eofF l = eofG (mustF ⟨l, 0⟩ [254]) := rfl
 rw [hF]
 clear hF
 generalize mustF ⟨l, 0⟩ [254] = R2 at *
 refine ww0 ?_
 refine callF_of (fix_spec hS.toStdB r1.1 oM 2 oM) okf ?_
 have l3 := Rd.fix_len R2 2
 rintro _ h2 ⟨rfl, r2⟩
 refine ww0 ?_
 refine callF_of (fix_spec hS.toStdB r2.1 oM 2 oM) okf ?_
 rintro _ h3 ⟨rfl, r3⟩
 have n1 := r1.2.1
 have n2 := r2.2.1
 have n3 := r3.2.1
 have b3 : But (h.nx + 1) hA h3 := (r1.2.trans r2.2).trans r3.2
 refine ww0 ?_
 refine ⟨.inr oM, ?_⟩
 generalize hhC : H.put _ _ _ = hC
 have hxC : Ext h3 hC := by rw [← hhC]; exact Ext.new _ _ _
 have hnC : hC.nx = h3.nx + 1 := by rw [← hhC]; rfl
 have fC : GS 67 [.int .u16 0, .int .u16 0] h h3.nx ((R2.fix 2).2.fix 2).2 [.int .u16 (IntKind.u16.wrap (R2.fix 2).1), .int .u16 (IntKind.u16.wrap ((R2.fix 2).2.fix 2).1)] hC := ⟨r3.1.ext hxC, But.ext hxA (b3.trans (But.of_ext hxC)) oM, by rw [hxC.2 _ oM, b3.2 _ oM oM]; exact gZ, by rw [← hhC]; exact put_eq rfl, by omega, by omega⟩
 clear hhC
 refine callF_of (over_spec hS.toStdB fC.rd) okf ?_
 rintro _ h4 ⟨rfl, r4⟩
 have f4 := fC.call r4
 have gZ4 := f4.z
 have gO4 := f4.ob
 have n4 := f4.lt
 by_cases he : (overF ((R2.fix 2).2.fix 2).2).e = 0
 ·have he' := eq_true he
  unfold eofG
  rw [if_pos he]
  refine ww1 (cj gZ4 <| cj gO4 he') ?_
  exact f4.ext.put (Nat.le_refl _) _
 ·unfold eofG
  rw [if_neg he]
  refine ww1 (cj gZ4 <| cj gO4 he) ?_
  exact f4.ext.put (Nat.le_refl _) _
end
end Go.Proofs.YtfgnpegkcmkeaaaGreatDoor.Rs
set_option maxRecDepth 20000
namespace Go.Proofs.YtfgnpegkcmkeaaaGreatDoor.Rs
open Go.Proofs Go.Lx Go.Wx Go.IntWalk
noncomputable section
structure StdR (S : Set0) : Prop extends StdG S where
 ownR : ∀ f, f ∈ [132, 154, 180, 179, 155, 164, 185, 135, 91, 89, 133, 134, 16, 17, 18, 42, 43, 44, 45, 46, 47, 48, 49, 50, 51, 79, 80, 82, 84, 86, 88, 90, 126, 127, 128, 131, 162, 163, 36, 75, 38, 32, 15, 9, 77, 120, 83, 125, 153, 160, 182, 183, 184, 40, 41] → sums S.exts f = none
abbrev knownP (t : Int) : Prop := (0 ≤ t ∧ t ≤ 13) ∨ t = 15 ∨ t = 16 ∨ 245 ≤ t
def knownB (t : Nat) : Bool := t ≤ 13 || t == 15 || t == 16 || 245 ≤ t
theorem knownB_iff (t : Nat) : knownB t = true ↔ knownP t := by
 unfold knownB
 simp only [Bool.or_eq_true, decide_eq_true_eq, beq_iff_eq]
 omega
def namesOk (l : List V) : Bool := (List.range 256).all fun i => match l[i]? with
 | some (.str s) => s.isEmpty == !knownB i
 | _ => false
theorem namesOk_at {l : List V} (h : namesOk l = true) (n : Nat) (hn : n < 256) : ∃ s, l[n]? = some (.str s) ∧ (s = [] ↔ ¬ knownP n) := by
 have h1 := List.all_eq_true.1 h n (List.mem_range.2 hn)
 cases hl : l[n]? with
 | none => rw [hl] at h1; cases h1
 | some x =>
   rw [hl] at h1
   cases x <;> first | (rename_i s; refine ⟨s, rfl, ?_⟩; have h2 := eq_of_beq h1; rw [← knownB_iff]; cases hk : knownB n <;> rw [hk] at h2 <;> cases s <;> simp_all) | cases h1
theorem idx_names {l : List V} (n : Nat) (hn : n < 256) {s : List Nat} (hs : l[n]? = some (.str s)) : indexV Tryz.prog 202 (.agg l) (.int .u8 (n : Int)) = some (.str s) := by
 unfold indexV opIndex
 rw [Tryz.underlying202]
 simp only [sz9, Int.ofNat_eq_natCast]
 have e1 : Nat.blt n 256 = true := by rw [Nat.blt_eq]; exact hn
 show pureO (bif Nat.blt n 256 then partM Tryz.prog 9 l (n * 1) else Lx.err "index") = _
 rw [e1, cond_true]
 unfold partM
 rw [Tryz.underlying9, sz9, Nat.mul_one]
 show pureO (match l[n]? with
   | some v => Lx.ret v
   | none => Lx.err "part") = _
 rw [hs]
 rfl
def formI (x : Int) : Int × Int := if x ≤ 250 then (0, 1) else if x < 65536 then (252, 2) else if x < 16777216 then (253, 3) else (254, 8)
def sizeI (x : Int) : Int := if x ≤ 250 then 1 else if x < 65536 then 3 else if x < 16777216 then 4 else 9
def countF (l : List Nat) : Int × Int := if (iiF l).2.2 = 0 then (if ¬ (iiF l).1 < 1 ∧ ¬ 4096 < (iiF l).1 ∧ ((iiF l).2.1 : Int) = sizeI (iiF l).1 ∧ (iiF l).2.1 = l.length then ((iiF l).1, 0) else (0, 5)) else (0, (iiF l).2.2)
theorem countF_in {l : List Nat} (h : (countF l).2 = 0) : 1 ≤ (countF l).1 ∧ (countF l).1 ≤ 4096 := by
 unfold countF at h ⊢
 split at h
 ·rename_i h0
  rw [if_pos h0]
  split at h
  ·rename_i h1
   rw [if_pos h1]
   show 1 ≤ (iiF l).1 ∧ (iiF l).1 ≤ 4096
   omega
  ·cases h
 ·rename_i h0
  exact absurd h h0
variable {S : Set0} (hS : StdR S)
include hS
theorem names_spec (h : H) : Pure S.cfg 120 [] h fun v _ => ∃ l, v = .agg l ∧ namesOk l = true := by
 refine inn Tryz.func120 (hS.ownR _ dC) rfl rfl ?_
 refine ww1 @Tryz.f120.eq_1 ?_
 exact ⟨((Ext.refl h).push _).put (Nat.le_refl _) _, _, rfl, rfl⟩
theorem known_spec (t : Int) (ht : 0 ≤ t ∧ t < 256) (h : H) : Pure S.cfg 77 [.int .u8 t] h fun v _ => v = bo (knownP t) := by
 refine inn Tryz.func77 (hS.ownR _ dC) rfl rfl ?_
 refine ww1 @Tryz.f77.eq_1 ?_
 refine callF_pure (names_spec hS _) ?_
 rintro _ h1 hx ⟨l, rfl, hl⟩
 obtain ⟨n, rfl⟩ : ∃ n : Nat, t = n := ⟨t.toNat, by omega⟩
 obtain ⟨s, hs, hk⟩ := namesOk_at hl n oM
 have hi := idx_names n oM hs
 have i1 : idxOk (some (.array 256 9)) Tryz.prog 202 (.agg l) (.int .u8 (n : Int)) = True := by
  show okO (indexV Tryz.prog 202 (.agg l) (.int .u8 (n : Int))) = _
  rw [hi]; simp [okO]
 have i2 : idxT Tryz.prog 202 (.agg l) (.int .u8 (n : Int)) = .str s := by
  show getO' (indexV Tryz.prog 202 (.agg l) (.int .u8 (n : Int))) = _
  rw [hi]; rfl
 refine ww1 (cj i1 i2) ?_
 refine ⟨hx, ?_⟩
 congr 1
 apply propext
 constructor
 ·intro q; exact Classical.byContradiction fun w => q (hk.2 w)
 ·intro q w; exact hk.1 w q
theorem size_spec (x : Int) (h : H) : Pure S.cfg 125 [.int .u64 x] h fun v _ => v = .int .i64 (sizeI x) := by
 have fs : ∀ h, Pure S.cfg 153 [.int .u64 x] h fun v _ => v = .tuple [.int .u8 (formI x).1, .int .i64 (formI x).2] := fun h => by
  refine inn Tryz.func153 (hS.ownR _ dC) rfl rfl ?_
  unfold formI
  by_cases h1 : x ≤ 250
  ·rw [if_pos h1]
   refine ww1 (cj @Tryz.f153.eq_1 h1) ?_
   exact Ext.refl _
  rw [if_neg h1]
  by_cases h2 : x < 65536
  ·rw [if_pos h2]
   refine ww1 (cj @Tryz.f153.eq_1 <| cj h1 h2) ?_
   exact Ext.refl _
  rw [if_neg h2]
  by_cases h3 : x < 16777216
  ·rw [if_pos h3]
   refine ww1 (cj @Tryz.f153.eq_1 <| cj h1 <| cj h2 h3) ?_
   exact Ext.refl _
  ·rw [if_neg h3]
   refine ww1 (cj @Tryz.f153.eq_1 <| cj h1 <| cj h2 h3) ?_
   exact Ext.refl _
 refine inn Tryz.func125 (hS.ownR _ dC) rfl rfl ?_
 refine ww1 @Tryz.f125.eq_1 ?_
 refine callF_pure (fs _) ?_
 rintro _ h1 hx rfl
 unfold formI sizeI
 by_cases h1 : x ≤ 250
 ·rw [if_pos h1, if_pos h1]
  refine ww0 ?_
  exact hx
 rw [if_neg h1, if_neg h1]
 by_cases h2 : x < 65536
 ·rw [if_pos h2, if_pos h2]
  refine ww0 ?_
  exact ⟨fun q => absurd q dC, fun _ => ⟨hx, rfl⟩⟩
 rw [if_neg h2, if_neg h2]
 by_cases h3 : x < 16777216
 ·rw [if_pos h3, if_pos h3]
  refine ww0 ?_
  exact ⟨fun q => absurd q dC, fun _ => ⟨hx, rfl⟩⟩
 ·rw [if_neg h3, if_neg h3]
  refine ww0 ?_
  exact ⟨fun q => absurd q dC, fun _ => ⟨hx, rfl⟩⟩
theorem count_spec {v : V} {l : List Nat} {h : H} (a : BS 5 h v l) (hl : l.length < 2 ^ 28) : Pure S.cfg 83 [v] h fun w _ => w = .tuple [.int .i64 (countF l).1, .int .i64 (countF l).2] := by
 refine inn Tryz.func83 (hS.ownR _ dC) rfl rfl ?_
 have a1 := a.len 5
 have er : ∀ r, (iiF l).2.2 = 0 → r = (if ¬ (iiF l).1 < 1 ∧ ¬ 4096 < (iiF l).1 ∧ ((iiF l).2.1 : Int) = sizeI (iiF l).1 ∧ (iiF l).2.1 = l.length then ((iiF l).1, (0 : Int)) else (0, 5)) → countF l = r := fun r h0 q => by unfold countF; rw [if_pos h0, q]
 have e0 : (iiF l).2.2 ≠ 0 → countF l = (0, (iiF l).2.2) := fun q => if_neg q
 refine ww1 @Tryz.f83.eq_1 ?_
 refine callF_exact (rin_spec hS.toStdB a oM) ?_
 by_cases h0 : (iiF l).2.2 = 0
 ·have h0' := eq_true h0
  refine ww1 h0' ?_
  by_cases h1 : (iiF l).1 < 1
  ·rw [er (0, 5) h0 (by rw [if_neg (fun q => q.1 h1)])]
   refine ww1 h1 ?_
   exact Ext.refl _
  by_cases h2 : 4096 < (iiF l).1
  ·rw [er (0, 5) h0 (by rw [if_neg (fun q => q.2.1 h2)])]
   refine ww1 (cj h1 h2) ?_
   exact Ext.refl _
  refine ww1 (cj h1 h2) ?_
  refine callF_pure (size_spec hS _ _) ?_
  rintro _ h3 hx rfl
  have hw : IntKind.i64.wrap (iiF l).1 = (iiF l).1 := i64_in _ oM
  by_cases hq : ((iiF l).2.1 : Int) = sizeI (iiF l).1
  ·by_cases hr : (iiF l).2.1 = l.length
   ·rw [er ((iiF l).1, 0) h0 (by rw [if_pos ⟨h1, h2, hq, hr⟩])]
    have hr' : ((iiF l).2.1 : Int) = l.length := oM
    have hq2 : sizeI (iiF l).1 = (l.length : Int) := oM
    refine ww1 (cj h1 <| cj h2 <| cj a1 <| cj hw <| cj hr <| cj hr' hq2) ?_
    exact hx
   ·rw [er (0, 5) h0 (by rw [if_neg (fun q => hr q.2.2.2)])]
    have hr' : ¬ ((iiF l).2.1 : Int) = l.length := oM
    have hq2 := hq.symm
    refine ww1 (cj h1 <| cj h2 <| cj a1 <| cj hw <| cj hq2 <| cj hr hr') ?_
    exact hx
  ·rw [er (0, 5) h0 (by rw [if_neg (fun q => hq q.2.2.1)])]
   refine ww1 (cj h1 <| cj h2 <| cj a1 <| cj hw hq) ?_
   exact hx
 ·rw [e0 h0]
  refine ww1 h0 ?_
  exact Ext.refl _
end
noncomputable section
def txc (R : Rd) : List Nat × Rd := @ite _ (R.e = 0) (Classical.propDecidable _) (@ite _ ((txF R.bs).2.2 = 0) (Classical.propDecidable _) (@ite _ (255 < (txF R.bs).1.length) (Classical.propDecidable _) ([], ⟨R.bs, 5⟩) ((txF R.bs).1, ⟨R.bs.drop (txF R.bs).2.1, 0⟩)) ([], ⟨R.bs, (txF R.bs).2.2⟩)) ([], R)
theorem txc_len (R : Rd) : (txc R).2.bs.length ≤ R.bs.length := by
 unfold txc
 repeat' split
 all_goals first | exact Nat.le_refl _ | (show (R.bs.drop _).length ≤ _; rw [List.length_drop]; omega)
variable {S : Set0} (hS : StdR S)
include hS
theorem cmust_spec {n0 r : Nat} {R : Rd} {h : H} (a : RdS 5 273 n0 r R h) (p : Prop) : callW S.cfg (· = r) 182 [.ptr r 0, bo p] h fun v h' => RdR 273 n0 r (R.bad (¬ p)) h h' := by
 refine inn Tryz.func182 (hS.ownR _ dC) rfl rfl ?_
 have a' := a
 obtain ⟨⟨v, g, hb, ho⟩, hl⟩ := a
 by_cases he : R.e = 0
 ·have he' := eq_true he
  by_cases hp : p
  ·rw [show R.bad (¬ p) = R from Rd.bad_no (fun q => q.2 hp)]
   refine ww1 (cj @Tryz.f182.eq_1 <| cj g <| cj he' hp) ?_
   exact ⟨a', But.refl r h⟩
  ·rw [show R.bad (¬ p) = ⟨R.bs, 5⟩ from Rd.bad_yes ⟨he, hp⟩]
   refine ww1 (cj @Tryz.f182.eq_1 <| cj g <| cj he' hp) ?_
   exact ⟨RdS.put (R := ⟨R.bs, 5⟩) hb ho hl, (But.refl r h).put _⟩
 ·rw [show R.bad (¬ p) = R from Rd.bad_no (fun q => he q.1)]
  refine ww1 (cj @Tryz.f182.eq_1 <| cj g he) ?_
  exact ⟨a', But.refl r h⟩
theorem cfix_spec {n0 r : Nat} {R : Rd} {h : H} (a : RdS 5 273 n0 r R h) (hl : R.bs.length < 2 ^ 28) (n : Nat) (hn : 1 ≤ n ∧ n ≤ 8) : callW S.cfg (· = r) 184 [.ptr r 0, .int .i64 n] h fun v h' => v = .int .u64 (R.fix n).1 ∧ RdR 273 n0 r (R.fix n).2 h h' := by
 refine inn Tryz.func184 (hS.ownR _ dC) rfl rfl ?_
 have a' := a
 obtain ⟨⟨v, g, hb, ho⟩, hlt⟩ := a
 obtain ⟨c1, c2⟩ := hb.cell
 unfold Rd.fix
 by_cases he : R.e ≠ 0
 ·have he' : ¬ R.e = 0 := he
  rw [if_pos he]
  refine ww1 (cj @Tryz.f184.eq_1 <| cj g he') ?_
  exact ⟨a', But.refl r h⟩
 have he0 := Classical.not_not.1 he
 have he' := eq_true he0
 rw [if_neg he]
 refine ww1 (cj @Tryz.f184.eq_1 <| cj g he') ?_
 refine callF_exact (rfx_spec hS.toStdB hb oM n hn) ?_
 by_cases h5 : R.bs.length < n
 ·rw [if_pos h5, if_pos h5, if_pos h5]
  refine ww1 (cj g n40) ?_
  exact ⟨RdS.put (R := ⟨R.bs, 4⟩) hb ho hlt, (But.refl r h).put _⟩
 ·rw [if_neg h5, if_neg h5, if_neg h5]
  refine ww1 g ?_
  refine drop_bs (i := n) hb ubs szb (by exact wv0) (by exact wv0) oM fun w L hw ho2 _ => ?_
  obtain ⟨d1, d2⟩ := hw.cell
  refine ww1 (cj g <| cj d1 <| cj d2 he0) ?_
  exact ⟨RdS.put (R := ⟨R.bs.drop n, 0⟩) hw (fun k hk => ho2 k (ho k hk)) hlt, (But.refl r h).put _⟩
theorem ctxt_spec {n0 r : Nat} {R : Rd} {h : H} (a : RdS 5 273 n0 r R h) (hl : R.bs.length < 2 ^ 28) : callW S.cfg (· = r) 183 [.ptr r 0] h fun v h' => v = .str (txc R).1 ∧ RdR 273 n0 r (txc R).2 h h' := by
 refine inn Tryz.func183 (hS.ownR _ dC) rfl rfl ?_
 have a' := a
 obtain ⟨⟨v, g, hb, ho⟩, hlt⟩ := a
 obtain ⟨c1, c2⟩ := hb.cell
 unfold txc
 by_cases he : R.e ≠ 0
 ·have he' : ¬ R.e = 0 := he
  rw [if_neg he]
  refine ww1 (cj @Tryz.f183.eq_1 <| cj g he') ?_
  exact ⟨a', But.refl r h⟩
 have he0 := Classical.not_not.1 he
 have he' := eq_true he0
 have hi := txF_ok hb.1
 rw [if_pos he0]
 refine ww1 (cj @Tryz.f183.eq_1 <| cj g he') ?_
 refine callF_exact (rtx_spec hS.toStdB hb oM) ?_
 by_cases h5 : (txF R.bs).2.2 = 0
 ·have h5' := eq_true h5
  rw [if_pos h5]
  by_cases h6 : 255 < (txF R.bs).1.length
  ·have h6' : (255 : Int) < (txF R.bs).1.length := oM
   rw [if_pos h6]
   refine ww1 (cj g <| cj h5' <| cj h6 <| cj h6' n50) ?_
   exact ⟨RdS.put (R := ⟨R.bs, 5⟩) hb ho hlt, (But.refl r h).put _⟩
  ·have h6' : ¬ (255 : Int) < (txF R.bs).1.length := oM
   rw [if_neg h6]
   refine ww1 (cj g <| cj h5' <| cj h6 h6') ?_
   refine drop_bs (i := (txF R.bs).2.1) hb ubs szb (by exact wv0) (by exact wv0) hi.1 fun w L hw ho2 _ => ?_
   obtain ⟨d1, d2⟩ := hw.cell
   refine ww1 (cj g <| cj d1 <| cj d2 he0) ?_
   exact ⟨RdS.put (R := ⟨R.bs.drop (txF R.bs).2.1, 0⟩) hw (fun k hk => ho2 k (ho k hk)) hlt, (But.refl r h).put _⟩
 ·rw [if_neg h5]
  refine ww1 (cj g h5) ?_
  exact ⟨RdS.put (R := ⟨R.bs, (txF R.bs).2.2⟩) hb ho hlt, (But.refl r h).put _⟩
end
noncomputable section
theorem l05 : ((0 : Nat) < 5) = True := dC
theorem l15 : ((1 : Nat) < 5) = True := dC
theorem l25 : ((2 : Nat) < 5) = True := dC
theorem l35 : ((3 : Nat) < 5) = True := dC
theorem l45 : ((4 : Nat) < 5) = True := dC
theorem l55 : ((5 : Nat) < 5) = False := dC
structure CO where
 s0 : List Nat
 s1 : List Nat
 s2 : List Nat
 s3 : List Nat
 s4 : List Nat
 c : Int
 l : Int
 t : Int
 f : Int
 d : Int
def CO.cells (x : CO) : List V := [.str x.s0, .str x.s1, .str x.s2, .str x.s3, .str x.s4, .int .u16 x.c, .int .u32 x.l, .int .u8 x.t, .int .u16 x.f, .int .u8 x.d]
def CO.zero : CO := ⟨[], [], [], [], [], 0, 0, 0, 0, 0⟩
def CO.Ok (x : CO) : Prop := 0 ≤ x.t ∧ x.t < 256
def CO.set (x : CO) (i : Nat) (t : List Nat) : CO := match i with
 | 0 => { x with s0 := t }
 | 1 => { x with s1 := t }
 | 2 => { x with s2 := t }
 | 3 => { x with s3 := t }
 | _ => { x with s4 := t }
def colS (R : Rd) : Nat → CO × Rd
 | 0 => (CO.zero, R)
 | i + 1 => ((colS R i).1.set i (txc (colS R i).2).1, (txc (colS R i).2).2)
def colL (x : CO) (R : Rd) : CO × Int := @ite _ (R.e = 0) (Classical.propDecidable _) (x, 0) (CO.zero, R.e)
def colK (x : CO) (R : Rd) : CO × Int := colL x (R.bad (¬ R.bs.length = 0))
def colJ (x : CO) (F : Int × Rd) : CO × Int := colK x (F.2.bad (¬ F.1 = 0))
def colI (x : CO) (F : Int × Rd) : CO × Int := colJ { x with d := IntKind.u8.wrap F.1 } (F.2.fix 2)
def colH (x : CO) (F : Int × Rd) : CO × Int := colI { x with f := IntKind.u16.wrap F.1 } (F.2.fix 1)
def colG (x : CO) (F : Int × Rd) : CO × Int := colH { x with t := IntKind.u8.wrap F.1 } ((F.2.bad (¬ knownP (IntKind.u8.wrap F.1))).fix 2)
def colE (x : CO) (F : Int × Rd) : CO × Int := colG { x with l := IntKind.u32.wrap F.1 } (F.2.fix 1)
def colD (x : CO) (F : Int × Rd) : CO × Int := colE { x with c := IntKind.u16.wrap F.1 } (F.2.fix 4)
def colC (x : CO) (F : Int × Rd) : CO × Int := colD x ((F.2.bad (¬ F.1 = 12)).fix 2)
def colB (x : CO × Rd) : CO × Int := colC x.1 (x.2.fix 1)
def colA (T : List Nat × Rd) : CO × Int := colB (colS (T.2.bad (¬ T.1 = [100, 101, 102])) 5)
def colF (l : List Nat) : CO × Int := colA (txc ⟨l, 0⟩)
theorem colL_ok {x : CO} (h : x.Ok) (R : Rd) : (colL x R).1.Ok := by
 unfold colL
 split
 ·exact h
 ·exact ⟨Int.le_refl 0, (by decide : (0 : Int) < 256)⟩
theorem colF_ok (l : List Nat) : (colF l).1.Ok := by
 unfold colF colA colB colC colD colE colG colH colI colJ colK
 refine colL_ok ?_ _
 exact u8_wrap_in _
structure CS (h0 : H) (o : Nat) (h : H) (x : CO) (R : Rd) : Prop where
 rd : RdS 5 273 h0.nx (h0.nx + 1) R h
 len : R.bs.length < 2 ^ 28
 ext : Ext h0 h
 z : h.get h0.nx = some (.cells CO.zero.cells 112 false)
 ob : h.get o = some (.cells x.cells 112 false)
 lt : h0.nx + 1 < o ∧ o < h.nx
theorem CS.call {h0 : H} {o : Nat} {h h' : H} {x : CO} {R R' : Rd} (a : CS h0 o h x R) (hl : R'.bs.length ≤ R.bs.length) (b : RdR 273 h0.nx (h0.nx + 1) R' h h') : CS h0 o h' x R' := by
 obtain ⟨hr, hb⟩ := b
 have l1 := a.lt
 have n2 := hb.1
 exact ⟨hr, Nat.lt_of_le_of_lt hl a.len, But.ext a.ext hb oM, by rw [hb.2 _ oM oM]; exact a.z, by rw [hb.2 _ oM oM]; exact a.ob, by omega, by omega⟩
theorem CS.put {h0 : H} {o : Nat} {h : H} {x : CO} {R : Rd} (a : CS h0 o h x R) (y : CO) : CS h0 o (h.put o (.cells y.cells 112 false)) y R := by
 have l1 := a.lt
 exact ⟨a.rd.keep (Nat.le_refl _) (put_ne oM) fun k hk => put_ne oM, a.len, a.ext.put oM _, by rw [put_ne oM]; exact a.z, put_eq rfl, l1⟩
theorem CS.ext2 {h0 : H} {o : Nat} {h h' : H} {x : CO} {R : Rd} (a : CS h0 o h x R) (hx : Ext h h') : CS h0 o h' x R := by
 have l1 := a.lt
 exact ⟨a.rd.ext hx, a.len, a.ext.trans hx, by rw [hx.2 _ oM]; exact a.z, by rw [hx.2 _ oM]; exact a.ob, l1.1, Nat.lt_of_lt_of_le l1.2 hx.1⟩
variable {S : Set0} (hS : StdR S)
include hS
theorem colread_spec {v : V} {l : List Nat} {h : H} (a : BS 5 h v l) (hl : l.length < 2 ^ 28) : Pure S.cfg 160 [v] h fun w _ => w = .tuple [.agg (colF l).1.cells, .int .i64 (colF l).2] := by
 refine inn Tryz.func160 (hS.ownR _ dC) rfl rfl ?_
 obtain ⟨c1, c2⟩ := a.cell
 refine ww1 (cj @Tryz.f160.eq_1 <| cj c1 c2) ?_
 generalize hhA : H.push (H.push h _) _ = hA
 have hxA : Ext h hA := by rw [← hhA]; exact ((Ext.refl h).push _).push _
 have hnA : hA.nx = h.nx + 2 := by rw [← hhA]; rfl
 have gR : hA.get (h.nx + 1) = some (.cells [v, .int .i64 0] 273 false) := by rw [← hhA]; exact push_eq rfl
 have gZ : hA.get h.nx = some (.cells CO.zero.cells 112 false) := by rw [← hhA, push_ne (by simp only [push_nx]; omega)]; exact push_eq rfl
 clear hhA
 have a2 : RdS 5 273 h.nx (h.nx + 1) ⟨l, 0⟩ hA := ⟨⟨v, gR, a.ext hxA, fun k hk => a.off hk⟩, by omega, by omega⟩
 have okf : ∀ k, k = h.nx + 1 → fresh h.nx nil1 k := fun k hk => by rw [fresh_def]; exact .inl oM
 refine callF_of (ctxt_spec hS a2 (by show l.length < _; omega)) okf ?_
 have hF : colF l = colA (txc ⟨l, 0⟩) := rfl
 rw [hF]
 clear hF
 have l1 : (txc ⟨l, 0⟩).2.bs.length ≤ l.length := txc_len _
 rintro _ h1 ⟨rfl, r1, b1⟩
 generalize txc ⟨l, 0⟩ = T at *
 obtain ⟨T1, T2⟩ := T
 simp only at r1 l1
 refine ww0 ?_
 refine callF_of (cmust_spec hS r1 _) okf ?_
 rintro _ h2 ⟨r2, b2⟩
 have n1 := b1.1
 have n2 := b2.1
 have b12 := b1.trans b2
 unfold colA
 have l2 : (T2.bad (¬ T1 = [100, 101, 102])).bs.length ≤ T2.bs.length := by rw [Rd.bad_bs]; exact Nat.le_refl _
 generalize T2.bad (¬ T1 = [100, 101, 102]) = R2 at *
 refine ww0 ?_
 generalize hhC : H.push (H.push h2 _) _ = hC
 have hxC : Ext h2 hC := by rw [← hhC]; exact ((Ext.refl h2).push _).push _
 have hnC : hC.nx = h2.nx + 2 := by rw [← hhC]; rfl
 have gO : hC.get h2.nx = some (.cells CO.zero.cells 112 false) := by rw [← hhC, push_ne (by simp only [push_nx]; omega)]; exact push_eq rfl
 have gP : hC.get (h2.nx + 1) = some (.cells [.ptr h2.nx 0, .ptr h2.nx 1, .ptr h2.nx 2, .ptr h2.nx 3, .ptr h2.nx 4] 275 false) := by rw [← hhC]; exact push_eq rfl
 clear hhC
 have C0 : CS h h2.nx hC CO.zero R2 := ⟨r2.ext hxC, by omega, (But.ext hxA b12 oM).trans hxC, by rw [hxC.2 _ oM, b12.2 _ oM oM]; exact gZ, gO, by omega, by omega⟩
 refine run_loop (fun k env h' => ∃ i : Nat, k = 5 - i ∧ i ≤ 5 ∧ env 2 = .ptr h.nx 0 ∧ env 4 = .ptr (h.nx + 1) 0 ∧ env 5 = .ptr h2.nx 0 ∧ env 21 = .slice (h2.nx + 1) 0 5 5 ∧ env 22 = .int .i64 5 ∧ env 23 = .int .i64 i ∧ h'.get (h2.nx + 1) = some (.cells [.ptr h2.nx 0, .ptr h2.nx 1, .ptr h2.nx 2, .ptr h2.nx 3, .ptr h2.nx 4] 275 false) ∧ h2.nx + 2 ≤ h'.nx ∧ CS h h2.nx h' (colS R2 i).1 (colS R2 i).2) 5 ⟨0, ?_⟩ ?_
 ·refine ww0 ?_
  exact ⟨gP, by omega, C0⟩
 rintro k env h' ⟨i, rfl, hi, e2, e4, e5, e21, e22, e23, gP', hn', C⟩
 by_cases hin : i < 5
 ·have hin' : (i : Int) < 5 := oM
  have hsucc : colS R2 (i + 1) = ((colS R2 i).1.set i (txc (colS R2 i).2).1, (txc (colS R2 i).2).2) := rfl
  have C' := C
  rcases (by omega : i = 0 ∨ i = 1 ∨ i = 2 ∨ i = 3 ∨ i = 4) with rfl | rfl | rfl | rfl | rfl
  all_goals
   refine ww1 (cj e2 <| cj e4 <| cj e5 <| cj e21 <| cj e22 <| cj e23 <| cj gP' <| cj l05 <| cj l15 <| cj l25 <| cj l35 <| cj l45 l55) ?_
   refine callF_of (ctxt_spec hS C.rd C.len) okf ?_
   rintro _ h3 ⟨rfl, cr⟩
   have C3 := C.call (txc_len _) cr
   have g3 := C3.ob
   unfold CO.cells at g3
   have gP3 : h3.get (h2.nx + 1) = some (.cells [.ptr h2.nx 0, .ptr h2.nx 1, .ptr h2.nx 2, .ptr h2.nx 3, .ptr h2.nx 4] 275 false) := by
    obtain ⟨_, b⟩ := cr
    rw [b.2 _ oM oM]; exact gP'
   have hn3 : h2.nx + 2 ≤ h3.nx := by
    obtain ⟨_, b⟩ := cr
    have := b.1
    omega
   have l3 := C3.lt
   simp +contextual (disch := first | exact dd | fail) only [wpy, fW, Int.reduceLE, Int.reduceLT, Nat.reduceLeDiff, UInt8.reduceToNat, ↓reduceIte, Nat.reduceEqDiff, Nat.reduceAdd, reduceCtorEq, Int.reduceToNat, e2, e4, e5, e21, e22, e23, g3]
  ·exact ⟨.inr oM, 5 - 1, by omega, 1, rfl, by omega, rfl, gP3, hn3, C3.put (colS R2 1).1⟩
  ·exact ⟨.inr oM, 5 - 2, by omega, 2, rfl, by omega, rfl, gP3, hn3, C3.put (colS R2 2).1⟩
  ·exact ⟨.inr oM, 5 - 3, by omega, 3, rfl, by omega, rfl, gP3, hn3, C3.put (colS R2 3).1⟩
  ·exact ⟨.inr oM, 5 - 4, by omega, 4, rfl, by omega, rfl, gP3, hn3, C3.put (colS R2 4).1⟩
  ·exact ⟨.inr oM, 5 - 5, by omega, 5, rfl, by omega, rfl, gP3, hn3, C3.put (colS R2 5).1⟩
 ·obtain rfl : i = 5 := oM
  refine ww1 (cj e2 <| cj e4 <| cj e5 <| cj e21 <| cj e22 <| cj e23 <| cj l05 <| cj l15 <| cj l25 <| cj l35 <| cj l45 l55) ?_
  clear C0 gO gP hxC hnC gP'
  generalize colS R2 5 = X at *
  obtain ⟨x, R⟩ := X
  simp only at C
  unfold colB
  refine callF_of (cfix_spec hS C.rd C.len 1 oM) okf ?_
  have lf := Rd.fix_len R 1
  rintro _ h3 ⟨rfl, cr⟩
  have C := C.call lf cr
  generalize R.fix 1 = F at *
  obtain ⟨F1, F2⟩ := F
  simp only at C cr
  refine ww1 (cj e2 <| cj e4 e5) ?_
  refine callF_of (cmust_spec hS C.rd _) okf ?_
  rintro _ h4 cr
  have C := C.call (by rw [Rd.bad_bs]; exact Nat.le_refl _) cr
  unfold colC
  simp only
  generalize F2.bad (¬ F1 = 12) = R3 at *
  refine ww1 (cj e2 <| cj e4 e5) ?_
  refine callF_of (cfix_spec hS C.rd C.len 2 oM) okf ?_
  have lf := Rd.fix_len R3 2
  rintro _ h5 ⟨rfl, cr⟩
  have C := C.call lf cr
  generalize R3.fix 2 = G at *
  obtain ⟨y, R4⟩ := G
  simp only at C cr
  have l3 := C.lt
  have g3 := C.ob
  unfold CO.cells at g3
  refine ww1 (cj e2 <| cj e4 <| cj e5 g3) ?_
  have C := C.put { x with c := IntKind.u16.wrap y }
  unfold colD
  refine ⟨.inr oM, callF_of (cfix_spec hS C.rd C.len 4 oM) okf ?_⟩
  have lf := Rd.fix_len R4 4
  rintro _ h6 ⟨rfl, cr⟩
  have C := C.call lf cr
  simp only
  generalize R4.fix 4 = G at *
  obtain ⟨y1, R5⟩ := G
  simp only at C cr
  have l3 := C.lt
  have g3 := C.ob
  unfold CO.cells at g3
  refine ww1 (cj e2 <| cj e4 <| cj e5 g3) ?_
  have C := C.put { x with c := IntKind.u16.wrap y, l := IntKind.u32.wrap y1 }
  unfold colE
  refine ⟨.inr oM, callF_of (cfix_spec hS C.rd C.len 1 oM) okf ?_⟩
  have lf := Rd.fix_len R5 1
  rintro _ h7 ⟨rfl, cr⟩
  have C := C.call lf cr
  simp only
  generalize R5.fix 1 = G at *
  obtain ⟨y2, R6⟩ := G
  simp only at C cr
  have l3 := C.lt
  have g3 := C.ob
  unfold CO.cells at g3
  refine ww1 (cj e2 <| cj e4 <| cj e5 g3) ?_
  have C := C.put { x with c := IntKind.u16.wrap y, l := IntKind.u32.wrap y1, t := IntKind.u8.wrap y2 }
  have hu := u8_wrap_in y2
  refine ⟨.inr oM, callF_pure (known_spec hS _ hu _) ?_⟩
  rintro _ h8 hx8 rfl
  have C := C.ext2 hx8
  refine ww1 (cj e2 <| cj e4 e5) ?_
  refine callF_of (cmust_spec hS C.rd _) okf ?_
  rintro _ h9 cr
  have C := C.call (by rw [Rd.bad_bs]; exact Nat.le_refl _) cr
  unfold colG
  simp only
  generalize R6.bad (¬ knownP (IntKind.u8.wrap y2)) = R7 at *
  refine ww1 (cj e2 <| cj e4 e5) ?_
  refine callF_of (cfix_spec hS C.rd C.len 2 oM) okf ?_
  have lf := Rd.fix_len R7 2
  rintro _ h10 ⟨rfl, cr⟩
  have C := C.call lf cr
  generalize R7.fix 2 = G at *
  obtain ⟨y3, R8⟩ := G
  simp only at C cr
  have l3 := C.lt
  have g3 := C.ob
  unfold CO.cells at g3
  refine ww1 (cj e2 <| cj e4 <| cj e5 g3) ?_
  have C := C.put { x with c := IntKind.u16.wrap y, l := IntKind.u32.wrap y1, t := IntKind.u8.wrap y2, f := IntKind.u16.wrap y3 }
  unfold colH
  refine ⟨.inr oM, callF_of (cfix_spec hS C.rd C.len 1 oM) okf ?_⟩
  have lf := Rd.fix_len R8 1
  rintro _ h11 ⟨rfl, cr⟩
  have C := C.call lf cr
  simp only
  generalize R8.fix 1 = G at *
  obtain ⟨y4, R9⟩ := G
  simp only at C cr
  have l3 := C.lt
  have g3 := C.ob
  unfold CO.cells at g3
  refine ww1 (cj e2 <| cj e4 <| cj e5 g3) ?_
  have C := C.put { x with c := IntKind.u16.wrap y, l := IntKind.u32.wrap y1, t := IntKind.u8.wrap y2, f := IntKind.u16.wrap y3, d := IntKind.u8.wrap y4 }
  unfold colI
  refine ⟨.inr oM, callF_of (cfix_spec hS C.rd C.len 2 oM) okf ?_⟩
  have lf := Rd.fix_len R9 2
  rintro _ h12 ⟨rfl, cr⟩
  have C := C.call lf cr
  simp only
  generalize R9.fix 2 = G at *
  obtain ⟨y5, R10⟩ := G
  simp only at C cr
  refine ww1 (cj e2 <| cj e4 e5) ?_
  refine callF_of (cmust_spec hS C.rd _) okf ?_
  rintro _ h13 cr
  have C := C.call (by rw [Rd.bad_bs]; exact Nat.le_refl _) cr
  unfold colJ
  simp only
  generalize R10.bad (¬ y5 = 0) = R11 at *
  have hr' := C.rd
  obtain ⟨⟨v3, g13, hb, ho⟩, hlt⟩ := C.rd
  have a13 := hb.len 5
  refine ww1 (cj e2 <| cj e4 <| cj e5 <| cj g13 a13) ?_
  refine callF_of (cmust_spec hS hr' _) okf ?_
  rintro _ h14 cr
  have C := C.call (by rw [Rd.bad_bs]; exact Nat.le_refl _) cr
  unfold colK
  generalize R11.bad (¬ R11.bs.length = 0) = R12 at *
  obtain ⟨⟨v4, g14, hb, ho⟩, hlt⟩ := C.rd
  have z14 := C.z
  have o14 := C.ob
  unfold CO.cells at z14 o14
  unfold CO.zero at z14
  have q : ¬ h.nx = h.nx + 1 := oM
  have q' : ¬ h.nx + 1 = h.nx := oM
  unfold colL
  by_cases he : R12.e = 0
  ·rw [if_pos he]
   have he' := eq_true he
   refine ww1 (cj e2 <| cj e4 <| cj e5 <| cj g14 <| cj z14 <| cj o14 he') ?_
   exact ⟨C.ext.put (Nat.le_refl _) _, rfl⟩
  ·rw [if_neg he]
   refine ww1 (cj e2 <| cj e4 <| cj e5 <| cj g14 <| cj z14 <| cj o14 he) ?_
   refine draw_by [(4, 5)] kR ?_
   refine ww1 (cj e2 <| cj e4 <| cj e5 <| cj g14 <| cj z14 <| cj o14 <| cj he <| cj q q') ?_
   refine ⟨fun p hp => ?_, C.ext.put (Nat.le_refl _) _, rfl⟩
   rw [List.mem_singleton.1 hp]
   exact pair_one rfl rfl (apart_blk fun x hx y hy => by
    rw [List.mem_singleton.1 hx, List.mem_singleton.1 hy]
    show h.nx + 1 ≠ h.nx
    omega)
end
noncomputable section
theorem or_nat (a b : Nat) (ha : a < 256) (hb : b < 256) : iOr .u64 (a : Int) ((b : Int) * 256) = (a : Int) + (b : Int) * 256 := by
 unfold iOr
 rw [BitVec.toNat_or, BitVec.toNat_ofInt, BitVec.toNat_ofInt]
 have e : (((2 : Nat) ^ IntKind.u64.bits : Nat) : Int) = 18446744073709551616 := rfl
 rw [e]
 have e1 : ((a : Int) % 18446744073709551616).toNat = a := oM
 have e2 : ((b : Int) * 256 % 18446744073709551616).toNat = b <<< 8 := by rw [Nat.shiftLeft_eq]; omega
 rw [e1, e2, Nat.or_comm, ← Nat.shiftLeft_add_eq_or_of_lt (by omega : a < 2 ^ 8), Nat.shiftLeft_eq, IntKind.wrap_u64]
 omega
theorem rdX_two {l : List Nat} (h : ∀ x ∈ l, x < 256) : rdX l 2 = byI l 0 + byI l 1 * 256 := by
 have h0 := byI_in h 0
 have h1 := byI_in h 1
 show iOr .u64 (rdX l 1) (iShl .u64 (byI l 1) (8 * ((1 : Nat) : Int))) = _
 rw [rdX_one h]
 have e : iShl .u64 (byI l 1) (8 * ((1 : Nat) : Int)) = byI l 1 * 256 := by
  unfold iShl
  have : (2 : Int) ^ (min (8 * ((1 : Nat) : Int)).toNat IntKind.u64.bits) = 256 := rfl
  rw [this, IntKind.wrap_u64]
  omega
 rw [e]
 unfold byI at h0 h1 ⊢
 exact or_nat _ _ oM oM
def lastF (l : List Nat) (c : Int) : Int := @ite _ (l.length = 0) (Classical.propDecidable _) 0 (@ite _ (byI l 0 = 255) (Classical.propDecidable _) 2 (@ite _ (byI l 0 = 254) (Classical.propDecidable _) (@ite _ (hasP c 16777216) (Classical.propDecidable _) (@ite _ (l.length < 16777215) (Classical.propDecidable _) 1 0) (@ite _ (l.length = 5) (Classical.propDecidable _) 3 0)) 0))
theorem lastF_err {l t : List Nat} {c : Int} (h : l = 255 :: t) : lastF l c = 2 := by
 subst h
 unfold lastF
 rw [if_neg (by simp), if_pos (show byI (255 :: t) 0 = 255 from rfl)]
def fileE (l : List Nat) : Int := @ite _ ((mustF ⟨l, 0⟩ [251]).e = 0) (Classical.propDecidable _) (@ite _ ((mustF ⟨l, 0⟩ [251]).bs.length = 0) (Classical.propDecidable _) 4 0) (mustF ⟨l, 0⟩ [251]).e
variable {S : Set0} (hS : StdR S)
include hS
theorem last_spec {v : V} {l : List Nat} {h : H} (a : BS 5 h v l) (c : Int) : Exact S.cfg 87 [v, .int .u32 c] h (.int .i64 (lastF l c)) := by
 refine inn Tryz.func87 (hS.ownG _ dC) rfl rfl ?_
 have a1 := a.len 5
 unfold lastF
 by_cases h0 : l.length = 0
 ·rw [if_pos h0]
  exact wv1 (cj @Tryz.f87.eq_1 <| cj a1 h0)
 rw [if_neg h0]
 obtain ⟨b, o, m, rfl, _, _⟩ := a.at (i := 0) oM
 obtain ⟨_, hb, hrd⟩ := a.rd
 have hr := hrd 0 oM
 rw [Nat.add_zero] at hr
 have hl0 : 0 < l.length := oM
 by_cases h2 : byI l 0 = 255
 ·rw [if_pos h2]
  have h2 := eq_true h2
  exact wv1 (cj @Tryz.f87.eq_1 <| cj a1 <| cj h0 <| cj hl0 <| cj hr h2)
 rw [if_neg h2]
 by_cases h3 : byI l 0 = 254
 case neg =>
  rw [if_neg h3]
  exact wv1 (cj @Tryz.f87.eq_1 <| cj a1 <| cj h0 <| cj hl0 <| cj hr <| cj h2 h3)
 rw [if_pos h3]
 have h3' := eq_true h3
 refine ww1 (cj @Tryz.f87.eq_1 <| cj a1 <| cj h0 <| cj hl0 <| cj hr <| cj h2 h3') ?_
 refine callF_exact (has_spec hS.toStdB c 16777216 _) ?_
 by_cases h4 : hasP c 16777216
 ·rw [if_pos h4]
  by_cases h5 : l.length < 16777215
  ·rw [if_pos h5]
   have h5' : (l.length : Int) < 16777215 := oM
   exact wv1 (cj a1 <| cj h4 <| cj h5 h5')
  ·rw [if_neg h5]
   have h5' : ¬ (l.length : Int) < 16777215 := oM
   exact wv1 (cj a1 <| cj h4 <| cj h5 h5')
 ·rw [if_neg h4]
  by_cases h5 : l.length = 5
  ·rw [if_pos h5]
   exact wv1 (cj a1 <| cj h4 h5)
  ·rw [if_neg h5]
   have h5' : ¬ (l.length : Int) = 5 := oM
   exact wv1 (cj a1 <| cj h4 <| cj h5 h5')
theorem readfile_spec {v : V} {l : List Nat} {h : H} (a : BS 5 h v l) (hl : l.length < 2 ^ 28) : Pure S.cfg 81 [v] h fun w _ => ∃ t, w = .tuple [.str t, .int .i64 (fileE l)] := by
 refine inn Tryz.func81 (hS.ownG _ dC) rfl rfl ?_
 obtain ⟨c1, c2⟩ := a.cell
 refine ww1 (cj @Tryz.f81.eq_1 <| cj c1 c2) ?_
 generalize hhA : H.push h _ = hA
 have hxA : Ext h hA := by rw [← hhA]; exact (Ext.refl h).push _
 have hnA : hA.nx = h.nx + 1 := by rw [← hhA]; rfl
 have gR : hA.get h.nx = some (.cells [v, .int .i64 0] 208 false) := by rw [← hhA]; exact push_eq rfl
 clear hhA
 have a2 : RdS 5 208 h.nx h.nx ⟨l, 0⟩ hA := ⟨⟨v, gR, a.ext hxA, fun k hk => a.off hk⟩, by omega, by omega⟩
 have okf : ∀ k, k = h.nx → fresh h.nx nil1 k := fun k hk => by rw [fresh_def]; exact .inl oM
 have al := bs_one (h := hA) 251 (h.nx + 1) oM dC
 refine callF_of (must_spec hS.toStdB (a2.ext ((Ext.refl hA).push _)) (by show l.length < _; omega) al (fun o n m q => by injection q; omega)) okf ?_
 rintro w1 h1 r1
 have r1 : RdR 208 h.nx h.nx (mustF ⟨l, 0⟩ [251]) hA h1 := ⟨r1.1, (But.of_ext ((Ext.refl hA).push _)).trans r1.2⟩
 unfold fileE
 generalize mustF ⟨l, 0⟩ [251] = R2 at *
 have hx1 : Ext h h1 := But.ext hxA r1.2 oM
 obtain ⟨⟨v1, g1, hb1, ho1⟩, hlt1⟩ := r1.1
 have a1 := hb1.len 5
 obtain ⟨L2, _, hc⟩ := hb1.str
 by_cases he : R2.e = 0
 ·have he' := eq_true he
  rw [if_pos he]
  by_cases h0 : R2.bs.length = 0
  ·rw [if_pos h0]
   refine ww1 (cj g1 <| cj he' <| cj h0 <| cj a1 n40) ?_
   refine draw_by [] kR ?_
   refine ww1 (cj g1 <| cj he' <| cj h0 <| cj a1 n40) ?_
   exact ⟨fun p hp => (by cases hp), hx1.put (Nat.le_refl _) _, _, rfl⟩
  ·rw [if_neg h0]
   refine ww1 (cj g1 <| cj he' <| cj h0 <| cj a1 hc) ?_
   exact ⟨hx1, _, rfl⟩
 ·rw [if_neg he]
  refine ww1 (cj g1 he) ?_
  refine draw_by [] kR ?_
  refine ww1 (cj g1 he) ?_
  exact ⟨fun p hp => (by cases hp), hx1, _, rfl⟩
end
noncomputable section
theorem wr_apart {L : List LE} {k o n : Nat} (h : ∀ x ∈ L, blkOf x ≠ k) : fpApart (.lg L) (.lg [.wr k o n]) := apart_blk fun x hx y hy => by
 rw [List.mem_singleton.1 hy]
 exact h x hx
def errG (R : Rd) (c : Int) : Int × List Nat × List Nat × Int := @ite _ (R.e = 0) (Classical.propDecidable _) (@ite _ (R.bs.length < 5) (Classical.propDecidable _) (0, [], [], 4) (IntKind.u16.wrap c, R.bs.take 5, R.bs.drop 5, 0)) (0, [], [], R.e)
def errF (l : List Nat) : Int × List Nat × List Nat × Int := errG (mustF ((mustF ⟨l, 0⟩ [255]).fix 2).2 [35]) ((mustF ⟨l, 0⟩ [255]).fix 2).1
variable {S : Set0} (hS : StdR S)
include hS
theorem readerr_spec {v : V} {l : List Nat} {h : H} (a : BS 5 h v l) (hl : l.length < 2 ^ 28) : Pure S.cfg 92 [v] h fun w _ => w = .tuple [.agg [.int .u16 (errF l).1, .str (errF l).2.1, .str (errF l).2.2.1], .int .i64 (errF l).2.2.2] := by
 refine inn Tryz.func92 (hS.ownG _ dC) rfl rfl ?_
 obtain ⟨c1, c2⟩ := a.cell
 refine ww1 (cj @Tryz.f92.eq_1 <| cj c1 c2) ?_
 generalize hhA : H.push (H.push h _) _ = hA
 have hxA : Ext h hA := by rw [← hhA]; exact ((Ext.refl h).push _).push _
 have hnA : hA.nx = h.nx + 2 := by rw [← hhA]; rfl
 have gR : hA.get (h.nx + 1) = some (.cells [v, .int .i64 0] 208 false) := by rw [← hhA]; exact push_eq rfl
 have gZ : hA.get h.nx = some (.cells [.int .u16 0, .str [], .str []] 65 false) := by rw [← hhA, push_ne (by simp only [push_nx]; omega)]; exact push_eq rfl
 clear hhA
 have a2 : RdS 5 208 h.nx (h.nx + 1) ⟨l, 0⟩ hA := ⟨⟨v, gR, a.ext hxA, fun k hk => a.off hk⟩, by omega, by omega⟩
 have okf : ∀ k, k = h.nx + 1 → fresh h.nx nil1 k := fun k hk => by rw [fresh_def]; exact .inl oM
 have al := bs_one (h := hA) 255 (h.nx + 1 + 1) oM dC
 refine callF_of (must_spec hS.toStdB (a2.ext ((Ext.refl hA).push _)) (by show l.length < _; omega) al (fun o n m q => by injection q; omega)) okf ?_
 rintro w1 h1 r1
 have r1 : RdR 208 h.nx (h.nx + 1) (mustF ⟨l, 0⟩ [255]) hA h1 := ⟨r1.1, (But.of_ext ((Ext.refl hA).push _)).trans r1.2⟩
 have l2 : (mustF ⟨l, 0⟩ [255]).bs.length ≤ l.length := mustF_len _ _
 have hF : errF l = errG (mustF ((mustF ⟨l, 0⟩ [255]).fix 2).2 [35]) ((mustF ⟨l, 0⟩ [255]).fix 2).1 := rfl
 rw [hF]
 clear hF
 generalize mustF ⟨l, 0⟩ [255] = R2 at *
 refine ww0 ?_
 refine callF_of (fix_spec hS.toStdB r1.1 oM 2 oM) okf ?_
 have l3 := Rd.fix_len R2 2
 rintro _ h2 ⟨rfl, r2⟩
 have n1 := r1.2.1
 have n2 := r2.2.1
 have b2 : But (h.nx + 1) hA h2 := r1.2.trans r2.2
 refine ww0 ?_
 refine ⟨.inr oM, ?_⟩
 generalize hhC : H.put _ _ _ = hC
 have hxC : Ext h2 hC := by rw [← hhC]; exact Ext.new _ _ _
 have hnC : hC.nx = h2.nx + 1 := by rw [← hhC]; rfl
 have fC : GS 65 [.int .u16 0, .str [], .str []] h h2.nx (R2.fix 2).2 [.int .u16 (IntKind.u16.wrap (R2.fix 2).1), .str [], .str []] hC := ⟨r2.1.ext hxC, But.ext hxA (b2.trans (But.of_ext hxC)) oM, by rw [hxC.2 _ oM, b2.2 _ oM oM]; exact gZ, by rw [← hhC]; exact put_eq rfl, by omega, by omega⟩
 clear hhC
 generalize (R2.fix 2).1 = x at *
 generalize (R2.fix 2).2 = R3 at *
 have al2 := bs_one (h := hC) 35 (h2.nx + 1) oM dC
 have fD := fC.ext2 ((Ext.refl hC).push (.cells [.int .u8 (35 : Nat)] 5 false))
 refine callF_of (must_spec hS.toStdB fD.rd oM al2 (fun o n m q => by injection q; have := fC.lt; omega)) okf ?_
 have l6 := mustF_len R3 [35]
 rintro _ h5 r5
 have f5 := fD.call r5
 generalize mustF R3 [35] = R4 at *
 obtain ⟨⟨v5, g5, hb5, ho5⟩, hlt5⟩ := f5.rd
 have a5 := hb5.len 5
 have gZ5 := f5.z
 have gO5 := f5.ob
 have lt5 := f5.lt
 by_cases he : R4.e = 0
 ·have he' := eq_true he
  unfold errG
  rw [if_pos he]
  by_cases h0 : R4.bs.length < 5
  ·rw [if_pos h0]
   refine ww1 (cj g5 <| cj he' <| cj h0 <| cj a5 n40) ?_
   refine ⟨.inr oM, draw_by [(4, 5)] kR ?_⟩
   have q : ¬ h.nx = h.nx + 1 := oM
   have q' : ¬ h.nx + 1 = h.nx := oM
   refine ww1 (cj g5 <| cj he' <| cj h0 <| cj a5 <| cj n40 <| cj gZ5 <| cj q q') ?_
   refine ⟨fun p hp => ?_, (f5.ext.put oM _).put (Nat.le_refl _) _⟩
   rw [List.mem_singleton.1 hp]
   exact pair_one rfl rfl (wr_apart fun x hx => by rw [List.mem_singleton.1 hx]; show h.nx + 1 ≠ h.nx; omega)
  ·rw [if_neg h0]
   refine ww1 (cj g5 <| cj he' <| cj h0 <| cj a5 n40) ?_
   refine draw_by [(9, 13), (10, 13), (11, 13)] kR ?_
   refine ww1 (cj g5 <| cj he' <| cj h0 <| cj a5 n40) ?_
   refine take_bs (j := 5) hb5 ubs szb (by exact wv0) (by exact wv0) oM fun w1 L1 hw1 _ hL1 => ?_
   obtain ⟨L2, hL2, hc2⟩ := hw1.str
   refine ww1 (cj g5 hc2) ?_
   refine drop_bs (i := 5) hb5 ubs szb (by exact wv0) (by exact wv0) oM fun w3 L3 hw3 ho3 hL3 => ?_
   obtain ⟨L4, hL4, hc4⟩ := hw3.str
   refine ww1 (cj g5 <| cj hc4 gO5) ?_
   have ho : Off v5 h2.nx := ho5 _ oM
   refine ⟨.inr oM, .inr oM, fun p hp => ?_, ?_⟩
   ·have blk : ∀ x ∈ L3, blkOf x ≠ h2.nx := fun x hx q => by
     obtain ⟨_, o, n, m, e⟩ := hL3 x hx
     rw [q] at e
     exact ho _ _ _ e
    have blk4 : ∀ x ∈ L4, blkOf x ≠ h2.nx := fun x hx q => by
     obtain ⟨_, o, n, m, e⟩ := hL4 x hx
     rw [q] at e
     exact ho3 _ ho _ _ _ e
    simp only [List.mem_cons, List.not_mem_nil, or_false] at hp
    rcases hp with rfl | rfl | rfl
    ·exact pair_one rfl rfl (wr_apart fun x hx => by rw [List.mem_singleton.1 hx]; show h.nx + 1 ≠ h2.nx; omega)
    ·exact pair_one rfl rfl (wr_apart blk)
    ·exact pair_one rfl rfl (wr_apart blk4)
   ·have e1 : ¬ h.nx = h2.nx := oM
    refine ww1 (cj gZ5 e1) ?_
    exact ((f5.ext.put oM _).put oM _).put (Nat.le_refl _) _
 ·unfold errG
  rw [if_neg he]
  refine ww1 (cj g5 he) ?_
  refine draw_by [(4, 5)] kR ?_
  refine ww1 (cj g5 <| cj he gZ5) ?_
  refine ⟨fun p hp => ?_, f5.ext.put (Nat.le_refl _) _⟩
  rw [List.mem_singleton.1 hp]
  exact pair_one rfl rfl (wr_apart fun x hx => by rw [List.mem_singleton.1 hx]; show h.nx + 1 ≠ h.nx; omega)
end
noncomputable section
variable {S : Set0} (hS : StdR S)
include hS
omit hS in
theorem acc_of {n0 : Nat} {h : H} {v : V} {cells : List V} {e sz : Nat} (a : Lst n0 h v cells e sz) (hc : cells ≠ []) : Wx.Acc n0 h v cells e sz := by
 rcases a with q | ⟨q, _⟩
 ·exact q
 ·exact absurd q hc
end
end Go.Proofs.YtfgnpegkcmkeaaaGreatDoor.Rs
