/-
  Several texts of one walk, joined.
-/
import Derived.Test.YtinbhlejofgomaaGreatPsA
set_option linter.unusedSimpArgs false
set_option linter.unusedVariables false
set_option linter.unusedSectionVars false
set_option linter.defProp false
set_option maxRecDepth 10000
set_option maxHeartbeats 1000000
namespace Go.Proofs.YtinbhlejofgomaaGreat
open Go.Proofs Go.Lx Go.Wx Go.IntWalk
noncomputable section
def VRel (l : List Nat) (t : Int) (u : Bool) (R : Rd) : Prop := (R.e = 0 ↔ (readF l t u).2.2 = 0) ∧ (R.e = 0 → ∃ n : Nat, R.bs = l.drop n ∧ n ≤ l.length ∧ (readF l t u).2.1 = n)
structure VX (h0 : H) (r o : Nat) (R : Rd) (cs : List V) (h : H) : Prop where
 rd : RdS 5 142 h0.nx r R h
 len : R.bs.length < 2 ^ 28
 ext : Ext h0 h
 z : h.get (h0.nx + 1) = some (.cells zVL 134 false)
 ob : h.get o = some (.cells cs 134 false)
 lt : h0.nx + 1 < r ∧ r < o ∧ o < h.nx
theorem VX.call {h0 h1 h2 : H} {r o : Nat} {R R' : Rd} {cs : List V} (a : VX h0 r o R cs h1) (b : RdR 142 h0.nx r R' h1 h2) (hl : R'.bs.length ≤ R.bs.length) : VX h0 r o R' cs h2 := by
 have l1 := a.lt
 have n2 := b.2.1
 exact ⟨b.1, Nat.lt_of_le_of_lt hl a.len, But.ext a.ext b.2 (by omega), by rw [b.2.2 _ (by omega) (by omega)]; exact a.z, by rw [b.2.2 _ (by omega) (by omega)]; exact a.ob, by omega, by omega⟩
theorem VX.put {h0 h1 h2 : H} {r o : Nat} {R : Rd} {cs : List V} (a : VX h0 r o R cs h1) (cs' : List V) (e : h1.put o (.cells cs' 134 false) = h2) : VX h0 r o R cs' h2 := by
 subst e
 have l1 := a.lt
 exact ⟨a.rd.keep (Nat.le_refl _) (put_ne (by omega)) fun k hk => put_ne (by omega), a.len, a.ext.put (by omega) _, by rw [put_ne (by omega)]; exact a.z, put_eq rfl, l1⟩
theorem VX.ext2 {h0 h1 h2 : H} {r o : Nat} {R : Rd} {cs : List V} (a : VX h0 r o R cs h1) (hx : Ext h1 h2) : VX h0 r o R cs h2 := by
 have l1 := a.lt
 have n2 := hx.1
 exact ⟨a.rd.ext hx, a.len, a.ext.trans hx, by rw [hx.2 _ (by omega)]; exact a.z, by rw [hx.2 _ (by omega)]; exact a.ob, by omega, by omega⟩
theorem xsz_eq {t : Int} {u : Bool} (h1 : kindF t u ≠ -1) (h2 : kindF t u ≠ 0) (h3 : ¬ (kindF t u = 5 ∨ kindF t u = 6)) (h4 : kindF t u ≠ 7) : xszF t = (sizeF t : Int) := by
 unfold kindF at h1 h2 h3 h4
 unfold sizeF xszF
 split at h1 <;> (repeat' split at h1) <;> (repeat' split) <;> simp_all <;> omega
theorem kind_in (t : Int) (u : Bool) : kindF t u = -1 ∨ kindF t u = 0 ∨ kindF t u = 1 ∨ (kindF t u = 2 ∨ kindF t u = 3 ∨ kindF t u = 4) ∨ (kindF t u = 5 ∨ kindF t u = 6) ∨ kindF t u = 7 := by
 unfold kindF
 repeat' split
 all_goals decide
theorem km1 : ((-1 : Int) < 0) = True := by decide
theorem xwT_len (F : Int × Rd) (t : Int) : (xwT F t).2.bs.length ≤ F.2.bs.length := by
 have A : ∀ R n, (xwA R n).2.bs.length ≤ R.bs.length := fun R n => by
  unfold xwA
  show (Rd.bad _ _).bs.length ≤ _
  rw [Rd.bad_bs]
  exact Nat.le_trans (clkX_len _ _ _) (Nat.le_trans (Rd.fix_len _ _) (byt_len _))
 have B : ∀ R n, (xwB R n).2.bs.length ≤ R.bs.length := fun R n => by
  have k := Nat.le_trans (byt_len (R.fix 2).2.byt.2) (Nat.le_trans (byt_len (R.fix 2).2) (Rd.fix_len R 2))
  unfold xwB
  split
  ·exact Nat.le_trans (clkX_len _ _ _) k
  ·exact k
 unfold xwT xwT1 xwT2
 split
 ·split
  ·exact Nat.le_trans (A _ _) (by rw [Rd.bad_bs]; exact Nat.le_refl _)
  ·show (Rd.bad _ _).bs.length ≤ _; rw [Rd.bad_bs]; exact Nat.le_refl _
 ·split
  ·exact Nat.le_trans (B _ _) (by rw [Rd.bad_bs]; exact Nat.le_refl _)
  ·show (Rd.bad _ _).bs.length ≤ _; rw [Rd.bad_bs]; exact Nat.le_refl _
theorem vrel_null {l : List Nat} {t : Int} {u : Bool} (h : kindF t u = 0) : VRel l t u ⟨l, 0⟩ := by
 unfold VRel readF
 rw [if_neg (by omega), if_pos h]
 exact ⟨⟨fun _ => rfl, fun _ => rfl⟩, fun _ => ⟨0, rfl, Nat.zero_le _, rfl⟩⟩
theorem vrel_fix {l : List Nat} {t : Int} {u : Bool} (h1 : kindF t u ≠ -1) (h2 : kindF t u ≠ 0) (h3 : ¬ (kindF t u = 5 ∨ kindF t u = 6)) (h4 : kindF t u ≠ 7) : VRel l t u ((Rd.mk l 0).fix (sizeF t)).2 := by
 unfold VRel readF
 rw [if_neg h1, if_neg h2, if_neg h3, if_neg h4]
 unfold Rd.fix
 rw [if_neg (fun q => q rfl)]
 by_cases h5 : l.length < sizeF t
 ·rw [if_pos h5, if_pos h5]
  exact ⟨⟨fun q => absurd q ne4, fun q => absurd q ne4⟩, fun q => absurd q ne4⟩
 ·rw [if_neg h5, if_neg h5]
  refine ⟨⟨fun q => ?_, fun q => rfl⟩, fun q => ⟨sizeF t, rfl, by omega, ?_⟩⟩
  ·split <;> rfl
  ·split <;> rfl
theorem vrel_when {l : List Nat} {t : Int} {u : Bool} {R : Rd} (h3 : kindF t u = 5 ∨ kindF t u = 6) (w : WRel l t R) : VRel l t u R := by
 unfold VRel readF
 rw [if_neg (by omega), if_neg (by omega), if_pos h3]
 obtain ⟨w1, w2⟩ := w
 by_cases he : (whenF l t).2.2 = 0
 ·rw [if_neg (fun q => q he)]
  exact ⟨⟨fun _ => rfl, fun _ => w1.2 he⟩, fun q => ⟨_, (w2 q).1, (w2 q).2.1, (w2 q).2.2⟩⟩
 ·rw [if_pos he]
  exact ⟨w1, fun q => absurd (w1.1 q) he⟩
theorem vrel_text {l : List Nat} {t : Int} {u : Bool} (hb : ∀ x ∈ l, x < 256) (h7 : kindF t u = 7) : VRel l t u ((Rd.mk l 0).txt.2.bad (16777216 < (Rd.mk l 0).txt.1.length)) := by
 have hi := txF_ok hb
 unfold VRel readF
 rw [if_neg (by omega), if_neg (by omega), if_neg (by omega), if_pos h7]
 unfold Rd.txt
 rw [if_neg (fun q => q rfl)]
 by_cases he : (txF l).2.2 = 0
 ·rw [if_neg (fun q => q he)]
  by_cases hs : 16777216 < (txF l).1.length
  ·rw [if_pos hs, Rd.bad_yes ⟨he, hs⟩]
   exact ⟨⟨fun q => absurd q ne5, fun q => absurd q ne5⟩, fun q => absurd q ne5⟩
  ·rw [if_neg hs, Rd.bad_no (fun q => hs q.2)]
   exact ⟨⟨fun _ => rfl, fun _ => he⟩, fun q => ⟨_, rfl, hi.1, rfl⟩⟩
 ·rw [if_pos he, bad_e (show Rd.e ⟨_, (txF l).2.2⟩ ≠ 0 from he)]
  exact ⟨Iff.rfl, fun q => absurd q he⟩
theorem run_cutB {c : Cfg} {Ok : Nat → Prop} {k : List Kt} {Q : Ex → Env → H → Prop} {env : Env} {h : H} {a b : Code} {i : Nat} (R : Env → H → Prop) (h1 : run c Ok (.blk i :: .lp R :: k) a env h Q) (h2 : ∀ env' h', R env' h' → run c Ok k b env' h' Q) : run c Ok (.blk i :: .seq b :: k) a env h Q := run_cut (a := .block i a) R h1 h2
variable {S : Set0} (hS : StdX S)
include hS
theorem xvread_spec {v : V} {l : List Nat} {h : H} (a : BS 5 h v l) (hl : l.length < 2 ^ 28) (t : Int) (u : Bool) (ht : 0 ≤ t ∧ t < 256) : Pure S.cfg 152 [v, .agg [.int .u8 t, .bool u]] h fun w _ => ∃ k i b s m c4 c5 c6 c7 c8 c9 c10, ∃ n e, w = .tuple [.agg [.int .i64 k, .int .i64 i, .int .u64 b, .str s, .bool m, .int .i64 c4, .int .i64 c5, .int .i64 c6, .int .i64 c7, .int .i64 c8, .int .i64 c9, .int .i64 c10], .int .i64 n, .int .i64 e] ∧ (e = 0 ↔ (readF l t u).2.2 = 0) ∧ (e = 0 → n = (readF l t u).2.1) ∧ (e ≠ 0 → n = 0) := by
 refine into Tryz.f152 _ Tryz.func152 (hS.ownX _ (by decide)) rfl rfl (by kernel_rfl) (by kernel_rfl) ?_
 refine ww1 @Tryz.f152.eq_1 ?_
 refine callF_pure (xkind_spec hS t u ht _) ?_
 rintro _ h1 hx rfl
 have n1 := hx.1
 have g0 : h1.get h.nx = some (.cells [.int .u8 t, .bool u] 108 false) := by rw [hx.2 _ (by simp only [push_nx]; omega), push_ne (by simp only [push_nx]; omega)]; exact push_eq rfl
 have g1 : h1.get (h.nx + 1) = some (.cells zVL 134 false) := by rw [hx.2 _ (by simp only [push_nx]; omega)]; exact push_eq rfl
 have hxh : Ext h h1 := (((Ext.refl h).push _).push _).trans hx
 simp only [push_nx] at n1
 by_cases c1 : kindF t u = -1
 ·have c1' := c1
  refine ww1 (cj c1 <| cj g0 <| cj g1 km1) ?_
  refine ⟨.inr (by omega), hxh.put (by omega) _, _, _, _, _, _, _, _, _, _, _, _, _, _, _, rfl, ?_⟩
  unfold readF
  rw [if_pos c1']
  exact ⟨Iff.rfl, fun q => absurd q (by decide), fun q => rfl⟩
 have hk := kind_in t u
 have cn : ¬ kindF t u < 0 := by omega
 obtain ⟨d1, d2⟩ := a.cell
 refine ww1 (cj cn <| cj g0 <| cj g1 <| cj d1 d2) ?_
 refine ⟨.inr (by omega), ?_⟩
 generalize hq : H.put _ _ _ = hB
 have f : VX h h1.nx (h1.nx + 1) ⟨l, 0⟩ [.int .i64 (kindF t u), .int .i64 0, .int .u64 0, .str [], bo False, .int .i64 0, .int .i64 0, .int .i64 0, .int .i64 0, .int .i64 0, .int .i64 0, .int .i64 0] hB := by
  rw [← hq]
  have x2 : Ext h1 ((h1.push (Ob.cells [v, V.int IntKind.i64 0] 142 false)).push (Ob.cells zVL 134 false)) := ((Ext.refl h1).push _).push _
  have gr : ((h1.push (Ob.cells [v, V.int IntKind.i64 0] 142 false)).push (Ob.cells zVL 134 false)).get h1.nx = some (.cells [v, .int .i64 0] 142 false) := by rw [push_ne (by simp only [push_nx]; omega)]; exact push_eq rfl
  have q : VX h h1.nx (h1.nx + 1) ⟨l, 0⟩ zVL ((h1.push (Ob.cells [v, V.int IntKind.i64 0] 142 false)).push (Ob.cells zVL 134 false)) := ⟨⟨⟨v, gr, a.ext (hxh.trans x2), fun k hk => a.off hk⟩, by omega, by simp only [push_nx]; omega⟩, hl, hxh.trans x2, by rw [x2.2 _ (by omega)]; exact g1, push_eq rfl, by omega, by omega, by simp only [push_nx]; omega⟩
  exact q.put _ rfl
 have ge : hB.get h.nx = some (.cells [.int .u8 t, .bool u] 108 false) := by
  rw [← hq, put_ne (by omega), push_ne (by simp only [push_nx]; omega), push_ne (by omega)]; exact g0
 clear hq
 have hro : h.nx + 1 < h1.nx ∧ h1.nx < h1.nx + 1 := by omega
 generalize h1.nx + 1 = o at *
 generalize h1.nx = r at *
 refine callF_pure (xvsize_spec hS t _) ?_
 rintro _ h2 hx2 rfl
 have lt0 := f.lt
 have f := f.ext2 hx2
 have ge : h2.get h.nx = some (.cells [.int .u8 t, .bool u] 108 false) := by rw [hx2.2 _ (by omega)]; exact ge
 have okf : ∀ k, k = r → fresh h.nx nil1 k := fun k hk => by rw [fresh_def]; exact .inl (by omega)
 refine wr0 ?_
 refine run_cutB (fun env' h' => env' 0 = v ∧ env' 4 = .ptr (h.nx + 1) 0 ∧ env' 8 = .ptr r 0 ∧ env' 9 = .ptr o 0 ∧ ∃ R k i b s m c4 c5 c6 c7 c8 c9 c10, VX h r o R [.int .i64 k, .int .i64 i, .int .u64 b, .str s, .bool m, .int .i64 c4, .int .i64 c5, .int .i64 c6, .int .i64 c7, .int .i64 c8, .int .i64 c9, .int .i64 c10] h' ∧ VRel l t u R) ?_ ?_
 ·have g := f.ob
  have lt := f.lt
  rcases hk with c | c | c | c | c | c
  ·exact absurd c c1
  ·refine wew1 c ?_
   rw [c] at f
   exact ⟨_, _, _, _, _, _, _, _, _, _, _, _, _, f, vrel_null c⟩
  ·have hz := kind_size c1 (by omega) (by omega) (by omega)
   have hs := xsz_eq c1 (by omega) (by omega) (by omega)
   refine wew1 (cj c hs) ?_
   refine callF_of (ffixed_spec hS.toStdF f.rd f.len (sizeF t) hz) okf ?_
   rintro _ h3 ⟨rfl, r3⟩
   have f := f.call r3 (Rd.fix_len _ _)
   have g := f.ob
   have lt := f.lt
   have w1 : IntKind.i64.wrap (8 * (sizeF t : Int)) = 8 * (sizeF t : Int) := i64_in _ (by omega)
   have w2 : IntKind.i64.wrap (64 - 8 * (sizeF t : Int)) = 64 - 8 * (sizeF t : Int) := i64_in _ (by omega)
   have w3 : ¬ (64 - 8 * (sizeF t : Int) < 0) := by omega
   have w4 : IntKind.u64.wrap (64 - 8 * (sizeF t : Int)) = 64 - 8 * (sizeF t : Int) := u64_in _ (by omega)
   refine wew1 (cj c <| cj hs <| cj g <| cj w1 <| cj w2 <| cj w3 w4) ?_
   exact ⟨.inr (by omega), _, _, _, _, _, _, _, _, _, _, _, _, _, f.put _ rfl, vrel_fix c1 (by omega) (by omega) (by omega)⟩
  ·have hz := kind_size c1 (by omega) (by omega) (by omega)
   have hs := xsz_eq c1 (by omega) (by omega) (by omega)
   rcases c with c | c | c
   all_goals
    refine wew1 (cj c hs) ?_
    refine callF_of (ffixed_spec hS.toStdF f.rd f.len (sizeF t) hz) okf ?_
    rintro _ h3 ⟨rfl, r3⟩
    have f := f.call r3 (Rd.fix_len _ _)
    have g := f.ob
    have lt := f.lt
    refine wew1 (cj c g) ?_
    exact ⟨.inr (by omega), _, _, _, _, _, _, _, _, _, _, _, _, _, f.put _ rfl, vrel_fix c1 (by omega) (by omega) (by omega)⟩
  ·rcases c with c | c
   all_goals
    refine wew1 (cj c ge) ?_
    refine callF_of (xwhenof_spec hS f.rd f.len t) okf ?_
    have wr := xw_plain a.1 t
    have xl := Nat.le_trans (xwT_len (Rd.mk l 0).byt t) (byt_len _)
    generalize xwT (Rd.mk l 0).byt t = T at *
    obtain ⟨⟨m, b1, b2, b3, b4, b5, b6, b7⟩, Q⟩ := T
    rintro _ h3 ⟨rfl, r3⟩
    have f := f.call r3 (by rw [Rd.bad_bs]; exact xl)
    have g := f.ob
    have lt := f.lt
    unfold WH.cells
    refine wew1 (cj c g) ?_
    exact ⟨.inr (by omega), _, _, _, _, _, _, _, _, _, _, _, _, _, f.put _ rfl, vrel_when (by omega) wr⟩
  ·refine wew1 c ?_
   refine callF_of (ftext_spec hS.toStdF f.rd f.len) okf ?_
   rintro _ h3 ⟨rfl, r3⟩
   have f := f.call r3 (Rd.txt_len _)
   have g := f.ob
   have lt := f.lt
   refine wew1 (cj c g) ?_
   refine ⟨.inr (by omega), ?_⟩
   generalize hq : H.put _ _ _ = hC
   have f := f.put _ hq
   clear hq
   refine callF_of (fwrong_spec hS.toStdF f.rd (16777216 < (Rd.mk l 0).txt.1.length)) okf ?_
   rintro _ h4 r4
   have f := f.call r4 (by rw [Rd.bad_bs]; exact Nat.le_refl _)
   refine wew1 c ?_
   exact ⟨_, _, _, _, _, _, _, _, _, _, _, _, _, f, vrel_text a.1 c⟩
 ·rintro env' h' ⟨e0, e4, e8, e9, R, k, i, b, s, m, c4, c5, c6, c7, c8, c9, c10, f, hr⟩
  have g := f.ob
  have gz := f.z
  have lt := f.lt
  obtain ⟨⟨v9, g9, b9, _⟩, _⟩ := f.rd
  have a1 := a.len 5
  have a9 := b9.len 5
  by_cases he : R.e = 0
  ·have he' := eq_true he
   obtain ⟨n, e1, e2, e3⟩ := hr.2 he
   have hl9 : R.bs.length = l.length - n := by rw [e1, List.length_drop]
   have w1 : IntKind.i64.wrap ((l.length : Int) - (R.bs.length : Int)) = n := by rw [hl9, i64_in _ (by omega)]; omega
   refine ww1 (cj e0 <| cj e4 <| cj e8 <| cj e9 <| cj g <| cj gz <| cj g9 <| cj he' <| cj a1 <| cj a9 w1) ?_
   refine draw_by [(6, 9)] (by kernel_rfl) ?_
   refine ww1 (cj e0 <| cj e4 <| cj e8 <| cj e9 <| cj g <| cj gz <| cj g9 <| cj he' <| cj a1 <| cj a9 w1) ?_
   exact ⟨.inr (by omega), fun q hq => by rw [List.mem_singleton.1 hq]; exact pair_one rfl rfl (rd_wr (by omega)), f.ext.put (by omega) _, _, _, _, _, _, _, _, _, _, _, _, _, _, _, rfl, ⟨fun _ => hr.1.1 he, fun _ => rfl⟩, fun _ => e3.symm, fun q => absurd rfl q⟩
  ·refine ww1 (cj e0 <| cj e4 <| cj e8 <| cj e9 <| cj g <| cj gz <| cj g9 he) ?_
   refine draw_by [(4, 5)] (by kernel_rfl) ?_
   refine ww1 (cj e0 <| cj e4 <| cj e8 <| cj e9 <| cj g <| cj gz <| cj g9 he) ?_
   exact ⟨.inr (by omega), fun q hq => by rw [List.mem_singleton.1 hq]; exact pair_one rfl rfl (rd_wr (by omega)), f.ext.put (by omega) _, _, _, _, _, _, _, _, _, _, _, _, _, _, _, rfl, hr.1, fun q => absurd q he, fun _ => rfl⟩
end
noncomputable section
theorem rdr_new {n0 r k : Nat} {R : Rd} {h h1 : H} (a : RdR 142 n0 r R h h1) (hk : h.nx ≤ k) (hr : r < h.nx) (o : Ob) : RdR 142 n0 r R h (h1.put k o) := by
 have n0r := a.1.lt
 exact ⟨a.1.keep (Nat.le_refl _) (put_ne (by omega)) fun j hj => put_ne (by omega), a.2.put_new hk _⟩
theorem rd_wrd {j k o : Nat} (h : j ≠ k) : fpApart (.lg (ldL (some (1, false)) (.ptr j o))) (.lg [.wrd k]) := apart_blk fun x hx y hy => by
 rw [List.mem_singleton.1 (show x ∈ [_] from hx), List.mem_singleton.1 hy]; exact h
theorem rd2_wrd {j k o : Nat} (h : j ≠ k) : fpApart (.lg (ldL (some (2, true)) (.ptr j o))) (.lg [.wrd k]) := apart_blk fun x hx y hy => by
 rw [List.mem_singleton.1 (show x ∈ [_] from hx), List.mem_singleton.1 hy]; exact h
variable {S : Set0} (hS : StdX S)
include hS
theorem xvalue_spec {n0 r : Nat} {R : Rd} {h : H} (a : RdS 5 142 n0 r R h) (hl : R.bs.length < 2 ^ 28) (he : R.e = 0) (t : Int) (u : Bool) (ht : 0 ≤ t ∧ t < 256) : callW S.cfg (· = r) 134 [.ptr r 0, .agg [.int .u8 t, .bool u]] h fun v h' => ∃ k i b s m c4 c5 c6 c7 c8 c9 c10 R', v = .agg [.int .i64 k, .int .i64 i, .int .u64 b, .str s, .bool m, .int .i64 c4, .int .i64 c5, .int .i64 c6, .int .i64 c7, .int .i64 c8, .int .i64 c9, .int .i64 c10] ∧ RdR 142 n0 r R' h h' ∧ R'.bs.length ≤ R.bs.length ∧ VRel R.bs t u R' := by
 refine into Tryz.f134 _ Tryz.func134 (hS.ownX _ (by decide)) rfl rfl (by kernel_rfl) (by kernel_rfl) ?_
 obtain ⟨⟨v1, g1, hb1, ho1⟩, hlt1⟩ := a
 have okf : ∀ k, k = r → fresh h.nx (· = r) k := fun k hk => .inr hk
 have he' := eq_true he
 refine ww1 (cj @Tryz.f134.eq_1 <| cj g1 he') ?_
 refine draw_by [(3, 10), (4, 10), (5, 10)] (by kernel_rfl) ?_
 refine ww1 g1 ?_
 generalize hhA : H.push (H.push h _) _ = hA
 have hxA : Ext h hA := by rw [← hhA]; exact ((Ext.refl h).push _).push _
 have hnA : hA.nx = h.nx + 2 := by rw [← hhA]; rfl
 have gz : hA.get (h.nx + 1) = some (.cells zVL 134 false) := by rw [← hhA]; exact push_eq rfl
 clear hhA
 refine callF_pure (xvread_spec hS (hb1.ext hxA) hl t u ht) ?_
 rintro _ h1 hx1 ⟨k, i, b, s, m, c4, c5, c6, c7, c8, c9, c10, n, e, rfl, q1, q2, q3⟩
 have n1 := hx1.1
 have hx : Ext h h1 := hxA.trans hx1
 have g2 : h1.get r = some (.cells [v1, .int .i64 R.e] 142 false) := by rw [hx.2 _ hlt1.2]; exact g1
 have gz1 : h1.get (h.nx + 1) = some (.cells zVL 134 false) := by rw [hx1.2 _ (by omega)]; exact gz
 obtain ⟨d1, d2⟩ := hb1.cell
 have hr1 : r < h.nx := hlt1.2
 have hk : ∃ kk : Nat, n = kk ∧ kk ≤ R.bs.length := by
  by_cases he0 : e = 0
  ·obtain ⟨kk, w1, w2⟩ := readF_ok hb1.1 (q1.1 he0)
   exact ⟨kk, by rw [q2 he0]; exact w1, w2⟩
  ·exact ⟨0, q3 he0, Nat.zero_le _⟩
 obtain ⟨kk, rfl, hkk⟩ := hk
 refine ww1 (cj g2 <| cj d1 d2) ?_
 refine ⟨.inr (.inl (by omega)), fun p hp => ?_, ?_⟩
 ·simp only [List.mem_cons, List.not_mem_nil, or_false] at hp
  rcases hp with rfl | rfl | rfl
  ·exact pair_one rfl rfl (rd_wrd (by omega))
  ·exact pair_one rfl rfl (rd2_wrd (by omega))
  ·exact pair_one rfl rfl fun e he => .inl (by rw [List.mem_singleton.1 he]; exact Nat.le_refl _)
 generalize hq1 : H.put (H.push h1 _) h1.nx _ = hB
 have xB : Ext h1 hB := by rw [← hq1]; exact ((Ext.refl h1).push _).put (Nat.le_refl _) _
 have gv : hB.get h1.nx = some (.cells [.int .i64 k, .int .i64 i, .int .u64 b, .str s, .bool m, .int .i64 c4, .int .i64 c5, .int .i64 c6, .int .i64 c7, .int .i64 c8, .int .i64 c9, .int .i64 c10] 134 false) := by rw [← hq1]; exact put_eq rfl
 have nB : hB.nx = h1.nx + 1 := by rw [← hq1]; rfl
 clear hq1
 have bB := hb1.ext (hx.trans xB)
 refine drop_bs (i := kk) (bB.put (ho1 r hlt1.1)) ubs szb (by exact wv0) (by exact wv0) hkk fun w3 L3 hw3 ho3 _ => ?_
 obtain ⟨u1, u2⟩ := hw3.cell
 have gz2 : hB.get (h.nx + 1) = some (.cells zVL 134 false) := by rw [xB.2 _ (by omega)]; exact gz1
 have g3 : hB.get r = some (.cells [v1, .int .i64 R.e] 142 false) := by rw [xB.2 _ (by omega)]; exact g2
 refine ww1 (cj u1 <| cj u2 <| cj gv <| cj gz2 g3) ?_
 have A : RdR 142 n0 r ⟨R.bs.drop kk, e⟩ h ((hB.put r (Ob.cells [v1, V.int IntKind.i64 e] 142 false)).put r (Ob.cells [w3, V.int IntKind.i64 e] 142 false)) := ⟨RdS.put (R := ⟨R.bs.drop kk, e⟩) hw3 (fun k hk => ho3 k (ho1 k hk)) ⟨hlt1.1, by show r < hB.nx; omega⟩, ((But.of_ext (hx.trans xB)).put _).put _⟩
 exact ⟨.inr (.inl (by omega)), _, _, _, _, _, _, _, _, _, _, _, _, _, rfl, rdr_new A (by omega) hr1 _, by show (R.bs.drop kk).length ≤ _; rw [List.length_drop]; omega, q1, fun q => ⟨kk, rfl, hkk, (q2 q).symm⟩⟩
theorem xbits_spec {v : V} {l : List Nat} {h : H} (a : BS 5 h v l) (hl : l.length ≤ 1000) (n : Nat) (hn : n ≤ 4096) : Exact S.cfg 133 [v, .int .i64 2, .int .i64 n] h (bo (∃ i, i < 8 * l.length ∧ setP l i ∧ (i < 2 ∨ n + 2 ≤ i))) := by
 refine into Tryz.f133 _ Tryz.func133 (hS.ownX _ (by decide)) rfl rfl (by kernel_rfl) (by kernel_rfl) ?_
 have a1 := a.len 5
 have w0 : IntKind.i64.wrap (8 * (l.length : Int)) = ((8 * l.length : Nat) : Int) := by rw [i64_in _ (by omega)]; omega
 have w1 : IntKind.i64.wrap (2 + (n : Int)) = ((n + 2 : Nat) : Int) := by rw [i64_in _ (by omega)]; omega
 refine ww1 @Tryz.f133.eq_1 ?_
 refine run_loop (fun k env h' => ∃ i : Nat, k = 8 * l.length - i ∧ i ≤ 8 * l.length ∧ env 0 = v ∧ env 1 = .int .i64 2 ∧ env 2 = .int .i64 n ∧ env 7 = .int .i64 i ∧ h' = h ∧ ∀ j, j < i → ¬ (setP l j ∧ (j < 2 ∨ n + 2 ≤ j))) (8 * l.length) ⟨0, ?_⟩ ?_
 ·refine ww0 ?_
  exact ⟨rfl, fun j hj => absurd hj (Nat.not_lt_zero j)⟩
 rintro k env h' ⟨i, rfl, hi, e0, e1, e2, e7, rfl, hj⟩
 by_cases hin : i < 8 * l.length
 ·have hin' : (i : Int) < ((8 * l.length : Nat) : Int) := by omega
  have hil : i / 8 < l.length := by omega
  have m0 : ((i : Int)).tdiv 8 = ((i / 8 : Nat) : Int) := (Int.ofNat_tdiv i 8).symm
  have m1 : IntKind.i64.wrap (((i : Int)).tdiv 8) = ((i / 8 : Nat) : Int) := by rw [m0]; exact i64_in _ (by omega)
  have m2 : ((i : Int)).tmod 8 = ((i % 8 : Nat) : Int) := (Int.ofNat_tmod i 8).symm
  have m3 : ((8 : Int) = 0) = False := by decide
  have m4 : ¬ (((i % 8 : Nat) : Int) < 0) := by omega
  have m6 : IntKind.u64.wrap ((i % 8 : Nat) : Int) = ((i % 8 : Nat) : Int) := u64_in _ (by omega)
  obtain ⟨b, o, m, hv, _, _⟩ := a.at hil
  subst hv
  obtain ⟨_, hb, hrd⟩ := a.rd
  have hr := hrd _ hil
  by_cases hq : i < 2 ∨ n + 2 ≤ i
  ·have hq' := eq_true hq
   by_cases hs : setP l i
   ·have hs' : (iAnd .u8 (iShr .u8 (byI l (i / 8)) ((i % 8 : Nat) : Int)) 1 = 1) = True := eq_true hs
    refine ww1 (cj e0 <| cj e1 <| cj e2 <| cj e7 <| cj a1 <| cj w0 <| cj w1 <| cj hin' <| cj m1 <| cj m2 <| cj m3 <| cj m4 <| cj m6 <| cj hil <| cj hr <| cj hq' hs') ?_
    exact bo_iff ⟨fun _ => ⟨i, hin, hs, hq⟩, fun _ => trivial⟩
   ·have hs' : ¬ iAnd .u8 (iShr .u8 (byI l (i / 8)) ((i % 8 : Nat) : Int)) 1 = 1 := hs
    refine ww1 (cj e0 <| cj e1 <| cj e2 <| cj e7 <| cj a1 <| cj w0 <| cj w1 <| cj hin' <| cj m1 <| cj m2 <| cj m3 <| cj m4 <| cj m6 <| cj hil <| cj hr <| cj hq' hs') ?_
    exact ⟨_, by omega, i + 1, rfl, by omega, rfl, fun j hji q => (Nat.lt_succ_iff_lt_or_eq.1 hji).elim (fun w => hj j w q) fun w => hs (w ▸ q.1)⟩
  ·refine ww1 (cj e0 <| cj e1 <| cj e2 <| cj e7 <| cj a1 <| cj w0 <| cj w1 <| cj hin' <| cj m1 <| cj m2 <| cj m3 <| cj m4 <| cj m6 <| cj hil <| cj hr hq) ?_
   exact ⟨_, by omega, i + 1, rfl, by omega, rfl, fun j hji q => (Nat.lt_succ_iff_lt_or_eq.1 hji).elim (fun w => hj j w q) fun w => hq (w ▸ q.2)⟩
 ·obtain rfl : i = 8 * l.length := by omega
  have hnn : ¬ 8 * l.length < 8 * l.length := Nat.lt_irrefl _
  refine ww1 (cj e0 <| cj e1 <| cj e2 <| cj e7 <| cj a1 <| cj w0 <| cj w1 hnn) ?_
  exact bo_iff ⟨fun q => q.elim, fun ⟨j, q1, q2⟩ => hj j q1 q2⟩
end
noncomputable section
theorem and_one (a : Int) : iAnd .u8 a 1 = 0 ∨ iAnd .u8 a 1 = 1 := by
 have e : iAnd .u8 a 1 = IntKind.u8.wrap (((BitVec.ofInt 8 a &&& 1#8).toNat : Nat) : Int) := rfl
 have h : (BitVec.ofInt 8 a &&& 1#8).toNat = 0 ∨ (BitVec.ofInt 8 a &&& 1#8).toNat = 1 := by
  rw [BitVec.toNat_and]
  have : (1#8).toNat = 1 := rfl
  rw [this, Nat.and_one_is_mod]
  omega
 rcases h with h | h
 ·left; rw [e, h]; rfl
 ·right; rw [e, h]; rfl
theorem bad_bad (R : Rd) (p q : Prop) : (R.bad p).bad q = R.bad (p ∨ q) := by
 by_cases he : R.e = 0
 ·by_cases hp : p
  ·rw [Rd.bad_yes ⟨he, hp⟩, Rd.bad_yes ⟨he, .inl hp⟩, bad_e (show Rd.e ⟨R.bs, 5⟩ ≠ 0 from ne5)]
  ·rw [Rd.bad_no (fun w => hp w.2)]
   by_cases hq : q
   ·rw [Rd.bad_yes ⟨he, hq⟩, Rd.bad_yes ⟨he, .inr hq⟩]
   ·rw [Rd.bad_no (fun w => hq w.2), Rd.bad_no (fun w => w.2.elim hp hq)]
 ·rw [bad_e he, bad_e he, bad_e he]
theorem bad_congr {R : Rd} {p q : Prop} (h : p ↔ q) : R.bad p = R.bad q := by rw [propext h]
theorem off_rd {n0 r : Nat} {R : Rd} {h : H} {w : V} {L : List Nat} (a : RdS 5 142 n0 r R h) (b : BS 5 h w L) (hL : 0 < L.length) : Off w r := by
 intro o n m q
 obtain ⟨⟨v1, g1, hb1, _⟩, _⟩ := a
 obtain ⟨b', o', m', hv, _, hr⟩ := b.at hL
 rw [hv] at q
 cases q
 rw [g1] at hr
 have hv1 : ∀ k x, v1 ≠ .int k x := fun k x w => by
  rcases hb1.form with ⟨z, _⟩ | ⟨_, _, _, z⟩ <;> rw [z] at w <;> cases w
 rcases o with _ | _ | o
 ·have : some v1 = some (V.int .u8 _) := hr
  cases this
  exact hv1 _ _ rfl
 ·have : some (V.int .i64 R.e) = some (V.int .u8 _) := hr
  cases this
 ·have : (none : Option V) = some (V.int .u8 _) := hr
  cases this
def nbF (ts : List (Int × Bool)) : Nat := (ts.length + 9) / 8
def rbR (l : List Nat) (ts : List (Int × Bool)) : Rd := (((mustF ⟨l, 0⟩ [0]).fix (nbF ts)).2.bad (∃ i, i < 8 * nbF ts ∧ setP ((mustF ⟨l, 0⟩ [0]).take (nbF ts)) i ∧ (i < 2 ∨ ts.length + 2 ≤ i))).bad (∃ i, ∃ h : i < ts.length, (ts[i]'h).1 = 6 ∧ ¬ setP ((mustF ⟨l, 0⟩ [0]).take (nbF ts)) (i + 2))
theorem rb_yes {l : List Nat} {ts : List (Int × Bool)} (hb : ∀ x ∈ l, x < 256) (hno : ¬ ∃ t ∈ ts, kindF t.1 t.2 < 0) (h : (rbR l ts).e = 0) : rbE l ts = rbL ((mustF ⟨l, 0⟩ [0]).take (nbF ts)) 0 ts (rbR l ts).bs := by
 unfold rbR at h ⊢
 obtain ⟨h1, hC⟩ := bad0 h
 obtain ⟨h2, hB⟩ := bad0 h1
 rw [Rd.bad_bs, Rd.bad_bs]
 have h3 := h2
 rw [Rd.fix_e] at h3
 have e0 := must_byt (R := ⟨l, 0⟩) hb 0
 have e1 := h3.1
 rw [show mustF ⟨l, 0⟩ [0] = (Rd.mk l 0).byt.2.bad (¬ (Rd.mk l 0).byt.1 = (0 : Nat)) from e0] at e1
 obtain ⟨e2, e3⟩ := bad0 e1
 have hl : ¬ l.length < 1 := fun q => by
  unfold Rd.byt at e2
  rw [if_neg (fun u => u rfl), if_pos q] at e2
  exact ne4 e2
 have eb : (Rd.mk l 0).byt = (byI l 0, ⟨l.drop 1, 0⟩) := go_byt (l := l) (a := 0) (by omega)
 rw [eb] at e3
 have em : mustF ⟨l, 0⟩ [0] = ⟨l.drop 1, 0⟩ := by
  rw [show mustF ⟨l, 0⟩ [0] = (Rd.mk l 0).byt.2.bad (¬ (Rd.mk l 0).byt.1 = (0 : Nat)) from e0, eb]
  exact Rd.bad_no fun q => e3 q.2
 rw [em] at h2 h3 hB hC ⊢
 have et : (Rd.mk (l.drop 1) 0).take (nbF ts) = (l.drop 1).take (nbF ts) := by
  unfold Rd.take
  rw [if_neg (fun q => q h2)]
 have ef : ((Rd.mk (l.drop 1) 0).fix (nbF ts)).2.bs = (l.drop 1).drop (nbF ts) := by
  rw [go_fix (a := 1) (by have := h3.2; simp only [List.length_drop] at this; omega), List.drop_drop]
 rw [et] at hB hC ⊢
 rw [ef]
 unfold rbE
 have hn2 : ¬ (l.drop 1).length < (ts.length + 9) / 8 := by have := h3.2; unfold nbF at this; simp only at this; omega
 have hB' : ¬ ∃ i, i < 8 * ((ts.length + 9) / 8) ∧ setP ((l.drop 1).take ((ts.length + 9) / 8)) i ∧ (i < 2 ∨ ts.length + 2 ≤ i) := hB
 have hC' : ¬ ∃ i, ∃ h : i < ts.length, (ts[i]'h).1 = 6 ∧ ¬ setP ((l.drop 1).take ((ts.length + 9) / 8)) (i + 2) := hC
 rw [if_neg hno, if_neg hl, if_neg (show ¬ byI l 0 ≠ 0 from e3), if_neg hn2, if_neg hB', if_neg hC']
 rfl
theorem rb_no {l : List Nat} {ts : List (Int × Bool)} (hb : ∀ x ∈ l, x < 256) (hno : ¬ ∃ t ∈ ts, kindF t.1 t.2 < 0) (h : (rbR l ts).e ≠ 0) : rbE l ts ≠ 0 := by
 unfold rbE
 rw [if_neg hno]
 by_cases hl : l.length < 1
 ·rw [if_pos hl]; exact ne4
 rw [if_neg hl]
 by_cases h0 : byI l 0 ≠ 0
 ·rw [if_pos h0]; exact ne5
 rw [if_neg h0]
 have h0' : byI l 0 = 0 := Classical.not_not.1 h0
 by_cases hn : (l.drop 1).length < (ts.length + 9) / 8
 ·rw [if_pos hn]; exact ne4
 rw [if_neg hn]
 have eb : (Rd.mk l 0).byt = (byI l 0, ⟨l.drop 1, 0⟩) := go_byt (l := l) (a := 0) (by omega)
 have em : mustF ⟨l, 0⟩ [0] = ⟨l.drop 1, 0⟩ := by
  rw [must_byt (R := ⟨l, 0⟩) hb 0, eb]
  exact Rd.bad_no fun q => q.2 h0'
 have ef : ((Rd.mk (l.drop 1) 0).fix (nbF ts)).2.e = 0 := by
  rw [go_fix (a := 1) (by unfold nbF; rw [List.length_drop] at hn; omega)]
 have et : (Rd.mk (l.drop 1) 0).take (nbF ts) = (l.drop 1).take (nbF ts) := by
  unfold Rd.take
  rw [if_neg (fun q => q ef)]
 unfold rbR at h
 rw [em, et] at h
 by_cases hB : ∃ i, i < 8 * ((ts.length + 9) / 8) ∧ setP ((l.drop 1).take ((ts.length + 9) / 8)) i ∧ (i < 2 ∨ ts.length + 2 ≤ i)
 ·rw [if_pos hB]; exact ne5
 rw [if_neg hB]
 by_cases hC : ∃ i, ∃ h : i < ts.length, (ts[i]'h).1 = 6 ∧ ¬ setP ((l.drop 1).take ((ts.length + 9) / 8)) (i + 2)
 ·rw [if_pos hC]; exact ne5
 ·have hB' : ¬ ∃ i, i < 8 * nbF ts ∧ setP ((l.drop 1).take (nbF ts)) i ∧ (i < 2 ∨ ts.length + 2 ≤ i) := hB
  have hC' : ¬ ∃ i, ∃ h : i < ts.length, (ts[i]'h).1 = 6 ∧ ¬ setP ((l.drop 1).take (nbF ts)) (i + 2) := hC
  exact absurd (by
   rw [Rd.bad_no (fun q => hC' q.2), Rd.bad_no (fun q => hB' q.2)]
   exact ef) h
theorem rbL_err {bs : List Nat} {i : Nat} {ts : List (Int × Bool)} {l : List Nat} {t : Int × Bool} (hs : ¬ setP bs (i + 2)) (h : (readF l t.1 t.2).2.2 ≠ 0) : rbL bs i (t :: ts) l ≠ 0 := by
 rw [rbL, if_neg hs, if_pos h]; exact h
variable {S : Set0} (hS : StdX S)
include hS
theorem xrbin_spec {v tv : V} {l : List Nat} {ts : List (Int × Bool)} {h : H} (a : BS 5 h v l) (hl : l.length < 2 ^ 28) (rt : RW 108 2 ts.length h tv (tyC ts)) (hn : ts.length ≤ 4096) (hts : ∀ t ∈ ts, 0 ≤ t.1 ∧ t.1 < 256) : Pure S.cfg 90 [v, tv] h fun w _ => ∃ rv e, rv.cells = [rv] ∧ rv.isCell = true ∧ w = .tuple [rv, .int .i64 e] ∧ (e = 0 ↔ rbE l ts = 0) := by
 refine into Tryz.f90 _ Tryz.func90 (hS.ownX _ (by decide)) rfl rfl (by kernel_rfl) (by kernel_rfl) ?_
 obtain ⟨c1, c2⟩ := a.cell
 have t1 := rt.len 108
 have hn2 : ¬ ((4096 : Int) < ts.length) := by omega
 have tyAt : ∀ i (hi : i < ts.length), ∃ b o m, tv = .slice b o ts.length m ∧ b < h.nx ∧ rdV (some (2, true)) (h.get b) (o + i * 2) = some (.agg [.int .u8 ts[i].1, .bool ts[i].2]) := fun i hi => by
  obtain ⟨b, o, m, q⟩ := rt.at (by omega)
  obtain ⟨_, hb, _, hr⟩ := RW.rd (q ▸ rt)
  exact ⟨b, o, m, q, hb, by rw [hr (i * 2) 2 (by rw [tyC_len]; omega), tyC_at]⟩
 refine ww1 (cj @Tryz.f90.eq_1 <| cj t1 <| cj hn2 <| cj c1 c2) ?_
 refine run_loop (fun k env h' => ∃ i : Nat, k = ts.length - i ∧ i ≤ ts.length ∧ env 0 = v ∧ env 1 = tv ∧ env 6 = .int .i64 i ∧ Ext h h' ∧ ∀ j (hj : j < ts.length), j < i → ¬ kindF ts[j].1 ts[j].2 < 0) ts.length ⟨0, ?_⟩ ?_
 ·refine ww0 ?_
  exact ⟨rfl, Ext.refl h, fun j _ q => by omega⟩
 rintro k env h' ⟨i, rfl, hi, e0, e1, e6, hx, hk⟩
 by_cases hin : i < ts.length
 ·have hin' : (i : Int) < ts.length := by omega
  obtain ⟨b, o, m, hv, hb, hr⟩ := tyAt i hin
  have hr' : rdV (some (2, true)) (h'.get b) (o + i * 2) = some (.agg [.int .u8 ts[i].1, .bool ts[i].2]) := by rw [hx.2 b hb]; exact hr
  refine ww1 (cj e0 <| cj e1 <| cj e6 <| cj hin <| cj hin' <| cj hv hr') ?_
  refine callF_pure (xkind_spec hS _ _ (hts _ (List.getElem_mem hin)) _) ?_
  rintro _ h2 hx2 rfl
  by_cases hneg : kindF ts[i].1 ts[i].2 < 0
  ·have e : rbE l ts = 2 := by unfold rbE; rw [if_pos ⟨_, List.getElem_mem hin, hneg⟩]
   rw [e]
   refine ww1 hneg ?_
   exact ⟨hx.trans hx2, _, _, rfl, rfl, rfl, Iff.rfl⟩
  ·refine ww1 (cj hneg <| cj e0 <| cj e1 e6) ?_
   refine ⟨ts.length - (i + 1), by omega, i + 1, rfl, by omega, hv, rfl, hx.trans hx2, fun j hj hji => ?_⟩
   by_cases hje : j = i
   ·subst hje; exact hneg
   ·exact hk j hj (by omega)
 obtain rfl : i = ts.length := by omega
 have hno : ¬ ∃ t ∈ ts, kindF t.1 t.2 < 0 := by
  rintro ⟨t, ht, q⟩
  obtain ⟨j, hj, rfl⟩ := List.getElem_of_mem ht
  exact hk j hj hj q
 refine ww1 (cj e0 <| cj e1 <| cj e6 <| cj hin <| cj t1 <| cj c1 c2) ?_
 clear hin hi hk
 generalize hhA : H.push h' _ = hA
 have hxA : Ext h' hA := by rw [← hhA]; exact (Ext.refl h').push _
 have hnA : hA.nx = h'.nx + 1 := by rw [← hhA]; rfl
 have gR : hA.get h'.nx = some (.cells [v, .int .i64 0] 142 false) := by rw [← hhA]; exact push_eq rfl
 clear hhA
 have hxh : Ext h hA := hx.trans hxA
 have a2 : RdS 5 142 h'.nx h'.nx ⟨l, 0⟩ hA := ⟨⟨v, gR, a.ext hxh, fun k hk => (a.ext hx).off hk⟩, by omega, by omega⟩
 have hr0 : h.nx ≤ h'.nx := hx.1
 generalize h'.nx = r at *
 have okf : ∀ k, k = r → fresh h.nx nil1 k := fun k hk => by rw [fresh_def]; exact .inl (by omega)
 have z0 := zeros_must (R := ⟨l, 0⟩) a.1
 refine callF_of (fzeros_spec hS a2 hl 1 (by omega)) okf ?_
 rintro w1 h1 r1
 rw [z0] at r1
 have hyes := rb_yes (ts := ts) a.1 hno
 have hbad := rb_no (ts := ts) a.1 hno
 have l2 : (mustF ⟨l, 0⟩ [0]).bs.length ≤ l.length := mustF_len _ _
 unfold rbR at hyes hbad
 clear z0
 generalize mustF ⟨l, 0⟩ [0] = R1 at *
 have hnb : nbF ts = (ts.length + 9) / 8 := rfl
 have m0 : IntKind.i64.wrap ((ts.length : Int) + 9) = ((ts.length + 9 : Nat) : Int) := by rw [i64_in _ (by omega)]; omega
 have m1 : ((ts.length + 9 : Nat) : Int).tdiv 8 = (nbF ts : Int) := (Int.ofNat_tdiv (ts.length + 9) 8).symm
 have m2 : IntKind.i64.wrap (nbF ts : Int) = (nbF ts : Int) := i64_in _ (by omega)
 have m3 : ((8 : Int) = 0) = False := by decide
 generalize nbF ts = nb at *
 refine ww1 (cj e0 <| cj e1 <| cj t1 <| cj m0 <| cj m1 <| cj m2 m3) ?_
 refine callF_of (fbytes_spec hS.toStdF r1.1 (by omega) nb (by omega)) okf ?_
 rintro w h2 ⟨hw, r2⟩
 have l3 := Rd.fix_len R1 nb
 have hwl := Rd.take_len R1 nb
 have ow := off_rd r2.1 hw (by omega)
 have xb := xbits_spec hS hw (by omega) ts.length hn
 rw [hwl] at xb
 generalize R1.take nb = bits at *
 generalize (R1.fix nb).2 = R2 at *
 refine ww1 (cj e0 <| cj e1 t1) ?_
 refine callF_exact xb ?_
 refine ww1 (cj e0 <| cj e1 t1) ?_
 refine callF_of (fwrong_spec hS.toStdF r2.1 (∃ i, i < 8 * nb ∧ setP bits i ∧ (i < 2 ∨ ts.length + 2 ≤ i))) okf ?_
 rintro _ h3 r3
 have l4 : (R2.bad (∃ i, i < 8 * nb ∧ setP bits i ∧ (i < 2 ∨ ts.length + 2 ≤ i))).bs.length ≤ R2.bs.length := by rw [Rd.bad_bs]; exact Nat.le_refl _
 generalize R2.bad (∃ i, i < 8 * nb ∧ setP bits i ∧ (i < 2 ∨ ts.length + 2 ≤ i)) = R3 at *
 have b3 : But r hA h3 := (r1.2.trans r2.2).trans r3.2
 have hw3 : BS 5 h3 w bits := hw.keep r3.2.1 fun k hk ⟨o, n, m, q⟩ => r3.2.2 k hk fun e => ow o n m (by rw [← e]; exact q)
 have lr : r < h.nx ∨ h.nx ≤ r := by omega
 have n3 := b3.1
 have gT : ∀ {h' : H} i (hi : i < ts.length), (∀ k, k < h.nx → h'.get k = h.get k) → ∃ b o m, tv = .slice b o ts.length m ∧ rdV (some (2, true)) (h'.get b) (o + i * 2) = some (.agg [.int .u8 ts[i].1, .bool ts[i].2]) ∧ rdV (some (1, false)) (h'.get b) (o + i * 2) = some (.int .u8 ts[i].1) := fun {h'} i hi x => by
  obtain ⟨b, o, m, q, hb, hr⟩ := tyAt i hi
  obtain ⟨_, hb2, hr1, _⟩ := RW.rd (q ▸ rt)
  have hlt : i * 2 < (tyC ts).length := by rw [tyC_len]; omega
  refine ⟨b, o, m, q, by rw [x b hb]; exact hr, ?_⟩
  rw [x b hb]
  have := hr1 (i * 2) 1 hlt
  rw [this]
  congr 1
  have q2 := tyC_at ts i hi
  rw [List.drop_eq_getElem_cons hlt, List.take_succ_cons] at q2
  exact (List.cons.inj q2).1
 have old : ∀ {h' : H}, But r h3 h' → ∀ k, k < h.nx → h'.get k = h.get k := fun {h'} x k hk => by rw [x.2 k (by omega) (by omega), b3.2 k (by omega) (by omega), hxh.2 k hk]
 have bitAt : ∀ {h' : H} i, i < ts.length → BS 5 h' w bits → ∃ b o m, w = .slice b o nb m ∧ rdV (some (1, false)) (h'.get b) (o + (i + 2) / 8) = some (.int .u8 (byI bits ((i + 2) / 8))) := fun {h'} i hi x => by
  obtain ⟨b, o, m, q, _, _⟩ := x.at (i := (i + 2) / 8) (by omega)
  subst q
  obtain ⟨_, _, hrd⟩ := x.rd
  exact ⟨b, o, m, by rw [hwl], hrd _ (by omega)⟩
 refine ww0 ?_
 refine run_loop (fun k env h' => ∃ i : Nat, k = ts.length - i ∧ i ≤ ts.length ∧ env 1 = tv ∧ env 7 = .ptr r 0 ∧ env 8 = w ∧ env 9 = .int .i64 i ∧ RdR 142 r r (R3.bad (∃ j, ∃ h : j < ts.length, j < i ∧ (ts[j]'h).1 = 6 ∧ ¬ setP bits (j + 2))) h3 h') ts.length ⟨0, ?_⟩ ?_
 ·refine ww0 ?_
  refine ⟨rfl, e1, ?_⟩
  rw [Rd.bad_no (show ¬ (R3.e = 0 ∧ ∃ j, ∃ h : j < ts.length, j < 0 ∧ (ts[j]'h).1 = 6 ∧ ¬ setP bits (j + 2)) from by rintro ⟨_, _, _, q, _⟩; omega)]
  exact ⟨r3.1, But.refl _ _⟩
 rintro k env h4 ⟨i, rfl, hi, e1, e7, e8, e9, r4⟩
 have hw4 : BS 5 h4 w bits := hw3.keep r4.2.1 fun k hk ⟨o, n, m, q⟩ => r4.2.2 k hk fun e => ow o n m (by rw [← e]; exact q)
 by_cases hin : i < ts.length
 ·have hin' : (i : Int) < ts.length := by omega
  obtain ⟨b, o, m, hv, _, hr1⟩ := gT i hin (old r4.2)
  obtain ⟨b2, o2, m2', hv2, hrb⟩ := bitAt i hin hw4
  have m7 : IntKind.i64.wrap ((i : Int) + 2) = ((i + 2 : Nat) : Int) := i64_in _ (by omega)
  have m8 : ((i + 2 : Nat) : Int).tdiv 8 = (((i + 2) / 8 : Nat) : Int) := (Int.ofNat_tdiv (i + 2) 8).symm
  have m9 : IntKind.i64.wrap (((i + 2) / 8 : Nat) : Int) = (((i + 2) / 8 : Nat) : Int) := i64_in _ (by omega)
  have m10 : ((i + 2 : Nat) : Int).tmod 8 = (((i + 2) % 8 : Nat) : Int) := (Int.ofNat_tmod (i + 2) 8).symm
  have m11 : IntKind.u64.wrap (((i + 2) % 8 : Nat) : Int) = (((i + 2) % 8 : Nat) : Int) := u64_in _ (by omega)
  have m12 : ¬ ((((i + 2) % 8 : Nat) : Int) < 0) := by omega
  have m13 : (i + 2) / 8 < nb := by omega
  have t2 := t1
  by_cases h6 : ts[i].1 = 6
  ·have h6' := eq_true h6
   refine ww1 (cj e1 <| cj e7 <| cj e8 <| cj e9 <| cj hin <| cj hin' <| cj hv <| cj hr1 <| cj h6' <| cj hv2 <| cj hrb <| cj m3 <| cj m7 <| cj m8 <| cj m9 <| cj m10 <| cj m11 <| cj m12 m13) ?_
   refine callF_of (fwrong_spec hS.toStdF r4.1 (iAnd .u8 (iShr .u8 (byI bits ((i + 2) / 8)) (((i + 2) % 8 : Nat) : Int)) 1 = 0)) okf ?_
   rintro _ h5 r5
   have r6 := r4.trans r5
   rw [bad_bad] at r6
   have hiff : (iAnd .u8 (iShr .u8 (byI bits ((i + 2) / 8)) (((i + 2) % 8 : Nat) : Int)) 1 = 0) ↔ ¬ setP bits (i + 2) := by
    unfold setP
    rcases and_one (iShr .u8 (byI bits ((i + 2) / 8)) (((i + 2) % 8 : Nat) : Int)) with q | q <;> rw [q] <;> decide
   rw [bad_congr (q := ∃ j, ∃ h : j < ts.length, j < i + 1 ∧ (ts[j]'h).1 = 6 ∧ ¬ setP bits (j + 2)) (by
    rw [hiff]
    constructor
    ·rintro (⟨j, hj, q1, q2⟩ | q)
     ·exact ⟨j, hj, by omega, q2⟩
     ·exact ⟨i, hin, by omega, h6, q⟩
    ·rintro ⟨j, hj, q1, q2⟩
     rcases (by omega : j < i ∨ j = i) with w | rfl
     ·exact .inl ⟨j, hj, w, q2⟩
     ·exact .inr q2.2)] at r6
   refine ww1 (cj e1 <| cj e7 <| cj e8 e9) ?_
   exact ⟨_, by omega, i + 1, rfl, by omega, hv, hv2, rfl, r6⟩
  ·refine ww1 (cj e1 <| cj e7 <| cj e8 <| cj e9 <| cj hin <| cj hin' <| cj hv <| cj hr1 <| cj h6 <| cj hv2 <| cj hrb <| cj m3 <| cj m7 <| cj m8 <| cj m9 <| cj m10 <| cj m11 <| cj m12 m13) ?_
   refine callF_of (fwrong_spec hS.toStdF r4.1 False) okf ?_
   rintro _ h5 r5
   have r6 := r4.trans r5
   rw [bad_bad] at r6
   rw [bad_congr (q := ∃ j, ∃ h : j < ts.length, j < i + 1 ∧ (ts[j]'h).1 = 6 ∧ ¬ setP bits (j + 2)) (by
    constructor
    ·rintro (⟨j, hj, q1, q2⟩ | q)
     ·exact ⟨j, hj, by omega, q2⟩
     ·exact q.elim
    ·rintro ⟨j, hj, q1, q2⟩
     rcases (by omega : j < i ∨ j = i) with w | rfl
     ·exact .inl ⟨j, hj, w, q2⟩
     ·exact absurd q2.1 h6)] at r6
   refine ww1 (cj e1 <| cj e7 <| cj e8 e9) ?_
   exact ⟨_, by omega, i + 1, rfl, by omega, hv, hv2, rfl, r6⟩
 obtain rfl : i = ts.length := by omega
 rw [bad_congr (q := ∃ i, ∃ h : i < ts.length, (ts[i]'h).1 = 6 ∧ ¬ setP bits (i + 2)) (by
  constructor
  ·rintro ⟨j, hj, _, q⟩; exact ⟨j, hj, q⟩
  ·rintro ⟨j, hj, q⟩; exact ⟨j, hj, hj, q⟩)] at r4
 have l5 : (R3.bad (∃ i, ∃ h : i < ts.length, (ts[i]'h).1 = 6 ∧ ¬ setP bits (i + 2))).bs.length ≤ R3.bs.length := by rw [Rd.bad_bs]; exact Nat.le_refl _
 generalize R3.bad (∃ i, ∃ h : i < ts.length, (ts[i]'h).1 = 6 ∧ ¬ setP bits (i + 2)) = R4 at *
 refine ww1 (cj e1 <| cj e7 <| cj e8 <| cj e9 <| cj hin t1) ?_
 have n4 := r4.2.1
 have lr4 := r4.1.lt
 obtain ⟨q, hq⟩ : ∃ q, h4.nx = q + 1 := ⟨h4.nx - 1, by omega⟩
 refine run_loop (fun k env h' => ∃ i : Nat, ∃ R : Rd, ∃ rv cs, k = ts.length - i ∧ i ≤ ts.length ∧ env 1 = tv ∧ env 7 = .ptr r 0 ∧ env 8 = w ∧ env 10 = rv ∧ env 11 = .int .i64 i ∧ RdR 142 r r R h4 h' ∧ R.bs.length < 2 ^ 28 ∧ Lst (q + 1) h' rv cs 134 12 ∧ cs.length = i * 12 ∧ (R4.e = 0 → R.e = 0 → (rbL bits 0 ts R4.bs = 0 ↔ rbL bits i (ts.drop i) R.bs = 0)) ∧ (R4.e = 0 → R.e ≠ 0 → rbL bits 0 ts R4.bs ≠ 0) ∧ (R4.e ≠ 0 → R.e ≠ 0)) ts.length ⟨0, ?_⟩ ?_
 ·refine ww0 ?_
  exact ⟨R4, .nilslice, [], by omega, e1, e7, e8, rfl, ⟨r4.1, But.refl _ _⟩, by omega, lst_nil _ _ _ _, rfl, fun _ _ => Iff.rfl, fun q u => absurd q u, fun q => q⟩
 rintro k env h5 ⟨i, R, rv, cs, rfl, hi, e1, e7, e8, e10, e11, r5, hlR, hrv, hcs, p1, p2, p3⟩
 have hw5 : BS 5 h5 w bits := hw4.keep r5.2.1 fun k hk ⟨o, n, m, q⟩ => r5.2.2 k hk fun e => ow o n m (by rw [← e]; exact q)
 obtain ⟨⟨v6, g6, b6, o6⟩, lt6⟩ := r5.1
 obtain ⟨d1, d2⟩ := lst_form hrv
 have n5 := r5.2.1
 by_cases hgo : i < ts.length ∧ R.e = 0
 ·obtain ⟨hin, he⟩ := hgo
  have he' := eq_true he
  have hin' : (i : Int) < ts.length := by omega
  obtain ⟨b, o, m, hv, hr, _⟩ := gT i hin (old (r4.2.trans r5.2))
  obtain ⟨b2, o2, m2', hv2, hrb⟩ := bitAt i hin hw5
  have m7 : IntKind.i64.wrap ((i : Int) + 2) = ((i + 2 : Nat) : Int) := i64_in _ (by omega)
  have m8 : ((i + 2 : Nat) : Int).tdiv 8 = (((i + 2) / 8 : Nat) : Int) := (Int.ofNat_tdiv (i + 2) 8).symm
  have m9 : IntKind.i64.wrap (((i + 2) / 8 : Nat) : Int) = (((i + 2) / 8 : Nat) : Int) := i64_in _ (by omega)
  have m10 : ((i + 2 : Nat) : Int).tmod 8 = (((i + 2) % 8 : Nat) : Int) := (Int.ofNat_tmod (i + 2) 8).symm
  have m11 : IntKind.u64.wrap (((i + 2) % 8 : Nat) : Int) = (((i + 2) % 8 : Nat) : Int) := u64_in _ (by omega)
  have m12 : ¬ ((((i + 2) % 8 : Nat) : Int) < 0) := by omega
  have m13 : (i + 2) / 8 < nb := by omega
  have hb6 := b6.1
  have hok : (readF R.bs ts[i].1 ts[i].2).2.2 = 0 → ∃ k : Nat, (readF R.bs ts[i].1 ts[i].2).2.1 = k ∧ k ≤ R.bs.length := fun q => readF_ok hb6 q
  rw [List.drop_eq_getElem_cons hin] at p1
  by_cases hst : setP bits (i + 2)
  ·have hst' : (iAnd .u8 (iShr .u8 (byI bits ((i + 2) / 8)) (((i + 2) % 8 : Nat) : Int)) 1 = 1) = True := eq_true hst
   refine ww1 (cj e1 <| cj e7 <| cj e8 <| cj e10 <| cj e11 <| cj hin <| cj hin' <| cj g6 <| cj he' <| cj hv <| cj hv2 <| cj hrb <| cj m3 <| cj m7 <| cj m8 <| cj m9 <| cj m10 <| cj m11 <| cj m12 <| cj m13 hst') ?_
   refine app_vl (n0 := q) ?_ ?_ hrv rfl rfl ?_ ?_ ?_ ?_
   ·exact wv0
   ·exact wv0
   ·omega
   ·exact fun k hk => by rw [fresh_def]; exact .inl (by omega)
   ·omega
   intro v2 h7 L7 hl7 hn7 hk7 hL7
   obtain ⟨u1, u2⟩ := lst_form hl7
   refine ww1 (cj e1 <| cj e7 <| cj e8 <| cj e10 e11) ?_
   exact ⟨ts.length - (i + 1), by omega, i + 1, R, v2, _, rfl, by omega, hv, hv2, rfl, rfl, ⟨r5.1.keep (by omega) (hk7 _ (by omega)) fun k hk => hk7 k (by omega), ⟨by omega, fun k hk hkr => by rw [hk7 k (by omega), r5.2.2 k hk hkr]⟩⟩, hlR, hl7, by rw [List.length_append, hcs]; show _ + 12 = _; omega, fun q1 q2 => by rw [p1 q1 he, rbL, if_pos hst], fun _ q => absurd he q, p3⟩
  ·have hst' : ¬ iAnd .u8 (iShr .u8 (byI bits ((i + 2) / 8)) (((i + 2) % 8 : Nat) : Int)) 1 = 1 := hst
   refine ww1 (cj e1 <| cj e7 <| cj e8 <| cj e10 <| cj e11 <| cj hin <| cj hin' <| cj g6 <| cj he' <| cj hv <| cj hr <| cj hv2 <| cj hrb <| cj m3 <| cj m7 <| cj m8 <| cj m9 <| cj m10 <| cj m11 <| cj m12 <| cj m13 hst') ?_
   refine callF_of (xvalue_spec hS r5.1 hlR he _ _ (hts _ (List.getElem_mem hin))) okf ?_
   rintro _ h6 ⟨k', i', b', s', m', c4, c5, c6, c7, c8, c9, c10, R', rfl, r6, l6, vr⟩
   have hrv6 := Lst.but hrv (Lst.off hrv r (by omega)) r6.2
   have n6 := r6.2.1
   refine ww1 (cj e1 <| cj e7 <| cj e8 <| cj e10 e11) ?_
   refine app_vl (n0 := q) ?_ ?_ hrv6 rfl rfl ?_ ?_ ?_ ?_
   ·exact wv0
   ·exact wv0
   ·omega
   ·exact fun k hk => by rw [fresh_def]; exact .inl (by omega)
   ·omega
   intro v2 h7 L7 hl7 hn7 hk7 hL7
   obtain ⟨u1, u2⟩ := lst_form hl7
   refine ww1 (cj e1 <| cj e7 <| cj e8 <| cj e10 e11) ?_
   have r56 := r5.trans r6
   refine ⟨ts.length - (i + 1), by omega, i + 1, R', v2, _, rfl, by omega, hv, hv2, rfl, rfl, ⟨r6.1.keep (by omega) (hk7 _ (by omega)) fun k hk => hk7 k (by omega), ⟨by omega, fun k hk hkr => by rw [hk7 k (by omega), r56.2.2 k hk hkr]⟩⟩, by omega, hl7, by rw [List.length_append, hcs]; show _ + 12 = _; omega, fun q1 q2 => ?_, fun q1 q2 => ?_, fun q => absurd he (p3 q)⟩
   ·obtain ⟨nn, x1, x2, x3⟩ := vr.2 q2
    rw [p1 q1 he, rbL, if_neg hst, if_neg (fun w => w (vr.1.1 q2)), x1, x3]
    rfl
   ·intro w
    exact rbL_err hst (fun y => q2 (vr.1.2 y)) ((p1 q1 he).1 w)
 ·by_cases hin : i < ts.length
  ·have he : ¬ R.e = 0 := fun q => hgo ⟨hin, q⟩
   have hin' : (i : Int) < ts.length := by omega
   refine ww1 (cj e1 <| cj e7 <| cj e8 <| cj e10 <| cj e11 <| cj hin <| cj hin' <| cj t1 <| cj g6 he) ?_
   refine callF_of (fdone_spec hS.toStdF r5.1) okf ?_
   rintro _ hE ⟨rfl, rE⟩
   have xE : Ext h hE := But.ext hxh ((b3.trans r4.2).trans (r5.2.trans rE.2)) (by omega)
   obtain ⟨⟨vE, gE, _, _⟩, _⟩ := rE.1
   have hov := over_rt1 he
   have hq : ¬ (overF R).e = 0 := by rw [← hov]; exact he
   simp +contextual (disch := first | exact de | fail) only [draw_calm, draw_calmA, wpy, fW, Int.reduceLE, Int.reduceLT, Nat.reduceLeDiff, UInt8.reduceToNat, ↓reduceIte, Nat.reduceEqDiff, Nat.reduceAdd, reduceCtorEq, Int.reduceToNat, e1, e7, e8, e10, e11, hq, gE]
   refine ⟨xE, _, _, rfl, rfl, rfl, ⟨fun q => absurd q hq, fun q => ?_⟩⟩
   by_cases h4e : R4.e = 0
   ·exact absurd (by rw [← hyes h4e]; exact q) (p2 h4e he)
   ·exact absurd q (hbad h4e)
  ·obtain rfl : i = ts.length := by omega
   refine ww1 (cj e1 <| cj e7 <| cj e8 <| cj e10 <| cj e11 <| cj hin t1) ?_
   refine callF_of (fdone_spec hS.toStdF r5.1) okf ?_
   rintro _ hE ⟨rfl, rE⟩
   have xE : Ext h hE := But.ext hxh ((b3.trans r4.2).trans (r5.2.trans rE.2)) (by omega)
   obtain ⟨⟨vE, gE, _, _⟩, _⟩ := rE.1
   have hfin : (overF R).e = 0 ↔ rbE l ts = 0 := by
    by_cases h4e : R4.e = 0
    ·rw [hyes h4e]
     by_cases he : R.e = 0
     ·rw [p1 h4e he, List.drop_length, rbL]
      unfold overF Rd.over
      by_cases hz : 0 < R.bs.length
      ·rw [if_pos hz, Rd.bad_yes ⟨he, List.length_pos_iff.1 hz⟩]
      ·rw [if_neg hz, Rd.bad_no (fun u => hz (List.length_pos_iff.2 u.2)), he]
     ·exact ⟨fun q => absurd ((over_rt1 he).trans q) he, fun q => absurd q (p2 h4e he)⟩
    ·exact ⟨fun q => absurd ((over_rt1 (p3 h4e)).trans q) (p3 h4e), fun q => absurd q (hbad h4e)⟩
   by_cases hq : (overF R).e = 0
   ·have hq' := eq_true hq
    refine ww1 (cj e1 <| cj e7 <| cj e8 <| cj e10 <| cj e11 <| cj hq' <| cj d1 d2) ?_
    exact ⟨xE, _, _, d1, d2, rfl, ⟨fun _ => hfin.1 hq, fun _ => rfl⟩⟩
   ·simp +contextual (disch := first | exact de | fail) only [draw_calm, draw_calmA, wpy, fW, Int.reduceLE, Int.reduceLT, Nat.reduceLeDiff, UInt8.reduceToNat, ↓reduceIte, Nat.reduceEqDiff, Nat.reduceAdd, reduceCtorEq, Int.reduceToNat, e1, e7, e8, e10, e11, hq, gE]
    exact ⟨xE, _, _, rfl, rfl, rfl, hfin⟩
end
noncomputable section
structure XD where
 c : Int
 k : Int
 fl : Int
 st : Int
 left : Int
 beh : Int
 cols : List CO
 last : Int
def xdC (X : RX) (d : XD) (cv : V) : List V := [bo True, .int .u32 d.c, .int .u8 d.k, .str X.x1, .int .u32 X.x2, .int .u16 X.x3, .int .u8 d.fl, .int .u32 X.x5, .int .u16 X.x6, X.x7, .int .i64 d.st, .int .i64 d.left, .int .i64 d.beh, cv, .int .u16 d.last]
structure XR (X : RX) (n0 x : Nat) (d : XD) (cv : V) (h : H) : Prop where
 get : h.get x = some (.cells (xdC X d cv) 75 false)
 cols : Lst n0 h cv (colV d.cols) 67 10
 off : Off cv x
 lt : n0 ≤ x ∧ x < h.nx
 x7 : X.x7.cells = [X.x7] ∧ X.x7.isCell = true
theorem XR.cc {X : RX} {n0 x : Nat} {d : XD} {cv : V} {h : H} (a : XR X n0 x d cv h) : cv.cells = [cv] ∧ cv.isCell = true := lst_form a.cols
theorem XR.ext {X : RX} {n0 x : Nat} {d : XD} {cv : V} {h h' : H} (a : XR X n0 x d cv h) (e : Ext h h') : XR X n0 x d cv h' := ⟨by rw [e.2 _ a.lt.2]; exact a.get, a.cols.ext e, a.off, ⟨a.lt.1, Nat.lt_of_lt_of_le a.lt.2 e.1⟩, a.x7⟩
theorem XR.put {X : RX} {n0 x : Nat} {d d' : XD} {cv : V} {h : H} (a : XR X n0 x d cv h) (hc : d'.cols = d.cols) : XR X n0 x d' cv (h.put x (.cells (xdC X d' cv) 75 false)) := ⟨put_eq rfl, by rw [hc]; exact Lst.but a.cols a.off ((But.refl x h).put _), a.off, a.lt, a.x7⟩
def XP (X : RX) (n0 x : Nat) (d : XD) (cv : V) (h h' : H) : Prop := XR X n0 x d cv h' ∧ But x h h'
theorem XP.trans {X : RX} {n0 x : Nat} {d d' : XD} {cv : V} {h h1 h2 : H} (a : XP X n0 x d cv h h1) (b : XP X n0 x d' cv h1 h2) : XP X n0 x d' cv h h2 := ⟨b.1, a.2.trans b.2⟩
theorem XP.ext {X : RX} {n0 x : Nat} {d : XD} {cv : V} {h h1 h2 : H} (a : XP X n0 x d cv h h1) (b : Ext h1 h2) : XP X n0 x d cv h h2 := ⟨a.1.ext b, a.2.trans (But.of_ext b)⟩
theorem XP.pre {X : RX} {n0 x : Nat} {d : XD} {cv : V} {h h1 h2 : H} (a : Ext h h1) (b : XP X n0 x d cv h1 h2) : XP X n0 x d cv h h2 := ⟨b.1, (But.of_ext a).trans b.2⟩
theorem XP.same {X : RX} {n0 x : Nat} {d : XD} {cv : V} {h h' : H} (a : XR X n0 x d cv h) (e : Ext h h') : XP X n0 x d cv h h' := ⟨a.ext e, But.of_ext e⟩
theorem XP.put {X : RX} {n0 x : Nat} {d d' : XD} {cv : V} {h h1 : H} (a : XP X n0 x d cv h h1) (hc : d'.cols = d.cols) : XP X n0 x d' cv h (h1.put x (.cells (xdC X d' cv) 75 false)) := ⟨a.1.put hc, a.2.put _⟩
theorem XP.put_new {X : RX} {n0 x k : Nat} {d d' : XD} {cv : V} {h h2 : H} (a : XR X n0 x d cv h) (p : XP X n0 x d' cv h h2) (hk : h.nx ≤ k) (ob : Ob) : XP X n0 x d' cv h (h2.put k ob) := by
 have lt := a.lt.2
 exact ⟨⟨by rw [put_ne (by omega)]; exact p.1.get, p.1.cols.put_off (a.cols.off_new hk), p.1.off, p.1.lt, p.1.x7⟩, p.2.put_new hk ob⟩
def SX (X : RX) (n0 x : Nat) (cv : V) (h : H) (q : XD × PT × Int) (w : V) (h' : H) : Prop := PR h h' w q.2.1 q.2.2 ∧ XP X n0 x q.1 cv h h'
theorem SX.top {X : RX} {n0 x : Nat} {d : XD} {cv y : V} {h hA h2 : H} {q : XD × PT × Int} (a : XR X n0 x d cv h) (hx : Ext h hA) (nA : h.nx < hA.nx) (b : BS 5 h2 y q.2.1.ok.k) (yo : ∀ k, k < hA.nx → Off y k) (p : XP X n0 x q.1 cv hA h2) (ob : Ob) : SX X n0 x cv h q (.tuple [.agg (q.2.1.cells y), .int .i64 q.2.2]) (h2.put h.nx ob) :=
 ⟨⟨y, rfl, b.put (yo _ nA), fun k hk => yo k (by omega)⟩, XP.put_new a (XP.pre hx p) (Nat.le_refl _) ob⟩
def plainP (c : Int) : Prop := iAnd .u32 c 16777216 = 0
def XD.bad (d : XD) : XD × PT × Int := ({ d with st := 0 }, PT.z, 5)
def xErr (d : XD) (l : List Nat) : XD × PT × Int := if (errF l).2.2.2 ≠ 0 then d.bad else ({ d with st := 0 }, { PT.z with k := 2, last := True, ec := (errF l).1, es := (errF l).2.1, et := (errF l).2.2.1 }, 0)
def XD.ends (d : XD) (s : Int) : XD := { d with last := s, st := if ¬ iAnd .u16 s 8 = 0 ∧ answerF d.k = 5 then 2 else 0 }
def xOk (d : XD) (l : List Nat) (k : Int) : XD × PT × Int := if okeF l d.c ≠ 0 then d.bad else (d.ends (okV l d.c).s, { PT.z with k := k, last := (d.ends (okV l d.c).s).st = 0, ok := okV l d.c }, 0)
def XD.eof (d : XD) (l : List Nat) : XD := if (eofF l).2.2 = 0 then { d with last := (eofF l).2.1 } else d
def XD.told (d : XD) : XD := { d with left := d.beh, st := if d.beh = 0 then 0 else 11 }
def XD.columned (d : XD) : XD := @ite _ (d.st = 3 ∧ plainP d.c) (Classical.propDecidable _) { d with st := 4 } (if d.st = 3 then { d with st := 5 } else @ite _ (d.st = 9 ∧ plainP d.c) (Classical.propDecidable _) { d with st := 10 } (if d.st = 9 then d.told else @ite _ (plainP d.c) (Classical.propDecidable _) { d with st := 12 } { d with st := 0 }))
variable {S : Set0} (hS : StdX S)
include hS
theorem xnone_spec {X : RX} {n0 x : Nat} {d : XD} {cv : V} {h : H} (a : XR X n0 x d cv h) : Exact S.cfg 46 [.ptr x 0] h (bo False) := by
 refine into Tryz.f46 _ Tryz.func46 (hS.ownX _ (by decide)) rfl rfl (by kernel_rfl) (by kernel_rfl) ?_
 have g := a.get
 unfold xdC at g
 exact wv1 (cj @Tryz.f46.eq_1 g)
theorem xplain_spec {X : RX} {n0 x : Nat} {d : XD} {cv : V} {h : H} (a : XR X n0 x d cv h) : Exact S.cfg 130 [.ptr x 0] h (bo (plainP d.c)) := by
 refine into Tryz.f130 _ Tryz.func130 (hS.ownX _ (by decide)) rfl rfl (by kernel_rfl) (by kernel_rfl) ?_
 have g := a.get
 unfold xdC at g
 refine ww1 (cj @Tryz.f130.eq_1 g) ?_
 rfl
theorem xbad_spec {X : RX} {n0 x : Nat} {d : XD} {cv : V} {h : H} (a : XR X n0 x d cv h) : callW S.cfg (· = x) 78 [.ptr x 0] h fun w h' => w = .tuple [.agg zPT, .int .i64 5] ∧ XP X n0 x { d with st := 0 } cv h h' := by
 refine into Tryz.f78 _ Tryz.func78 (hS.ownX _ (by decide)) rfl rfl (by kernel_rfl) (by kernel_rfl) ?_
 have aA := a.ext ((Ext.refl h).push (.cells zPT 53 false))
 have g := aA.get
 unfold xdC at g
 have lt := a.lt.2
 refine ww1 (cj @Tryz.f78.eq_1 g) ?_
 exact XP.put_new a (XP.put (d' := { d with st := 0 }) (XP.same a ((Ext.refl h).push _)) rfl) (Nat.le_refl _) _
theorem xends_spec {X : RX} {n0 x : Nat} {d : XD} {cv : V} {h : H} (a : XR X n0 x d cv h) (s : Int) : callW S.cfg (· = x) 88 [.ptr x 0, .int .u16 s] h fun w h' => w = .tuple [] ∧ XP X n0 x (d.ends s) cv h h' := by
 refine into Tryz.f88 _ Tryz.func88 (hS.ownX _ (by decide)) rfl rfl (by kernel_rfl) (by kernel_rfl) ?_
 have g := a.get
 unfold xdC at g
 have lt := a.lt.2
 have p := (XP.put (d' := { d with last := s }) ⟨a, But.refl x h⟩ rfl).put (d' := { d with last := s, st := 0 }) rfl
 by_cases h1 : iAnd .u16 s 8 = 0
 ·have e : d.ends s = { d with last := s, st := 0 } := by unfold XD.ends; rw [if_neg (fun q => q.1 h1)]
  rw [e]
  have h1' := eq_true h1
  refine ww1 (cj @Tryz.f88.eq_1 <| cj g h1') ?_
  exact p
 refine ww1 (cj @Tryz.f88.eq_1 <| cj g h1) ?_
 refine callF_pure (xanswer_spec hS d.k _) ?_
 rintro _ h2 hx2 rfl
 have p2 := p.ext hx2
 have g2 := p2.1.get
 unfold xdC at g2
 have lt2 := p2.1.lt.2
 by_cases h5 : answerF d.k = 5
 ·have e : d.ends s = { d with last := s, st := 2 } := by unfold XD.ends; rw [if_pos ⟨h1, h5⟩]
  rw [e]
  have h5' := eq_true h5
  refine ww1 (cj g2 <| cj h1 h5') ?_
  exact p2.put (d' := { d with last := s, st := 2 }) rfl
 ·have e : d.ends s = { d with last := s, st := 0 } := by unfold XD.ends; rw [if_neg (fun q => h5 q.2)]
  rw [e]
  refine ww1 (cj g2 <| cj h1 h5) ?_
  exact p2
theorem xtold_spec {X : RX} {n0 x : Nat} {d : XD} {cv : V} {h : H} (a : XR X n0 x d cv h) : callW S.cfg (· = x) 85 [.ptr x 0] h fun w h' => w = .tuple [] ∧ XP X n0 x d.told cv h h' := by
 refine into Tryz.f85 _ Tryz.func85 (hS.ownX _ (by decide)) rfl rfl (by kernel_rfl) (by kernel_rfl) ?_
 have g := a.get
 unfold xdC at g
 have lt := a.lt.2
 have p := (XP.put (d' := { d with st := 11 }) ⟨a, But.refl x h⟩ rfl).put (d' := { d with st := 11, left := d.beh }) rfl
 unfold XD.told
 by_cases h1 : d.beh = 0
 ·rw [if_pos h1]
  have h1' := eq_true h1
  refine ww1 (cj @Tryz.f85.eq_1 <| cj g h1') ?_
  exact p.put (d' := { d with st := 0, left := d.beh }) rfl
 ·rw [if_neg h1]
  refine ww1 (cj @Tryz.f85.eq_1 <| cj g h1) ?_
  exact p
theorem xeof_spec {X : RX} {n0 x : Nat} {d : XD} {cv v : V} {l : List Nat} {h : H} (a : XR X n0 x d cv h) (b : BS 5 h v l) (hl : l.length < 2 ^ 28) : callW S.cfg (· = x) 79 [.ptr x 0, v] h fun w h' => w = .tuple [.agg [.int .u16 (eofF l).1, .int .u16 (eofF l).2.1], bo ((eofF l).2.2 = 0)] ∧ XP X n0 x (d.eof l) cv h h' := by
 refine into Tryz.f79 _ Tryz.func79 (hS.ownX _ (by decide)) rfl rfl (by kernel_rfl) (by kernel_rfl) ?_
 have lt := a.lt.2
 refine ww1 @Tryz.f79.eq_1 ?_
 refine callF_pure (xreadeof_spec hS (b.ext ((Ext.refl h).push _)) hl) ?_
 rintro _ h1 hx1 rfl
 have n1 := hx1.1
 simp only [push_nx] at n1
 have g1 : h1.get h.nx = some (.cells [.int .u16 0, .int .u16 0] 49 false) := by rw [hx1.2 _ (by simp only [push_nx]; omega)]; exact push_eq rfl
 have hx : Ext h h1 := ((Ext.refl h).push _).trans hx1
 have g := (a.ext hx).get
 unfold xdC at g
 unfold XD.eof
 by_cases he : (eofF l).2.2 = 0
 ·have he' := eq_true he
  rw [if_pos he]
  refine ww1 (cj g1 <| cj g he') ?_
  exact ⟨.inr (.inl (by omega)), XP.put_new a ((XP.same a (((hx.push _).put (by omega) _))).put (d' := { d with last := (eofF l).2.1 }) rfl) (Nat.le_refl _) _⟩
 ·rw [if_neg he]
  refine ww1 (cj g1 <| cj g he) ?_
  exact ⟨.inr (.inl (by omega)), XP.put_new a (XP.same a (((hx.push _).put (by omega) _))) (Nat.le_refl _) _⟩
theorem xcolumned_spec {X : RX} {n0 x : Nat} {d : XD} {cv : V} {h : H} (a : XR X n0 x d cv h) : callW S.cfg (· = x) 84 [.ptr x 0] h fun w h' => w = .tuple [] ∧ XP X n0 x d.columned cv h h' := by
 refine into Tryz.f84 _ Tryz.func84 (hS.ownX _ (by decide)) rfl rfl (by kernel_rfl) (by kernel_rfl) ?_
 have g := a.get
 unfold xdC at g
 have lt := a.lt.2
 have p0 : XP X n0 x d cv h h := ⟨a, But.refl x h⟩
 have okr : ∀ k, k = x → fresh h.nx (· = x) k := fun k hk => by rw [fresh_def]; exact .inr hk
 by_cases h3 : d.st = 3
 ·have h3' := eq_true h3
  by_cases hp : plainP d.c
  ·have hp' := eq_true hp
   have e : d.columned = { d with st := 4 } := by unfold XD.columned; rw [if_pos ⟨h3, hp⟩]
   rw [e]
   refine ww1 (cj @Tryz.f84.eq_1 <| cj g h3') ?_
   refine callF_exact (xplain_spec hS a) ?_
   refine ww1 (cj @Tryz.f84.eq_1 <| cj g <| cj h3' hp') ?_
   exact p0.put (d' := { d with st := 4 }) rfl
  ·have e : d.columned = { d with st := 5 } := by unfold XD.columned; rw [if_neg (fun q => hp q.2), if_pos h3]
   rw [e]
   refine ww1 (cj @Tryz.f84.eq_1 <| cj g h3') ?_
   refine callF_exact (xplain_spec hS a) ?_
   refine ww1 (cj @Tryz.f84.eq_1 <| cj g <| cj h3' hp) ?_
   exact p0.put (d' := { d with st := 5 }) rfl
 ·have e0 : d.columned = @ite _ (d.st = 9 ∧ plainP d.c) (Classical.propDecidable _) { d with st := 10 } (if d.st = 9 then d.told else @ite _ (plainP d.c) (Classical.propDecidable _) { d with st := 12 } { d with st := 0 }) := by unfold XD.columned; rw [if_neg (fun q => h3 q.1), if_neg h3]
  by_cases h9 : d.st = 9
  ·have h9' := eq_true h9
   by_cases hp : plainP d.c
   ·have hp' := eq_true hp
    have e : d.columned = { d with st := 10 } := by rw [e0, if_pos ⟨h9, hp⟩]
    rw [e]
    refine wew1 (cj @Tryz.f84.eq_1 <| cj g <| cj h3 h9') ?_
    refine callF_exact (xplain_spec hS a) ?_
    refine wew1 (cj @Tryz.f84.eq_1 <| cj g <| cj h3 <| cj h9' hp') ?_
    exact p0.put (d' := { d with st := 10 }) rfl
   ·have e : d.columned = d.told := by rw [e0, if_neg (fun q => hp q.2), if_pos h9]
    rw [e]
    refine wew1 (cj @Tryz.f84.eq_1 <| cj g <| cj h3 h9') ?_
    refine callF_exact (xplain_spec hS a) ?_
    refine wew1 (cj @Tryz.f84.eq_1 <| cj g <| cj h3 <| cj h9' hp) ?_
    refine callF_of (xtold_spec hS a) okr ?_
    rintro _ h2 ⟨rfl, p2⟩
    refine ww1 @Tryz.f84.eq_1 ?_
    exact p2
  ·by_cases hp : plainP d.c
   ·have hp' := eq_true hp
    have e : d.columned = { d with st := 12 } := by rw [e0, if_neg (fun q => h9 q.1), if_neg h9, if_pos hp]
    rw [e]
    refine ww1 (cj @Tryz.f84.eq_1 <| cj g <| cj h3 h9) ?_
    refine callF_exact (xplain_spec hS a) ?_
    refine ww1 (cj @Tryz.f84.eq_1 <| cj g <| cj h3 <| cj h9 hp') ?_
    exact p0.put (d' := { d with st := 12 }) rfl
   ·have e : d.columned = { d with st := 0 } := by rw [e0, if_neg (fun q => h9 q.1), if_neg h9, if_neg hp]
    rw [e]
    refine ww1 (cj @Tryz.f84.eq_1 <| cj g <| cj h3 h9) ?_
    refine callF_exact (xplain_spec hS a) ?_
    refine ww1 (cj @Tryz.f84.eq_1 <| cj g <| cj h3 <| cj h9 hp) ?_
    exact p0.put (d' := { d with st := 0 }) rfl
theorem xerr_spec {X : RX} {n0 x : Nat} {d : XD} {cv v : V} {l : List Nat} {h : H} (a : XR X n0 x d cv h) (b : BS 5 h v l) (hl : l.length < 2 ^ 28) : callW S.cfg (· = x) 77 [.ptr x 0, v] h fun w h' => SX X n0 x cv h (xErr d l) w h' := by
 refine into Tryz.f77 _ Tryz.func77 (hS.ownX _ (by decide)) rfl rfl (by kernel_rfl) (by kernel_rfl) ?_
 have okr : ∀ k, k = x → fresh h.nx (· = x) k := fun k hk => by rw [fresh_def]; exact .inr hk
 have lt := a.lt.2
 refine ww1 @Tryz.f77.eq_1 ?_
 refine callF_pure (xreaderr_spec hS (b.ext ((Ext.refl h).push _)) hl) ?_
 rintro _ h1 hx1 rfl
 have n1 := hx1.1
 simp only [push_nx] at n1
 have g1 : h1.get h.nx = some (.cells zPT 53 false) := by rw [hx1.2 _ (by simp only [push_nx]; omega)]; exact push_eq rfl
 have hx : Ext h h1 := ((Ext.refl h).push _).trans hx1
 unfold xErr
 by_cases he : (errF l).2.2.2 = 0
 case neg =>
  rw [if_pos he]
  refine ww1 (cj he g1) ?_
  generalize hhB : H.put (H.push h1 _) h1.nx _ = hB
  have hxB : Ext h1 hB := by rw [← hhB]; exact ((Ext.refl h1).push _).put (Nat.le_refl _) _
  have gB : hB.get h.nx = some (.cells zPT 53 false) := by rw [hxB.2 _ (by omega)]; exact g1
  clear hhB
  refine ⟨.inr (.inl (by omega)), callF_of (xbad_spec hS (a.ext (hx.trans hxB))) okr ?_⟩
  rintro _ h2 ⟨rfl, p2⟩
  have nB := hxB.1
  have n2 := p2.2.1
  have g2 : h2.get h.nx = some (.cells zPT 53 false) := by rw [p2.2.2 _ (by omega) (by omega)]; exact gB
  refine ww1 g2 ?_
  exact SX.top (q := d.bad) a (hx.trans hxB) (by omega) (BS.nil _ _) (fun k hk => off_nil k) p2 _
 rw [if_neg (fun q => q he)]
 have he' := eq_true he
 have gx := (a.ext hx).get
 unfold xdC at gx
 refine ww1 (cj he' <| cj g1 gx) ?_
 exact ⟨.inr (.inl (by omega)), PR.nil rfl rfl, XP.put_new a ((XP.same a ((hx.push _).put (by omega) _)).put (d' := { d with st := 0 }) rfl) (Nat.le_refl _) _⟩
end
noncomputable section
def xSingle (d : XD) (l : List Nat) : XD × PT × Int :=
 if firstF l d.c = 2 then xErr d l else if answerF d.k = 9 then d.bad else
 if answerF d.k = 4 then (if l.length = 0 then d.bad else ({ d with st := 0 }, { PT.z with k := 10, last := True }, 0)) else
 if answerF d.k = 3 ∧ l.length = 5 ∧ byI l 0 = 254 then (if (eofF l).2.2 = 0 then ({ d.eof l with st := 0 }, { PT.z with k := 6, last := True, fw := (eofF l).1, fs := (eofF l).2.1 }, 0) else (d.eof l).bad) else
 if firstF l d.c ≠ 1 then d.bad else xOk d l 1
def xResult (d : XD) (l : List Nat) : XD × PT × Int :=
 if firstF l d.c = 2 then xErr d l else if firstF l d.c = 1 then xOk d l 1 else if d.st = 7 then d.bad else
 if firstF l d.c = 4 then (if fileE l ≠ 0 then d.bad else ({ d with st := 6 }, { PT.z with k := 3 }, 0)) else
 if (countF l).2 ≠ 0 then d.bad else ({ d with st := 3, left := (countF l).1, cols := [] }, { PT.z with k := 4 }, 0)
theorem XP.put_off {X : RX} {n0 x k : Nat} {d' : XD} {cv : V} {h h2 : H} (lt : x < h.nx) (ho : Off cv k) (p : XP X n0 x d' cv h h2) (hk : h.nx ≤ k) (ob : Ob) : XP X n0 x d' cv h (h2.put k ob) :=
 ⟨⟨by rw [put_ne (by omega)]; exact p.1.get, p.1.cols.put_off ho, p.1.off, p.1.lt, p.1.x7⟩, p.2.put_new hk ob⟩
theorem XP.putN {X : RX} {n0 x : Nat} {d d' : XD} {cv : V} {h h1 : H} (a : XP X n0 x d cv h h1) (hc : d'.cols = []) : XP X n0 x d' .nilslice h (h1.put x (.cells (xdC X d' .nilslice) 75 false)) := ⟨⟨put_eq rfl, by rw [hc]; exact lst_nil _ _ _ _, off_nil _, a.1.lt, a.1.x7⟩, a.2.put _⟩
variable {S : Set0} (hS : StdX S)
include hS
theorem xffirst {v : V} {l : List Nat} {h : H} (a : BS 5 h v l) (c : Int) : Exact S.cfg 76 [v, .int .u32 c] h (.int .i64 (firstF l c)) := xfirst_spec hS a c
theorem xok_spec {X : RX} {n0 x : Nat} {d : XD} {cv v : V} {l : List Nat} {h : H} (a : XR X n0 x d cv h) (b : BS 5 h v l) (hl : l.length < 2 ^ 28) (k : Int) : callW S.cfg (· = x) 80 [.ptr x 0, v, .int .i64 k] h fun w h' => SX X n0 x cv h (xOk d l k) w h' := by
 refine into Tryz.f80 _ Tryz.func80 (hS.ownX _ (by decide)) rfl rfl (by kernel_rfl) (by kernel_rfl) ?_
 have okr : ∀ k, k = x → fresh h.nx (· = x) k := fun k hk => by rw [fresh_def]; exact .inr hk
 have lt := a.lt.2
 have g := (a.ext ((Ext.refl h).push (.cells zPT 53 false))).get
 unfold xdC at g
 refine ww1 (cj @Tryz.f80.eq_1 g) ?_
 refine callF_pure (xreadok_spec hS.toStdF (b.ext ((Ext.refl h).push _)) hl d.c) ?_
 rintro _ h1 hx1 ⟨y, rfl, by1, yo⟩
 have n1 := hx1.1
 simp only [push_nx] at n1 yo
 have g1 : h1.get h.nx = some (.cells zPT 53 false) := by rw [hx1.2 _ (by simp only [push_nx]; omega)]; exact push_eq rfl
 have hx : Ext h h1 := ((Ext.refl h).push _).trans hx1
 obtain ⟨yc1, yc2⟩ := by1.cell
 unfold xOk
 generalize okV l d.c = o at *
 unfold OkV.cells
 by_cases he : okeF l d.c = 0
 case neg =>
  rw [if_pos he]
  refine ww1 (cj he <| cj g1 <| cj yc1 yc2) ?_
  generalize hhB : H.put (H.push h1 _) h1.nx _ = hB
  have hxB : Ext h1 hB := by rw [← hhB]; exact ((Ext.refl h1).push _).put (Nat.le_refl _) _
  have gB : hB.get h.nx = some (.cells zPT 53 false) := by rw [hxB.2 _ (by omega)]; exact g1
  clear hhB
  have nB := hxB.1
  refine ⟨.inr (.inl (by omega)), ?_⟩
  refine callF_of (xbad_spec hS (a.ext (hx.trans hxB))) okr ?_
  rintro _ h2 ⟨rfl, p2⟩
  have n2 := p2.2.1
  have g2 : h2.get h.nx = some (.cells zPT 53 false) := by rw [p2.2.2 _ (by omega) (by omega)]; exact gB
  refine ww1 g2 ?_
  exact SX.top (q := d.bad) a (hx.trans hxB) (by omega) (BS.nil _ _) (fun k hk => off_nil k) p2 _
 rw [if_neg (fun q => q he)]
 have he' := eq_true he
 refine ww1 (cj he' <| cj g1 <| cj yc1 yc2) ?_
 generalize hhB : H.put (H.push h1 _) h1.nx _ = hB
 have hxB : Ext h1 hB := by rw [← hhB]; exact ((Ext.refl h1).push _).put (Nat.le_refl _) _
 have gO : hB.get h1.nx = some (.cells (o.cells y) 45 false) := by rw [← hhB]; exact put_eq rfl
 have gB : hB.get h.nx = some (.cells zPT 53 false) := by rw [hxB.2 _ (by omega)]; exact g1
 have nB : hB.nx = h1.nx + 1 := by rw [← hhB]; rfl
 clear hhB
 refine ⟨.inr (.inl (by omega)), callF_of (xends_spec hS (a.ext (hx.trans hxB)) o.s) okr ?_⟩
 rintro _ h3 ⟨rfl, p3⟩
 have n3 := p3.2.1
 have g3 : h3.get h1.nx = some (.cells (o.cells y) 45 false) := by rw [p3.2.2 _ (by omega) (by omega)]; exact gO
 have g3z : h3.get h.nx = some (.cells zPT 53 false) := by rw [p3.2.2 _ (by omega) (by omega)]; exact gB
 have gx := p3.1.get
 unfold OkV.cells at g3
 unfold xdC at gx
 have by3 : BS 5 h3 y o.k := (by1.ext hxB).keep n3 fun j hj ⟨o', n, m, q⟩ => p3.2.2 j hj fun e => yo x (by omega) o' n m (by rw [← e]; exact q)
 generalize d.ends o.s = d2 at *
 simp +contextual (disch := first | exact de | fail) only [draw_calm, draw_calmA, wpy, fW, Int.reduceLE, Int.reduceLT, Nat.reduceLeDiff, UInt8.reduceToNat, ↓reduceIte, Nat.reduceEqDiff, Nat.reduceAdd, reduceCtorEq, Int.reduceToNat, g3, g3z, gx, yc1, yc2]
 exact ⟨⟨y, rfl, by3.put (yo _ (by omega)), fun k hk => yo k (by omega)⟩, XP.put_new a (XP.pre (hx.trans hxB) p3) (Nat.le_refl _) _⟩
theorem xsingle_spec {X : RX} {n0 x : Nat} {d : XD} {cv v : V} {l : List Nat} {h : H} (a : XR X n0 x d cv h) (b : BS 5 h v l) (hl : l.length < 2 ^ 28) : callW S.cfg (· = x) 48 [.ptr x 0, v] h fun w h' => SX X n0 x cv h (xSingle d l) w h' := by
 refine into Tryz.f48 _ Tryz.func48 (hS.ownX _ (by decide)) rfl rfl (by kernel_rfl) (by kernel_rfl) ?_
 have okr : ∀ k, k = x → fresh h.nx (· = x) k := fun k hk => by rw [fresh_def]; exact .inr hk
 have lt := a.lt.2
 have hxA0 : Ext h (h.push (.cells zPT 53 false)) := (Ext.refl h).push _
 have g := (a.ext hxA0).get
 unfold xdC at g
 refine ww1 (cj @Tryz.f48.eq_1 g) ?_
 refine callF_exact (xffirst hS (b.ext hxA0) d.c) ?_
 have hgA : (h.push (.cells zPT 53 false)).get h.nx = some (.cells zPT 53 false) := push_eq rfl
 have hnA : (h.push (.cells zPT 53 false)).nx = h.nx + 1 := rfl
 generalize hhA : H.push h _ = hA
 have hxA : Ext h hA := by rw [← hhA]; exact hxA0
 have gA : hA.get h.nx = some (.cells zPT 53 false) := by rw [← hhA]; exact push_eq rfl
 have nA : hA.nx = h.nx + 1 := by rw [← hhA]; rfl
 clear hhA hgA hnA hxA0
 have aA := a.ext hxA
 have bA := b.ext hxA
 have b1 := bA.len 5
 by_cases f2 : firstF l d.c = 2
 ·have e : xSingle d l = xErr d l := by unfold xSingle; rw [if_pos f2]
  rw [e]
  have f2' := eq_true f2
  refine ww1 f2' ?_
  refine callF_of (xerr_spec hS aA bA hl) okr ?_
  rintro _ h2 ⟨⟨y, rfl, by2, yo⟩, p2⟩
  have g2 : h2.get h.nx = some (.cells zPT 53 false) := by rw [p2.2.2 _ (by omega) (by omega)]; exact gA
  obtain ⟨yc1, yc2⟩ := by2.cell
  generalize xErr d l = q at *
  obtain ⟨d2, ⟨k, la, o, ec, es, et, fw, fs, q1, q2, q3, q4⟩, er⟩ := q
  unfold PT.cells
  refine ww1 (cj g2 <| cj yc1 yc2) ?_
  exact SX.top (q := (d2, ⟨k, la, o, ec, es, et, fw, fs, q1, q2, q3, q4⟩, er)) a hxA (by omega) by2 yo p2 _
 have gx := aA.get
 unfold xdC at gx
 refine ww1 (cj f2 gx) ?_
 refine callF_pure (xanswer_spec hS d.k _) ?_
 rintro _ h1 hx1 rfl
 have n1 := hx1.1
 have hxB := hxA.trans hx1
 have gB : h1.get h.nx = some (.cells zPT 53 false) := by rw [hx1.2 _ (by omega)]; exact gA
 clear gA
 have aB := a.ext hxB
 have bB := b.ext hxB
 have gx := aB.get
 unfold xdC at gx
 have e0 : xSingle d l = if answerF d.k = 9 then d.bad else
   if answerF d.k = 4 then (if l.length = 0 then d.bad else ({ d with st := 0 }, { PT.z with k := 10, last := True }, 0)) else
   if answerF d.k = 3 ∧ l.length = 5 ∧ byI l 0 = 254 then (if (eofF l).2.2 = 0 then ({ d.eof l with st := 0 }, { PT.z with k := 6, last := True, fw := (eofF l).1, fs := (eofF l).2.1 }, 0) else (d.eof l).bad) else
   if firstF l d.c ≠ 1 then d.bad else xOk d l 1 := by unfold xSingle; rw [if_neg f2]
 by_cases c9 : answerF d.k = 9
 ·have e : xSingle d l = d.bad := by rw [e0, if_pos c9]
  rw [e]
  have c9' := eq_true c9
  refine ww1 c9' ?_
  refine callF_of (xbad_spec hS aB) okr ?_
  rintro _ h2 ⟨rfl, p2⟩
  have n2 := p2.2.1
  have g2 : h2.get h.nx = some (.cells zPT 53 false) := by rw [p2.2.2 _ (by omega) (by omega)]; exact gB
  refine ww1 g2 ?_
  exact SX.top (q := d.bad) a hxB (by omega) (BS.nil _ _) (fun k hk => off_nil k) p2 _
 by_cases c4 : answerF d.k = 4
 ·by_cases hl0 : l.length = 0
  ·have e : xSingle d l = d.bad := by rw [e0, if_neg c9, if_pos c4, if_pos hl0]
   rw [e]
   refine wew1 (cj c4 <| cj b1 hl0) ?_
   refine callF_of (xbad_spec hS aB) okr ?_
   rintro _ h2 ⟨rfl, p2⟩
   have n2 := p2.2.1
   have g2 : h2.get h.nx = some (.cells zPT 53 false) := by rw [p2.2.2 _ (by omega) (by omega)]; exact gB
   refine ww1 g2 ?_
   exact SX.top (q := d.bad) a hxB (by omega) (BS.nil _ _) (fun k hk => off_nil k) p2 _
  ·have e : xSingle d l = ({ d with st := 0 }, { PT.z with k := 10, last := True }, 0) := by rw [e0, if_neg c9, if_pos c4, if_neg hl0]
   rw [e]
   refine wew1 (cj c4 <| cj b1 <| cj hl0 <| cj gx gB) ?_
   exact ⟨PR.nil rfl rfl, XP.put_new a ((XP.same a hxB).put (d' := { d with st := 0 }) rfl) (Nat.le_refl _) _⟩
 have e1 : xSingle d l = if answerF d.k = 3 ∧ l.length = 5 ∧ byI l 0 = 254 then (if (eofF l).2.2 = 0 then ({ d.eof l with st := 0 }, { PT.z with k := 6, last := True, fw := (eofF l).1, fs := (eofF l).2.1 }, 0) else (d.eof l).bad) else
   if firstF l d.c ≠ 1 then d.bad else xOk d l 1 := by rw [e0, if_neg c9, if_neg c4]
 have hA : XR X n0 x d cv h1 := aB
 by_cases c3 : answerF d.k = 3
 ·have c3' := eq_true c3
  by_cases l5 : l.length = 5
  ·obtain ⟨b0, o, m, hv, _, _⟩ := bB.at (i := 0) (by omega)
   subst hv
   obtain ⟨_, _, hrd⟩ := bB.rd
   have hr := hrd 0 (by omega)
   rw [Nat.add_zero] at hr
   have l5' := eq_true l5
   have l50 : (0 < l.length) = True := eq_true (by omega)
   have l5i : ((l.length : Int) = 5) = True := eq_true (by omega)
   by_cases hby : byI l 0 = 254
   ·have hby' := eq_true hby
    have e2 : xSingle d l = if (eofF l).2.2 = 0 then ({ d.eof l with st := 0 }, { PT.z with k := 6, last := True, fw := (eofF l).1, fs := (eofF l).2.1 }, 0) else (d.eof l).bad := by rw [e1, if_pos ⟨c3, l5, hby⟩]
    refine wew1 (cj c3 <| cj b1 <| cj l5' <| cj l5i <| cj l50 <| cj hr hby') ?_
    refine callF_of (xeof_spec hS aB bB hl) okr ?_
    rintro _ h2 ⟨rfl, p2⟩
    have g2 : h2.get h.nx = some (.cells zPT 53 false) := by rw [p2.2.2 _ (by omega) (by omega)]; exact gB
    have n2 := p2.2.1
    by_cases he : (eofF l).2.2 = 0
    ·have he' := eq_true he
     rw [e2, if_pos he]
     have gx := p2.1.get
     unfold xdC at gx
     refine ww1 (cj he' <| cj gx g2) ?_
     exact ⟨.inr (.inl (by omega)), PR.nil rfl rfl, XP.put_new a (((XP.pre hxB p2).ext (((Ext.refl _).push _).put (Nat.le_refl _) _)).put (d' := { d.eof l with st := 0 }) rfl) (Nat.le_refl _) _⟩
    ·rw [e2, if_neg he]
     refine ww1 (cj he g2) ?_
     refine ⟨.inr (.inl (by omega)), ?_⟩
     generalize hhC : H.put (H.push h2 _) h2.nx _ = hC
     have hxC : Ext h2 hC := by rw [← hhC]; exact ((Ext.refl h2).push _).put (Nat.le_refl _) _
     have gC : hC.get h.nx = some (.cells zPT 53 false) := by rw [hxC.2 _ (by omega)]; exact g2
     have nC := hxC.1
     clear hhC
     refine callF_of (xbad_spec hS (p2.1.ext hxC)) okr ?_
     rintro _ h3 ⟨rfl, p3⟩
     have g3 : h3.get h.nx = some (.cells zPT 53 false) := by rw [p3.2.2 _ (by omega) (by omega)]; exact gC
     refine ww1 g3 ?_
     exact ⟨PR.nil rfl rfl, XP.put_new a (XP.trans ((XP.pre hxB p2).ext hxC) p3) (Nat.le_refl _) _⟩
   ·have e2 : xSingle d l = if firstF l d.c ≠ 1 then d.bad else xOk d l 1 := by rw [e1, if_neg (fun q => hby q.2.2)]
    by_cases f1 : firstF l d.c = 1
    ·have f1' := eq_true f1
     rw [e2, if_neg (fun q => q f1)]
     refine wew1 (cj c3 <| cj b1 <| cj l5' <| cj l5i <| cj l50 <| cj hr <| cj hby f1') ?_
     refine callF_of (xok_spec hS aB bB hl 1) okr ?_
     rintro _ h2 ⟨⟨y, rfl, by2, yo⟩, p2⟩
     have g2 : h2.get h.nx = some (.cells zPT 53 false) := by rw [p2.2.2 _ (by omega) (by omega)]; exact gB
     obtain ⟨yc1, yc2⟩ := by2.cell
     generalize xOk d l 1 = q at *
     obtain ⟨d2, ⟨k, la, o, ec, es, et, fw, fs, q1, q2, q3, q4⟩, er⟩ := q
     unfold PT.cells
     refine ww1 (cj g2 <| cj yc1 yc2) ?_
     exact SX.top (q := (d2, ⟨k, la, o, ec, es, et, fw, fs, q1, q2, q3, q4⟩, er)) a hxB (by omega) by2 yo p2 _
    ·rw [e2, if_pos f1]
     refine wew1 (cj c3 <| cj b1 <| cj l5' <| cj l5i <| cj l50 <| cj hr <| cj hby f1) ?_
     refine callF_of (xbad_spec hS aB) okr ?_
     rintro _ h2 ⟨rfl, p2⟩
     have n2 := p2.2.1
     have g2 : h2.get h.nx = some (.cells zPT 53 false) := by rw [p2.2.2 _ (by omega) (by omega)]; exact gB
     refine ww1 g2 ?_
     exact SX.top (q := d.bad) a hxB (by omega) (BS.nil _ _) (fun k hk => off_nil k) p2 _
  ·have e2 : xSingle d l = if firstF l d.c ≠ 1 then d.bad else xOk d l 1 := by rw [e1, if_neg (fun q => l5 q.2.1)]
   have l5i : ¬ ((l.length : Int) = 5) := by omega
   by_cases f1 : firstF l d.c = 1
   ·have f1' := eq_true f1
    rw [e2, if_neg (fun q => q f1)]
    refine wew1 (cj c3 <| cj b1 <| cj l5 <| cj l5i f1') ?_
    refine callF_of (xok_spec hS aB bB hl 1) okr ?_
    rintro _ h2 ⟨⟨y, rfl, by2, yo⟩, p2⟩
    have g2 : h2.get h.nx = some (.cells zPT 53 false) := by rw [p2.2.2 _ (by omega) (by omega)]; exact gB
    obtain ⟨yc1, yc2⟩ := by2.cell
    generalize xOk d l 1 = q at *
    obtain ⟨d2, ⟨k, la, o, ec, es, et, fw, fs, q1, q2, q3, q4⟩, er⟩ := q
    unfold PT.cells
    refine ww1 (cj g2 <| cj yc1 yc2) ?_
    exact SX.top (q := (d2, ⟨k, la, o, ec, es, et, fw, fs, q1, q2, q3, q4⟩, er)) a hxB (by omega) by2 yo p2 _
   ·rw [e2, if_pos f1]
    refine wew1 (cj c3 <| cj b1 <| cj l5 <| cj l5i f1) ?_
    refine callF_of (xbad_spec hS aB) okr ?_
    rintro _ h2 ⟨rfl, p2⟩
    have n2 := p2.2.1
    have g2 : h2.get h.nx = some (.cells zPT 53 false) := by rw [p2.2.2 _ (by omega) (by omega)]; exact gB
    refine ww1 g2 ?_
    exact SX.top (q := d.bad) a hxB (by omega) (BS.nil _ _) (fun k hk => off_nil k) p2 _
 ·have e2 : xSingle d l = if firstF l d.c ≠ 1 then d.bad else xOk d l 1 := by rw [e1, if_neg (fun q => c3 q.1)]
  by_cases f1 : firstF l d.c = 1
  ·have f1' := eq_true f1
   rw [e2, if_neg (fun q => q f1)]
   refine ww1 (cj c9 <| cj c4 <| cj c3 f1') ?_
   refine callF_of (xok_spec hS aB bB hl 1) okr ?_
   rintro _ h2 ⟨⟨y, rfl, by2, yo⟩, p2⟩
   have g2 : h2.get h.nx = some (.cells zPT 53 false) := by rw [p2.2.2 _ (by omega) (by omega)]; exact gB
   obtain ⟨yc1, yc2⟩ := by2.cell
   generalize xOk d l 1 = q at *
   obtain ⟨d2, ⟨k, la, o, ec, es, et, fw, fs, q1, q2, q3, q4⟩, er⟩ := q
   unfold PT.cells
   refine ww1 (cj g2 <| cj yc1 yc2) ?_
   exact SX.top (q := (d2, ⟨k, la, o, ec, es, et, fw, fs, q1, q2, q3, q4⟩, er)) a hxB (by omega) by2 yo p2 _
  ·rw [e2, if_pos f1]
   refine ww1 (cj c9 <| cj c4 <| cj c3 f1) ?_
   refine callF_of (xbad_spec hS aB) okr ?_
   rintro _ h2 ⟨rfl, p2⟩
   have n2 := p2.2.1
   have g2 : h2.get h.nx = some (.cells zPT 53 false) := by rw [p2.2.2 _ (by omega) (by omega)]; exact gB
   refine ww1 g2 ?_
   exact SX.top (q := d.bad) a hxB (by omega) (BS.nil _ _) (fun k hk => off_nil k) p2 _
theorem xresult_spec {X : RX} {n0 x : Nat} {d : XD} {cv v : V} {l : List Nat} {h : H} (a : XR X n0 x d cv h) (b : BS 5 h v l) (hl : l.length < 2 ^ 28) : callW S.cfg (· = x) 49 [.ptr x 0, v] h fun w h' => ∃ cv', PR h h' w (xResult d l).2.1 (xResult d l).2.2 ∧ XP X n0 x (xResult d l).1 cv' h h' ∧ (cv' = cv ∨ cv' = .nilslice) := by
 refine into Tryz.f49 _ Tryz.func49 (hS.ownX _ (by decide)) rfl rfl (by kernel_rfl) (by kernel_rfl) ?_
 have okr : ∀ k, k = x → fresh h.nx (· = x) k := fun k hk => by rw [fresh_def]; exact .inr hk
 have lt := a.lt.2
 have hxA0 : Ext h (h.push (.cells zPT 53 false)) := (Ext.refl h).push _
 have g := (a.ext hxA0).get
 unfold xdC at g
 refine ww1 (cj @Tryz.f49.eq_1 g) ?_
 refine callF_exact (xffirst hS (b.ext hxA0) d.c) ?_
 generalize hhA : H.push h _ = hA
 have hxA : Ext h hA := by rw [← hhA]; exact hxA0
 have gA : hA.get h.nx = some (.cells zPT 53 false) := by rw [← hhA]; exact push_eq rfl
 have nA : hA.nx = h.nx + 1 := by rw [← hhA]; rfl
 clear hhA hxA0
 have aA := a.ext hxA
 have bA := b.ext hxA
 have gx := aA.get
 unfold xdC at gx
 have ret : ∀ {q : XD × PT × Int} {w : V} {h' : H}, SX X n0 x cv h q w h' → ∃ cv', PR h h' w q.2.1 q.2.2 ∧ XP X n0 x q.1 cv' h h' ∧ (cv' = cv ∨ cv' = .nilslice) := fun q => ⟨cv, q.1, q.2, .inl rfl⟩
 by_cases f2 : firstF l d.c = 2
 ·have e : xResult d l = xErr d l := by unfold xResult; rw [if_pos f2]
  rw [e]
  refine ww1 f2 ?_
  refine callF_of (xerr_spec hS aA bA hl) okr ?_
  rintro _ h2 ⟨⟨y, rfl, by2, yo⟩, p2⟩
  have g2 : h2.get h.nx = some (.cells zPT 53 false) := by rw [p2.2.2 _ (by omega) (by omega)]; exact gA
  obtain ⟨yc1, yc2⟩ := by2.cell
  generalize xErr d l = q at *
  obtain ⟨d2, ⟨k, la, o, ec, es, et, fw, fs, q1, q2, q3, q4⟩, er⟩ := q
  unfold PT.cells
  refine ww1 (cj g2 <| cj yc1 yc2) ?_
  exact ret <| SX.top (q := (d2, ⟨k, la, o, ec, es, et, fw, fs, q1, q2, q3, q4⟩, er)) a hxA (by omega) by2 yo p2 _
 by_cases f1 : firstF l d.c = 1
 ·have e : xResult d l = xOk d l 1 := by unfold xResult; rw [if_neg f2, if_pos f1]
  rw [e]
  refine wew1 f1 ?_
  refine callF_of (xok_spec hS aA bA hl 1) okr ?_
  rintro _ h2 ⟨⟨y, rfl, by2, yo⟩, p2⟩
  have g2 : h2.get h.nx = some (.cells zPT 53 false) := by rw [p2.2.2 _ (by omega) (by omega)]; exact gA
  obtain ⟨yc1, yc2⟩ := by2.cell
  generalize xOk d l 1 = q at *
  obtain ⟨d2, ⟨k, la, o, ec, es, et, fw, fs, q1, q2, q3, q4⟩, er⟩ := q
  unfold PT.cells
  refine ww1 (cj g2 <| cj yc1 yc2) ?_
  exact ret <| SX.top (q := (d2, ⟨k, la, o, ec, es, et, fw, fs, q1, q2, q3, q4⟩, er)) a hxA (by omega) by2 yo p2 _
 have e0 : xResult d l = if d.st = 7 then d.bad else
   if firstF l d.c = 4 then (if fileE l ≠ 0 then d.bad else ({ d with st := 6 }, { PT.z with k := 3 }, 0)) else
   if (countF l).2 ≠ 0 then d.bad else ({ d with st := 3, left := (countF l).1, cols := [] }, { PT.z with k := 4 }, 0) := by unfold xResult; rw [if_neg f2, if_neg f1]
 by_cases s7 : d.st = 7
 ·have e : xResult d l = d.bad := by rw [e0, if_pos s7]
  rw [e]
  have s7' := eq_true s7
  refine ww1 (cj f2 <| cj f1 <| cj gx s7') ?_
  refine callF_of (xbad_spec hS aA) okr ?_
  rintro _ h2 ⟨rfl, p2⟩
  have n2 := p2.2.1
  have g2 : h2.get h.nx = some (.cells zPT 53 false) := by rw [p2.2.2 _ (by omega) (by omega)]; exact gA
  refine ww1 g2 ?_
  exact ret <| SX.top (q := d.bad) a hxA (by omega) (BS.nil _ _) (fun k hk => off_nil k) p2 _
 by_cases f4 : firstF l d.c = 4
 ·refine wew1 (cj f4 <| cj gx s7) ?_
  refine callF_pure (xreadfile_spec hS bA hl) ?_
  rintro _ h1 hx1 ⟨tt, rfl⟩
  have n1 := hx1.1
  have hxB := hxA.trans hx1
  have aB := a.ext hxB
  have gB : h1.get h.nx = some (.cells zPT 53 false) := by rw [hx1.2 _ (by omega)]; exact gA
  have gx := aB.get
  unfold xdC at gx
  by_cases hf : fileE l = 0
  ·have e : xResult d l = ({ d with st := 6 }, { PT.z with k := 3 }, 0) := by rw [e0, if_neg s7, if_pos f4, if_neg (fun q => q hf)]
   rw [e]
   have hf' := eq_true hf
   refine ww1 (cj hf' <| cj gx gB) ?_
   exact ⟨cv, PR.nil rfl rfl, XP.put_new a ((XP.same a hxB).put (d' := { d with st := 6 }) rfl) (Nat.le_refl _) _, .inl rfl⟩
  ·have e : xResult d l = d.bad := by rw [e0, if_neg s7, if_pos f4, if_pos hf]
   rw [e]
   refine ww1 hf ?_
   refine callF_of (xbad_spec hS aB) okr ?_
   rintro _ h2 ⟨rfl, p2⟩
   have n2 := p2.2.1
   have g2 : h2.get h.nx = some (.cells zPT 53 false) := by rw [p2.2.2 _ (by omega) (by omega)]; exact gB
   refine ww1 g2 ?_
   exact ret <| SX.top (q := d.bad) a hxB (by omega) (BS.nil _ _) (fun k hk => off_nil k) p2 _
 refine ww1 (cj f2 <| cj f1 <| cj f4 <| cj gx s7) ?_
 refine callF_pure (xcount_spec hS bA hl) ?_
 rintro _ h1 hx1 rfl
 have n1 := hx1.1
 have hxB := hxA.trans hx1
 have aB := a.ext hxB
 have gB : h1.get h.nx = some (.cells zPT 53 false) := by rw [hx1.2 _ (by omega)]; exact gA
 have gx := aB.get
 unfold xdC at gx
 by_cases hf : (countF l).2 = 0
 ·have e : xResult d l = ({ d with st := 3, left := (countF l).1, cols := [] }, { PT.z with k := 4 }, 0) := by rw [e0, if_neg s7, if_neg f4, if_neg (fun q => q hf)]
  rw [e]
  have hf' := eq_true hf
  refine ww1 (cj hf' <| cj gx gB) ?_
  exact ⟨.nilslice, PR.nil rfl rfl, XP.put_off lt (off_nil _) ((((XP.same a hxB).put (d' := { d with st := 3 }) rfl).put (d' := { d with st := 3, left := (countF l).1 }) rfl).putN (d' := { d with st := 3, left := (countF l).1, cols := [] }) rfl) (Nat.le_refl _) _, .inr rfl⟩
 ·have e : xResult d l = d.bad := by rw [e0, if_neg s7, if_neg f4, if_pos hf]
  rw [e]
  refine ww1 hf ?_
  refine callF_of (xbad_spec hS aB) okr ?_
  rintro _ h2 ⟨rfl, p2⟩
  have n2 := p2.2.1
  have g2 : h2.get h.nx = some (.cells zPT 53 false) := by rw [p2.2.2 _ (by omega) (by omega)]; exact gB
  refine ww1 g2 ?_
  exact ret <| SX.top (q := d.bad) a hxB (by omega) (BS.nil _ _) (fun k hk => off_nil k) p2 _
end
noncomputable section
structure FX (x : Nat) (cv : V) (h : H) (cv' : V) (h' : H) : Prop where
 nx : h.nx ≤ h'.nx
 get : ∀ k, k < h.nx → k ≠ x → Off cv k → h'.get k = h.get k
 off : ∀ k, k < h.nx → Off cv k → Off cv' k
theorem FX.but {x : Nat} {cv : V} {h h' : H} (b : But x h h') : FX x cv h cv h' := ⟨b.1, fun k hk hx _ => b.2 k hk hx, fun k _ q => q⟩
theorem FX.nil {x : Nat} {cv cv' : V} {h h' : H} (b : But x h h') (hc : cv' = cv ∨ cv' = .nilslice) : FX x cv h cv' h' := ⟨b.1, fun k hk hx _ => b.2 k hk hx, fun k _ q => by rcases hc with rfl | rfl; exact q; exact off_nil k⟩
theorem FX.trans {x : Nat} {cv c1 c2 : V} {h h1 h2 : H} (a : FX x cv h c1 h1) (b : FX x c1 h1 c2 h2) : FX x cv h c2 h2 := ⟨Nat.le_trans a.nx b.nx, fun k hk hx q => by rw [b.get k (Nat.lt_of_lt_of_le hk a.nx) hx (a.off k hk q), a.get k hk hx q], fun k hk q => b.off k (Nat.lt_of_lt_of_le hk a.nx) (a.off k hk q)⟩
theorem FX.put_new {x k : Nat} {cv cv' : V} {h h2 : H} (a : FX x cv h cv' h2) (hk : h.nx ≤ k) (ob : Ob) : FX x cv h cv' (h2.put k ob) := ⟨a.nx, fun j hj hx q => by rw [put_ne (by omega), a.get j hj hx q], a.off⟩
theorem XR.put_off {X : RX} {n0 x k : Nat} {d : XD} {cv : V} {h : H} (p : XR X n0 x d cv h) (hx : ¬ x = k) (ho : Off cv k) (ob : Ob) : XR X n0 x d cv (h.put k ob) := ⟨by rw [put_ne hx]; exact p.get, p.cols.put_off ho, p.off, p.lt, p.x7⟩
def xCol1 (d : XD) (l : List Nat) : XD := { d with cols := if d.st = 3 then d.cols ++ [(colF l).1] else d.cols, left := d.left - 1 }
def xCol2 (d : XD) (l : List Nat) : XD := if (xCol1 d l).left = 0 then (xCol1 d l).columned else xCol1 d l
def xColumn (d : XD) (l : List Nat) : XD × PT × Int := if (colF l).2 ≠ 0 then d.bad else (xCol2 d l, { PT.z with k := 5, last := (xCol2 d l).st = 0 }, 0)
def SXF (X : RX) (n0 x : Nat) (cv : V) (h : H) (q : XD × PT × Int) (w : V) (h' : H) : Prop := ∃ cv', PR h h' w q.2.1 q.2.2 ∧ XR X n0 x q.1 cv' h' ∧ FX x cv h cv' h'
theorem SX.f {X : RX} {n0 x : Nat} {cv w : V} {h h' : H} {q : XD × PT × Int} (a : SX X n0 x cv h q w h') : SXF X n0 x cv h q w h' := ⟨cv, a.1, a.2.1, FX.but a.2.2⟩
variable {S : Set0} (hS : StdX S)
include hS
theorem xcolumn_spec {X : RX} {n0 x : Nat} {d : XD} {cv v : V} {l : List Nat} {h : H} (a : XR X n0 x d cv h) (b : BS 5 h v l) (hl : l.length < 2 ^ 28) (hL : 1 ≤ d.left ∧ d.left ≤ 65536) (hT : d.cols.length ≤ 65536) : callW S.cfg (fun k => n0 ≤ k) 50 [.ptr x 0, v] h fun w h' => SXF X n0 x cv h (xColumn d l) w h' := by
 refine into Tryz.f50 _ Tryz.func50 (hS.ownX _ (by decide)) rfl rfl (by kernel_rfl) (by kernel_rfl) ?_
 have okr : ∀ k, k = x → fresh h.nx (fun k => n0 ≤ k) k := fun k hk => by rw [fresh_def]; exact .inr (by rw [hk]; exact a.lt.1)
 have lt := a.lt
 have hxA0 : Ext h (h.push (.cells zPT 53 false)) := (Ext.refl h).push _
 refine ww1 @Tryz.f50.eq_1 ?_
 refine callF_pure (xcolread_spec hS (b.ext hxA0) hl) ?_
 rintro _ h1 hx1 rfl
 have n1 := hx1.1
 simp only [push_nx] at n1
 have g1 : h1.get h.nx = some (.cells zPT 53 false) := by rw [hx1.2 _ (by simp only [push_nx]; omega)]; exact push_eq rfl
 have hx : Ext h h1 := hxA0.trans hx1
 have ok := colF_ok l
 by_cases he : (colF l).2 = 0
 case neg =>
  have e : xColumn d l = d.bad := if_pos he
  rw [e]
  unfold CO.cells
  refine ww1 he ?_
  generalize hhB : H.put (H.push h1 _) h1.nx _ = hB
  have hxB : Ext h1 hB := by rw [← hhB]; exact ((Ext.refl h1).push _).put (Nat.le_refl _) _
  have gB : hB.get h.nx = some (.cells zPT 53 false) := by rw [hxB.2 _ (by omega)]; exact g1
  clear hhB
  have nB := hxB.1
  refine ⟨.inr (.inl (by omega)), ?_⟩
  refine callF_of (xbad_spec hS (a.ext (hx.trans hxB))) okr ?_
  rintro _ h2 ⟨rfl, p2⟩
  have n2 := p2.2.1
  have g2 : h2.get h.nx = some (.cells zPT 53 false) := by rw [p2.2.2 _ (by omega) (by omega)]; exact gB
  refine ww1 g2 ?_
  exact SX.f <| SX.top (q := d.bad) a (hx.trans hxB) (by omega) (BS.nil _ _) (fun k hk => off_nil k) p2 _
 have e0 : xColumn d l = (xCol2 d l, { PT.z with k := 5, last := (xCol2 d l).st = 0 }, 0) := if_neg fun q => q he
 rw [e0]
 have he' := eq_true he
 have d1 : xCol1 d l = { d with cols := if d.st = 3 then d.cols ++ [(colF l).1] else d.cols, left := d.left - 1 } := rfl
 unfold xCol2
 generalize xCol1 d l = D1 at *
 generalize (colF l).1 = c at *
 unfold CO.cells
 generalize hhB : H.put (H.push h1 (.cells CO.zero.cells 67 false)) h1.nx (.cells c.cells 67 false) = hB
 have hxB : Ext h1 hB := by rw [← hhB]; exact ((Ext.refl h1).push _).put (Nat.le_refl _) _
 have gB : hB.get h1.nx = some (.cells c.cells 67 false) := by rw [← hhB]; exact put_eq rfl
 have gz : hB.get h.nx = some (.cells zPT 53 false) := by rw [hxB.2 _ (by omega)]; exact g1
 have nB : hB.nx = h1.nx + 1 := by rw [← hhB]; rfl
 unfold CO.cells CO.zero at hhB
 unfold CO.cells at gB
 have aB := a.ext (hx.trans hxB)
 have gr := aB.get
 unfold xdC at gr
 refine wr1 (cj he' hhB) ?_
 refine ⟨.inr (.inl (by omega)), ?_⟩
 refine run_cut (fun env' h' => env' 0 = .ptr x 0 ∧ env' 4 = .ptr h.nx 0 ∧ env' 6 = .ptr h1.nx 0 ∧ h' = hB) ?_ ?_
 ·exact wv1 (cj he' hhB)
 rintro env1 h' ⟨e0', e4, e6, rfl⟩
 have okn : ∀ k, n0 ≤ k → fresh h.nx (fun k => n0 ≤ k) k := fun k hk => by rw [fresh_def]; exact .inr hk
 refine wr1 (cj e0' <| cj e4 <| cj e6 gr) ?_
 refine run_cut (fun env' h' => env' 0 = .ptr x 0 ∧ env' 4 = .ptr h.nx 0 ∧ ∃ cv', XR X n0 x { D1 with left := d.left } cv' h' ∧ h'.get h.nx = some (.cells zPT 53 false) ∧ FX x cv h cv' h' ∧ Off cv' h.nx ∧ h.nx < h'.nx) ?_ ?_
 ·by_cases s3 : d.st = 3
  ·have s3' := eq_true s3
   have dd : ({ D1 with left := d.left } : XD) = { d with cols := d.cols ++ [c] } := by rw [d1, if_pos s3]
   rw [dd]
   refine ww1 (cj e0' <| cj e4 <| cj e6 <| cj gr s3') ?_
   refine draw_by [(4, 6)] (by kernel_rfl) ?_
   refine ww1 (cj e0' <| cj e4 <| cj e6 <| cj gr gB) ?_
   generalize hhC : H.push h' _ = hC
   have hxC : Ext h' hC := by rw [← hhC]; exact (Ext.refl h').push _
   have nC : hC.nx = h'.nx + 1 := by rw [← hhC]; rfl
   have gC : hC.get h'.nx = some (.cells c.cells 67 false) := by rw [← hhC]; exact push_eq rfl
   clear hhC
   have aC := aB.ext hxC
   refine append_fresh (n0 := n0) (sv := cv) (b2 := h'.nx) (o2 := 0) (n := 1) (m := 1) (cells := colV d.cols) (new := c.cells) ?_ ?_ ap28' ⟨.slice 67, by kernel_rfl, rfl⟩ aC.cols (by decide) (by rw [gC]; exact rdC_all rfl) rfl rfl ?_ (by decide) (fun k hk => by
    obtain ⟨o, n, m, q⟩ := hk
    exact okn k (Classical.byContradiction fun u => a.cols.off k (by omega) o n m q)) (by omega) ?_
   ·exact wv0
   ·exact wv0
   ·rw [colV_len]; show _ + 10 ≤ _; omega
   intro v2 h2 L2 hl2 n2 hk2 hL2
   have rn : ∀ o n m, cv ≠ .slice x o n m := fun o n m q => a.off o n m q
   have g2 : h2.get x = some (.cells (xdC X d cv) 75 false) := by rw [hk2 x (by omega) rn]; exact aC.get
   unfold xdC at g2
   obtain ⟨u1, u2⟩ := hl2.cell
   have t2 : Lst n0 h2 v2 (colV (d.cols ++ [c])) 67 10 := by rw [colV_app]; exact .inl (hl2.mono (by omega))
   have off2 : ∀ k, k < hC.nx → Off v2 k := fun k hk o n m q => by have := hl2.blk q; omega
   have a2 : XR X n0 x { d with cols := d.cols ++ [c] } v2 (h2.put x (.cells (xdC X { d with cols := d.cols ++ [c] } v2) 75 false)) := ⟨put_eq rfl, t2.put_off (off2 x (by omega)), off2 x (by omega), ⟨lt.1, by show x < h2.nx; omega⟩, a.x7⟩
   refine ww1 (cj e0' <| cj e4 <| cj e6 <| cj g2 <| cj u1 u2) ?_
   have oz : Off cv h.nx := a.cols.off_new (Nat.le_refl _)
   refine ⟨.inr (.inr lt.1), fun p hp => ?_, v2, a2, ?_, ⟨by show h.nx ≤ h2.nx; omega, fun k hk hkx q => ?_, fun k hk _ => off2 k (by omega)⟩, off2 _ (by omega), by show h.nx < h2.nx; omega⟩
   ·rw [List.mem_singleton.1 hp]
    exact pair_one rfl rfl (apart_blk fun y hy z hz q => by
     rw [List.mem_singleton.1 hy, List.mem_singleton.1 hz] at q
     have q : x = h'.nx := q
     omega)
   ·rw [hk2 h.nx (by omega) oz, hxC.2 _ (by omega)]; exact gz
   ·rw [put_ne hkx, hk2 k (by omega) q, hxC.2 k (by omega), hxB.2 k (by omega), hx.2 k hk]
  ·have dd : ({ D1 with left := d.left } : XD) = d := by rw [d1, if_neg s3]
   rw [dd]
   refine ww1 (cj e0' <| cj e4 <| cj e6 <| cj gr s3) ?_
   exact ⟨cv, aB, gz, FX.but (But.of_ext (hx.trans hxB)), a.cols.off_new (Nat.le_refl _), by omega⟩
 rintro env2 h2 ⟨e0', e4, cv2, a2, gz2, fx2, oz2, lz2⟩
 have gr2 := a2.get
 unfold xdC at gr2
 have lt2 := a2.lt
 have nx2 := fx2.nx
 have D1l : D1.left = d.left - 1 := by rw [d1]
 have wl : IntKind.i64.wrap (d.left - 1) = D1.left := by rw [D1l]; exact i64_in _ (by omega)
 have a3 := a2.put (d' := D1) rfl
 have fx3 : FX x cv h cv2 (h2.put x (.cells (xdC X D1 cv2) 75 false)) := fx2.trans (FX.but ((But.refl x h2).put _))
 have gz3 : (h2.put x (.cells (xdC X D1 cv2) 75 false)).get h.nx = some (.cells zPT 53 false) := by rw [put_ne (by omega)]; exact gz2
 unfold xdC at a3 fx3 gz3
 by_cases h0 : D1.left = 0
 ·rw [if_pos h0]
  rw [h0] at wl a3 fx3 gz3
  refine ww1 (cj e0' <| cj e4 <| cj gr2 wl) ?_
  have a3' : XR X n0 x D1 cv2 _ := a3
  refine ⟨.inr (.inr lt.1), callF_of (xcolumned_spec hS a3') okr ?_⟩
  rintro _ h4 ⟨rfl, p4⟩
  have fx4 := fx3.trans (FX.but p4.2)
  have nx4 := p4.2.1
  have nx3 : h2.nx ≤ h4.nx := nx4
  have gz4 : h4.get h.nx = some (.cells zPT 53 false) := by rw [p4.2.2 _ (by show h.nx < h2.nx; omega) (by omega)]; exact gz3
  have gr4 := p4.1.get
  unfold xdC at gr4
  generalize D1.columned = D2 at *
  refine ww1 (cj e0' <| cj e4 <| cj gr4 gz4) ?_
  exact ⟨cv2, PR.nil rfl rfl, p4.1.put_off (by omega) oz2 _, fx4.put_new (Nat.le_refl _) _⟩
 ·rw [if_neg h0]
  refine ww1 (cj e0' <| cj e4 <| cj gr2 <| cj wl <| cj h0 gz2) ?_
  exact ⟨.inr (.inr lt.1), cv2, PR.nil rfl rfl, XR.put_off (d := D1) a3 (by omega) oz2 _, fx3.put_new (Nat.le_refl _) _⟩
end
noncomputable section
def XD.beh2 (d : XD) (s : Int) : XD := if d.st = 4 ∧ d.k = 23 ∧ d.fl = 1 ∧ ¬ iAnd .u16 s 64 = 0 then { d with st := 0 } else if d.st = 4 then { d with st := 5 } else if d.st = 10 then d.told else { d with st := 0 }
def xBehind (d : XD) (l : List Nat) : XD × PT × Int :=
 if ¬ (l.length = 5 ∧ byI l 0 = 254) then d.bad else
 if (eofF l).2.2 ≠ 0 then (d.eof l).bad else
 ((d.eof l).beh2 (eofF l).2.1, { PT.z with k := 6, last := ((d.eof l).beh2 (eofF l).2.1).st = 0, fw := (eofF l).1, fs := (eofF l).2.1 }, 0)
def xPrep2 (d : XD) (l : List Nat) : XD := if (prepF l).2.2.1 = 0 then ({ d with beh := (prepF l).2.1, st := 9, left := (prepF l).2.2.1 } : XD).told else { d with beh := (prepF l).2.1, st := 9, left := (prepF l).2.2.1 }
def xPrepared (d : XD) (l : List Nat) : XD × PT × Int :=
 if firstF l d.c = 2 then xErr d l else if (prepF l).2.2.2.2 ≠ 0 then d.bad else
 (xPrep2 d l, { PT.z with k := 9, last := (xPrep2 d l).st = 0, p1 := (prepF l).1, p2 := (prepF l).2.1, p3 := (prepF l).2.2.1, p4 := (prepF l).2.2.2.1 }, 0)
variable {S : Set0} (hS : StdX S)
include hS
theorem xbehind_spec {X : RX} {n0 x : Nat} {d : XD} {cv v : V} {l : List Nat} {h : H} (a : XR X n0 x d cv h) (b : BS 5 h v l) (hl : l.length < 2 ^ 28) : callW S.cfg (· = x) 51 [.ptr x 0, v] h fun w h' => SX X n0 x cv h (xBehind d l) w h' := by
 refine into Tryz.f51 _ Tryz.func51 (hS.ownX _ (by decide)) rfl rfl (by kernel_rfl) (by kernel_rfl) ?_
 have okr : ∀ k, k = x → fresh h.nx (· = x) k := fun k hk => by rw [fresh_def]; exact .inr hk
 have lt := a.lt.2
 have hxA0 : Ext h (h.push (.cells zPT 53 false)) := (Ext.refl h).push _
 have b1 := b.len 5
 by_cases hc : l.length = 5 ∧ byI l 0 = 254
 case neg =>
  have e : xBehind d l = d.bad := if_pos hc
  rw [e]
  by_cases l5 : l.length = 5
  ·obtain ⟨b0, o, m, hv, _, _⟩ := b.at (i := 0) (by omega)
   subst hv
   obtain ⟨_, hb0, hrd⟩ := b.rd
   have hr := hrd 0 (by omega)
   rw [Nat.add_zero] at hr
   have l50 : (0 < l.length) = True := eq_true (by omega)
   have l5i : ((l.length : Int) = 5) = True := eq_true (by omega)
   have hby : ¬ byI l 0 = 254 := fun q => hc ⟨l5, q⟩
   refine ww1 (cj @Tryz.f51.eq_1 <| cj b1 <| cj l5i <| cj l50 <| cj hr hby) ?_
   generalize hhA : H.push h _ = hA
   have hxA : Ext h hA := by rw [← hhA]; exact hxA0
   have gA : hA.get h.nx = some (.cells zPT 53 false) := by rw [← hhA]; exact push_eq rfl
   have nA : hA.nx = h.nx + 1 := by rw [← hhA]; rfl
   clear hhA hxA0
   have aA := a.ext hxA
   refine callF_of (xbad_spec hS aA) okr ?_
   rintro _ h2 ⟨rfl, p2⟩
   have n2 := p2.2.1
   have g2 : h2.get h.nx = some (.cells zPT 53 false) := by rw [p2.2.2 _ (by omega) (by omega)]; exact gA
   refine ww1 (cj @Tryz.f51.eq_1 g2) ?_
   exact SX.top (q := d.bad) a hxA (by omega) (BS.nil _ _) (fun k hk => off_nil k) p2 _
  ·have l5i : ¬ ((l.length : Int) = 5) := by omega
   refine ww1 (cj @Tryz.f51.eq_1 <| cj b1 <| cj l5i l5) ?_
   generalize hhA : H.push h _ = hA
   have hxA : Ext h hA := by rw [← hhA]; exact hxA0
   have gA : hA.get h.nx = some (.cells zPT 53 false) := by rw [← hhA]; exact push_eq rfl
   have nA : hA.nx = h.nx + 1 := by rw [← hhA]; rfl
   clear hhA hxA0
   have aA := a.ext hxA
   refine callF_of (xbad_spec hS aA) okr ?_
   rintro _ h2 ⟨rfl, p2⟩
   have n2 := p2.2.1
   have g2 : h2.get h.nx = some (.cells zPT 53 false) := by rw [p2.2.2 _ (by omega) (by omega)]; exact gA
   refine ww1 (cj @Tryz.f51.eq_1 g2) ?_
   exact SX.top (q := d.bad) a hxA (by omega) (BS.nil _ _) (fun k hk => off_nil k) p2 _
 obtain ⟨l5, hby⟩ := hc
 have e0 : xBehind d l = if (eofF l).2.2 ≠ 0 then (d.eof l).bad else ((d.eof l).beh2 (eofF l).2.1, { PT.z with k := 6, last := ((d.eof l).beh2 (eofF l).2.1).st = 0, fw := (eofF l).1, fs := (eofF l).2.1 }, 0) := if_neg fun q => q ⟨l5, hby⟩
 obtain ⟨b0, o, m, hv, _, _⟩ := b.at (i := 0) (by omega)
 subst hv
 obtain ⟨_, hb0, hrd⟩ := b.rd
 have hr := hrd 0 (by omega)
 rw [Nat.add_zero] at hr
 have l50 : (0 < l.length) = True := eq_true (by omega)
 have l5i : ((l.length : Int) = 5) = True := eq_true (by omega)
 have hby' := eq_true hby
 have l5' := eq_true l5
 refine ww1 (cj @Tryz.f51.eq_1 <| cj b1 <| cj l5i <| cj l50 <| cj hr <| cj hby' l5') ?_
 generalize hhA : H.push h _ = hA
 have hxA : Ext h hA := by rw [← hhA]; exact hxA0
 have gA : hA.get h.nx = some (.cells zPT 53 false) := by rw [← hhA]; exact push_eq rfl
 have nA : hA.nx = h.nx + 1 := by rw [← hhA]; rfl
 clear hhA hxA0
 refine callF_of (xeof_spec hS (a.ext hxA) (b.ext hxA) hl) okr ?_
 rintro _ h2 ⟨rfl, p2⟩
 have n2 := p2.2.1
 have g2 : h2.get h.nx = some (.cells zPT 53 false) := by rw [p2.2.2 _ (by omega) (by omega)]; exact gA
 by_cases he : (eofF l).2.2 = 0
 case neg =>
  rw [e0, if_pos he]
  refine ww1 (cj he g2) ?_
  refine ⟨.inr (.inl (by omega)), ?_⟩
  generalize hhC : H.put (H.push h2 _) h2.nx _ = hC
  have hxC : Ext h2 hC := by rw [← hhC]; exact ((Ext.refl h2).push _).put (Nat.le_refl _) _
  have gC : hC.get h.nx = some (.cells zPT 53 false) := by rw [hxC.2 _ (by omega)]; exact g2
  have nC := hxC.1
  clear hhC
  refine callF_of (xbad_spec hS (p2.1.ext hxC)) okr ?_
  rintro _ h3 ⟨rfl, p3⟩
  have g3 : h3.get h.nx = some (.cells zPT 53 false) := by rw [p3.2.2 _ (by omega) (by omega)]; exact gC
  refine ww1 g3 ?_
  exact ⟨PR.nil rfl rfl, XP.put_new a (XP.trans ((XP.pre hxA p2).ext hxC) p3) (Nat.le_refl _) _⟩
 rw [e0, if_neg (fun q => q he)]
 have he' := eq_true he
 generalize d.eof l = d1 at *
 have gx := p2.1.get
 unfold xdC at gx
 have P : ∀ {hC : H}, Ext h2 hC → XP X n0 x d1 cv h hC := fun e => (XP.pre hxA p2).ext e
 by_cases s4 : d1.st = 4
 ·have s4' := eq_true s4
  by_cases hcu : (d1.k = 23 ∧ d1.fl = 1) ∧ ¬ iAnd .u16 (eofF l).2.1 64 = 0
  ·have e : d1.beh2 (eofF l).2.1 = { d1 with st := 0 } := if_pos ⟨s4, hcu.1.1, hcu.1.2, hcu.2⟩
   rw [e]
   have u1 := eq_true hcu.1.1
   have u2 := eq_true hcu.1.2
   have u3 := hcu.2
   simp +contextual (disch := first | exact de | fail) only [draw_calm, draw_calmA, wpy, fW, Int.reduceLE, Int.reduceLT, Nat.reduceLeDiff, UInt8.reduceToNat, ↓reduceIte, Nat.reduceEqDiff, Nat.reduceAdd, reduceCtorEq, Int.reduceToNat, he', g2, gx, s4', u1, u2, u3]
   exact ⟨.inr (.inl (by omega)), PR.nil rfl rfl, XP.put_new a ((P (((Ext.refl _).push _).put (Nat.le_refl _) _)).put (d' := { d1 with st := 0 }) rfl) (Nat.le_refl _) _⟩
  ·have e : d1.beh2 (eofF l).2.1 = { d1 with st := 5 } := by unfold XD.beh2; rw [if_neg (fun q => hcu ⟨⟨q.2.1, q.2.2.1⟩, q.2.2.2⟩), if_pos s4]
   rw [e]
   simp +contextual (disch := first | exact de | fail) only [draw_calm, draw_calmA, wpy, fW, Int.reduceLE, Int.reduceLT, Nat.reduceLeDiff, UInt8.reduceToNat, ↓reduceIte, Nat.reduceEqDiff, Nat.reduceAdd, reduceCtorEq, Int.reduceToNat, he', g2, gx, s4', hcu, Int.reduceEq]
   exact ⟨.inr (.inl (by omega)), PR.nil rfl rfl, XP.put_new a ((P (((Ext.refl _).push _).put (Nat.le_refl _) _)).put (d' := { d1 with st := 5 }) rfl) (Nat.le_refl _) _⟩
 by_cases s10 : d1.st = 10
 ·have e : d1.beh2 (eofF l).2.1 = d1.told := by unfold XD.beh2; rw [if_neg (fun q => s4 q.1), if_neg s4, if_pos s10]
  rw [e]
  have s10' := eq_true s10
  refine ww1 (cj he' <| cj g2 <| cj gx <| cj s4 s10') ?_
  refine ⟨.inr (.inl (by omega)), ?_⟩
  generalize hhC : H.put (H.push h2 _) h2.nx _ = hC
  have hxC : Ext h2 hC := by rw [← hhC]; exact ((Ext.refl h2).push _).put (Nat.le_refl _) _
  have gC : hC.get h.nx = some (.cells zPT 53 false) := by rw [hxC.2 _ (by omega)]; exact g2
  have gE : hC.get h2.nx = some (.cells [.int .u16 (eofF l).1, .int .u16 (eofF l).2.1] 49 false) := by rw [← hhC]; exact put_eq rfl
  have nC : hC.nx = h2.nx + 1 := by rw [← hhC]; rfl
  clear hhC
  refine callF_of (xtold_spec hS (p2.1.ext hxC)) okr ?_
  rintro _ h3 ⟨rfl, p3⟩
  have g3 : h3.get h.nx = some (.cells zPT 53 false) := by rw [p3.2.2 _ (by omega) (by omega)]; exact gC
  have g3E : h3.get h2.nx = some (.cells [.int .u16 (eofF l).1, .int .u16 (eofF l).2.1] 49 false) := by rw [p3.2.2 _ (by omega) (by omega)]; exact gE
  have gx3 := p3.1.get
  unfold xdC at gx3
  generalize d1.told = d3 at *
  simp +contextual (disch := first | exact de | fail) only [draw_calm, draw_calmA, wpy, fW, Int.reduceLE, Int.reduceLT, Nat.reduceLeDiff, UInt8.reduceToNat, ↓reduceIte, Nat.reduceEqDiff, Nat.reduceAdd, reduceCtorEq, Int.reduceToNat, g3, g3E, gx3]
  exact ⟨PR.nil rfl rfl, XP.put_new a (XP.trans (P hxC) p3) (Nat.le_refl _) _⟩
 ·have e : d1.beh2 (eofF l).2.1 = { d1 with st := 0 } := by unfold XD.beh2; rw [if_neg (fun q => s4 q.1), if_neg s4, if_neg s10]
  rw [e]
  simp +contextual (disch := first | exact de | fail) only [draw_calm, draw_calmA, wpy, fW, Int.reduceLE, Int.reduceLT, Nat.reduceLeDiff, UInt8.reduceToNat, ↓reduceIte, Nat.reduceEqDiff, Nat.reduceAdd, reduceCtorEq, Int.reduceToNat, he', g2, gx, s4, s10]
  exact ⟨.inr (.inl (by omega)), PR.nil rfl rfl, XP.put_new a ((P (((Ext.refl _).push _).put (Nat.le_refl _) _)).put (d' := { d1 with st := 0 }) rfl) (Nat.le_refl _) _⟩
theorem xprepared_spec {X : RX} {n0 x : Nat} {d : XD} {cv v : V} {l : List Nat} {h : H} (a : XR X n0 x d cv h) (b : BS 5 h v l) (hl : l.length < 2 ^ 28) : callW S.cfg (· = x) 52 [.ptr x 0, v] h fun w h' => SX X n0 x cv h (xPrepared d l) w h' := by
 refine into Tryz.f52 _ Tryz.func52 (hS.ownX _ (by decide)) rfl rfl (by kernel_rfl) (by kernel_rfl) ?_
 have okr : ∀ k, k = x → fresh h.nx (· = x) k := fun k hk => by rw [fresh_def]; exact .inr hk
 have lt := a.lt.2
 have hxA0 : Ext h (h.push (.cells zPT 53 false)) := (Ext.refl h).push _
 have g := (a.ext hxA0).get
 unfold xdC at g
 refine ww1 (cj @Tryz.f52.eq_1 g) ?_
 refine callF_exact (xffirst hS (b.ext hxA0) d.c) ?_
 generalize hhA : H.push h _ = hA
 have hxA : Ext h hA := by rw [← hhA]; exact hxA0
 have gA : hA.get h.nx = some (.cells zPT 53 false) := by rw [← hhA]; exact push_eq rfl
 have nA : hA.nx = h.nx + 1 := by rw [← hhA]; rfl
 clear hhA hxA0
 have aA := a.ext hxA
 have bA := b.ext hxA
 by_cases f2 : firstF l d.c = 2
 ·have e : xPrepared d l = xErr d l := by unfold xPrepared; rw [if_pos f2]
  rw [e]
  refine ww1 f2 ?_
  refine callF_of (xerr_spec hS aA bA hl) okr ?_
  rintro _ h2 ⟨⟨y, rfl, by2, yo⟩, p2⟩
  have g2 : h2.get h.nx = some (.cells zPT 53 false) := by rw [p2.2.2 _ (by omega) (by omega)]; exact gA
  obtain ⟨yc1, yc2⟩ := by2.cell
  generalize xErr d l = q at *
  obtain ⟨d2, ⟨k, la, o, ec, es, et, fw, fs, q1, q2, q3, q4⟩, er⟩ := q
  unfold PT.cells
  refine ww1 (cj g2 <| cj yc1 yc2) ?_
  exact SX.top (q := (d2, ⟨k, la, o, ec, es, et, fw, fs, q1, q2, q3, q4⟩, er)) a hxA (by omega) by2 yo p2 _
 refine ww1 f2 ?_
 refine callF_pure (xreadprep_spec hS bA hl) ?_
 rintro _ h1 hx1 rfl
 have n1 := hx1.1
 have hxB := hxA.trans hx1
 have g1 : h1.get h.nx = some (.cells zPT 53 false) := by rw [hx1.2 _ (by omega)]; exact gA
 have gx := (a.ext hxB).get
 unfold xdC at gx
 by_cases hf : (prepF l).2.2.2.2 = 0
 case neg =>
  have e : xPrepared d l = d.bad := by unfold xPrepared; rw [if_neg f2, if_pos hf]
  rw [e]
  refine ww1 (cj hf g1) ?_
  refine ⟨.inr (.inl (by omega)), ?_⟩
  generalize hhC : H.put (H.push h1 _) h1.nx _ = hC
  have hxC : Ext h1 hC := by rw [← hhC]; exact ((Ext.refl h1).push _).put (Nat.le_refl _) _
  have gC : hC.get h.nx = some (.cells zPT 53 false) := by rw [hxC.2 _ (by omega)]; exact g1
  have nC := hxC.1
  clear hhC
  refine callF_of (xbad_spec hS (a.ext (hxB.trans hxC))) okr ?_
  rintro _ h2 ⟨rfl, p2⟩
  have n2 := p2.2.1
  have g2 : h2.get h.nx = some (.cells zPT 53 false) := by rw [p2.2.2 _ (by omega) (by omega)]; exact gC
  refine ww1 g2 ?_
  exact SX.top (q := d.bad) a (hxB.trans hxC) (by omega) (BS.nil _ _) (fun k hk => off_nil k) p2 _
 have e0 : xPrepared d l = (xPrep2 d l, { PT.z with k := 9, last := (xPrep2 d l).st = 0, p1 := (prepF l).1, p2 := (prepF l).2.1, p3 := (prepF l).2.2.1, p4 := (prepF l).2.2.2.1 }, 0) := by unfold xPrepared; rw [if_neg f2, if_neg (fun q => q hf)]
 rw [e0]
 have hf' := eq_true hf
 obtain ⟨w1, w2, w3, w4⟩ := prepF_in l
 have i1 : IntKind.i64.wrap (prepF l).2.1 = (prepF l).2.1 := i64_in _ (by omega)
 have i2 : IntKind.i64.wrap (prepF l).2.2.1 = (prepF l).2.2.1 := i64_in _ (by omega)
 unfold xPrep2
 refine ww1 (cj hf' <| cj g1 <| cj gx i1) ?_
 refine ⟨.inr (.inl (by omega)), draw_by [(3, 7)] (by kernel_rfl) ?_⟩
 have prs : ∀ (j k o o2 o3 : Nat), j ≠ k → fpApart (.lg (ldL (some (1, false)) (.ptr j o))) (.lg [.wr k o2 o3]) := fun j k o o2 o3 q => rd_wr q
 by_cases h0 : (prepF l).2.2.1 = 0
 ·rw [if_pos h0]
  rw [h0] at i2
  refine ww1 (cj hf' <| cj g1 <| cj gx <| cj i1 <| cj i2 h0) ?_
  refine ⟨fun q hq => by rw [List.mem_singleton.1 hq]; exact pair_one rfl rfl (prs _ _ _ _ _ (by omega)), ?_⟩
  generalize hq : H.put _ x _ = hC
  have pC : XP X n0 x { d with beh := (prepF l).2.1, st := 9, left := 0 } cv h hC := by
   rw [← hq]
   exact (((XP.same a (hxB.trans (((Ext.refl h1).push _).put (Nat.le_refl _) _))).put (d' := { d with beh := (prepF l).2.1 }) rfl).put (d' := { d with beh := (prepF l).2.1, st := 9 }) rfl).put (d' := { d with beh := (prepF l).2.1, st := 9, left := 0 }) rfl
  have gC : hC.get h.nx = some (.cells zPT 53 false) := by rw [← hq, put_ne (by omega), put_ne (by omega), put_ne (by omega), put_ne (by omega), push_ne (by omega)]; exact g1
  have gP : hC.get h1.nx = some (.cells [.int .u32 (prepF l).1, .int .u16 (prepF l).2.1, .int .u16 0, .int .u16 (prepF l).2.2.2.1] 51 false) := by rw [← hq, put_ne (by omega), put_ne (by omega), put_ne (by omega), put_eq rfl]
  have nC : hC.nx = h1.nx + 1 := by rw [← hq]; rfl
  clear hq
  refine callF_of (xtold_spec hS pC.1) okr ?_
  rintro _ h3 ⟨rfl, p3⟩
  have g3 : h3.get h.nx = some (.cells zPT 53 false) := by rw [p3.2.2 _ (by omega) (by omega)]; exact gC
  have g3P : h3.get h1.nx = some (.cells [.int .u32 (prepF l).1, .int .u16 (prepF l).2.1, .int .u16 0, .int .u16 (prepF l).2.2.2.1] 51 false) := by rw [p3.2.2 _ (by omega) (by omega)]; exact gP
  have gx3 := p3.1.get
  unfold xdC at gx3
  generalize ({ d with beh := (prepF l).2.1, st := 9, left := 0 } : XD).told = d3 at *
  simp +contextual (disch := first | exact de | fail) only [draw_calm, draw_calmA, wpy, fW, Int.reduceLE, Int.reduceLT, Nat.reduceLeDiff, UInt8.reduceToNat, ↓reduceIte, Nat.reduceEqDiff, Nat.reduceAdd, reduceCtorEq, Int.reduceToNat, g3, g3P, gx3]
  exact ⟨PR.nil rfl rfl, XP.put_new a (pC.trans p3) (Nat.le_refl _) _⟩
 ·rw [if_neg h0]
  simp +contextual (disch := first | exact de | fail) only [draw_calm, draw_calmA, wpy, fW, Int.reduceLE, Int.reduceLT, Nat.reduceLeDiff, UInt8.reduceToNat, ↓reduceIte, Nat.reduceEqDiff, Nat.reduceAdd, reduceCtorEq, Int.reduceToNat, hf', g1, gx, i1, i2, h0]
  refine ⟨fun q hq => by rw [List.mem_singleton.1 hq]; exact pair_one rfl rfl (prs _ _ _ _ _ (by omega)), PR.nil rfl rfl, XP.put_new a ((((XP.same a (hxB.trans (((Ext.refl h1).push _).put (Nat.le_refl _) _))).put (d' := { d with beh := (prepF l).2.1 }) rfl).put (d' := { d with beh := (prepF l).2.1, st := 9 }) rfl).put (d' := { d with beh := (prepF l).2.1, st := 9, left := (prepF l).2.2.1 }) rfl) (Nat.le_refl _) _⟩
end
noncomputable section
def xRowE (d : XD) (l : List Nat) : Int := if d.k = 3 then rtE d.cols.length l else rbE l (d.cols.map colTy)
def xRow (d : XD) (l : List Nat) : XD × PT × Int :=
 if lastF l d.c = 2 then xErr d l else if lastF l d.c = 1 then xOk d l 8 else
 if lastF l d.c = 3 then (if (eofF l).2.2 ≠ 0 then (d.eof l).bad else ((d.eof l).ends (eofF l).2.1, { PT.z with k := 8, last := ((d.eof l).ends (eofF l).2.1).st = 0, fw := (eofF l).1, fs := (eofF l).2.1 }, 0)) else
 if xRowE d l ≠ 0 then d.bad else (d, { PT.z with k := 7 }, 0)
theorem colV_get (ts : List CO) (i : Nat) (hi : i < ts.length) : (colV ts)[i * 10 + 7]? = some (.int .u8 ts[i].t) ∧ (colV ts)[i * 10 + 8]? = some (.int .u16 ts[i].f) := by
 have h := colV_at ts i hi
 have e : ∀ j, j < 10 → (colV ts)[i * 10 + j]? = ts[i].cells[j]? := fun j hj => by
  rw [← h, List.getElem?_take, if_pos hj, List.getElem?_drop]
 rw [e 7 (by decide), e 8 (by decide)]
 exact ⟨rfl, rfl⟩
theorem tyC_snoc (l : List (Int × Bool)) (t : Int × Bool) : tyC (l ++ [t]) = tyC l ++ [.int .u8 t.1, .bool t.2] := by simp [tyC]
variable {S : Set0} (hS : StdX S)
include hS
theorem xrow_spec {X : RX} {n0 x : Nat} {d : XD} {cv v : V} {l : List Nat} {h : H} (a : XR X n0 x d cv h) (b : BS 5 h v l) (hl : l.length < 2 ^ 28) (hn : d.cols.length ≤ 4096) (hok : ∀ c ∈ d.cols, c.Ok) : callW S.cfg (· = x) 53 [.ptr x 0, v] h fun w h' => SX X n0 x cv h (xRow d l) w h' := by
 refine into Tryz.f53 _ Tryz.func53 (hS.ownX _ (by decide)) rfl rfl (by kernel_rfl) (by kernel_rfl) ?_
 have okr : ∀ k, k = x → fresh h.nx (· = x) k := fun k hk => by rw [fresh_def]; exact .inr hk
 have lt := a.lt.2
 have hxA0 : Ext h (h.push (.cells zPT 53 false)) := (Ext.refl h).push _
 have g := (a.ext hxA0).get
 unfold xdC at g
 refine ww1 (cj @Tryz.f53.eq_1 g) ?_
 refine callF_exact (xlast_spec hS (b.ext hxA0) d.c) ?_
 generalize hhA : H.push h _ = hA
 have hxA : Ext h hA := by rw [← hhA]; exact hxA0
 have gA : hA.get h.nx = some (.cells zPT 53 false) := by rw [← hhA]; exact push_eq rfl
 have nA : hA.nx = h.nx + 1 := by rw [← hhA]; rfl
 clear hhA hxA0
 have aA := a.ext hxA
 have bA := b.ext hxA
 have gx := aA.get
 unfold xdC at gx
 by_cases f2 : lastF l d.c = 2
 ·have e : xRow d l = xErr d l := by unfold xRow; rw [if_pos f2]
  rw [e]
  refine ww1 f2 ?_
  refine callF_of (xerr_spec hS aA bA hl) okr ?_
  rintro _ h2 ⟨⟨y, rfl, by2, yo⟩, p2⟩
  have g2 : h2.get h.nx = some (.cells zPT 53 false) := by rw [p2.2.2 _ (by omega) (by omega)]; exact gA
  obtain ⟨yc1, yc2⟩ := by2.cell
  generalize xErr d l = q at *
  obtain ⟨d2, ⟨k, la, o, ec, es, et, fw, fs, q1, q2, q3, q4⟩, er⟩ := q
  unfold PT.cells
  refine ww1 (cj g2 <| cj yc1 yc2) ?_
  exact SX.top (q := (d2, ⟨k, la, o, ec, es, et, fw, fs, q1, q2, q3, q4⟩, er)) a hxA (by omega) by2 yo p2 _
 by_cases f1 : lastF l d.c = 1
 ·have e : xRow d l = xOk d l 8 := by unfold xRow; rw [if_neg f2, if_pos f1]
  rw [e]
  refine wew1 f1 ?_
  refine callF_of (xok_spec hS aA bA hl 8) okr ?_
  rintro _ h2 ⟨⟨y, rfl, by2, yo⟩, p2⟩
  have g2 : h2.get h.nx = some (.cells zPT 53 false) := by rw [p2.2.2 _ (by omega) (by omega)]; exact gA
  obtain ⟨yc1, yc2⟩ := by2.cell
  generalize xOk d l 8 = q at *
  obtain ⟨d2, ⟨k, la, o, ec, es, et, fw, fs, q1, q2, q3, q4⟩, er⟩ := q
  unfold PT.cells
  refine ww1 (cj g2 <| cj yc1 yc2) ?_
  exact SX.top (q := (d2, ⟨k, la, o, ec, es, et, fw, fs, q1, q2, q3, q4⟩, er)) a hxA (by omega) by2 yo p2 _
 by_cases f3 : lastF l d.c = 3
 ·have e0 : xRow d l = if (eofF l).2.2 ≠ 0 then (d.eof l).bad else ((d.eof l).ends (eofF l).2.1, { PT.z with k := 8, last := ((d.eof l).ends (eofF l).2.1).st = 0, fw := (eofF l).1, fs := (eofF l).2.1 }, 0) := by unfold xRow; rw [if_neg f2, if_neg f1, if_pos f3]
  refine wew1 f3 ?_
  refine callF_of (xeof_spec hS aA bA hl) okr ?_
  rintro _ h2 ⟨rfl, p2⟩
  have n2 := p2.2.1
  have g2 : h2.get h.nx = some (.cells zPT 53 false) := by rw [p2.2.2 _ (by omega) (by omega)]; exact gA
  by_cases he : (eofF l).2.2 = 0
  ·rw [e0, if_neg (fun q => q he)]
   have he' := eq_true he
   generalize d.eof l = d1 at *
   refine ww1 (cj he' g2) ?_
   refine ⟨.inr (.inl (by omega)), ?_⟩
   generalize hhC : H.put (H.push h2 _) h2.nx _ = hC
   have hxC : Ext h2 hC := by rw [← hhC]; exact ((Ext.refl h2).push _).put (Nat.le_refl _) _
   have gC : hC.get h.nx = some (.cells zPT 53 false) := by rw [hxC.2 _ (by omega)]; exact g2
   have gE : hC.get h2.nx = some (.cells [.int .u16 (eofF l).1, .int .u16 (eofF l).2.1] 49 false) := by rw [← hhC]; exact put_eq rfl
   have nC : hC.nx = h2.nx + 1 := by rw [← hhC]; rfl
   clear hhC
   refine callF_of (xends_spec hS (p2.1.ext hxC) (eofF l).2.1) okr ?_
   rintro _ h3 ⟨rfl, p3⟩
   have g3 : h3.get h.nx = some (.cells zPT 53 false) := by rw [p3.2.2 _ (by omega) (by omega)]; exact gC
   have g3E : h3.get h2.nx = some (.cells [.int .u16 (eofF l).1, .int .u16 (eofF l).2.1] 49 false) := by rw [p3.2.2 _ (by omega) (by omega)]; exact gE
   have gx3 := p3.1.get
   unfold xdC at gx3
   generalize d1.ends (eofF l).2.1 = d3 at *
   simp +contextual (disch := first | exact de | fail) only [draw_calm, draw_calmA, wpy, fW, Int.reduceLE, Int.reduceLT, Nat.reduceLeDiff, UInt8.reduceToNat, ↓reduceIte, Nat.reduceEqDiff, Nat.reduceAdd, reduceCtorEq, Int.reduceToNat, g3, g3E, gx3]
   exact ⟨PR.nil rfl rfl, XP.put_new a (XP.trans ((XP.pre hxA p2).ext hxC) p3) (Nat.le_refl _) _⟩
  ·rw [e0, if_pos he]
   refine ww1 (cj he g2) ?_
   refine ⟨.inr (.inl (by omega)), ?_⟩
   generalize hhC : H.put (H.push h2 _) h2.nx _ = hC
   have hxC : Ext h2 hC := by rw [← hhC]; exact ((Ext.refl h2).push _).put (Nat.le_refl _) _
   have gC : hC.get h.nx = some (.cells zPT 53 false) := by rw [hxC.2 _ (by omega)]; exact g2
   have nC := hxC.1
   clear hhC
   refine callF_of (xbad_spec hS (p2.1.ext hxC)) okr ?_
   rintro _ h3 ⟨rfl, p3⟩
   have g3 : h3.get h.nx = some (.cells zPT 53 false) := by rw [p3.2.2 _ (by omega) (by omega)]; exact gC
   refine ww1 g3 ?_
   exact ⟨PR.nil rfl rfl, XP.put_new a (XP.trans ((XP.pre hxA p2).ext hxC) p3) (Nat.le_refl _) _⟩
 have e0 : xRow d l = if xRowE d l ≠ 0 then d.bad else (d, { PT.z with k := 7 }, 0) := by unfold xRow; rw [if_neg f2, if_neg f1, if_neg f3]
 have rwc := rw_of_lst (aA.cols) (by decide) (colV_len d.cols)
 have cl := rwc.len 67
 have cc := a.cc
 by_cases k3 : d.k = 3
 ·have k3' := eq_true k3
  have eE : xRowE d l = rtE d.cols.length l := if_pos k3
  refine ww1 (cj f2 <| cj f1 <| cj f3 <| cj gx <| cj k3' cl) ?_
  refine callF_pure (xrtext_spec hS bA hl d.cols.length hn) ?_
  rintro _ h1 hx1 ⟨rv, _, _, rfl⟩
  have n1 := hx1.1
  have hxB := hxA.trans hx1
  have g1 : h1.get h.nx = some (.cells zPT 53 false) := by rw [hx1.2 _ (by omega)]; exact gA
  by_cases he : rtE d.cols.length l = 0
  ·rw [e0, if_neg (fun q => q (eE.trans he))]
   have he' := eq_true he
   refine ww1 (cj he' g1) ?_
   exact ⟨PR.nil rfl rfl, XP.put_new a (XP.same a hxB) (Nat.le_refl _) _⟩
  ·rw [e0, if_pos (by rw [eE]; exact he)]
   refine ww1 he ?_
   refine callF_of (xbad_spec hS (a.ext hxB)) okr ?_
   rintro _ h2 ⟨rfl, p2⟩
   have n2 := p2.2.1
   have g2 : h2.get h.nx = some (.cells zPT 53 false) := by rw [p2.2.2 _ (by omega) (by omega)]; exact g1
   refine ww1 g2 ?_
   exact SX.top (q := d.bad) a hxB (by omega) (BS.nil _ _) (fun k hk => off_nil k) p2 _
 have eE : xRowE d l = rbE l (d.cols.map colTy) := if_neg k3
 refine ww1 (cj f2 <| cj f1 <| cj f3 <| cj gx k3) ?_
 refine run_loop (fun k env h' => ∃ i : Nat, ∃ tv, k = d.cols.length - i ∧ i ≤ d.cols.length ∧ env 0 = .ptr x 0 ∧ env 1 = v ∧ env 4 = .ptr h.nx 0 ∧ env 10 = tv ∧ env 11 = .int .i64 i ∧ Ext hA h' ∧ Lst hA.nx h' tv (tyC ((d.cols.take i).map colTy)) 108 2) d.cols.length ⟨0, ?_⟩ ?_
 ·refine ww0 ?_
  exact ⟨.nilslice, rfl, rfl, Ext.refl _, lst_nil _ _ _ _⟩
 rintro k env h1 ⟨i, tv, rfl, hi, e0', e1, e4, e10, e11, hx1, ht⟩
 have n1 := hx1.1
 have hxB := hxA.trans hx1
 have aB := a.ext hxB
 have gxB := aB.get
 unfold xdC at gxB
 obtain ⟨u1, u2⟩ := lst_form ht
 by_cases hin : i < d.cols.length
 ·obtain ⟨bb, o, m, hv⟩ := rwc.at (by omega)
  obtain ⟨_, hb, hr1, _⟩ := RW.rd (hv ▸ rwc)
  have hl7 : i * 10 + 7 < (colV d.cols).length := by rw [colV_len]; omega
  have hl8 : i * 10 + 8 < (colV d.cols).length := by rw [colV_len]; omega
  have cg := colV_get d.cols i hin
  have r7 : rdV (some (1, false)) (h1.get bb) (o + (i * 10 + 7)) = some (.int .u8 d.cols[i].t) := by
   rw [hx1.2 bb hb, hr1 _ 1 hl7]
   exact (List.getElem?_eq_getElem hl7).symm.trans cg.1
  have r8 : rdV (some (1, false)) (h1.get bb) (o + (i * 10 + 8)) = some (.int .u16 d.cols[i].f) := by
   rw [hx1.2 bb hb, hr1 _ 1 hl8]
   exact (List.getElem?_eq_getElem hl8).symm.trans cg.2
  rw [← Nat.add_assoc] at r7 r8
  subst hv
  simp +contextual (disch := first | exact de | fail) only [draw_calm, draw_calmA, wpy, fW, Int.reduceLE, Int.reduceLT, Nat.reduceLeDiff, UInt8.reduceToNat, ↓reduceIte, Nat.reduceEqDiff, Nat.reduceAdd, reduceCtorEq, Int.reduceToNat, e0', e1, e4, e10, e11, gxB, hin, cl, r7, r8]
  have hxD : Ext h1 (h1.push (.cells [V.int IntKind.u8 d.cols[i].t, bo (¬ iAnd IntKind.u16 d.cols[i].f 32 = 0)] 108 false)) := (Ext.refl h1).push _
  refine append_lst (n0 := hA.nx) (sv := tv) (xv := .slice h1.nx 0 1 1) (cells := tyC ((d.cols.take i).map colTy)) (new := [V.int IntKind.u8 d.cols[i].t, bo (¬ iAnd IntKind.u16 d.cols[i].f 32 = 0)]) ?_ ?_ ap95 ⟨.slice 108, by kernel_rfl, rfl⟩ (ht.ext hxD) (src_new rfl rfl) rfl ?_ (by decide) (fun k hk => by rw [fresh_def]; exact .inl (by omega)) (by show hA.nx ≤ h1.nx + 1; omega) ?_
  ·exact wv0
  ·exact wv0
  ·rw [tyC_len, List.length_map, List.length_take]; show _ + 2 ≤ _; omega
  intro v2 h2 L2 hl2 hn2 _ hk2 hL2
  have hn2' : h1.nx + 1 ≤ h2.nx := hn2
  obtain ⟨u1, u2⟩ := lst_form hl2
  simp +contextual (disch := first | exact de | fail) only [draw_calm, draw_calmA, wpy, fW, Int.reduceLE, Int.reduceLT, Nat.reduceLeDiff, UInt8.reduceToNat, ↓reduceIte, Nat.reduceEqDiff, Nat.reduceAdd, reduceCtorEq, Int.reduceToNat, e0', e1, e4, e10, e11]
  refine ⟨d.cols.length - (i + 1), by omega, i + 1, v2, rfl, by omega, rfl, rfl, ⟨by omega, fun k hk => by rw [hk2 k hk, hxD.2 k (by omega), hx1.2 k hk]⟩, ?_⟩
  rw [List.take_succ_eq_append_getElem hin, List.map_append]
  show Lst _ _ _ (tyC (_ ++ [colTy d.cols[i]])) _ _
  rw [tyC_snoc]
  exact hl2
 ·obtain rfl : i = d.cols.length := by omega
  rw [List.take_length] at ht
  have rt : RW 108 2 (d.cols.map colTy).length h1 tv (tyC (d.cols.map colTy)) := rw_of_lst ht (by decide) (tyC_len _)
  refine ww1 (cj e0' <| cj e1 <| cj e4 <| cj e10 <| cj e11 <| cj gxB <| cj hin cl) ?_
  refine callF_pure (xrbin_spec hS (b.ext hxB) hl rt (by rw [List.length_map]; omega) (fun t hm => by obtain ⟨c, hc, rfl⟩ := List.mem_map.1 hm; exact hok c hc)) ?_
  rintro _ h2 hx2 ⟨rv, e, _, _, rfl, hiff⟩
  have n2 := hx2.1
  have hxC := hxB.trans hx2
  have g2 : h2.get h.nx = some (.cells zPT 53 false) := by rw [hx2.2 _ (by omega), hx1.2 _ (by omega)]; exact gA
  by_cases he : e = 0
  ·rw [e0, if_neg (fun q => q (eE.trans (hiff.1 he)))]
   have he' := eq_true he
   refine ww1 (cj e0' <| cj e1 <| cj e4 <| cj he' g2) ?_
   exact ⟨PR.nil rfl rfl, XP.put_new a (XP.same a hxC) (Nat.le_refl _) _⟩
  ·rw [e0, if_pos (by rw [eE]; exact fun q => he (hiff.2 q))]
   refine ww1 (cj e0' <| cj e1 <| cj e4 he) ?_
   refine callF_of (xbad_spec hS (a.ext hxC)) okr ?_
   rintro _ h3 ⟨rfl, p3⟩
   have n3 := p3.2.1
   have g3 : h3.get h.nx = some (.cells zPT 53 false) := by rw [p3.2.2 _ (by omega) (by omega)]; exact g2
   refine ww1 (cj e4 g3) ?_
   exact SX.top (q := d.bad) a hxC (by omega) (BS.nil _ _) (fun k hk => off_nil k) p3 _
end
noncomputable section
def xFeed (d : XD) (l : List Nat) : XD × PT × Int :=
 if d.st = 0 then (d, PT.z, 9) else if d.st = 6 then (d, PT.z, 6) else if d.st = 1 then xSingle d l else
 if d.st = 2 ∨ d.st = 7 then xResult d l else if d.st = 3 ∨ d.st = 9 ∨ d.st = 11 then xColumn d l else
 if d.st = 4 ∨ d.st = 10 ∨ d.st = 12 then xBehind d l else if d.st = 8 then xPrepared d l else xRow d l
def xFile (d : XD) (l : List Nat) : XD × Int := if d.st = 0 then (d, 9) else if d.st ≠ 6 then (d, 6) else (if l.length = 0 then { d with st := 7 } else d, 0)
theorem SXF.top {X : RX} {n0 x : Nat} {d : XD} {cv cv' y : V} {h hA h2 : H} {q : XD × PT × Int} (a : XR X n0 x d cv h) (hx : Ext h hA) (nA : h.nx < hA.nx) (b : BS 5 h2 y q.2.1.ok.k) (yo : ∀ k, k < hA.nx → Off y k) (p : XR X n0 x q.1 cv' h2) (fx : FX x cv hA cv' h2) (ob : Ob) : SXF X n0 x cv h q (.tuple [.agg (q.2.1.cells y), .int .i64 q.2.2]) (h2.put h.nx ob) := by
 have lt := a.lt.2
 have f2 := fx.nx
 refine ⟨cv', ⟨y, rfl, b.put (yo _ nA), fun k hk => yo k (by omega)⟩, p.put_off (by omega) (fx.off _ nA (a.cols.off_new (Nat.le_refl _))) ob, ⟨by show h.nx ≤ h2.nx; omega, fun k hk hkx q => ?_, fun k hk q => fx.off k (by omega) q⟩⟩
 rw [put_ne (by omega), fx.get k (by omega) hkx q, hx.2 k hk]
variable {S : Set0} (hS : StdX S)
include hS
theorem xfeed_spec {X : RX} {n0 x : Nat} {d : XD} {cv v : V} {l : List Nat} {h : H} (a : XR X n0 x d cv h) (b : BS 5 h v l) (hl : l.length < 2 ^ 28) (hst : 0 ≤ d.st ∧ d.st ≤ 12) (hC : d.st = 3 ∨ d.st = 9 ∨ d.st = 11 → 1 ≤ d.left ∧ d.left ≤ 65536) (hT : d.cols.length ≤ 65536) (h5 : d.st = 5 → d.cols.length ≤ 4096) (hok : ∀ c ∈ d.cols, c.Ok) : callW S.cfg (fun k => n0 ≤ k) 13 [.ptr x 0, v] h fun w h' => SXF X n0 x cv h (xFeed d l) w h' := by
 refine into Tryz.f13 _ Tryz.func13 (hS.ownX _ (by decide)) rfl rfl (by kernel_rfl) (by kernel_rfl) ?_
 have okr : ∀ k, k = x → fresh h.nx (fun k => n0 ≤ k) k := fun k hk => by rw [fresh_def]; exact .inr (by rw [hk]; exact a.lt.1)
 have okn : ∀ k, n0 ≤ k → fresh h.nx (fun k => n0 ≤ k) k := fun k hk => by rw [fresh_def]; exact .inr hk
 have lt := a.lt.2
 have hxA0 : Ext h (h.push (.cells zPT 53 false)) := (Ext.refl h).push _
 refine ww1 @Tryz.f13.eq_1 ?_
 refine callF_exact (xnone_spec hS (a.ext hxA0)) ?_
 generalize hhA : H.push h _ = hA
 have hxA : Ext h hA := by rw [← hhA]; exact hxA0
 have gA : hA.get h.nx = some (.cells zPT 53 false) := by rw [← hhA]; exact push_eq rfl
 have nA : hA.nx = h.nx + 1 := by rw [← hhA]; rfl
 clear hhA hxA0
 have aA := a.ext hxA
 have bA := b.ext hxA
 have gx := aA.get
 unfold xdC at gx
 have hand : ∀ {q : XD × PT × Int} {w : V} {h2 : H}, SX X n0 x cv hA q w h2 → SXF X n0 x cv hA q w h2 := fun q => q.f
 by_cases s0 : d.st = 0
 ·have e : xFeed d l = (d, PT.z, 9) := if_pos s0
  rw [e]
  refine wew1 (cj gx <| cj s0 gA) ?_
  exact SX.f ⟨PR.nil rfl rfl, XP.put_new a (XP.same a hxA) (Nat.le_refl _) _⟩
 by_cases s6 : d.st = 6
 ·have e : xFeed d l = (d, PT.z, 6) := by unfold xFeed; rw [if_neg s0, if_pos s6]
  rw [e]
  refine wew1 (cj gx <| cj s6 gA) ?_
  exact SX.f ⟨PR.nil rfl rfl, XP.put_new a (XP.same a hxA) (Nat.le_refl _) _⟩
 by_cases c1 : d.st = 1
 ·have e : xFeed d l = xSingle d l := by unfold xFeed; rw [if_neg s0, if_neg s6, if_pos c1]
  rw [e]
  refine wew1 (cj gx c1) ?_
  refine callF_of (xsingle_spec hS aA bA hl) okr ?_
  rintro w h2 q0
  obtain ⟨cv', ⟨y, rfl, by2, yo⟩, p2, fx⟩ : SXF X n0 x cv hA (xSingle d l) w h2 := hand q0
  have fnx := fx.nx
  have g2 : h2.get h.nx = some (.cells zPT 53 false) := by rw [fx.get _ (by omega) (by omega) (a.cols.off_new (Nat.le_refl _))]; exact gA
  obtain ⟨yc1, yc2⟩ := by2.cell
  generalize xSingle d l = q at *
  obtain ⟨d2, ⟨k, la, o, ec, es, et, fw, fs, q1, q2, q3, q4⟩, er⟩ := q
  unfold PT.cells
  refine ww1 (cj g2 <| cj yc1 yc2) ?_
  exact SXF.top (q := (d2, ⟨k, la, o, ec, es, et, fw, fs, q1, q2, q3, q4⟩, er)) a hxA (by omega) by2 yo p2 fx _
 by_cases c2 : d.st = 2 ∨ d.st = 7
 ·have e : xFeed d l = xResult d l := by unfold xFeed; rw [if_neg s0, if_neg s6, if_neg c1, if_pos c2]
  rw [e]
  rcases id c2 with q | q
  all_goals
   refine wew1 (cj gx q) ?_
   refine callF_of (xresult_spec hS aA bA hl) okr ?_
   rintro w h2 q0
   obtain ⟨cv', ⟨y, rfl, by2, yo⟩, p2, fx⟩ : SXF X n0 x cv hA (xResult d l) w h2 := by obtain ⟨c2, q1, q2, q3⟩ := q0; exact ⟨c2, q1, q2.1, FX.nil q2.2 q3⟩
   have fnx := fx.nx
   have g2 : h2.get h.nx = some (.cells zPT 53 false) := by rw [fx.get _ (by omega) (by omega) (a.cols.off_new (Nat.le_refl _))]; exact gA
   obtain ⟨yc1, yc2⟩ := by2.cell
   generalize xResult d l = q at *
   obtain ⟨d2, ⟨k, la, o, ec, es, et, fw, fs, q1, q2, q3, q4⟩, er⟩ := q
   unfold PT.cells
   refine ww1 (cj g2 <| cj yc1 yc2) ?_
   exact SXF.top (q := (d2, ⟨k, la, o, ec, es, et, fw, fs, q1, q2, q3, q4⟩, er)) a hxA (by omega) by2 yo p2 fx _
 by_cases c3 : d.st = 3 ∨ d.st = 9 ∨ d.st = 11
 ·have e : xFeed d l = xColumn d l := by unfold xFeed; rw [if_neg s0, if_neg s6, if_neg c1, if_neg c2, if_pos c3]
  rw [e]
  rcases id c3 with q | q | q
  all_goals
   refine wew1 (cj gx q) ?_
   refine callF_of (xcolumn_spec hS aA bA hl (hC c3) hT) okn ?_
   rintro w h2 q0
   obtain ⟨cv', ⟨y, rfl, by2, yo⟩, p2, fx⟩ : SXF X n0 x cv hA (xColumn d l) w h2 := q0
   have fnx := fx.nx
   have g2 : h2.get h.nx = some (.cells zPT 53 false) := by rw [fx.get _ (by omega) (by omega) (a.cols.off_new (Nat.le_refl _))]; exact gA
   obtain ⟨yc1, yc2⟩ := by2.cell
   generalize xColumn d l = q at *
   obtain ⟨d2, ⟨k, la, o, ec, es, et, fw, fs, q1, q2, q3, q4⟩, er⟩ := q
   unfold PT.cells
   refine ww1 (cj g2 <| cj yc1 yc2) ?_
   exact SXF.top (q := (d2, ⟨k, la, o, ec, es, et, fw, fs, q1, q2, q3, q4⟩, er)) a hxA (by omega) by2 yo p2 fx _
 by_cases c4 : d.st = 4 ∨ d.st = 10 ∨ d.st = 12
 ·have e : xFeed d l = xBehind d l := by unfold xFeed; rw [if_neg s0, if_neg s6, if_neg c1, if_neg c2, if_neg c3, if_pos c4]
  rw [e]
  rcases id c4 with q | q | q
  all_goals
   refine wew1 (cj gx q) ?_
   refine callF_of (xbehind_spec hS aA bA hl) okr ?_
   rintro w h2 q0
   obtain ⟨cv', ⟨y, rfl, by2, yo⟩, p2, fx⟩ : SXF X n0 x cv hA (xBehind d l) w h2 := hand q0
   have fnx := fx.nx
   have g2 : h2.get h.nx = some (.cells zPT 53 false) := by rw [fx.get _ (by omega) (by omega) (a.cols.off_new (Nat.le_refl _))]; exact gA
   obtain ⟨yc1, yc2⟩ := by2.cell
   generalize xBehind d l = q at *
   obtain ⟨d2, ⟨k, la, o, ec, es, et, fw, fs, q1, q2, q3, q4⟩, er⟩ := q
   unfold PT.cells
   refine ww1 (cj g2 <| cj yc1 yc2) ?_
   exact SXF.top (q := (d2, ⟨k, la, o, ec, es, et, fw, fs, q1, q2, q3, q4⟩, er)) a hxA (by omega) by2 yo p2 fx _
 by_cases c8 : d.st = 8
 ·have e : xFeed d l = xPrepared d l := by unfold xFeed; rw [if_neg s0, if_neg s6, if_neg c1, if_neg c2, if_neg c3, if_neg c4, if_pos c8]
  rw [e]
  refine wew1 (cj gx c8) ?_
  refine callF_of (xprepared_spec hS aA bA hl) okr ?_
  rintro w h2 q0
  obtain ⟨cv', ⟨y, rfl, by2, yo⟩, p2, fx⟩ : SXF X n0 x cv hA (xPrepared d l) w h2 := hand q0
  have fnx := fx.nx
  have g2 : h2.get h.nx = some (.cells zPT 53 false) := by rw [fx.get _ (by omega) (by omega) (a.cols.off_new (Nat.le_refl _))]; exact gA
  obtain ⟨yc1, yc2⟩ := by2.cell
  generalize xPrepared d l = q at *
  obtain ⟨d2, ⟨k, la, o, ec, es, et, fw, fs, q1, q2, q3, q4⟩, er⟩ := q
  unfold PT.cells
  refine ww1 (cj g2 <| cj yc1 yc2) ?_
  exact SXF.top (q := (d2, ⟨k, la, o, ec, es, et, fw, fs, q1, q2, q3, q4⟩, er)) a hxA (by omega) by2 yo p2 fx _
 have s5 : d.st = 5 := by omega
 have e : xFeed d l = xRow d l := by unfold xFeed; rw [if_neg s0, if_neg s6, if_neg c1, if_neg c2, if_neg c3, if_neg c4, if_neg c8]
 rw [e]
 refine wew1 (cj gx s5) ?_
 refine callF_of (xrow_spec hS aA bA hl (h5 s5) hok) okr ?_
 rintro w h2 q0
 obtain ⟨cv', ⟨y, rfl, by2, yo⟩, p2, fx⟩ : SXF X n0 x cv hA (xRow d l) w h2 := hand q0
 have fnx := fx.nx
 have g2 : h2.get h.nx = some (.cells zPT 53 false) := by rw [fx.get _ (by omega) (by omega) (a.cols.off_new (Nat.le_refl _))]; exact gA
 obtain ⟨yc1, yc2⟩ := by2.cell
 generalize xRow d l = q at *
 obtain ⟨d2, ⟨k, la, o, ec, es, et, fw, fs, q1, q2, q3, q4⟩, er⟩ := q
 unfold PT.cells
 refine ww1 (cj g2 <| cj yc1 yc2) ?_
 exact SXF.top (q := (d2, ⟨k, la, o, ec, es, et, fw, fs, q1, q2, q3, q4⟩, er)) a hxA (by omega) by2 yo p2 fx _
theorem xfile_spec {X : RX} {n0 x : Nat} {d : XD} {cv v : V} {l : List Nat} {h : H} (a : XR X n0 x d cv h) (b : BS 5 h v l) : callW S.cfg (· = x) 11 [.ptr x 0, v] h fun w h' => w = .int .i64 (xFile d l).2 ∧ XP X n0 x (xFile d l).1 cv h h' := by
 refine into Tryz.f11 _ Tryz.func11 (hS.ownX _ (by decide)) rfl rfl (by kernel_rfl) (by kernel_rfl) ?_
 have lt := a.lt.2
 have gx := a.get
 unfold xdC at gx
 have b1 := b.len 5
 refine ww1 @Tryz.f11.eq_1 ?_
 refine callF_exact (xnone_spec hS a) ?_
 by_cases s0 : d.st = 0
 ·have e : xFile d l = (d, 9) := if_pos s0
  rw [e]
  have s0' := eq_true s0
  refine ww1 (cj gx s0') ?_
  exact ⟨a, But.refl _ _⟩
 by_cases s6 : d.st = 6
 case neg =>
  have e : xFile d l = (d, 6) := by unfold xFile; rw [if_neg s0, if_pos s6]
  rw [e]
  refine ww1 (cj gx <| cj s0 s6) ?_
  exact ⟨a, But.refl _ _⟩
 have s6' := eq_true s6
 by_cases h0 : l.length = 0
 ·have e : xFile d l = ({ d with st := 7 }, 0) := by unfold xFile; rw [if_neg s0, if_neg (fun q => q s6), if_pos h0]
  rw [e]
  have h0' := eq_true h0
  refine ww1 (cj gx <| cj s0 <| cj s6' <| cj b1 h0) ?_
  exact XP.put (d' := { d with st := 7 }) ⟨a, But.refl _ _⟩ rfl
 ·have e : xFile d l = (d, 0) := by unfold xFile; rw [if_neg s0, if_neg (fun q => q s6), if_neg h0]
  rw [e]
  refine ww1 (cj gx <| cj s0 <| cj s6' <| cj b1 h0) ?_
  exact ⟨a, But.refl _ _⟩
theorem xwants_spec {X : RX} {n0 x : Nat} {d : XD} {cv : V} {h : H} (a : XR X n0 x d cv h) : Exact S.cfg 16 [.ptr x 0] h (bo (d.st = 6)) := by
 refine into Tryz.f16 _ Tryz.func16 (hS.ownX _ (by decide)) rfl rfl (by kernel_rfl) (by kernel_rfl) ?_
 have gx := a.get
 unfold xdC at gx
 refine ww1 @Tryz.f16.eq_1 ?_
 refine callF_exact (xnone_spec hS a) ?_
 exact wv1 gx
theorem xover_spec {X : RX} {n0 x : Nat} {d : XD} {cv : V} {h : H} (a : XR X n0 x d cv h) : Exact S.cfg 18 [.ptr x 0] h (bo (d.st = 0)) := by
 refine into Tryz.f18 _ Tryz.func18 (hS.ownX _ (by decide)) rfl rfl (by kernel_rfl) (by kernel_rfl) ?_
 have gx := a.get
 unfold xdC at gx
 refine ww1 @Tryz.f18.eq_1 ?_
 refine callF_exact (xnone_spec hS a) ?_
 exact wv1 gx
theorem xmay_spec {X : RX} {n0 x : Nat} {d : XD} {cv : V} {h : H} (a : XR X n0 x d cv h) : Exact S.cfg 20 [.ptr x 0] h (bo (d.st = 1 ∨ d.st = 2 ∨ d.st = 5 ∨ d.st = 7 ∨ d.st = 8)) := by
 refine into Tryz.f20 _ Tryz.func20 (hS.ownX _ (by decide)) rfl rfl (by kernel_rfl) (by kernel_rfl) ?_
 have gx := a.get
 unfold xdC at gx
 refine ww1 @Tryz.f20.eq_1 ?_
 refine callF_exact (xnone_spec hS a) ?_
 refine ww1 gx ?_
 exact bo_iff (by omega)
theorem xstatus_spec {X : RX} {n0 x : Nat} {d : XD} {cv : V} {h : H} (a : XR X n0 x d cv h) : Exact S.cfg 22 [.ptr x 0] h (.int .u16 d.last) := by
 refine into Tryz.f22 _ Tryz.func22 (hS.ownX _ (by decide)) rfl rfl (by kernel_rfl) (by kernel_rfl) ?_
 have gx := a.get
 unfold xdC at gx
 refine ww1 @Tryz.f22.eq_1 ?_
 refine callF_exact (xnone_spec hS a) ?_
 exact wv1 gx
end
end Go.Proofs.YtinbhlejofgomaaGreat
