/-
  Several texts of one walk, joined.
-/
import Derived.Test.YtinbhlejofgomaaGreatBsA
set_option linter.unusedSimpArgs false
set_option linter.unusedVariables false
set_option linter.unusedSectionVars false
set_option linter.defProp false
set_option maxRecDepth 20000
set_option maxHeartbeats 2000000
namespace Go.Proofs.YtinbhlejofgomaaGreat
open Go.Proofs Go.Lx Go.Wx Go.IntWalk
noncomputable section
structure StdR (S : Set0) : Prop extends StdG S where
 ownR : ∀ f, f ∈ [110, 147, 162, 161, 158, 146, 157, 113, 71, 69, 111, 112, 6, 12, 17, 10, 15, 19, 33, 34, 35, 36, 37, 38, 39, 40, 45, 47, 59, 60, 62, 64, 66, 68, 70, 104, 105, 106, 109, 144, 145, 30, 56, 97, 28, 29, 26, 57, 98, 63, 103, 135, 142, 154, 155, 156, 5, 31, 32] → sums S.exts f = none
abbrev knownP (t : Int) : Prop := (0 ≤ t ∧ t ≤ 13) ∨ t = 15 ∨ t = 16 ∨ 245 ≤ t
def knownB (t : Nat) : Bool := t ≤ 13 || t == 15 || t == 16 || 245 ≤ t
theorem knownB_iff (t : Nat) : knownB t = true ↔ knownP t := by
 unfold knownB
 simp only [Bool.or_eq_true, decide_eq_true_eq, beq_iff_eq]
 omega
def namesOk (l : List V) : Bool := (List.range 256).all fun i => match l[i]? with
 | some (.str s) => s.isEmpty == !knownB i
 | _ => false
theorem namesOk_at {l : List V} (h : namesOk l = true) (n : Nat) (hn : n < 256) : ∃ s, l[n]? = some (.str s) ∧ (s = [] ↔ ¬ knownP n) := by
 have h1 := List.all_eq_true.1 h n (List.mem_range.2 hn)
 cases hl : l[n]? with
 | none => rw [hl] at h1; cases h1
 | some x =>
   rw [hl] at h1
   cases x <;> first | (rename_i s; refine ⟨s, rfl, ?_⟩; have h2 := eq_of_beq h1; rw [← knownB_iff]; cases hk : knownB n <;> rw [hk] at h2 <;> cases s <;> simp_all) | cases h1
theorem idx_names {l : List V} (n : Nat) (hn : n < 256) {s : List Nat} (hs : l[n]? = some (.str s)) : indexV Tryz.prog 115 (.agg l) (.int .u8 (n : Int)) = some (.str s) := by
 unfold indexV opIndex
 rw [Tryz.underlying115]
 simp only [sz9, Int.ofNat_eq_natCast]
 have e1 : Nat.blt n 256 = true := by rw [Nat.blt_eq]; exact hn
 show pureO (bif Nat.blt n 256 then partM Tryz.prog 9 l (n * 1) else Lx.err "index") = _
 rw [e1, cond_true]
 unfold partM
 rw [Tryz.underlying9, sz9, Nat.mul_one]
 show pureO (match l[n]? with
   | some v => Lx.ret v
   | none => Lx.err "part") = _
 rw [hs]
 rfl
def formI (x : Int) : Int × Int := if x ≤ 250 then (0, 1) else if x < 65536 then (252, 2) else if x < 16777216 then (253, 3) else (254, 8)
def sizeI (x : Int) : Int := if x ≤ 250 then 1 else if x < 65536 then 3 else if x < 16777216 then 4 else 9
def countF (l : List Nat) : Int × Int := if (iiF l).2.2 = 0 then (if ¬ (iiF l).1 < 1 ∧ ¬ 4096 < (iiF l).1 ∧ ((iiF l).2.1 : Int) = sizeI (iiF l).1 ∧ (iiF l).2.1 = l.length then ((iiF l).1, 0) else (0, 5)) else (0, (iiF l).2.2)
theorem countF_in {l : List Nat} (h : (countF l).2 = 0) : 1 ≤ (countF l).1 ∧ (countF l).1 ≤ 4096 := by
 unfold countF at h ⊢
 split at h
 ·rename_i h0
  rw [if_pos h0]
  split at h
  ·rename_i h1
   rw [if_pos h1]
   show 1 ≤ (iiF l).1 ∧ (iiF l).1 ≤ 4096
   omega
  ·cases h
 ·rename_i h0
  exact absurd h h0
variable {S : Set0} (hS : StdR S)
include hS
theorem names_spec (h : H) : Pure S.cfg 98 [] h fun v _ => ∃ l, v = .agg l ∧ namesOk l = true := by
 refine into Tryz.f98 _ Tryz.func98 (hS.ownR _ (by decide)) rfl rfl (by kernel_rfl) (by kernel_rfl) ?_
 refine ww1 @Tryz.f98.eq_1 ?_
 exact ⟨((Ext.refl h).push _).put (Nat.le_refl _) _, _, rfl, rfl⟩
theorem known_spec (t : Int) (ht : 0 ≤ t ∧ t < 256) (h : H) : Pure S.cfg 57 [.int .u8 t] h fun v _ => v = bo (knownP t) := by
 refine into Tryz.f57 _ Tryz.func57 (hS.ownR _ (by decide)) rfl rfl (by kernel_rfl) (by kernel_rfl) ?_
 refine ww1 @Tryz.f57.eq_1 ?_
 refine callF_pure (names_spec hS _) ?_
 rintro _ h1 hx ⟨l, rfl, hl⟩
 obtain ⟨n, rfl⟩ : ∃ n : Nat, t = n := ⟨t.toNat, by omega⟩
 obtain ⟨s, hs, hk⟩ := namesOk_at hl n (by omega)
 have hi := idx_names n (by omega) hs
 have i1 : idxOk (some (.array 256 9)) Tryz.prog 115 (.agg l) (.int .u8 (n : Int)) = True := by
  show okO (indexV Tryz.prog 115 (.agg l) (.int .u8 (n : Int))) = _
  rw [hi]; simp [okO]
 have i2 : idxT Tryz.prog 115 (.agg l) (.int .u8 (n : Int)) = .str s := by
  show getO' (indexV Tryz.prog 115 (.agg l) (.int .u8 (n : Int))) = _
  rw [hi]; rfl
 refine ww1 (cj i1 i2) ?_
 refine ⟨hx, ?_⟩
 congr 1
 apply propext
 constructor
 ·intro q; exact Classical.byContradiction fun w => q (hk.2 w)
 ·intro q w; exact hk.1 w q
theorem size_spec (x : Int) (h : H) : Pure S.cfg 103 [.int .u64 x] h fun v _ => v = .int .i64 (sizeI x) := by
 have fs : ∀ h, Pure S.cfg 135 [.int .u64 x] h fun v _ => v = .tuple [.int .u8 (formI x).1, .int .i64 (formI x).2] := fun h => by
  refine into Tryz.f135 _ Tryz.func135 (hS.ownR _ (by decide)) rfl rfl (by kernel_rfl) (by kernel_rfl) ?_
  unfold formI
  by_cases h1 : x ≤ 250
  ·rw [if_pos h1]
   refine ww1 (cj @Tryz.f135.eq_1 h1) ?_
   exact Ext.refl _
  rw [if_neg h1]
  by_cases h2 : x < 65536
  ·rw [if_pos h2]
   refine ww1 (cj @Tryz.f135.eq_1 <| cj h1 h2) ?_
   exact Ext.refl _
  rw [if_neg h2]
  by_cases h3 : x < 16777216
  ·rw [if_pos h3]
   refine ww1 (cj @Tryz.f135.eq_1 <| cj h1 <| cj h2 h3) ?_
   exact Ext.refl _
  ·rw [if_neg h3]
   refine ww1 (cj @Tryz.f135.eq_1 <| cj h1 <| cj h2 h3) ?_
   exact Ext.refl _
 refine into Tryz.f103 _ Tryz.func103 (hS.ownR _ (by decide)) rfl rfl (by kernel_rfl) (by kernel_rfl) ?_
 refine ww1 @Tryz.f103.eq_1 ?_
 refine callF_pure (fs _) ?_
 rintro _ h1 hx rfl
 unfold formI sizeI
 by_cases h1 : x ≤ 250
 ·rw [if_pos h1, if_pos h1]
  refine ww0 ?_
  exact hx
 rw [if_neg h1, if_neg h1]
 by_cases h2 : x < 65536
 ·rw [if_pos h2, if_pos h2]
  refine ww0 ?_
  exact ⟨fun q => absurd q (by decide), fun _ => ⟨hx, rfl⟩⟩
 rw [if_neg h2, if_neg h2]
 by_cases h3 : x < 16777216
 ·rw [if_pos h3, if_pos h3]
  refine ww0 ?_
  exact ⟨fun q => absurd q (by decide), fun _ => ⟨hx, rfl⟩⟩
 ·rw [if_neg h3, if_neg h3]
  refine ww0 ?_
  exact ⟨fun q => absurd q (by decide), fun _ => ⟨hx, rfl⟩⟩
theorem count_spec {v : V} {l : List Nat} {h : H} (a : BS 5 h v l) (hl : l.length < 2 ^ 28) : Pure S.cfg 63 [v] h fun w _ => w = .tuple [.int .i64 (countF l).1, .int .i64 (countF l).2] := by
 refine into Tryz.f63 _ Tryz.func63 (hS.ownR _ (by decide)) rfl rfl (by kernel_rfl) (by kernel_rfl) ?_
 have a1 := a.len 5
 have er : ∀ r, (iiF l).2.2 = 0 → r = (if ¬ (iiF l).1 < 1 ∧ ¬ 4096 < (iiF l).1 ∧ ((iiF l).2.1 : Int) = sizeI (iiF l).1 ∧ (iiF l).2.1 = l.length then ((iiF l).1, (0 : Int)) else (0, 5)) → countF l = r := fun r h0 q => by unfold countF; rw [if_pos h0, q]
 have e0 : (iiF l).2.2 ≠ 0 → countF l = (0, (iiF l).2.2) := fun q => if_neg q
 refine ww1 @Tryz.f63.eq_1 ?_
 refine callF_exact (rin_spec hS.toStdB a (by omega)) ?_
 by_cases h0 : (iiF l).2.2 = 0
 ·have h0' := eq_true h0
  refine ww1 h0' ?_
  by_cases h1 : (iiF l).1 < 1
  ·rw [er (0, 5) h0 (by rw [if_neg (fun q => q.1 h1)])]
   refine ww1 h1 ?_
   exact Ext.refl _
  by_cases h2 : 4096 < (iiF l).1
  ·rw [er (0, 5) h0 (by rw [if_neg (fun q => q.2.1 h2)])]
   refine ww1 (cj h1 h2) ?_
   exact Ext.refl _
  refine ww1 (cj h1 h2) ?_
  refine callF_pure (size_spec hS _ _) ?_
  rintro _ h3 hx rfl
  have hw : IntKind.i64.wrap (iiF l).1 = (iiF l).1 := i64_in _ (by omega)
  by_cases hq : ((iiF l).2.1 : Int) = sizeI (iiF l).1
  ·by_cases hr : (iiF l).2.1 = l.length
   ·rw [er ((iiF l).1, 0) h0 (by rw [if_pos ⟨h1, h2, hq, hr⟩])]
    have hr' : ((iiF l).2.1 : Int) = l.length := by omega
    have hq2 : sizeI (iiF l).1 = (l.length : Int) := by omega
    refine ww1 (cj h1 <| cj h2 <| cj a1 <| cj hw <| cj hr <| cj hr' hq2) ?_
    exact hx
   ·rw [er (0, 5) h0 (by rw [if_neg (fun q => hr q.2.2.2)])]
    have hr' : ¬ ((iiF l).2.1 : Int) = l.length := by omega
    have hq2 := hq.symm
    refine ww1 (cj h1 <| cj h2 <| cj a1 <| cj hw <| cj hq2 <| cj hr hr') ?_
    exact hx
  ·rw [er (0, 5) h0 (by rw [if_neg (fun q => hq q.2.2.1)])]
   refine ww1 (cj h1 <| cj h2 <| cj a1 <| cj hw hq) ?_
   exact hx
 ·rw [e0 h0]
  refine ww1 h0 ?_
  exact Ext.refl _
end
noncomputable section
def txc (R : Rd) : List Nat × Rd := @ite _ (R.e = 0) (Classical.propDecidable _) (@ite _ ((txF R.bs).2.2 = 0) (Classical.propDecidable _) (@ite _ (255 < (txF R.bs).1.length) (Classical.propDecidable _) ([], ⟨R.bs, 5⟩) ((txF R.bs).1, ⟨R.bs.drop (txF R.bs).2.1, 0⟩)) ([], ⟨R.bs, (txF R.bs).2.2⟩)) ([], R)
theorem txc_len (R : Rd) : (txc R).2.bs.length ≤ R.bs.length := by
 unfold txc
 repeat' split
 all_goals first | exact Nat.le_refl _ | (show (R.bs.drop _).length ≤ _; rw [List.length_drop]; omega)
variable {S : Set0} (hS : StdR S)
include hS
theorem cmust_spec {n0 r : Nat} {R : Rd} {h : H} (a : RdS 5 166 n0 r R h) (p : Prop) : callW S.cfg (· = r) 154 [.ptr r 0, bo p] h fun v h' => RdR 166 n0 r (R.bad (¬ p)) h h' := by
 refine into Tryz.f154 _ Tryz.func154 (hS.ownR _ (by decide)) rfl rfl (by kernel_rfl) (by kernel_rfl) ?_
 have a' := a
 obtain ⟨⟨v, g, hb, ho⟩, hl⟩ := a
 by_cases he : R.e = 0
 ·have he' := eq_true he
  by_cases hp : p
  ·rw [show R.bad (¬ p) = R from Rd.bad_no (fun q => q.2 hp)]
   refine ww1 (cj @Tryz.f154.eq_1 <| cj g <| cj he' hp) ?_
   exact ⟨a', But.refl r h⟩
  ·rw [show R.bad (¬ p) = ⟨R.bs, 5⟩ from Rd.bad_yes ⟨he, hp⟩]
   refine ww1 (cj @Tryz.f154.eq_1 <| cj g <| cj he' hp) ?_
   exact ⟨RdS.put (R := ⟨R.bs, 5⟩) hb ho hl, (But.refl r h).put _⟩
 ·rw [show R.bad (¬ p) = R from Rd.bad_no (fun q => he q.1)]
  refine ww1 (cj @Tryz.f154.eq_1 <| cj g he) ?_
  exact ⟨a', But.refl r h⟩
theorem cfix_spec {n0 r : Nat} {R : Rd} {h : H} (a : RdS 5 166 n0 r R h) (hl : R.bs.length < 2 ^ 28) (n : Nat) (hn : 1 ≤ n ∧ n ≤ 8) : callW S.cfg (· = r) 156 [.ptr r 0, .int .i64 n] h fun v h' => v = .int .u64 (R.fix n).1 ∧ RdR 166 n0 r (R.fix n).2 h h' := by
 refine into Tryz.f156 _ Tryz.func156 (hS.ownR _ (by decide)) rfl rfl (by kernel_rfl) (by kernel_rfl) ?_
 have a' := a
 obtain ⟨⟨v, g, hb, ho⟩, hlt⟩ := a
 obtain ⟨c1, c2⟩ := hb.cell
 unfold Rd.fix
 by_cases he : R.e ≠ 0
 ·have he' : ¬ R.e = 0 := he
  rw [if_pos he]
  refine ww1 (cj @Tryz.f156.eq_1 <| cj g he') ?_
  exact ⟨a', But.refl r h⟩
 have he0 := Classical.not_not.1 he
 have he' := eq_true he0
 rw [if_neg he]
 refine ww1 (cj @Tryz.f156.eq_1 <| cj g he') ?_
 refine callF_exact (rfx_spec hS.toStdB hb (by omega) n hn) ?_
 by_cases h5 : R.bs.length < n
 ·rw [if_pos h5, if_pos h5, if_pos h5]
  refine ww1 (cj g n40) ?_
  exact ⟨RdS.put (R := ⟨R.bs, 4⟩) hb ho hlt, (But.refl r h).put _⟩
 ·rw [if_neg h5, if_neg h5, if_neg h5]
  refine ww1 g ?_
  refine drop_bs (i := n) hb ubs szb (by exact wv0) (by exact wv0) (by omega) fun w L hw ho2 _ => ?_
  obtain ⟨d1, d2⟩ := hw.cell
  refine ww1 (cj g <| cj d1 <| cj d2 he0) ?_
  exact ⟨RdS.put (R := ⟨R.bs.drop n, 0⟩) hw (fun k hk => ho2 k (ho k hk)) hlt, (But.refl r h).put _⟩
theorem ctxt_spec {n0 r : Nat} {R : Rd} {h : H} (a : RdS 5 166 n0 r R h) (hl : R.bs.length < 2 ^ 28) : callW S.cfg (· = r) 155 [.ptr r 0] h fun v h' => v = .str (txc R).1 ∧ RdR 166 n0 r (txc R).2 h h' := by
 refine into Tryz.f155 _ Tryz.func155 (hS.ownR _ (by decide)) rfl rfl (by kernel_rfl) (by kernel_rfl) ?_
 have a' := a
 obtain ⟨⟨v, g, hb, ho⟩, hlt⟩ := a
 obtain ⟨c1, c2⟩ := hb.cell
 unfold txc
 by_cases he : R.e ≠ 0
 ·have he' : ¬ R.e = 0 := he
  rw [if_neg he]
  refine ww1 (cj @Tryz.f155.eq_1 <| cj g he') ?_
  exact ⟨a', But.refl r h⟩
 have he0 := Classical.not_not.1 he
 have he' := eq_true he0
 have hi := txF_ok hb.1
 rw [if_pos he0]
 refine ww1 (cj @Tryz.f155.eq_1 <| cj g he') ?_
 refine callF_exact (rtx_spec hS.toStdB hb (by omega)) ?_
 by_cases h5 : (txF R.bs).2.2 = 0
 ·have h5' := eq_true h5
  rw [if_pos h5]
  by_cases h6 : 255 < (txF R.bs).1.length
  ·have h6' : (255 : Int) < (txF R.bs).1.length := by omega
   rw [if_pos h6]
   refine ww1 (cj g <| cj h5' <| cj h6 <| cj h6' n50) ?_
   exact ⟨RdS.put (R := ⟨R.bs, 5⟩) hb ho hlt, (But.refl r h).put _⟩
  ·have h6' : ¬ (255 : Int) < (txF R.bs).1.length := by omega
   rw [if_neg h6]
   refine ww1 (cj g <| cj h5' <| cj h6 h6') ?_
   refine drop_bs (i := (txF R.bs).2.1) hb ubs szb (by exact wv0) (by exact wv0) hi.1 fun w L hw ho2 _ => ?_
   obtain ⟨d1, d2⟩ := hw.cell
   refine ww1 (cj g <| cj d1 <| cj d2 he0) ?_
   exact ⟨RdS.put (R := ⟨R.bs.drop (txF R.bs).2.1, 0⟩) hw (fun k hk => ho2 k (ho k hk)) hlt, (But.refl r h).put _⟩
 ·rw [if_neg h5]
  refine ww1 (cj g h5) ?_
  exact ⟨RdS.put (R := ⟨R.bs, (txF R.bs).2.2⟩) hb ho hlt, (But.refl r h).put _⟩
end
noncomputable section
theorem l05 : ((0 : Nat) < 5) = True := by decide
theorem l15 : ((1 : Nat) < 5) = True := by decide
theorem l25 : ((2 : Nat) < 5) = True := by decide
theorem l35 : ((3 : Nat) < 5) = True := by decide
theorem l45 : ((4 : Nat) < 5) = True := by decide
theorem l55 : ((5 : Nat) < 5) = False := by decide
structure CO where
 s0 : List Nat
 s1 : List Nat
 s2 : List Nat
 s3 : List Nat
 s4 : List Nat
 c : Int
 l : Int
 t : Int
 f : Int
 d : Int
def CO.cells (x : CO) : List V := [.str x.s0, .str x.s1, .str x.s2, .str x.s3, .str x.s4, .int .u16 x.c, .int .u32 x.l, .int .u8 x.t, .int .u16 x.f, .int .u8 x.d]
def CO.zero : CO := ⟨[], [], [], [], [], 0, 0, 0, 0, 0⟩
def CO.Ok (x : CO) : Prop := 0 ≤ x.t ∧ x.t < 256
def CO.set (x : CO) (i : Nat) (t : List Nat) : CO := match i with
 | 0 => { x with s0 := t }
 | 1 => { x with s1 := t }
 | 2 => { x with s2 := t }
 | 3 => { x with s3 := t }
 | _ => { x with s4 := t }
def colS (R : Rd) : Nat → CO × Rd
 | 0 => (CO.zero, R)
 | i + 1 => ((colS R i).1.set i (txc (colS R i).2).1, (txc (colS R i).2).2)
def colL (x : CO) (R : Rd) : CO × Int := @ite _ (R.e = 0) (Classical.propDecidable _) (x, 0) (CO.zero, R.e)
def colK (x : CO) (R : Rd) : CO × Int := colL x (R.bad (¬ R.bs.length = 0))
def colJ (x : CO) (F : Int × Rd) : CO × Int := colK x (F.2.bad (¬ F.1 = 0))
def colI (x : CO) (F : Int × Rd) : CO × Int := colJ { x with d := IntKind.u8.wrap F.1 } (F.2.fix 2)
def colH (x : CO) (F : Int × Rd) : CO × Int := colI { x with f := IntKind.u16.wrap F.1 } (F.2.fix 1)
def colG (x : CO) (F : Int × Rd) : CO × Int := colH { x with t := IntKind.u8.wrap F.1 } ((F.2.bad (¬ knownP (IntKind.u8.wrap F.1))).fix 2)
def colE (x : CO) (F : Int × Rd) : CO × Int := colG { x with l := IntKind.u32.wrap F.1 } (F.2.fix 1)
def colD (x : CO) (F : Int × Rd) : CO × Int := colE { x with c := IntKind.u16.wrap F.1 } (F.2.fix 4)
def colC (x : CO) (F : Int × Rd) : CO × Int := colD x ((F.2.bad (¬ F.1 = 12)).fix 2)
def colB (x : CO × Rd) : CO × Int := colC x.1 (x.2.fix 1)
def colA (T : List Nat × Rd) : CO × Int := colB (colS (T.2.bad (¬ T.1 = [100, 101, 102])) 5)
def colF (l : List Nat) : CO × Int := colA (txc ⟨l, 0⟩)
theorem colL_ok {x : CO} (h : x.Ok) (R : Rd) : (colL x R).1.Ok := by
 unfold colL
 split
 ·exact h
 ·exact ⟨Int.le_refl 0, (by decide : (0 : Int) < 256)⟩
theorem colF_ok (l : List Nat) : (colF l).1.Ok := by
 unfold colF colA colB colC colD colE colG colH colI colJ colK
 refine colL_ok ?_ _
 exact u8_wrap_in _
structure CS (h0 : H) (o : Nat) (h : H) (x : CO) (R : Rd) : Prop where
 rd : RdS 5 166 h0.nx (h0.nx + 1) R h
 len : R.bs.length < 2 ^ 28
 ext : Ext h0 h
 z : h.get h0.nx = some (.cells CO.zero.cells 67 false)
 ob : h.get o = some (.cells x.cells 67 false)
 lt : h0.nx + 1 < o ∧ o < h.nx
theorem CS.call {h0 : H} {o : Nat} {h h' : H} {x : CO} {R R' : Rd} (a : CS h0 o h x R) (hl : R'.bs.length ≤ R.bs.length) (b : RdR 166 h0.nx (h0.nx + 1) R' h h') : CS h0 o h' x R' := by
 obtain ⟨hr, hb⟩ := b
 have l1 := a.lt
 have n2 := hb.1
 exact ⟨hr, Nat.lt_of_le_of_lt hl a.len, But.ext a.ext hb (by omega), by rw [hb.2 _ (by omega) (by omega)]; exact a.z, by rw [hb.2 _ (by omega) (by omega)]; exact a.ob, by omega, by omega⟩
theorem CS.put {h0 : H} {o : Nat} {h : H} {x : CO} {R : Rd} (a : CS h0 o h x R) (y : CO) : CS h0 o (h.put o (.cells y.cells 67 false)) y R := by
 have l1 := a.lt
 exact ⟨a.rd.keep (Nat.le_refl _) (put_ne (by omega)) fun k hk => put_ne (by omega), a.len, a.ext.put (by omega) _, by rw [put_ne (by omega)]; exact a.z, put_eq rfl, l1⟩
theorem CS.ext2 {h0 : H} {o : Nat} {h h' : H} {x : CO} {R : Rd} (a : CS h0 o h x R) (hx : Ext h h') : CS h0 o h' x R := by
 have l1 := a.lt
 exact ⟨a.rd.ext hx, a.len, a.ext.trans hx, by rw [hx.2 _ (by omega)]; exact a.z, by rw [hx.2 _ (by omega)]; exact a.ob, l1.1, Nat.lt_of_lt_of_le l1.2 hx.1⟩
variable {S : Set0} (hS : StdR S)
include hS
theorem colread_spec {v : V} {l : List Nat} {h : H} (a : BS 5 h v l) (hl : l.length < 2 ^ 28) : Pure S.cfg 142 [v] h fun w _ => w = .tuple [.agg (colF l).1.cells, .int .i64 (colF l).2] := by
 refine into Tryz.f142 _ Tryz.func142 (hS.ownR _ (by decide)) rfl rfl (by kernel_rfl) (by kernel_rfl) ?_
 obtain ⟨c1, c2⟩ := a.cell
 refine ww1 (cj @Tryz.f142.eq_1 <| cj c1 c2) ?_
 generalize hhA : H.push (H.push h _) _ = hA
 have hxA : Ext h hA := by rw [← hhA]; exact ((Ext.refl h).push _).push _
 have hnA : hA.nx = h.nx + 2 := by rw [← hhA]; rfl
 have gR : hA.get (h.nx + 1) = some (.cells [v, .int .i64 0] 166 false) := by rw [← hhA]; exact push_eq rfl
 have gZ : hA.get h.nx = some (.cells CO.zero.cells 67 false) := by rw [← hhA, push_ne (by simp only [push_nx]; omega)]; exact push_eq rfl
 clear hhA
 have a2 : RdS 5 166 h.nx (h.nx + 1) ⟨l, 0⟩ hA := ⟨⟨v, gR, a.ext hxA, fun k hk => a.off hk⟩, by omega, by omega⟩
 have okf : ∀ k, k = h.nx + 1 → fresh h.nx nil1 k := fun k hk => by rw [fresh_def]; exact .inl (by omega)
 refine callF_of (ctxt_spec hS a2 (by show l.length < _; omega)) okf ?_
 have hF : colF l = colA (txc ⟨l, 0⟩) := rfl
 rw [hF]
 clear hF
 have l1 : (txc ⟨l, 0⟩).2.bs.length ≤ l.length := txc_len _
 rintro _ h1 ⟨rfl, r1, b1⟩
 generalize txc ⟨l, 0⟩ = T at *
 obtain ⟨T1, T2⟩ := T
 simp only at r1 l1
 refine ww0 ?_
 refine callF_of (cmust_spec hS r1 _) okf ?_
 rintro _ h2 ⟨r2, b2⟩
 have n1 := b1.1
 have n2 := b2.1
 have b12 := b1.trans b2
 unfold colA
 have l2 : (T2.bad (¬ T1 = [100, 101, 102])).bs.length ≤ T2.bs.length := by rw [Rd.bad_bs]; exact Nat.le_refl _
 generalize T2.bad (¬ T1 = [100, 101, 102]) = R2 at *
 refine ww0 ?_
 generalize hhC : H.push (H.push h2 _) _ = hC
 have hxC : Ext h2 hC := by rw [← hhC]; exact ((Ext.refl h2).push _).push _
 have hnC : hC.nx = h2.nx + 2 := by rw [← hhC]; rfl
 have gO : hC.get h2.nx = some (.cells CO.zero.cells 67 false) := by rw [← hhC, push_ne (by simp only [push_nx]; omega)]; exact push_eq rfl
 have gP : hC.get (h2.nx + 1) = some (.cells [.ptr h2.nx 0, .ptr h2.nx 1, .ptr h2.nx 2, .ptr h2.nx 3, .ptr h2.nx 4] 167 false) := by rw [← hhC]; exact push_eq rfl
 clear hhC
 have C0 : CS h h2.nx hC CO.zero R2 := ⟨r2.ext hxC, by omega, (But.ext hxA b12 (by omega)).trans hxC, by rw [hxC.2 _ (by omega), b12.2 _ (by omega) (by omega)]; exact gZ, gO, by omega, by omega⟩
 refine run_loop (fun k env h' => ∃ i : Nat, k = 5 - i ∧ i ≤ 5 ∧ env 2 = .ptr h.nx 0 ∧ env 4 = .ptr (h.nx + 1) 0 ∧ env 5 = .ptr h2.nx 0 ∧ env 21 = .slice (h2.nx + 1) 0 5 5 ∧ env 22 = .int .i64 5 ∧ env 23 = .int .i64 i ∧ h'.get (h2.nx + 1) = some (.cells [.ptr h2.nx 0, .ptr h2.nx 1, .ptr h2.nx 2, .ptr h2.nx 3, .ptr h2.nx 4] 167 false) ∧ h2.nx + 2 ≤ h'.nx ∧ CS h h2.nx h' (colS R2 i).1 (colS R2 i).2) 5 ⟨0, ?_⟩ ?_
 ·refine ww0 ?_
  exact ⟨gP, by omega, C0⟩
 rintro k env h' ⟨i, rfl, hi, e2, e4, e5, e21, e22, e23, gP', hn', C⟩
 by_cases hin : i < 5
 ·have hin' : (i : Int) < 5 := by omega
  have hsucc : colS R2 (i + 1) = ((colS R2 i).1.set i (txc (colS R2 i).2).1, (txc (colS R2 i).2).2) := rfl
  have C' := C
  rcases (by omega : i = 0 ∨ i = 1 ∨ i = 2 ∨ i = 3 ∨ i = 4) with rfl | rfl | rfl | rfl | rfl
  all_goals
   refine ww1 (cj e2 <| cj e4 <| cj e5 <| cj e21 <| cj e22 <| cj e23 <| cj gP' <| cj l05 <| cj l15 <| cj l25 <| cj l35 <| cj l45 l55) ?_
   refine callF_of (ctxt_spec hS C.rd C.len) okf ?_
   rintro _ h3 ⟨rfl, cr⟩
   have C3 := C.call (txc_len _) cr
   have g3 := C3.ob
   unfold CO.cells at g3
   have gP3 : h3.get (h2.nx + 1) = some (.cells [.ptr h2.nx 0, .ptr h2.nx 1, .ptr h2.nx 2, .ptr h2.nx 3, .ptr h2.nx 4] 167 false) := by
    obtain ⟨_, b⟩ := cr
    rw [b.2 _ (by omega) (by omega)]; exact gP'
   have hn3 : h2.nx + 2 ≤ h3.nx := by
    obtain ⟨_, b⟩ := cr
    have := b.1
    omega
   have l3 := C3.lt
   simp +contextual (disch := first | exact dd | fail) only [wpy, fW, Int.reduceLE, Int.reduceLT, Nat.reduceLeDiff, UInt8.reduceToNat, ↓reduceIte, Nat.reduceEqDiff, Nat.reduceAdd, reduceCtorEq, Int.reduceToNat, e2, e4, e5, e21, e22, e23, g3]
  ·exact ⟨.inr (by omega), 5 - 1, by omega, 1, rfl, by omega, rfl, gP3, hn3, C3.put (colS R2 1).1⟩
  ·exact ⟨.inr (by omega), 5 - 2, by omega, 2, rfl, by omega, rfl, gP3, hn3, C3.put (colS R2 2).1⟩
  ·exact ⟨.inr (by omega), 5 - 3, by omega, 3, rfl, by omega, rfl, gP3, hn3, C3.put (colS R2 3).1⟩
  ·exact ⟨.inr (by omega), 5 - 4, by omega, 4, rfl, by omega, rfl, gP3, hn3, C3.put (colS R2 4).1⟩
  ·exact ⟨.inr (by omega), 5 - 5, by omega, 5, rfl, by omega, rfl, gP3, hn3, C3.put (colS R2 5).1⟩
 ·obtain rfl : i = 5 := by omega
  refine ww1 (cj e2 <| cj e4 <| cj e5 <| cj e21 <| cj e22 <| cj e23 <| cj l05 <| cj l15 <| cj l25 <| cj l35 <| cj l45 l55) ?_
  clear C0 gO gP hxC hnC gP'
  generalize colS R2 5 = X at *
  obtain ⟨x, R⟩ := X
  simp only at C
  unfold colB
  refine callF_of (cfix_spec hS C.rd C.len 1 (by omega)) okf ?_
  have lf := Rd.fix_len R 1
  rintro _ h3 ⟨rfl, cr⟩
  have C := C.call lf cr
  generalize R.fix 1 = F at *
  obtain ⟨F1, F2⟩ := F
  simp only at C cr
  refine ww1 (cj e2 <| cj e4 e5) ?_
  refine callF_of (cmust_spec hS C.rd _) okf ?_
  rintro _ h4 cr
  have C := C.call (by rw [Rd.bad_bs]; exact Nat.le_refl _) cr
  unfold colC
  simp only
  generalize F2.bad (¬ F1 = 12) = R3 at *
  refine ww1 (cj e2 <| cj e4 e5) ?_
  refine callF_of (cfix_spec hS C.rd C.len 2 (by omega)) okf ?_
  have lf := Rd.fix_len R3 2
  rintro _ h5 ⟨rfl, cr⟩
  have C := C.call lf cr
  generalize R3.fix 2 = G at *
  obtain ⟨y, R4⟩ := G
  simp only at C cr
  have l3 := C.lt
  have g3 := C.ob
  unfold CO.cells at g3
  refine ww1 (cj e2 <| cj e4 <| cj e5 g3) ?_
  have C := C.put { x with c := IntKind.u16.wrap y }
  unfold colD
  refine ⟨.inr (by omega), callF_of (cfix_spec hS C.rd C.len 4 (by omega)) okf ?_⟩
  have lf := Rd.fix_len R4 4
  rintro _ h6 ⟨rfl, cr⟩
  have C := C.call lf cr
  simp only
  generalize R4.fix 4 = G at *
  obtain ⟨y1, R5⟩ := G
  simp only at C cr
  have l3 := C.lt
  have g3 := C.ob
  unfold CO.cells at g3
  refine ww1 (cj e2 <| cj e4 <| cj e5 g3) ?_
  have C := C.put { x with c := IntKind.u16.wrap y, l := IntKind.u32.wrap y1 }
  unfold colE
  refine ⟨.inr (by omega), callF_of (cfix_spec hS C.rd C.len 1 (by omega)) okf ?_⟩
  have lf := Rd.fix_len R5 1
  rintro _ h7 ⟨rfl, cr⟩
  have C := C.call lf cr
  simp only
  generalize R5.fix 1 = G at *
  obtain ⟨y2, R6⟩ := G
  simp only at C cr
  have l3 := C.lt
  have g3 := C.ob
  unfold CO.cells at g3
  refine ww1 (cj e2 <| cj e4 <| cj e5 g3) ?_
  have C := C.put { x with c := IntKind.u16.wrap y, l := IntKind.u32.wrap y1, t := IntKind.u8.wrap y2 }
  have hu := u8_wrap_in y2
  refine ⟨.inr (by omega), callF_pure (known_spec hS _ hu _) ?_⟩
  rintro _ h8 hx8 rfl
  have C := C.ext2 hx8
  refine ww1 (cj e2 <| cj e4 e5) ?_
  refine callF_of (cmust_spec hS C.rd _) okf ?_
  rintro _ h9 cr
  have C := C.call (by rw [Rd.bad_bs]; exact Nat.le_refl _) cr
  unfold colG
  simp only
  generalize R6.bad (¬ knownP (IntKind.u8.wrap y2)) = R7 at *
  refine ww1 (cj e2 <| cj e4 e5) ?_
  refine callF_of (cfix_spec hS C.rd C.len 2 (by omega)) okf ?_
  have lf := Rd.fix_len R7 2
  rintro _ h10 ⟨rfl, cr⟩
  have C := C.call lf cr
  generalize R7.fix 2 = G at *
  obtain ⟨y3, R8⟩ := G
  simp only at C cr
  have l3 := C.lt
  have g3 := C.ob
  unfold CO.cells at g3
  refine ww1 (cj e2 <| cj e4 <| cj e5 g3) ?_
  have C := C.put { x with c := IntKind.u16.wrap y, l := IntKind.u32.wrap y1, t := IntKind.u8.wrap y2, f := IntKind.u16.wrap y3 }
  unfold colH
  refine ⟨.inr (by omega), callF_of (cfix_spec hS C.rd C.len 1 (by omega)) okf ?_⟩
  have lf := Rd.fix_len R8 1
  rintro _ h11 ⟨rfl, cr⟩
  have C := C.call lf cr
  simp only
  generalize R8.fix 1 = G at *
  obtain ⟨y4, R9⟩ := G
  simp only at C cr
  have l3 := C.lt
  have g3 := C.ob
  unfold CO.cells at g3
  refine ww1 (cj e2 <| cj e4 <| cj e5 g3) ?_
  have C := C.put { x with c := IntKind.u16.wrap y, l := IntKind.u32.wrap y1, t := IntKind.u8.wrap y2, f := IntKind.u16.wrap y3, d := IntKind.u8.wrap y4 }
  unfold colI
  refine ⟨.inr (by omega), callF_of (cfix_spec hS C.rd C.len 2 (by omega)) okf ?_⟩
  have lf := Rd.fix_len R9 2
  rintro _ h12 ⟨rfl, cr⟩
  have C := C.call lf cr
  simp only
  generalize R9.fix 2 = G at *
  obtain ⟨y5, R10⟩ := G
  simp only at C cr
  refine ww1 (cj e2 <| cj e4 e5) ?_
  refine callF_of (cmust_spec hS C.rd _) okf ?_
  rintro _ h13 cr
  have C := C.call (by rw [Rd.bad_bs]; exact Nat.le_refl _) cr
  unfold colJ
  simp only
  generalize R10.bad (¬ y5 = 0) = R11 at *
  have hr' := C.rd
  obtain ⟨⟨v3, g13, hb, ho⟩, hlt⟩ := C.rd
  have a13 := hb.len 5
  refine ww1 (cj e2 <| cj e4 <| cj e5 <| cj g13 a13) ?_
  refine callF_of (cmust_spec hS hr' _) okf ?_
  rintro _ h14 cr
  have C := C.call (by rw [Rd.bad_bs]; exact Nat.le_refl _) cr
  unfold colK
  generalize R11.bad (¬ R11.bs.length = 0) = R12 at *
  obtain ⟨⟨v4, g14, hb, ho⟩, hlt⟩ := C.rd
  have z14 := C.z
  have o14 := C.ob
  unfold CO.cells at z14 o14
  unfold CO.zero at z14
  have q : ¬ h.nx = h.nx + 1 := by omega
  have q' : ¬ h.nx + 1 = h.nx := by omega
  unfold colL
  by_cases he : R12.e = 0
  ·rw [if_pos he]
   have he' := eq_true he
   refine ww1 (cj e2 <| cj e4 <| cj e5 <| cj g14 <| cj z14 <| cj o14 he') ?_
   exact ⟨C.ext.put (Nat.le_refl _) _, rfl⟩
  ·rw [if_neg he]
   refine ww1 (cj e2 <| cj e4 <| cj e5 <| cj g14 <| cj z14 <| cj o14 he) ?_
   refine draw_by [(4, 5)] (by kernel_rfl) ?_
   refine ww1 (cj e2 <| cj e4 <| cj e5 <| cj g14 <| cj z14 <| cj o14 <| cj he <| cj q q') ?_
   refine ⟨fun p hp => ?_, C.ext.put (Nat.le_refl _) _, rfl⟩
   rw [List.mem_singleton.1 hp]
   exact pair_one rfl rfl (apart_blk fun x hx y hy => by
    rw [List.mem_singleton.1 hx, List.mem_singleton.1 hy]
    show h.nx + 1 ≠ h.nx
    omega)
end
noncomputable section
theorem or_nat (a b : Nat) (ha : a < 256) (hb : b < 256) : iOr .u64 (a : Int) ((b : Int) * 256) = (a : Int) + (b : Int) * 256 := by
 unfold iOr
 rw [BitVec.toNat_or, BitVec.toNat_ofInt, BitVec.toNat_ofInt]
 have e : (((2 : Nat) ^ IntKind.u64.bits : Nat) : Int) = 18446744073709551616 := rfl
 rw [e]
 have e1 : ((a : Int) % 18446744073709551616).toNat = a := by omega
 have e2 : ((b : Int) * 256 % 18446744073709551616).toNat = b <<< 8 := by rw [Nat.shiftLeft_eq]; omega
 rw [e1, e2, Nat.or_comm, ← Nat.shiftLeft_add_eq_or_of_lt (by omega : a < 2 ^ 8), Nat.shiftLeft_eq, IntKind.wrap_u64]
 omega
theorem rdX_two {l : List Nat} (h : ∀ x ∈ l, x < 256) : rdX l 2 = byI l 0 + byI l 1 * 256 := by
 have h0 := byI_in h 0
 have h1 := byI_in h 1
 show iOr .u64 (rdX l 1) (iShl .u64 (byI l 1) (8 * ((1 : Nat) : Int))) = _
 rw [rdX_one h]
 have e : iShl .u64 (byI l 1) (8 * ((1 : Nat) : Int)) = byI l 1 * 256 := by
  unfold iShl
  have : (2 : Int) ^ (min (8 * ((1 : Nat) : Int)).toNat IntKind.u64.bits) = 256 := rfl
  rw [this, IntKind.wrap_u64]
  omega
 rw [e]
 unfold byI at h0 h1 ⊢
 exact or_nat _ _ (by omega) (by omega)
def lastF (l : List Nat) (c : Int) : Int := @ite _ (l.length = 0) (Classical.propDecidable _) 0 (@ite _ (byI l 0 = 255) (Classical.propDecidable _) 2 (@ite _ (byI l 0 = 254) (Classical.propDecidable _) (@ite _ (hasP c 16777216) (Classical.propDecidable _) (@ite _ (l.length < 16777215) (Classical.propDecidable _) 1 0) (@ite _ (l.length = 5) (Classical.propDecidable _) 3 0)) 0))
def fileE (l : List Nat) : Int := @ite _ ((mustF ⟨l, 0⟩ [251]).e = 0) (Classical.propDecidable _) (@ite _ ((mustF ⟨l, 0⟩ [251]).bs.length = 0) (Classical.propDecidable _) 4 0) (mustF ⟨l, 0⟩ [251]).e
variable {S : Set0} (hS : StdR S)
include hS
theorem last_spec {v : V} {l : List Nat} {h : H} (a : BS 5 h v l) (c : Int) : Exact S.cfg 67 [v, .int .u32 c] h (.int .i64 (lastF l c)) := by
 refine into Tryz.f67 _ Tryz.func67 (hS.ownG _ (by decide)) rfl rfl (by kernel_rfl) (by kernel_rfl) ?_
 have a1 := a.len 5
 unfold lastF
 by_cases h0 : l.length = 0
 ·rw [if_pos h0]
  exact wv1 (cj @Tryz.f67.eq_1 <| cj a1 h0)
 rw [if_neg h0]
 obtain ⟨b, o, m, rfl, _, _⟩ := a.at (i := 0) (by omega)
 obtain ⟨_, hb, hrd⟩ := a.rd
 have hr := hrd 0 (by omega)
 rw [Nat.add_zero] at hr
 have hl0 : 0 < l.length := by omega
 by_cases h2 : byI l 0 = 255
 ·rw [if_pos h2]
  have h2 := eq_true h2
  exact wv1 (cj @Tryz.f67.eq_1 <| cj a1 <| cj h0 <| cj hl0 <| cj hr h2)
 rw [if_neg h2]
 by_cases h3 : byI l 0 = 254
 case neg =>
  rw [if_neg h3]
  exact wv1 (cj @Tryz.f67.eq_1 <| cj a1 <| cj h0 <| cj hl0 <| cj hr <| cj h2 h3)
 rw [if_pos h3]
 have h3' := eq_true h3
 refine ww1 (cj @Tryz.f67.eq_1 <| cj a1 <| cj h0 <| cj hl0 <| cj hr <| cj h2 h3') ?_
 refine callF_exact (has_spec hS.toStdB c 16777216 _) ?_
 by_cases h4 : hasP c 16777216
 ·rw [if_pos h4]
  by_cases h5 : l.length < 16777215
  ·rw [if_pos h5]
   have h5' : (l.length : Int) < 16777215 := by omega
   exact wv1 (cj a1 <| cj h4 <| cj h5 h5')
  ·rw [if_neg h5]
   have h5' : ¬ (l.length : Int) < 16777215 := by omega
   exact wv1 (cj a1 <| cj h4 <| cj h5 h5')
 ·rw [if_neg h4]
  by_cases h5 : l.length = 5
  ·rw [if_pos h5]
   exact wv1 (cj a1 <| cj h4 h5)
  ·rw [if_neg h5]
   have h5' : ¬ (l.length : Int) = 5 := by omega
   exact wv1 (cj a1 <| cj h4 <| cj h5 h5')
theorem readfile_spec {v : V} {l : List Nat} {h : H} (a : BS 5 h v l) (hl : l.length < 2 ^ 28) : Pure S.cfg 61 [v] h fun w _ => ∃ t, w = .tuple [.str t, .int .i64 (fileE l)] := by
 refine into Tryz.f61 _ Tryz.func61 (hS.ownG _ (by decide)) rfl rfl (by kernel_rfl) (by kernel_rfl) ?_
 obtain ⟨c1, c2⟩ := a.cell
 refine ww1 (cj @Tryz.f61.eq_1 <| cj c1 c2) ?_
 generalize hhA : H.push h _ = hA
 have hxA : Ext h hA := by rw [← hhA]; exact (Ext.refl h).push _
 have hnA : hA.nx = h.nx + 1 := by rw [← hhA]; rfl
 have gR : hA.get h.nx = some (.cells [v, .int .i64 0] 121 false) := by rw [← hhA]; exact push_eq rfl
 clear hhA
 have a2 : RdS 5 121 h.nx h.nx ⟨l, 0⟩ hA := ⟨⟨v, gR, a.ext hxA, fun k hk => a.off hk⟩, by omega, by omega⟩
 have okf : ∀ k, k = h.nx → fresh h.nx nil1 k := fun k hk => by rw [fresh_def]; exact .inl (by omega)
 have al := bs_one (h := hA) 251 (h.nx + 1) (by omega) (by decide)
 refine callF_of (must_spec hS.toStdB (a2.ext ((Ext.refl hA).push _)) (by show l.length < _; omega) al (fun o n m q => by injection q; omega)) okf ?_
 rintro w1 h1 r1
 have r1 : RdR 121 h.nx h.nx (mustF ⟨l, 0⟩ [251]) hA h1 := ⟨r1.1, (But.of_ext ((Ext.refl hA).push _)).trans r1.2⟩
 unfold fileE
 generalize mustF ⟨l, 0⟩ [251] = R2 at *
 have hx1 : Ext h h1 := But.ext hxA r1.2 (by omega)
 obtain ⟨⟨v1, g1, hb1, ho1⟩, hlt1⟩ := r1.1
 have a1 := hb1.len 5
 obtain ⟨L2, _, hc⟩ := hb1.str
 by_cases he : R2.e = 0
 ·have he' := eq_true he
  rw [if_pos he]
  by_cases h0 : R2.bs.length = 0
  ·rw [if_pos h0]
   refine ww1 (cj g1 <| cj he' <| cj h0 <| cj a1 n40) ?_
   refine draw_by [] (by kernel_rfl) ?_
   refine ww1 (cj g1 <| cj he' <| cj h0 <| cj a1 n40) ?_
   exact ⟨fun p hp => (by cases hp), hx1.put (Nat.le_refl _) _, _, rfl⟩
  ·rw [if_neg h0]
   refine ww1 (cj g1 <| cj he' <| cj h0 <| cj a1 hc) ?_
   exact ⟨hx1, _, rfl⟩
 ·rw [if_neg he]
  refine ww1 (cj g1 he) ?_
  refine draw_by [] (by kernel_rfl) ?_
  refine ww1 (cj g1 he) ?_
  exact ⟨fun p hp => (by cases hp), hx1, _, rfl⟩
end
noncomputable section
theorem wr_apart {L : List LE} {k o n : Nat} (h : ∀ x ∈ L, blkOf x ≠ k) : fpApart (.lg L) (.lg [.wr k o n]) := apart_blk fun x hx y hy => by
 rw [List.mem_singleton.1 hy]
 exact h x hx
def errG (R : Rd) (c : Int) : Int × List Nat × List Nat × Int := @ite _ (R.e = 0) (Classical.propDecidable _) (@ite _ (R.bs.length < 5) (Classical.propDecidable _) (0, [], [], 4) (IntKind.u16.wrap c, R.bs.take 5, R.bs.drop 5, 0)) (0, [], [], R.e)
def errF (l : List Nat) : Int × List Nat × List Nat × Int := errG (mustF ((mustF ⟨l, 0⟩ [255]).fix 2).2 [35]) ((mustF ⟨l, 0⟩ [255]).fix 2).1
variable {S : Set0} (hS : StdR S)
include hS
theorem readerr_spec {v : V} {l : List Nat} {h : H} (a : BS 5 h v l) (hl : l.length < 2 ^ 28) : Pure S.cfg 72 [v] h fun w _ => w = .tuple [.agg [.int .u16 (errF l).1, .str (errF l).2.1, .str (errF l).2.2.1], .int .i64 (errF l).2.2.2] := by
 refine into Tryz.f72 _ Tryz.func72 (hS.ownG _ (by decide)) rfl rfl (by kernel_rfl) (by kernel_rfl) ?_
 obtain ⟨c1, c2⟩ := a.cell
 refine ww1 (cj @Tryz.f72.eq_1 <| cj c1 c2) ?_
 generalize hhA : H.push (H.push h _) _ = hA
 have hxA : Ext h hA := by rw [← hhA]; exact ((Ext.refl h).push _).push _
 have hnA : hA.nx = h.nx + 2 := by rw [← hhA]; rfl
 have gR : hA.get (h.nx + 1) = some (.cells [v, .int .i64 0] 121 false) := by rw [← hhA]; exact push_eq rfl
 have gZ : hA.get h.nx = some (.cells [.int .u16 0, .str [], .str []] 47 false) := by rw [← hhA, push_ne (by simp only [push_nx]; omega)]; exact push_eq rfl
 clear hhA
 have a2 : RdS 5 121 h.nx (h.nx + 1) ⟨l, 0⟩ hA := ⟨⟨v, gR, a.ext hxA, fun k hk => a.off hk⟩, by omega, by omega⟩
 have okf : ∀ k, k = h.nx + 1 → fresh h.nx nil1 k := fun k hk => by rw [fresh_def]; exact .inl (by omega)
 have al := bs_one (h := hA) 255 (h.nx + 1 + 1) (by omega) (by decide)
 refine callF_of (must_spec hS.toStdB (a2.ext ((Ext.refl hA).push _)) (by show l.length < _; omega) al (fun o n m q => by injection q; omega)) okf ?_
 rintro w1 h1 r1
 have r1 : RdR 121 h.nx (h.nx + 1) (mustF ⟨l, 0⟩ [255]) hA h1 := ⟨r1.1, (But.of_ext ((Ext.refl hA).push _)).trans r1.2⟩
 have l2 : (mustF ⟨l, 0⟩ [255]).bs.length ≤ l.length := mustF_len _ _
 have hF : errF l = errG (mustF ((mustF ⟨l, 0⟩ [255]).fix 2).2 [35]) ((mustF ⟨l, 0⟩ [255]).fix 2).1 := rfl
 rw [hF]
 clear hF
 generalize mustF ⟨l, 0⟩ [255] = R2 at *
 refine ww0 ?_
 refine callF_of (fix_spec hS.toStdB r1.1 (by omega) 2 (by omega)) okf ?_
 have l3 := Rd.fix_len R2 2
 rintro _ h2 ⟨rfl, r2⟩
 have n1 := r1.2.1
 have n2 := r2.2.1
 have b2 : But (h.nx + 1) hA h2 := r1.2.trans r2.2
 refine ww0 ?_
 refine ⟨.inr (by omega), ?_⟩
 generalize hhC : H.put _ _ _ = hC
 have hxC : Ext h2 hC := by rw [← hhC]; exact Ext.new _ _ _
 have hnC : hC.nx = h2.nx + 1 := by rw [← hhC]; rfl
 have fC : GS 47 [.int .u16 0, .str [], .str []] h h2.nx (R2.fix 2).2 [.int .u16 (IntKind.u16.wrap (R2.fix 2).1), .str [], .str []] hC := ⟨r2.1.ext hxC, But.ext hxA (b2.trans (But.of_ext hxC)) (by omega), by rw [hxC.2 _ (by omega), b2.2 _ (by omega) (by omega)]; exact gZ, by rw [← hhC]; exact put_eq rfl, by omega, by omega⟩
 clear hhC
 generalize (R2.fix 2).1 = x at *
 generalize (R2.fix 2).2 = R3 at *
 have al2 := bs_one (h := hC) 35 (h2.nx + 1) (by omega) (by decide)
 have fD := fC.ext2 ((Ext.refl hC).push (.cells [.int .u8 (35 : Nat)] 5 false))
 refine callF_of (must_spec hS.toStdB fD.rd (by omega) al2 (fun o n m q => by injection q; have := fC.lt; omega)) okf ?_
 have l6 := mustF_len R3 [35]
 rintro _ h5 r5
 have f5 := fD.call r5
 generalize mustF R3 [35] = R4 at *
 obtain ⟨⟨v5, g5, hb5, ho5⟩, hlt5⟩ := f5.rd
 have a5 := hb5.len 5
 have gZ5 := f5.z
 have gO5 := f5.ob
 have lt5 := f5.lt
 by_cases he : R4.e = 0
 ·have he' := eq_true he
  unfold errG
  rw [if_pos he]
  by_cases h0 : R4.bs.length < 5
  ·rw [if_pos h0]
   refine ww1 (cj g5 <| cj he' <| cj h0 <| cj a5 n40) ?_
   refine ⟨.inr (by omega), draw_by [(4, 5)] (by kernel_rfl) ?_⟩
   have q : ¬ h.nx = h.nx + 1 := by omega
   have q' : ¬ h.nx + 1 = h.nx := by omega
   refine ww1 (cj g5 <| cj he' <| cj h0 <| cj a5 <| cj n40 <| cj gZ5 <| cj q q') ?_
   refine ⟨fun p hp => ?_, (f5.ext.put (by omega) _).put (Nat.le_refl _) _⟩
   rw [List.mem_singleton.1 hp]
   exact pair_one rfl rfl (wr_apart fun x hx => by rw [List.mem_singleton.1 hx]; show h.nx + 1 ≠ h.nx; omega)
  ·rw [if_neg h0]
   refine ww1 (cj g5 <| cj he' <| cj h0 <| cj a5 n40) ?_
   refine draw_by [(9, 13), (10, 13), (11, 13)] (by kernel_rfl) ?_
   refine ww1 (cj g5 <| cj he' <| cj h0 <| cj a5 n40) ?_
   refine take_bs (j := 5) hb5 ubs szb (by exact wv0) (by exact wv0) (by omega) fun w1 L1 hw1 _ hL1 => ?_
   obtain ⟨L2, hL2, hc2⟩ := hw1.str
   refine ww1 (cj g5 hc2) ?_
   refine drop_bs (i := 5) hb5 ubs szb (by exact wv0) (by exact wv0) (by omega) fun w3 L3 hw3 ho3 hL3 => ?_
   obtain ⟨L4, hL4, hc4⟩ := hw3.str
   refine ww1 (cj g5 <| cj hc4 gO5) ?_
   have ho : Off v5 h2.nx := ho5 _ (by omega)
   refine ⟨.inr (by omega), .inr (by omega), fun p hp => ?_, ?_⟩
   ·have blk : ∀ x ∈ L3, blkOf x ≠ h2.nx := fun x hx q => by
     obtain ⟨_, o, n, m, e⟩ := hL3 x hx
     rw [q] at e
     exact ho _ _ _ e
    have blk4 : ∀ x ∈ L4, blkOf x ≠ h2.nx := fun x hx q => by
     obtain ⟨_, o, n, m, e⟩ := hL4 x hx
     rw [q] at e
     exact ho3 _ ho _ _ _ e
    simp only [List.mem_cons, List.not_mem_nil, or_false] at hp
    rcases hp with rfl | rfl | rfl
    ·exact pair_one rfl rfl (wr_apart fun x hx => by rw [List.mem_singleton.1 hx]; show h.nx + 1 ≠ h2.nx; omega)
    ·exact pair_one rfl rfl (wr_apart blk)
    ·exact pair_one rfl rfl (wr_apart blk4)
   ·have e1 : ¬ h.nx = h2.nx := by omega
    refine ww1 (cj gZ5 e1) ?_
    exact ((f5.ext.put (by omega) _).put (by omega) _).put (Nat.le_refl _) _
 ·unfold errG
  rw [if_neg he]
  refine ww1 (cj g5 he) ?_
  refine draw_by [(4, 5)] (by kernel_rfl) ?_
  refine ww1 (cj g5 <| cj he gZ5) ?_
  refine ⟨fun p hp => ?_, f5.ext.put (Nat.le_refl _) _⟩
  rw [List.mem_singleton.1 hp]
  exact pair_one rfl rfl (wr_apart fun x hx => by rw [List.mem_singleton.1 hx]; show h.nx + 1 ≠ h.nx; omega)
end
end Go.Proofs.YtinbhlejofgomaaGreat
