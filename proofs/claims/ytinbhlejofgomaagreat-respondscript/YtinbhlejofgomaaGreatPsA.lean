/-
  Several texts of one walk, joined.
-/
import Derived.Test.YtinbhlejofgomaaGreatBsA
import Derived.Test.YtinbhlejofgomaaGreatHsB
set_option linter.unusedSimpArgs false
set_option linter.unusedVariables false
set_option linter.unusedSectionVars false
set_option linter.defProp false
set_option maxRecDepth 10000
set_option maxHeartbeats 1000000
namespace Go.Proofs.YtinbhlejofgomaaGreat
open Go.Proofs Go.Lx Go.Wx Go.IntWalk
noncomputable section
structure StdX (S : Set0) : Prop extends StdR S, StdF S where
 ownX : ∀ f, f ∈ [118, 86, 81, 76, 87, 117, 128, 115, 75, 74, 82, 83, 126, 124, 41, 42, 43, 44, 73, 89, 90, 131, 133, 134, 152, 159, 160, 163, 164, 165, 166, 130, 46, 48, 49, 50, 51, 52, 53, 77, 78, 79, 80, 84, 85, 88, 7, 9, 8, 11, 13, 16, 18, 20, 22, 25, 24, 21, 14, 23, 54] → sums S.exts f = none
structure GX (tt : TypeId) (z : List V) (h : H) (o : Nat) (R : Rd) (cs : List V) (h' : H) : Prop where
 rd : RdS 5 142 h.nx (h.nx + 1) R h'
 ext : Ext h h'
 z : h'.get h.nx = some (.cells z tt false)
 ob : h'.get o = some (.cells cs tt false)
 lt : h.nx + 1 < o ∧ o < h'.nx
theorem GX.call {tt : TypeId} {z : List V} {h : H} {o : Nat} {R R1 : Rd} {cs : List V} {h1 h2 : H} (a : GX tt z h o R cs h1) (b : RdR 142 h.nx (h.nx + 1) R1 h1 h2) : GX tt z h o R1 cs h2 := by
 have l1 := a.lt
 have n2 := b.2.1
 exact ⟨b.1, But.ext a.ext b.2 (by omega), by rw [b.2.2 _ (by omega) (by omega)]; exact a.z, by rw [b.2.2 _ (by omega) (by omega)]; exact a.ob, by omega, by omega⟩
theorem GX.put {tt : TypeId} {z : List V} {h : H} {o : Nat} {R : Rd} {cs : List V} {h1 : H} (a : GX tt z h o R cs h1) (cs' : List V) : GX tt z h o R cs' (h1.put o (.cells cs' tt false)) := by
 have l1 := a.lt
 exact ⟨a.rd.keep (Nat.le_refl _) (put_ne (by omega)) fun k hk => put_ne (by omega), a.ext.put (by omega) _, by rw [put_ne (by omega)]; exact a.z, put_eq rfl, l1⟩
theorem must_byt {R : Rd} (hb : ∀ x ∈ R.bs, x < 256) (c : Nat) : mustF R [c] = R.byt.2.bad (¬ R.byt.1 = c) := by
 have q := Rd.byt_fix hb
 unfold mustF
 rw [q.1, q.2, must_one _ _ (Rd.byt_in hb).1]
theorem byt_len (R : Rd) : R.byt.2.bs.length ≤ R.bs.length := by
 unfold Rd.byt
 split
 ·exact Nat.le_refl _
 ·split
  ·exact Nat.le_refl _
  ·show (R.bs.drop 1).length ≤ _
   rw [List.length_drop]; omega
theorem rd_wr1 {n k : Nat} : ∀ (p : Nat × Nat), p ∈ [(4, 5)] → ∀ (x y : Fp), [Fp.lg [], Fp.lg [], Fp.lg [], Fp.lg [], Fp.lg (ldL (some (1, false)) (V.ptr (k + 1) 1)), Fp.lg [LE.wr k 0 n], Fp.lg []][p.fst]? = some x → [Fp.lg [], Fp.lg [], Fp.lg [], Fp.lg [], Fp.lg (ldL (some (1, false)) (V.ptr (k + 1) 1)), Fp.lg [LE.wr k 0 n], Fp.lg []][p.snd]? = some y → fpApart x y := fun q hq => by
 rw [List.mem_singleton.1 hq]
 exact pair_one rfl rfl (apart_blk fun x hx y hy => by
  rw [List.mem_singleton.1 (show x ∈ [_] from hx), List.mem_singleton.1 (show y ∈ [_] from hy)]
  show ¬ k + 1 = k
  omega)
theorem zeros_must {R : Rd} (hb : ∀ x ∈ R.bs, x < 256) : (R.fix 1).2.bad (¬ ∀ i, i < 1 → byI (R.take 1) i = 0) = mustF R [0] := by
 rw [must_byt hb, (Rd.byt_fix hb).2]
 congr 1
 refine propext (not_congr ⟨fun q => by have := q 0 (by omega); rw [Rd.take_byt] at this; exact this, fun q i hi => ?_⟩)
 obtain rfl : i = 0 := by omega
 rw [Rd.take_byt]; exact q
variable {S : Set0} (hS : StdX S)
include hS
theorem fzeros_spec {n0 r : Nat} {R : Rd} {h : H} (a : RdS 5 142 n0 r R h) (hl : R.bs.length < 2 ^ 28) (n : Nat) (hn : n ≤ 1000) : callW S.cfg (· = r) 128 [.ptr r 0, .int .i64 n] h fun v h' => RdR 142 n0 r ((R.fix n).2.bad (¬ ∀ i, i < n → byI (R.take n) i = 0)) h h' := by
 refine into Tryz.f128 _ Tryz.func128 (hS.ownX _ (by decide)) rfl rfl (by kernel_rfl) (by kernel_rfl) ?_
 refine ww1 @Tryz.f128.eq_1 ?_
 refine callF_of (fbytes_spec hS.toStdF a hl n hn) (fun k hk => .inr hk) ?_
 rintro w h1 ⟨hw, hr⟩
 refine ww0 ?_
 refine run_loop (fun k env h' => ∃ i : Nat, k = n - i ∧ i ≤ n ∧ env 0 = .ptr r 0 ∧ env 1 = .int .i64 n ∧ env 4 = w ∧ env 5 = bo (¬ ∀ j, j < i → byI (R.take n) j = 0) ∧ env 6 = .int .i64 i ∧ h' = h1) n ⟨0, ?_⟩ ?_
 ·refine ww0 ?_
  exact ⟨rfl, bo_iff ⟨fun q => q.elim, fun q => q fun j hj => absurd hj (Nat.not_lt_zero j)⟩⟩
 rintro k env h' ⟨i, rfl, hi, e0, e1, e4, e5, e6, rfl⟩
 by_cases hin : i < n
 ·have h0 : i < (R.take n).length := by rw [Rd.take_len]; exact hin
  obtain ⟨b, o, m, rfl, _, _⟩ := hw.at (i := i) h0
  obtain ⟨_, hb, hrd⟩ := hw.rd
  have hr0 := hrd i h0
  rw [Rd.take_len] at e4
  by_cases hz : ∀ j, j < i → byI (R.take n) j = 0
  ·refine ww1 (cj e0 <| cj e1 <| cj e4 <| cj e5 <| cj e6 <| cj hin <| cj hr0 hz) ?_
   exact ⟨_, by omega, i + 1, rfl, by omega, by rw [Rd.take_len], bo_iff (not_congr ⟨fun q j hj => (Nat.lt_succ_iff_lt_or_eq.1 hj).elim (hz j) fun w => by rw [w]; exact q, fun q => q i (by omega)⟩), rfl⟩
  ·refine ww1 (cj e0 <| cj e1 <| cj e4 <| cj e5 <| cj e6 <| cj hin <| cj hr0 hz) ?_
   exact ⟨_, by omega, i + 1, rfl, by omega, by rw [Rd.take_len], bo_iff ⟨fun _ q => hz fun j hj => q j (by omega), fun _ => trivial⟩, rfl⟩
 ·obtain rfl : i = n := by omega
  refine ww1 (cj e0 <| cj e1 <| cj e4 <| cj e5 <| cj e6 hin) ?_
  refine callF_of (fwrong_spec hS.toStdF hr.1 _) (fun k hk => .inr hk) ?_
  rintro w1 h2 r2
  refine ww0 ?_
  exact hr.trans r2
theorem xfirst_spec {v : V} {l : List Nat} {h : H} (a : BS 5 h v l) (c : Int) : Exact S.cfg 76 [v, .int .u32 c] h (.int .i64 (@ite _ (l.length = 0) (Classical.propDecidable _) 0 (@ite _ (byI l 0 = 0) (Classical.propDecidable _) 1 (@ite _ (byI l 0 = 255) (Classical.propDecidable _) 2 (@ite _ (byI l 0 = 251 ∧ hasP c 128) (Classical.propDecidable _) 4 0))))) := by
 refine into Tryz.f76 _ Tryz.func76 (hS.ownX _ (by decide)) rfl rfl (by kernel_rfl) (by kernel_rfl) ?_
 have a1 := a.len 5
 by_cases h0 : l.length = 0
 ·rw [if_pos h0]
  exact wv1 (cj @Tryz.f76.eq_1 <| cj a1 h0)
 rw [if_neg h0]
 obtain ⟨b, o, m, rfl, _, _⟩ := a.at (i := 0) (by omega)
 obtain ⟨_, hb, hrd⟩ := a.rd
 have hr := hrd 0 (by omega)
 rw [Nat.add_zero] at hr
 have hl0 : 0 < l.length := by omega
 by_cases h1 : byI l 0 = 0
 ·rw [if_pos h1]
  have h1 := eq_true h1
  exact wv1 (cj @Tryz.f76.eq_1 <| cj a1 <| cj h0 <| cj hl0 <| cj hr h1)
 rw [if_neg h1]
 by_cases h2 : byI l 0 = 255
 ·rw [if_pos h2]
  have h2 := eq_true h2
  exact wv1 (cj @Tryz.f76.eq_1 <| cj a1 <| cj h0 <| cj hl0 <| cj hr <| cj h1 h2)
 rw [if_neg h2]
 refine ww1 (cj @Tryz.f76.eq_1 <| cj a1 <| cj h0 <| cj hl0 <| cj hr <| cj h1 h2) ?_
 refine gCall_exact (first := []) (cap := []) (fun _ => xhas_spec hS.toStdF c 128 _) fun fp => ?_
 by_cases h3 : byI l 0 = 251
 ·by_cases h4 : hasP c 128
  ·rw [if_pos ⟨h3, h4⟩]
   have h3 := eq_true h3
   exact wv1 (cj a1 <| cj h0 <| cj hl0 <| cj hr <| cj h1 <| cj h2 <| cj h3 h4)
  ·rw [if_neg (fun q => h4 q.2)]
   have h3 := eq_true h3
   exact wv1 (cj a1 <| cj h0 <| cj hl0 <| cj hr <| cj h1 <| cj h2 <| cj h3 h4)
 ·rw [if_neg (fun q => h3 q.1)]
  exact wv1 (cj a1 <| cj h0 <| cj hl0 <| cj hr <| cj h1 <| cj h2 h3)
theorem xlast_spec {v : V} {l : List Nat} {h : H} (a : BS 5 h v l) (c : Int) : Exact S.cfg 87 [v, .int .u32 c] h (.int .i64 (lastF l c)) := by
 refine into Tryz.f87 _ Tryz.func87 (hS.ownX _ (by decide)) rfl rfl (by kernel_rfl) (by kernel_rfl) ?_
 have a1 := a.len 5
 unfold lastF
 by_cases h0 : l.length = 0
 ·rw [if_pos h0]
  exact wv1 (cj @Tryz.f87.eq_1 <| cj a1 h0)
 rw [if_neg h0]
 obtain ⟨b, o, m, rfl, _, _⟩ := a.at (i := 0) (by omega)
 obtain ⟨_, hb, hrd⟩ := a.rd
 have hr := hrd 0 (by omega)
 rw [Nat.add_zero] at hr
 have hl0 : 0 < l.length := by omega
 by_cases h2 : byI l 0 = 255
 ·rw [if_pos h2]
  have h2 := eq_true h2
  exact wv1 (cj @Tryz.f87.eq_1 <| cj a1 <| cj h0 <| cj hl0 <| cj hr h2)
 rw [if_neg h2]
 by_cases h3 : byI l 0 = 254
 case neg =>
  rw [if_neg h3]
  exact wv1 (cj @Tryz.f87.eq_1 <| cj a1 <| cj h0 <| cj hl0 <| cj hr <| cj h2 h3)
 rw [if_pos h3]
 have h3' := eq_true h3
 refine ww1 (cj @Tryz.f87.eq_1 <| cj a1 <| cj h0 <| cj hl0 <| cj hr <| cj h2 h3') ?_
 refine callF_exact (xhas_spec hS.toStdF c 16777216 _) ?_
 by_cases h4 : hasP c 16777216
 ·rw [if_pos h4]
  by_cases h5 : l.length < 16777215
  ·rw [if_pos h5]
   have h5' : (l.length : Int) < 16777215 := by omega
   exact wv1 (cj a1 <| cj h4 <| cj h5 h5')
  ·rw [if_neg h5]
   have h5' : ¬ (l.length : Int) < 16777215 := by omega
   exact wv1 (cj a1 <| cj h4 <| cj h5 h5')
 ·rw [if_neg h4]
  by_cases h5 : l.length = 5
  ·rw [if_pos h5]
   exact wv1 (cj a1 <| cj h4 h5)
  ·rw [if_neg h5]
   have h5' : ¬ (l.length : Int) = 5 := by omega
   exact wv1 (cj a1 <| cj h4 <| cj h5 h5')
theorem xreadeof_spec {v : V} {l : List Nat} {h : H} (a : BS 5 h v l) (hl : l.length < 2 ^ 28) : Pure S.cfg 118 [v] h fun w _ => w = .tuple [.agg [.int .u16 (eofF l).1, .int .u16 (eofF l).2.1], .int .i64 (eofF l).2.2] := by
 refine into Tryz.f118 _ Tryz.func118 (hS.ownX _ (by decide)) rfl rfl (by kernel_rfl) (by kernel_rfl) ?_
 obtain ⟨c1, c2⟩ := a.cell
 refine ww1 (cj @Tryz.f118.eq_1 <| cj c1 c2) ?_
 generalize hhA : H.push (H.push h _) _ = hA
 have hxA : Ext h hA := by rw [← hhA]; exact ((Ext.refl h).push _).push _
 have hnA : hA.nx = h.nx + 2 := by rw [← hhA]; rfl
 have gR : hA.get (h.nx + 1) = some (.cells [v, .int .i64 0] 142 false) := by rw [← hhA]; exact push_eq rfl
 have gZ : hA.get h.nx = some (.cells [.int .u16 0, .int .u16 0] 49 false) := by rw [← hhA, push_ne (by simp only [push_nx]; omega)]; exact push_eq rfl
 clear hhA
 have a2 : RdS 5 142 h.nx (h.nx + 1) ⟨l, 0⟩ hA := ⟨⟨v, gR, a.ext hxA, fun k hk => a.off hk⟩, by omega, by omega⟩
 have okf : ∀ k, k = h.nx + 1 → fresh h.nx nil1 k := fun k hk => by rw [fresh_def]; exact .inl (by omega)
 refine callF_of (fbyte_spec hS.toStdF a2 (by show l.length < _; omega)) okf ?_
 rintro _ h0 ⟨rfl, r0⟩
 refine ww0 ?_
 refine callF_of (fwrong_spec hS.toStdF r0.1 (¬ (Rd.mk l 0).byt.1 = 254)) okf ?_
 rintro w1 h1 r1
 have r1 := r0.trans r1
 have hm := must_byt (R := ⟨l, 0⟩) a.1 254
 rw [← show mustF ⟨l, 0⟩ [254] = (Rd.mk l 0).byt.2.bad (¬ (Rd.mk l 0).byt.1 = 254) from hm] at r1
 have l2 : (mustF ⟨l, 0⟩ [254]).bs.length ≤ l.length := mustF_len _ _
 have hF : eofF l = eofG (mustF ⟨l, 0⟩ [254]) := rfl
 rw [hF]
 clear hF hm
 generalize mustF ⟨l, 0⟩ [254] = R2 at *
 refine ww0 ?_
 refine callF_of (ffixed_spec hS.toStdF r1.1 (by omega) 2 (by omega)) okf ?_
 have l3 := Rd.fix_len R2 2
 rintro _ h2 ⟨rfl, r2⟩
 have n1 := r1.2.1
 have n2 := r2.2.1
 have b2 : But (h.nx + 1) hA h2 := r1.2.trans r2.2
 refine ww0 ?_
 refine ⟨.inr (by omega), ?_⟩
 generalize hhC : H.put _ _ _ = hC
 have hxC : Ext h2 hC := by rw [← hhC]; exact Ext.new _ _ _
 have hnC : hC.nx = h2.nx + 1 := by rw [← hhC]; rfl
 have fC : GX 49 [.int .u16 0, .int .u16 0] h h2.nx (R2.fix 2).2 [.int .u16 (IntKind.u16.wrap (R2.fix 2).1), .int .u16 0] hC := ⟨r2.1.ext hxC, But.ext hxA (b2.trans (But.of_ext hxC)) (by omega), by rw [hxC.2 _ (by omega), b2.2 _ (by omega) (by omega)]; exact gZ, by rw [← hhC]; exact put_eq rfl, by omega, by omega⟩
 clear hhC
 refine callF_of (ffixed_spec hS.toStdF fC.rd (by omega) 2 (by omega)) okf ?_
 rintro _ h3 ⟨rfl, r3⟩
 have f3 := fC.call r3
 have g3 := f3.ob
 have n3 := f3.lt
 refine ww1 g3 ?_
 refine ⟨.inr (by omega), ?_⟩
 refine callF_of (fdone_spec hS.toStdF (f3.put _).rd) okf ?_
 rintro _ h4 ⟨rfl, r4⟩
 have f4 := (f3.put _).call r4
 have gZ4 := f4.z
 have gO4 := f4.ob
 have n4 := f4.lt
 obtain ⟨⟨v4, g4, _, _⟩, _⟩ := f4.rd
 unfold eofG
 by_cases he : (overF ((R2.fix 2).2.fix 2).2).e = 0
 ·have he' := eq_true he
  rw [if_pos he]
  refine ww1 (cj gZ4 <| cj gO4 he') ?_
  exact f4.ext.put (Nat.le_refl _) _
 ·rw [if_neg he]
  refine ww1 (cj gZ4 <| cj gO4 <| cj g4 he) ?_
  refine draw_by [(4, 5)] (by kernel_rfl) ?_
  refine ww1 (cj gZ4 <| cj gO4 <| cj g4 he) ?_
  exact ⟨rd_wr1, f4.ext.put (Nat.le_refl _) _⟩
theorem xreadprep_spec {v : V} {l : List Nat} {h : H} (a : BS 5 h v l) (hl : l.length < 2 ^ 28) : Pure S.cfg 86 [v] h fun w _ => w = .tuple [.agg [.int .u32 (prepF l).1, .int .u16 (prepF l).2.1, .int .u16 (prepF l).2.2.1, .int .u16 (prepF l).2.2.2.1], .int .i64 (prepF l).2.2.2.2] := by
 refine into Tryz.f86 _ Tryz.func86 (hS.ownX _ (by decide)) rfl rfl (by kernel_rfl) (by kernel_rfl) ?_
 obtain ⟨c1, c2⟩ := a.cell
 refine ww1 (cj @Tryz.f86.eq_1 <| cj c1 c2) ?_
 generalize hhA : H.push (H.push h _) _ = hA
 have hxA : Ext h hA := by rw [← hhA]; exact ((Ext.refl h).push _).push _
 have hnA : hA.nx = h.nx + 2 := by rw [← hhA]; rfl
 have gR : hA.get (h.nx + 1) = some (.cells [v, .int .i64 0] 142 false) := by rw [← hhA]; exact push_eq rfl
 have gZ : hA.get h.nx = some (.cells [.int .u32 0, .int .u16 0, .int .u16 0, .int .u16 0] 51 false) := by rw [← hhA, push_ne (by simp only [push_nx]; omega)]; exact push_eq rfl
 clear hhA
 have a2 : RdS 5 142 h.nx (h.nx + 1) ⟨l, 0⟩ hA := ⟨⟨v, gR, a.ext hxA, fun k hk => a.off hk⟩, by omega, by omega⟩
 have okf : ∀ k, k = h.nx + 1 → fresh h.nx nil1 k := fun k hk => by rw [fresh_def]; exact .inl (by omega)
 have z0 := zeros_must (R := ⟨l, 0⟩) a.1
 refine callF_of (fzeros_spec hS a2 (by show l.length < _; omega) 1 (by omega)) okf ?_
 rintro w1 h1 r1
 rw [z0] at r1
 have l2 : (mustF ⟨l, 0⟩ [0]).bs.length ≤ l.length := mustF_len _ _
 have hF : prepF l = prepG (mustF ⟨l, 0⟩ [0]) := rfl
 rw [hF]
 clear hF z0
 generalize mustF ⟨l, 0⟩ [0] = R2 at *
 unfold prepG
 refine ww0 ?_
 refine callF_of (ffixed_spec hS.toStdF r1.1 (by omega) 4 (by omega)) okf ?_
 have l3 := Rd.fix_len R2 4
 rintro _ h2 ⟨rfl, r2⟩
 have n1 := r1.2.1
 have n2 := r2.2.1
 have b2 : But (h.nx + 1) hA h2 := r1.2.trans r2.2
 refine ww0 ?_
 refine ⟨.inr (by omega), ?_⟩
 generalize hhC : H.put _ _ _ = hC
 have hxC : Ext h2 hC := by rw [← hhC]; exact Ext.new _ _ _
 have hnC : hC.nx = h2.nx + 1 := by rw [← hhC]; rfl
 have fC : GX 51 [.int .u32 0, .int .u16 0, .int .u16 0, .int .u16 0] h h2.nx (R2.fix 4).2 [.int .u32 (IntKind.u32.wrap (R2.fix 4).1), .int .u16 0, .int .u16 0, .int .u16 0] hC := ⟨r2.1.ext hxC, But.ext hxA (b2.trans (But.of_ext hxC)) (by omega), by rw [hxC.2 _ (by omega), b2.2 _ (by omega) (by omega)]; exact gZ, by rw [← hhC]; exact put_eq rfl, by omega, by omega⟩
 clear hhC
 have hn2 : h.nx + 1 < h2.nx := by omega
 generalize R2.fix 4 = F4 at *
 generalize h2.nx = o at *
 refine callF_of (ffixed_spec hS.toStdF fC.rd (by omega) 2 (by omega)) okf ?_
 have l4 := Rd.fix_len F4.2 2
 rintro _ h3 ⟨rfl, r3⟩
 have f3 := fC.call r3
 have g3 := f3.ob
 have n3 := f3.lt
 refine ww1 g3 ?_
 refine ⟨.inr (by omega), callF_of (ffixed_spec hS.toStdF (f3.put _).rd (by omega) 2 (by omega)) okf ?_⟩
 have l5 := Rd.fix_len (F4.2.fix 2).2 2
 rintro _ h4 ⟨rfl, r4⟩
 have f4 := (f3.put _).call r4
 have g4 := f4.ob
 have n4 := f4.lt
 refine ww1 g4 ?_
 refine ⟨.inr (by omega), ?_⟩
 have wy := u16_wrap_in (F4.2.fix 2).1
 have wz := u16_wrap_in ((F4.2.fix 2).2.fix 2).1
 have f5 := f4.put [.int .u32 (IntKind.u32.wrap F4.1), .int .u16 (IntKind.u16.wrap (F4.2.fix 2).1), .int .u16 (IntKind.u16.wrap ((F4.2.fix 2).2.fix 2).1), .int .u16 0]
 generalize F4.2.fix 2 = F5 at *
 generalize F5.2.fix 2 = F6 at *
 have z0 := zeros_must (R := F6.2) f5.rd.cell.choose_spec.2.1.1
 refine callF_of (fzeros_spec hS f5.rd (by omega) 1 (by omega)) okf ?_
 rintro w6 h6 r6
 rw [z0] at r6
 have l6 := mustF_len F6.2 [0]
 have f6 := f5.call r6
 have g6 := f6.ob
 have n6 := f6.lt
 generalize mustF F6.2 [0] = R7 at *
 refine ww1 g6 ?_
 refine callF_of (ffixed_spec hS.toStdF f6.rd (by omega) 2 (by omega)) okf ?_
 rintro _ h7 ⟨rfl, r7⟩
 have f7 := f6.call r7
 have g7 := f7.ob
 have n7 := f7.lt
 generalize R7.fix 2 = F7 at *
 refine ww1 g7 ?_
 refine ⟨.inr (by omega), ?_⟩
 refine callF_of (fdone_spec hS.toStdF (f7.put _).rd) okf ?_
 rintro _ h8 ⟨rfl, r8⟩
 have f8 := (f7.put _).call r8
 have gZ8 := f8.z
 have gO8 := f8.ob
 have n8 := f8.lt
 obtain ⟨⟨v8, g8, _, _⟩, _⟩ := f8.rd
 unfold prepH
 by_cases he : (overF F7.2).e = 0
 ·have he' := eq_true he
  rw [if_pos he]
  refine ww1 (cj gZ8 <| cj gO8 he') ?_
  exact f8.ext.put (Nat.le_refl _) _
 ·rw [if_neg he]
  refine ww1 (cj gZ8 <| cj gO8 <| cj g8 he) ?_
  refine draw_by [(4, 5)] (by kernel_rfl) ?_
  refine ww1 (cj gZ8 <| cj gO8 <| cj g8 he) ?_
  exact ⟨rd_wr1, f8.ext.put (Nat.le_refl _) _⟩
theorem xreaderr_spec {v : V} {l : List Nat} {h : H} (a : BS 5 h v l) (hl : l.length < 2 ^ 28) : Pure S.cfg 117 [v] h fun w _ => w = .tuple [.agg [.int .u16 (errF l).1, .str (errF l).2.1, .str (errF l).2.2.1], .int .i64 (errF l).2.2.2] := by
 refine into Tryz.f117 _ Tryz.func117 (hS.ownX _ (by decide)) rfl rfl (by kernel_rfl) (by kernel_rfl) ?_
 obtain ⟨c1, c2⟩ := a.cell
 refine ww1 (cj @Tryz.f117.eq_1 <| cj c1 c2) ?_
 generalize hhA : H.push (H.push h _) _ = hA
 have hxA : Ext h hA := by rw [← hhA]; exact ((Ext.refl h).push _).push _
 have hnA : hA.nx = h.nx + 2 := by rw [← hhA]; rfl
 have gR : hA.get (h.nx + 1) = some (.cells [v, .int .i64 0] 142 false) := by rw [← hhA]; exact push_eq rfl
 have gZ : hA.get h.nx = some (.cells [.int .u16 0, .str [], .str []] 47 false) := by rw [← hhA, push_ne (by simp only [push_nx]; omega)]; exact push_eq rfl
 clear hhA
 have a2 : RdS 5 142 h.nx (h.nx + 1) ⟨l, 0⟩ hA := ⟨⟨v, gR, a.ext hxA, fun k hk => a.off hk⟩, by omega, by omega⟩
 have okf : ∀ k, k = h.nx + 1 → fresh h.nx nil1 k := fun k hk => by rw [fresh_def]; exact .inl (by omega)
 refine callF_of (fbyte_spec hS.toStdF a2 (by show l.length < _; omega)) okf ?_
 rintro _ h0 ⟨rfl, r0⟩
 refine ww0 ?_
 refine callF_of (fwrong_spec hS.toStdF r0.1 (¬ (Rd.mk l 0).byt.1 = 255)) okf ?_
 rintro w1 h1 r1
 have r1 := r0.trans r1
 have hm := must_byt (R := ⟨l, 0⟩) a.1 255
 rw [← show mustF ⟨l, 0⟩ [255] = (Rd.mk l 0).byt.2.bad (¬ (Rd.mk l 0).byt.1 = 255) from hm] at r1
 have l2 : (mustF ⟨l, 0⟩ [255]).bs.length ≤ l.length := mustF_len _ _
 have hF : errF l = errG (mustF ((mustF ⟨l, 0⟩ [255]).fix 2).2 [35]) ((mustF ⟨l, 0⟩ [255]).fix 2).1 := rfl
 rw [hF]
 clear hF hm
 generalize mustF ⟨l, 0⟩ [255] = R2 at *
 refine ww0 ?_
 refine callF_of (ffixed_spec hS.toStdF r1.1 (by omega) 2 (by omega)) okf ?_
 have l3 := Rd.fix_len R2 2
 rintro _ h2 ⟨rfl, r2⟩
 have n1 := r1.2.1
 have n2 := r2.2.1
 have b2 : But (h.nx + 1) hA h2 := r1.2.trans r2.2
 refine ww0 ?_
 refine ⟨.inr (by omega), ?_⟩
 generalize hhC : H.put _ _ _ = hC
 have hxC : Ext h2 hC := by rw [← hhC]; exact Ext.new _ _ _
 have hnC : hC.nx = h2.nx + 1 := by rw [← hhC]; rfl
 have fC : GX 47 [.int .u16 0, .str [], .str []] h h2.nx (R2.fix 2).2 [.int .u16 (IntKind.u16.wrap (R2.fix 2).1), .str [], .str []] hC := ⟨r2.1.ext hxC, But.ext hxA (b2.trans (But.of_ext hxC)) (by omega), by rw [hxC.2 _ (by omega), b2.2 _ (by omega) (by omega)]; exact gZ, by rw [← hhC]; exact put_eq rfl, by omega, by omega⟩
 clear hhC
 have hn2 : h.nx + 1 < h2.nx := by omega
 generalize R2.fix 2 = F3 at *
 generalize h2.nx = o at *
 have hbF := fC.rd.cell.choose_spec.2.1.1
 have lb := byt_len F3.2
 refine callF_of (fbyte_spec hS.toStdF fC.rd (by omega)) okf ?_
 rintro _ h3 ⟨rfl, r3⟩
 have f3 := fC.call r3
 refine ww0 ?_
 refine callF_of (fwrong_spec hS.toStdF f3.rd (¬ F3.2.byt.1 = 35)) okf ?_
 rintro w4 h4 r4
 have hm := must_byt (R := F3.2) hbF 35
 rw [← show mustF F3.2 [35] = F3.2.byt.2.bad (¬ F3.2.byt.1 = 35) from hm] at r4
 have f4 := f3.call r4
 have l4 : (mustF F3.2 [35]).bs.length ≤ F3.2.bs.length := mustF_len _ _
 clear hm
 generalize mustF F3.2 [35] = R4 at *
 refine ww0 ?_
 refine callF_of (fbytes_spec hS.toStdF f4.rd (by omega) 5 (by omega)) okf ?_
 rintro w5 h5 ⟨hw5, r5⟩
 have f5 := f4.call r5
 have g5 := f5.ob
 have n5 := f5.lt
 have l5 := Rd.fix_len R4 5
 obtain ⟨L5, _, hc5⟩ := hw5.str
 refine ww1 (cj hc5 g5) ?_
 refine ⟨.inr (by omega), callF_of (frest_spec hS.toStdF (f5.put _).rd (by omega)) okf ?_⟩
 rintro w6 h6 ⟨hw6, r6⟩
 have f6 := (f5.put _).call r6
 have g6 := f6.ob
 have n6 := f6.lt
 obtain ⟨L6, _, hc6⟩ := hw6.str
 refine ww1 (cj hc6 g6) ?_
 refine ⟨.inr (by omega), ?_⟩
 have f7 := f6.put [.int .u16 (IntKind.u16.wrap F3.1), .str (R4.take 5), .str (if (R4.fix 5).2.e ≠ 0 then [] else (R4.fix 5).2.bs)]
 have gZ8 := f6.z
 have n8 := f7.lt
 obtain ⟨⟨v8, g8, _, _⟩, _⟩ := f6.rd
 have hE : (if (R4.fix 5).2.e ≠ 0 then (R4.fix 5).2 else ⟨[], (R4.fix 5).2.e⟩ : Rd).e = (R4.fix 5).2.e := by split <;> rfl
 rw [hE] at g8
 by_cases he : (R4.fix 5).2.e = 0
 ·have he' := eq_true he
  have q := he
  rw [Rd.fix_e] at q
  have e1 : R4.fix 5 = (rdX R4.bs 5, ⟨R4.bs.drop 5, 0⟩) := by unfold Rd.fix; rw [if_neg (fun w => w q.1), if_neg (by omega)]
  have e2 : errG R4 F3.1 = (IntKind.u16.wrap F3.1, R4.bs.take 5, R4.bs.drop 5, 0) := by unfold errG; rw [if_pos q.1, if_neg (by omega)]
  have e3 : R4.take 5 = R4.bs.take 5 := by unfold Rd.take; rw [e1]; rfl
  rw [e2]
  have e4 : (if (R4.fix 5).2.e ≠ 0 then [] else (R4.fix 5).2.bs) = R4.bs.drop 5 := by rw [if_neg (fun w => w he), e1]
  refine ww1 (cj g8 <| cj gZ8 he') ?_
  exact ⟨f7.ext.put (Nat.le_refl _) _, by rw [e3, e4]⟩
 ·have e2 : errG R4 F3.1 = (0, [], [], (R4.fix 5).2.e) := by
   by_cases h0 : R4.e = 0
   ·have h5 : R4.bs.length < 5 := Classical.byContradiction fun w => he (by rw [Rd.fix_e]; exact ⟨h0, by omega⟩)
    unfold errG Rd.fix
    rw [if_pos h0, if_neg (show ¬ R4.e ≠ 0 from fun w => w h0), if_pos h5, if_pos h5]
   ·unfold errG Rd.fix
    rw [if_neg h0, if_pos h0]
  rw [e2]
  refine ww1 (cj gZ8 <| cj g8 he) ?_
  refine draw_by [(4, 5)] (by kernel_rfl) ?_
  refine ww1 (cj gZ8 <| cj g8 he) ?_
  exact ⟨rd_wr1, f7.ext.put (Nat.le_refl _) _⟩
theorem xreadfile_spec {v : V} {l : List Nat} {h : H} (a : BS 5 h v l) (hl : l.length < 2 ^ 28) : Pure S.cfg 81 [v] h fun w _ => ∃ t, w = .tuple [.str t, .int .i64 (fileE l)] := by
 refine into Tryz.f81 _ Tryz.func81 (hS.ownX _ (by decide)) rfl rfl (by kernel_rfl) (by kernel_rfl) ?_
 obtain ⟨c1, c2⟩ := a.cell
 refine ww1 (cj @Tryz.f81.eq_1 <| cj c1 c2) ?_
 generalize hhA : H.push h _ = hA
 have hxA : Ext h hA := by rw [← hhA]; exact (Ext.refl h).push _
 have hnA : hA.nx = h.nx + 1 := by rw [← hhA]; rfl
 have gR : hA.get h.nx = some (.cells [v, .int .i64 0] 142 false) := by rw [← hhA]; exact push_eq rfl
 clear hhA
 have a2 : RdS 5 142 h.nx h.nx ⟨l, 0⟩ hA := ⟨⟨v, gR, a.ext hxA, fun k hk => a.off hk⟩, by omega, by omega⟩
 have okf : ∀ k, k = h.nx → fresh h.nx nil1 k := fun k hk => by rw [fresh_def]; exact .inl (by omega)
 refine callF_of (fbyte_spec hS.toStdF a2 (by show l.length < _; omega)) okf ?_
 rintro _ h0 ⟨rfl, r0⟩
 refine ww0 ?_
 refine callF_of (fwrong_spec hS.toStdF r0.1 (¬ (Rd.mk l 0).byt.1 = 251)) okf ?_
 rintro w1 h1 r1
 have r1 := r0.trans r1
 have hm := must_byt (R := ⟨l, 0⟩) a.1 251
 rw [← show mustF ⟨l, 0⟩ [251] = (Rd.mk l 0).byt.2.bad (¬ (Rd.mk l 0).byt.1 = 251) from hm] at r1
 have l2 : (mustF ⟨l, 0⟩ [251]).bs.length ≤ l.length := mustF_len _ _
 unfold fileE
 clear hm
 generalize mustF ⟨l, 0⟩ [251] = R2 at *
 refine ww0 ?_
 refine callF_of (frest_spec hS.toStdF r1.1 (by omega)) okf ?_
 rintro w2 h2 ⟨hw2, r2⟩
 obtain ⟨L2, _, hc2⟩ := hw2.str
 obtain ⟨⟨v2, g2, hb2, ho2⟩, hlt2⟩ := r2.1
 have hx2 : Ext h h2 := But.ext hxA (r1.2.trans r2.2) (by omega)
 by_cases he : R2.e = 0
 ·have hn : ¬ R2.e ≠ 0 := fun w => w he
  rw [if_pos he]
  rw [if_neg hn] at g2 hc2
  have he' := eq_true he
  by_cases h0 : R2.bs.length = 0
  ·simp only [if_pos h0]
   have h0' : R2.bs = [] := List.length_eq_zero_iff.1 h0
   rw [h0'] at hc2
   simp +contextual (disch := first | exact de | fail) only [draw_calm, draw_calmA, wpy, fW, Int.reduceLE, Int.reduceLT, Nat.reduceLeDiff, UInt8.reduceToNat, ↓reduceIte, Nat.reduceEqDiff, Nat.reduceAdd, reduceCtorEq, Int.reduceToNat, hc2, g2, he', h0']
   exact ⟨hx2.put (Nat.le_refl _) _, _, rfl⟩
  ·simp only [if_neg h0]
   have h0' : ¬ R2.bs = [] := fun q => h0 (by rw [q]; rfl)
   simp +contextual (disch := first | exact de | fail) only [draw_calm, draw_calmA, wpy, fW, Int.reduceLE, Int.reduceLT, Nat.reduceLeDiff, UInt8.reduceToNat, ↓reduceIte, Nat.reduceEqDiff, Nat.reduceAdd, reduceCtorEq, Int.reduceToNat, hc2, g2, he', h0']
   exact ⟨hx2, _, by rw [he]⟩
 ·rw [if_neg he]
  rw [if_pos he] at g2 hc2
  simp +contextual (disch := first | exact de | fail) only [draw_calm, draw_calmA, wpy, fW, Int.reduceLE, Int.reduceLT, Nat.reduceLeDiff, UInt8.reduceToNat, ↓reduceIte, Nat.reduceEqDiff, Nat.reduceAdd, reduceCtorEq, Int.reduceToNat, hc2, g2, he]
  exact ⟨hx2, _, rfl⟩
end
noncomputable section
theorem c14 : ((14 : Nat) : Int) = 14 := rfl
theorem c11 : ((11 : Nat) : Int) = 11 := rfl
variable {S : Set0} (hS : StdX S)
include hS
theorem xshape_spec (t : Int) (h : H) : Pure S.cfg 74 [.int .u8 t] h fun v _ => v = .int .i64 (shapeF t) := by
 refine into Tryz.f74 _ Tryz.func74 (hS.ownX _ (by decide)) rfl rfl (by kernel_rfl) (by kernel_rfl) ?_
 by_cases e : t = 1 ∨ t = 9 ∨ t = 14 ∨ t = 31 ∨ t = 2 ∨ t = 3 ∨ t = 22 ∨ t = 12 ∨ t = 23 ∨ t = 24 ∨ t = 25 ∨ t = 26 ∨ t = 27 ∨ t = 28
 ·rcases e with e | e | e | e | e | e | e | e | e | e | e | e | e | e
  all_goals
   subst e
   refine wew1 @Tryz.f74.eq_1 ?_
   exact ⟨Ext.refl _, rfl⟩
 ·simp only [not_or] at e
  obtain ⟨e1, e9, e14, e31, e2, e3, e22, e12, e23, e24, e25, e26, e27, e28⟩ := e
  refine ww1 (cj @Tryz.f74.eq_1 <| cj e1 <| cj e9 <| cj e14 <| cj e31 <| cj e2 <| cj e3 <| cj e22 <| cj e12 <| cj e23 <| cj e24 <| cj e25 <| cj e26 <| cj e27 e28) ?_
  exact ⟨Ext.refl _, by unfold shapeF; simp only [e1, e9, e14, e31, e2, e3, e22, e12, e23, e24, e25, e26, e27, e28, or_self, if_false]⟩
theorem xanswer_spec (t : Int) (h : H) : Pure S.cfg 43 [.int .u8 t] h fun v _ => v = .int .i64 (answerF t) := by
 refine into Tryz.f43 _ Tryz.func43 (hS.ownX _ (by decide)) rfl rfl (by kernel_rfl) (by kernel_rfl) ?_
 by_cases e : t = 1 ∨ t = 24 ∨ t = 25 ∨ t = 2 ∨ t = 14 ∨ t = 26 ∨ t = 31 ∨ t = 12 ∨ t = 27 ∨ t = 9 ∨ t = 3 ∨ t = 23 ∨ t = 22 ∨ t = 28 ∨ t = 17
 ·rcases e with e | e | e | e | e | e | e | e | e | e | e | e | e | e | e
  all_goals
   subst e
   refine wew1 @Tryz.f43.eq_1 ?_
   exact ⟨Ext.refl _, rfl⟩
 ·simp only [not_or] at e
  obtain ⟨e1, e24, e25, e2, e14, e26, e31, e12, e27, e9, e3, e23, e22, e28, e17⟩ := e
  refine ww1 (cj @Tryz.f43.eq_1 <| cj e1 <| cj e24 <| cj e25 <| cj e2 <| cj e14 <| cj e26 <| cj e31 <| cj e12 <| cj e27 <| cj e9 <| cj e3 <| cj e23 <| cj e22 <| cj e28 e17) ?_
  exact ⟨Ext.refl _, by unfold answerF; simp only [e1, e24, e25, e2, e14, e26, e31, e12, e27, e9, e3, e23, e22, e28, e17, or_self, if_false]⟩
theorem xneeded_spec (h : H) : Exact S.cfg 73 [] h (.int .u32 565760) := by
 refine into Tryz.f73 _ Tryz.func73 (hS.ownX _ (by decide)) rfl rfl (by kernel_rfl) (by kernel_rfl) ?_
 exact wv1 @Tryz.f73.eq_1
theorem xcaps_spec (c : Int) (h : H) : Exact S.cfg 41 [.int .u32 c] h (.int .i64 (@ite _ (iAnd .u32 c 565760 = 565760) (Classical.propDecidable _) 0 5)) := by
 refine into Tryz.f41 _ Tryz.func41 (hS.ownX _ (by decide)) rfl rfl (by kernel_rfl) (by kernel_rfl) ?_
 refine ww1 @Tryz.f41.eq_1 ?_
 refine callF_exact (xneeded_spec hS _) ?_
 refine ww0 ?_
 refine callF_exact (xneeded_spec hS _) ?_
 by_cases e : iAnd .u32 c 565760 = 565760
 ·have e' := eq_true e
  rw [if_pos e]
  exact wv1 e'
 ·rw [if_neg e]
  exact wv1 e
theorem name_spec (t : Int) (ht : 0 ≤ t ∧ t < 256) (h : H) : Pure S.cfg 115 [.int .u8 t] h fun v _ => ∃ s, v = .str s ∧ (s = [] ↔ ¬ knownP t) := by
 refine into Tryz.f115 _ Tryz.func115 (hS.ownX _ (by decide)) rfl rfl (by kernel_rfl) (by kernel_rfl) ?_
 have w : IntKind.i64.wrap t = t := i64_in _ (by omega)
 have w2 : 245 ≤ t → IntKind.u8.wrap (t - 245) = t - 245 := fun q => by rw [IntKind.wrap_u8]; omega
 by_cases e : t ≤ 13
 ·obtain e | e | e | e | e | e | e | e | e | e | e | e | e | e : t = 0 ∨ t = 1 ∨ t = 2 ∨ t = 3 ∨ t = 4 ∨ t = 5 ∨ t = 6 ∨ t = 7 ∨ t = 8 ∨ t = 9 ∨ t = 10 ∨ t = 11 ∨ t = 12 ∨ t = 13 := by omega
  all_goals
   subst e
   simp +contextual (disch := first | exact dd | fail) only [wpy, fW, Int.reduceLE, Int.reduceLT, Nat.reduceLeDiff, UInt8.reduceToNat, ↓reduceIte, Nat.reduceEqDiff, Nat.reduceAdd, reduceCtorEq, Int.reduceToNat, Tryz.f115, w, c14, c11, Nat.reduceLT, Int.reduceLT, Int.reduceEq]
   refine ⟨(Ext.refl _).push _, _, rfl, ?_⟩
   decide
 have e' : ¬ t < 14 := by omega
 have e3 : ¬ t.toNat < 14 := by omega
 by_cases e15 : t = 15
 ·subst e15
  simp +contextual (disch := first | exact dd | fail) only [wpy, fW, Int.reduceLE, Int.reduceLT, Nat.reduceLeDiff, UInt8.reduceToNat, ↓reduceIte, Nat.reduceEqDiff, Nat.reduceAdd, reduceCtorEq, Int.reduceToNat, Tryz.f115, w, c14, c11, Nat.reduceLT, Int.reduceLT, Int.reduceEq]
  exact ⟨(Ext.refl _).push _, _, rfl, by decide⟩
 by_cases e16 : t = 16
 ·subst e16
  simp +contextual (disch := first | exact dd | fail) only [wpy, fW, Int.reduceLE, Int.reduceLT, Nat.reduceLeDiff, UInt8.reduceToNat, ↓reduceIte, Nat.reduceEqDiff, Nat.reduceAdd, reduceCtorEq, Int.reduceToNat, Tryz.f115, w, c14, c11, Nat.reduceLT, Int.reduceLT, Int.reduceEq]
  exact ⟨(Ext.refl _).push _, _, rfl, by decide⟩
 by_cases e2 : 245 ≤ t
 ·obtain e | e | e | e | e | e | e | e | e | e | e : t = 245 ∨ t = 246 ∨ t = 247 ∨ t = 248 ∨ t = 249 ∨ t = 250 ∨ t = 251 ∨ t = 252 ∨ t = 253 ∨ t = 254 ∨ t = 255 := by omega
  all_goals
   subst e
   have w3 := w2 (by decide)
   simp only [Int.reduceSub] at w3
   simp +contextual (disch := first | exact dd | fail) only [wpy, fW, Int.reduceLE, Int.reduceLT, Nat.reduceLeDiff, UInt8.reduceToNat, ↓reduceIte, Nat.reduceEqDiff, Nat.reduceAdd, reduceCtorEq, Int.reduceToNat, Tryz.f115, w, c14, c11, Nat.reduceLT, Int.reduceLT, Int.reduceSub, w3, Int.reduceEq]
   exact ⟨((Ext.refl _).push _).push _, _, rfl, by decide⟩
 ·refine ww1 (cj @Tryz.f115.eq_1 <| cj w <| cj e' <| cj e3 <| cj e15 <| cj e16 <| cj e2 <| cj c14 c11) ?_
  refine ⟨((Ext.refl _).push _).push _, [], rfl, ?_⟩
  exact ⟨fun _ q => by rcases q with q | q | q | q <;> omega, fun _ => rfl⟩
theorem xknown_spec (t : Int) (ht : 0 ≤ t ∧ t < 256) (h : H) : Pure S.cfg 75 [.int .u8 t] h fun v _ => v = bo (knownP t) := by
 refine into Tryz.f75 _ Tryz.func75 (hS.ownX _ (by decide)) rfl rfl (by kernel_rfl) (by kernel_rfl) ?_
 refine ww1 @Tryz.f75.eq_1 ?_
 refine callF_pure (name_spec hS t ht _) ?_
 rintro _ h1 hx ⟨s, rfl, hs⟩
 refine ww0 ?_
 exact ⟨hx, bo_iff ⟨fun q => Classical.byContradiction fun w => q (hs.2 w), fun q w => hs.1 w q⟩⟩
theorem xsize_spec (x : Int) (h : H) : Exact S.cfg 124 [.int .u64 x] h (.int .i64 (sizeI x)) := by
 refine into Tryz.f124 _ Tryz.func124 (hS.ownX _ (by decide)) rfl rfl (by kernel_rfl) (by kernel_rfl) ?_
 unfold sizeI
 by_cases h1 : x ≤ 250
 ·rw [if_pos h1]
  exact wv1 (cj @Tryz.f124.eq_1 h1)
 rw [if_neg h1]
 by_cases h2 : x < 65536
 ·rw [if_pos h2]
  exact wv1 (cj @Tryz.f124.eq_1 <| cj h1 h2)
 rw [if_neg h2]
 by_cases h3 : x < 16777216
 ·rw [if_pos h3]
  exact wv1 (cj @Tryz.f124.eq_1 <| cj h1 <| cj h2 h3)
 ·rw [if_neg h3]
  exact wv1 (cj @Tryz.f124.eq_1 <| cj h1 <| cj h2 h3)
theorem xcount_spec {v : V} {l : List Nat} {h : H} (a : BS 5 h v l) (hl : l.length < 2 ^ 28) : Pure S.cfg 82 [v] h fun w _ => w = .tuple [.int .i64 (countF l).1, .int .i64 (countF l).2] := by
 refine into Tryz.f82 _ Tryz.func82 (hS.ownX _ (by decide)) rfl rfl (by kernel_rfl) (by kernel_rfl) ?_
 have a1 := a.len 5
 have er : ∀ r, (iiF l).2.2 = 0 → r = (if ¬ (iiF l).1 < 1 ∧ ¬ 4096 < (iiF l).1 ∧ ((iiF l).2.1 : Int) = sizeI (iiF l).1 ∧ (iiF l).2.1 = l.length then ((iiF l).1, (0 : Int)) else (0, 5)) → countF l = r := fun r h0 q => by unfold countF; rw [if_pos h0, q]
 have e0 : (iiF l).2.2 ≠ 0 → countF l = (0, (iiF l).2.2) := fun q => if_neg q
 refine ww1 @Tryz.f82.eq_1 ?_
 refine callF_exact (xrin_spec hS.toStdF a (by omega)) ?_
 by_cases h0 : (iiF l).2.2 = 0
 ·have h0' := eq_true h0
  refine ww1 h0' ?_
  by_cases h1 : (iiF l).1 < 1
  ·rw [er (0, 5) h0 (by rw [if_neg (fun q => q.1 h1)])]
   refine ww1 h1 ?_
   exact Ext.refl _
  by_cases h2 : 4096 < (iiF l).1
  ·rw [er (0, 5) h0 (by rw [if_neg (fun q => q.2.1 h2)])]
   refine ww1 (cj h1 h2) ?_
   exact Ext.refl _
  refine ww1 (cj h1 h2) ?_
  refine callF_exact (xsize_spec hS _ _) ?_
  have hw : IntKind.i64.wrap (iiF l).1 = (iiF l).1 := i64_in _ (by omega)
  by_cases hq : ((iiF l).2.1 : Int) = sizeI (iiF l).1
  ·by_cases hr : (iiF l).2.1 = l.length
   ·rw [er ((iiF l).1, 0) h0 (by rw [if_pos ⟨h1, h2, hq, hr⟩])]
    have hr' : ((iiF l).2.1 : Int) = l.length := by omega
    have hq2 : sizeI (iiF l).1 = (l.length : Int) := by omega
    refine ww1 (cj h1 <| cj h2 <| cj a1 <| cj hw <| cj hr <| cj hr' hq2) ?_
    exact Ext.refl _
   ·rw [er (0, 5) h0 (by rw [if_neg (fun q => hr q.2.2.2)])]
    have hr' : ¬ ((iiF l).2.1 : Int) = l.length := by omega
    have hq2 := hq.symm
    refine ww1 (cj h1 <| cj h2 <| cj a1 <| cj hw <| cj hq2 <| cj hr hr') ?_
    exact Ext.refl _
  ·rw [er (0, 5) h0 (by rw [if_neg (fun q => hq q.2.2.1)])]
   refine ww1 (cj h1 <| cj h2 <| cj a1 <| cj hw hq) ?_
   exact Ext.refl _
 ·rw [e0 h0]
  refine ww1 h0 ?_
  exact Ext.refl _
end
noncomputable section
def colOk (x : CO) : Prop := knownP x.t ∧ x.s0.length ≤ 255 ∧ x.s1.length ≤ 255 ∧ x.s2.length ≤ 255 ∧ x.s3.length ≤ 255 ∧ x.s4.length ≤ 255
def cellT (x : CO) (i : Nat) : List Nat := match i with
 | 0 => x.s0
 | 1 => x.s1
 | 2 => x.s2
 | 3 => x.s3
 | _ => x.s4
variable {S : Set0} (hS : StdX S)
include hS
theorem xcheck_spec {X : RX} {d : List Nat} {h : H} (b : BS 5 h X.x7 d) (k fl : Int) : Pure S.cfg 42 [.agg (cmdC X k fl)] h fun v _ => v = .int .i64 (@ite _ (cmdOk X k fl d.length) (Classical.propDecidable _) 0 2) := by
 refine into Tryz.f42 _ Tryz.func42 (hS.ownX _ (by decide)) rfl rfl (by kernel_rfl) (by kernel_rfl) ?_
 have hX := b.cell
 have x1 := hX.1
 have x2 := hX.2
 have l1 := b.len 5
 unfold cmdC
 refine ww1 (cj @Tryz.f42.eq_1 <| cj x1 x2) ?_
 refine callF_pure (xshape_spec hS k _) ?_
 rintro _ h1 hx1 rfl
 have g0 : h1.get h.nx = some (.cells [.int .u8 k, .str X.x1, .int .u32 X.x2, .int .u16 X.x3, .int .u8 fl, .int .u32 X.x5, .int .u16 X.x6, X.x7] 27 false) := by rw [hx1.2 _ (by simp only [push_nx]; omega)]; exact push_eq rfl
 have hx : Ext h h1 := ((Ext.refl h).push _).trans hx1
 rcases shape_in k with e | e | e | e | e | e | e | e | e
 all_goals
  refine wew1 (cj e <| cj g0 <| cj x1 <| cj x2 l1) ?_
  refine ⟨fun w => ⟨hx, ?_⟩, fun w => ⟨fun w2 => ⟨hx, ?_⟩, fun w2 => ⟨hx, ?_⟩⟩⟩
  ·rw [if_neg]
   intro u
   unfold cmdOk at u
   rw [e] at u
   grind
  ·rw [if_neg]
   intro u
   unfold cmdOk at u
   rw [e] at u
   grind
  ·rw [if_pos]
   unfold cmdOk
   rw [e]
   grind
theorem pcolck_spec (x : CO) (ht : x.Ok) (h : H) : Pure S.cfg 31 [.agg x.cells] h fun v _ => v = .int .i64 (@ite _ (colOk x) (Classical.propDecidable _) 0 2) := by
 refine into Tryz.f31 _ Tryz.func31 (hS.ownR _ (by decide)) rfl rfl (by kernel_rfl) (by kernel_rfl) ?_
 unfold CO.cells
 refine ww1 @Tryz.f31.eq_1 ?_
 refine run_loop (fun k env h' => ∃ i : Nat, k = 5 - i ∧ i ≤ 5 ∧ env 1 = .ptr h.nx 0 ∧ env 15 = .slice (h.nx + 1) 0 5 5 ∧ env 16 = .int .i64 5 ∧ env 17 = .int .i64 i ∧ h' = (h.push (.cells x.cells 67 false)).push (.cells [.str x.s0, .str x.s1, .str x.s2, .str x.s3, .str x.s4] 9 false) ∧ ∀ j, j < i → (cellT x j).length ≤ 255) 5 ⟨0, ?_⟩ ?_
 ·refine ww0 ?_
  exact ⟨rfl, fun j hj => absurd hj (Nat.not_lt_zero j)⟩
 rintro k env h' ⟨i, rfl, hi, e1, e15, e16, e17, rfl, hj⟩
 by_cases hin : i < 5
 ·obtain e | e | e | e | e : i = 0 ∨ i = 1 ∨ i = 2 ∨ i = 3 ∨ i = 4 := by omega
  all_goals
   subst e
   simp +contextual (disch := first | exact dd | fail) only [wpy, fW, Int.reduceLE, Int.reduceLT, Nat.reduceLeDiff, UInt8.reduceToNat, ↓reduceIte, Nat.reduceEqDiff, Nat.reduceAdd, reduceCtorEq, Int.reduceToNat, e1, e15, e16, e17, CO.cells, Nat.reduceLT]
   refine ⟨fun w => ⟨((Ext.refl h).push _).push _, ?_⟩, fun w => ⟨_, ?_, _, rfl, ?_, rfl, fun j hj2 => (Nat.lt_succ_iff_lt_or_eq.1 hj2).elim (hj j) fun q => by subst q; exact Nat.le_of_not_lt w⟩⟩
   ·rw [if_neg (fun u => by obtain ⟨_, _, _, _, _, _⟩ := u; omega)]
   ·decide
   ·decide
 ·obtain rfl : i = 5 := by omega
  simp +contextual (disch := first | exact dd | fail) only [wpy, fW, Int.reduceLE, Int.reduceLT, Nat.reduceLeDiff, UInt8.reduceToNat, ↓reduceIte, Nat.reduceEqDiff, Nat.reduceAdd, reduceCtorEq, Int.reduceToNat, e1, e15, e16, e17, CO.cells, Nat.reduceLT]
  refine callF_pure (known_spec hS.toStdR _ ht _) ?_
  rintro _ h1 hx1 rfl
  have hx : Ext h h1 := (((Ext.refl h).push _).push _).trans hx1
  have q0 : x.s0.length ≤ 255 := hj 0 (by decide)
  have q1 : x.s1.length ≤ 255 := hj 1 (by decide)
  have q2 : x.s2.length ≤ 255 := hj 2 (by decide)
  have q3 : x.s3.length ≤ 255 := hj 3 (by decide)
  have q4 : x.s4.length ≤ 255 := hj 4 (by decide)
  simp +contextual (disch := first | exact dd | fail) only [wpy, fW, Int.reduceLE, Int.reduceLT, Nat.reduceLeDiff, UInt8.reduceToNat, ↓reduceIte, Nat.reduceEqDiff, Nat.reduceAdd, reduceCtorEq, Int.reduceToNat, e1, e15, e16, e17, CO.cells, Nat.reduceLT]
  refine ⟨fun w => ⟨hx, ?_⟩, fun w => ⟨hx, ?_⟩⟩
  ·rw [if_neg (fun u => w u.1)]
  ·rw [if_pos ⟨Classical.not_not.1 w, q0, q1, q2, q3, q4⟩]
theorem xcolck_spec (x : CO) (ht : x.Ok) (h : H) : Pure S.cfg 44 [.agg x.cells] h fun v _ => v = .int .i64 (@ite _ (colOk x) (Classical.propDecidable _) 0 2) := by
 refine into Tryz.f44 _ Tryz.func44 (hS.ownX _ (by decide)) rfl rfl (by kernel_rfl) (by kernel_rfl) ?_
 unfold CO.cells
 refine ww1 @Tryz.f44.eq_1 ?_
 refine callF_pure (xknown_spec hS _ ht _) ?_
 rintro _ h1 hx1 rfl
 have g0 : h1.get h.nx = some (.cells x.cells 67 false) := by rw [hx1.2 _ (by simp only [push_nx]; omega)]; exact push_eq rfl
 have hx : Ext h h1 := ((Ext.refl h).push _).trans hx1
 unfold CO.cells at g0
 refine ww1 g0 ?_
 refine ⟨fun w => ⟨hx, ?_⟩, fun w => ⟨hx, ?_⟩⟩
 ·rw [if_neg]
  intro u
  obtain ⟨u0, u1, u2, u3, u4, u5⟩ := u
  rcases w with ((((w | w) | w) | w) | w) | w
  ·exact w u0
  all_goals omega
 ·rw [if_pos]
  exact ⟨Classical.byContradiction fun n => w (.inl (.inl (.inl (.inl (.inl n))))), Nat.le_of_not_lt fun n => w (.inl (.inl (.inl (.inl (.inr n))))), Nat.le_of_not_lt fun n => w (.inl (.inl (.inl (.inr n)))), Nat.le_of_not_lt fun n => w (.inl (.inl (.inr n))), Nat.le_of_not_lt fun n => w (.inl (.inr n)), Nat.le_of_not_lt fun n => w (.inr n)⟩
end
noncomputable section
def tb (R : Rd) : Rd := R.txt.2.bad (255 < R.txt.1.length)
theorem tb_len (R : Rd) : (tb R).bs.length ≤ R.bs.length := by
 unfold tb
 rw [Rd.bad_bs]
 exact Rd.txt_len R
def xS (R : Rd) : Nat → CO × Rd
 | 0 => (CO.zero, R)
 | i + 1 => ((xS R i).1.set i (xS R i).2.txt.1, tb (xS R i).2)
def Sm (a b : Rd) : Prop := a.e = b.e ∧ (a.e = 0 → a = b)
theorem bad_e {R : Rd} {p : Prop} (h : R.e ≠ 0) : R.bad p = R := Rd.bad_no fun q => h q.1
theorem bad0 {R : Rd} {p : Prop} (h : (R.bad p).e = 0) : R.e = 0 ∧ ¬ p := by
 by_cases q : R.e = 0 ∧ p
 ·rw [Rd.bad_yes q] at h; cases h
 ·rw [Rd.bad_no q] at h; exact ⟨h, fun w => q ⟨h, w⟩⟩
theorem Sm.tb {a b : Rd} (h : Sm a b) : Sm (tb a) (txc b).2 ∧ ((tb a).e = 0 → a.txt.1 = (txc b).1) := by
 by_cases he : a.e = 0
 ·obtain rfl := h.2 he
  unfold YtinbhlejofgomaaGreat.tb txc Rd.txt
  rw [if_pos he, if_neg (fun q => q he)]
  by_cases h1 : (txF a.bs).2.2 = 0
  ·rw [if_pos h1]
   by_cases h2 : 255 < (txF a.bs).1.length
   ·rw [if_pos h2, Rd.bad_yes ⟨h1, h2⟩]
    exact ⟨⟨rfl, fun q => by cases q⟩, fun q => by cases q⟩
   ·rw [if_neg h2, Rd.bad_no (fun q => h2 q.2)]
    exact ⟨⟨h1, fun _ => by rw [h1]⟩, fun _ => rfl⟩
  ·rw [if_neg h1, bad_e (show Rd.e ⟨a.bs.drop (txF a.bs).2.1, (txF a.bs).2.2⟩ ≠ 0 from h1)]
   exact ⟨⟨rfl, fun q => absurd q h1⟩, fun q => absurd q h1⟩
 ·have hb : ¬ b.e = 0 := by rw [← h.1]; exact he
  unfold YtinbhlejofgomaaGreat.tb txc
  rw [Rd.txt_err he, if_neg hb, bad_e he]
  exact ⟨h, fun q => absurd q he⟩
theorem xS_sm {a b : Rd} (h : Sm a b) : ∀ i, Sm (xS a i).2 (colS b i).2 ∧ ((xS a i).2.e = 0 → (xS a i).1 = (colS b i).1)
 | 0 => ⟨h, fun _ => rfl⟩
 | i + 1 => by
   obtain ⟨p, q⟩ := xS_sm h i
   have r := p.tb
   refine ⟨r.1, fun w => ?_⟩
   have w0 : (xS a i).2.e = 0 := by
    by_cases u : (xS a i).2.e = 0
    ·exact u
    ·have w1 : (tb (xS a i).2).e = 0 := w
     unfold tb at w1
     rw [Rd.txt_err u, bad_e u] at w1
     exact absurd w1 u
   show (xS a i).1.set i (xS a i).2.txt.1 = (colS b i).1.set i (txc (colS b i).2).1
   rw [r.2 w, q w0]
theorem colB_err {x : CO} {R : Rd} (h : R.e ≠ 0) : colB (x, R) = (CO.zero, R.e) := by
 unfold colB colC
 simp only [Rd.fix_err _ h, bad_e h]
 unfold colD
 simp only [Rd.fix_err _ h]
 unfold colE
 simp only [Rd.fix_err _ h]
 unfold colG
 simp only [Rd.fix_err _ h, bad_e h]
 unfold colH
 simp only [Rd.fix_err _ h]
 unfold colI
 simp only [Rd.fix_err _ h]
 unfold colJ colK
 simp only [bad_e h]
 unfold colL
 rw [if_neg h]
theorem colF_x (l : List Nat) : colF l = colB (xS ((Rd.mk l 0).txt.2.bad (¬ (Rd.mk l 0).txt.1 = [100, 101, 102])) 5) := by
 show colB (colS ((txc ⟨l, 0⟩).2.bad (¬ (txc ⟨l, 0⟩).1 = [100, 101, 102])) 5) = _
 have h0 : Sm ((Rd.mk l 0).txt.2.bad (¬ (Rd.mk l 0).txt.1 = [100, 101, 102])) ((txc ⟨l, 0⟩).2.bad (¬ (txc ⟨l, 0⟩).1 = [100, 101, 102])) := by
  unfold txc Rd.txt
  rw [if_pos rfl, if_neg (fun q => q rfl)]
  show Sm (Rd.bad ⟨_, _⟩ (¬ (txF l).1 = _)) _
  by_cases h1 : (txF l).2.2 = 0
  ·rw [if_pos h1]
   by_cases h2 : 255 < (txF l).1.length
   ·rw [if_pos h2, Rd.bad_yes ⟨h1, fun q => by rw [q] at h2; exact absurd h2 (by decide)⟩, bad_e (show (5 : Int) ≠ 0 by decide)]
    exact ⟨rfl, fun q => by cases q⟩
   ·rw [if_neg h2, h1]
    exact ⟨rfl, fun _ => rfl⟩
  ·rw [if_neg h1, bad_e (show Rd.e ⟨l.drop (txF l).2.1, (txF l).2.2⟩ ≠ 0 from h1), bad_e (show Rd.e ⟨l, (txF l).2.2⟩ ≠ 0 from h1)]
   exact ⟨rfl, fun q => absurd q h1⟩
 have k := xS_sm h0 5
 generalize xS _ 5 = A at *
 generalize colS _ 5 = B at *
 obtain ⟨x, R⟩ := A
 obtain ⟨y, Q⟩ := B
 obtain ⟨⟨k1, k2⟩, k3⟩ := k
 by_cases he : R.e = 0
 ·rw [show x = y from k3 he, show R = Q from k2 he]
 ·have hq : Q.e ≠ 0 := by rw [← show R.e = Q.e from k1]; exact he
  rw [colB_err he, colB_err hq, show R.e = Q.e from k1]
theorem fixbyt {R : Rd} (h : ∀ x ∈ R.bs, x < 256) : R.fix 1 = R.byt := by
 unfold Rd.fix Rd.byt
 rw [rdX_one h]
theorem zeros_two {R : Rd} (h : ∀ x ∈ R.bs, x < 256) : (R.fix 2).2.bad (¬ ∀ i, i < 2 → byI (R.take 2) i = 0) = (R.fix 2).2.bad (¬ (R.fix 2).1 = 0) := by
 congr 1
 have k := Rd.take_ok h 2
 have e := rdX_two k
 rw [Rd.take_fix] at e
 have b0 := byI_in k 0
 have b1 := byI_in k 1
 rw [e]
 refine propext (not_congr ⟨fun q => by rw [q 0 (by decide), q 1 (by decide)]; rfl, fun q i hi => ?_⟩)
 rcases (show i = 0 ∨ i = 1 by omega) with rfl | rfl <;> omega
structure CX (h0 : H) (o : Nat) (h : H) (x : CO) (R : Rd) : Prop where
 rd : RdS 5 142 h0.nx (h0.nx + 1) R h
 len : R.bs.length < 2 ^ 28
 ext : Ext h0 h
 z : h.get h0.nx = some (.cells CO.zero.cells 67 false)
 ob : h.get o = some (.cells x.cells 67 false)
 lt : h0.nx + 1 < o ∧ o < h.nx
theorem CX.call {h0 : H} {o : Nat} {h h' : H} {x : CO} {R R' : Rd} (a : CX h0 o h x R) (b : RdR 142 h0.nx (h0.nx + 1) R' h h') (hl : R'.bs.length ≤ R.bs.length) : CX h0 o h' x R' := by
 obtain ⟨hr, hb⟩ := b
 have l1 := a.lt
 have n2 := hb.1
 exact ⟨hr, Nat.lt_of_le_of_lt hl a.len, But.ext a.ext hb (by omega), by rw [hb.2 _ (by omega) (by omega)]; exact a.z, by rw [hb.2 _ (by omega) (by omega)]; exact a.ob, by omega, by omega⟩
theorem CX.put {h0 : H} {o : Nat} {h : H} {x : CO} {R : Rd} (a : CX h0 o h x R) (y : CO) : CX h0 o (h.put o (.cells y.cells 67 false)) y R := by
 have l1 := a.lt
 exact ⟨a.rd.keep (Nat.le_refl _) (put_ne (by omega)) fun k hk => put_ne (by omega), a.len, a.ext.put (by omega) _, by rw [put_ne (by omega)]; exact a.z, put_eq rfl, l1⟩
theorem CX.ext2 {h0 : H} {o : Nat} {h h' : H} {x : CO} {R : Rd} (a : CX h0 o h x R) (hx : Ext h h') : CX h0 o h' x R := by
 have l1 := a.lt
 exact ⟨a.rd.ext hx, a.len, a.ext.trans hx, by rw [hx.2 _ (by omega)]; exact a.z, by rw [hx.2 _ (by omega)]; exact a.ob, l1.1, Nat.lt_of_lt_of_le l1.2 hx.1⟩
variable {S : Set0} (hS : StdX S)
include hS
theorem xtext_spec {n0 r : Nat} {R : Rd} {h : H} (a : RdS 5 142 n0 r R h) (hl : R.bs.length < 2 ^ 28) : callW S.cfg (· = r) 126 [.ptr r 0] h fun v h' => v = .str R.txt.1 ∧ RdR 142 n0 r (tb R) h h' := by
 refine into Tryz.f126 _ Tryz.func126 (hS.ownX _ (by decide)) rfl rfl (by kernel_rfl) (by kernel_rfl) ?_
 refine ww1 @Tryz.f126.eq_1 ?_
 refine callF_of (ftext_spec hS.toStdF a hl) (fun k hk => .inr hk) ?_
 rintro _ h1 ⟨rfl, r1⟩
 refine ww0 ?_
 refine callF_of (fwrong_spec hS.toStdF r1.1 (255 < R.txt.1.length)) (fun k hk => .inr hk) ?_
 rintro _ h2 r2
 refine ww0 ?_
 exact r1.trans r2
theorem xcolread_spec {v : V} {l : List Nat} {h : H} (a : BS 5 h v l) (hl : l.length < 2 ^ 28) : Pure S.cfg 83 [v] h fun w _ => w = .tuple [.agg (colF l).1.cells, .int .i64 (colF l).2] := by
 refine into Tryz.f83 _ Tryz.func83 (hS.ownX _ (by decide)) rfl rfl (by kernel_rfl) (by kernel_rfl) ?_
 rw [colF_x]
 obtain ⟨c1, c2⟩ := a.cell
 refine ww1 (cj @Tryz.f83.eq_1 <| cj c1 c2) ?_
 generalize hhA : H.push (H.push h _) _ = hA
 have hxA : Ext h hA := by rw [← hhA]; exact ((Ext.refl h).push _).push _
 have hnA : hA.nx = h.nx + 2 := by rw [← hhA]; rfl
 have gR : hA.get (h.nx + 1) = some (.cells [v, .int .i64 0] 142 false) := by rw [← hhA]; exact push_eq rfl
 have gZ : hA.get h.nx = some (.cells CO.zero.cells 67 false) := by rw [← hhA, push_ne (by simp only [push_nx]; omega)]; exact push_eq rfl
 clear hhA
 have a2 : RdS 5 142 h.nx (h.nx + 1) ⟨l, 0⟩ hA := ⟨⟨v, gR, a.ext hxA, fun k hk => a.off hk⟩, by omega, by omega⟩
 have okf : ∀ k, k = h.nx + 1 → fresh h.nx nil1 k := fun k hk => by rw [fresh_def]; exact .inl (by omega)
 refine callF_of (ftext_spec hS.toStdF a2 (by show l.length < _; omega)) okf ?_
 rintro _ h1 ⟨rfl, r1⟩
 refine ww0 ?_
 refine callF_of (fwrong_spec hS.toStdF r1.1 (¬ (Rd.mk l 0).txt.1 = [100, 101, 102])) okf ?_
 rintro _ h2 r2
 have r2 := r1.trans r2
 have l2 : ((Rd.mk l 0).txt.2.bad (¬ (Rd.mk l 0).txt.1 = [100, 101, 102])).bs.length ≤ l.length := by rw [Rd.bad_bs]; exact Rd.txt_len _
 generalize (Rd.mk l 0).txt.2.bad (¬ (Rd.mk l 0).txt.1 = [100, 101, 102]) = R1 at *
 refine ww0 ?_
 refine callF_of (xtext_spec hS r2.1 (by omega)) okf ?_
 have l3 := tb_len R1
 rintro _ h3 ⟨rfl, r3⟩
 have n1 := r2.2.1
 have n2 := r3.2.1
 have b2 : But (h.nx + 1) hA h3 := r2.2.trans r3.2
 refine ww0 ?_
 refine ⟨.inr (by omega), ?_⟩
 generalize hhC : H.put _ _ _ = hC
 have hxC : Ext h3 hC := by rw [← hhC]; exact Ext.new _ _ _
 have hnC : hC.nx = h3.nx + 1 := by rw [← hhC]; rfl
 have f : CX h h3.nx hC { CO.zero with s0 := R1.txt.1 } (tb R1) := ⟨r3.1.ext hxC, by omega, But.ext hxA (b2.trans (But.of_ext hxC)) (by omega), by rw [hxC.2 _ (by omega), b2.2 _ (by omega) (by omega)]; exact gZ, by rw [← hhC]; exact put_eq rfl, by omega, by omega⟩
 clear hhC
 have hn2 : h.nx + 1 < h3.nx := by omega
 generalize h3.nx = o at *
 clear r1 r2 r3 b2 hxC hnC
 refine callF_of (xtext_spec hS f.rd f.len) okf ?_
 rintro _ h4 ⟨rfl, r4⟩
 have f := f.call r4 (tb_len _)
 have g := f.ob
 have n4 := f.lt
 unfold CO.cells at g
 refine ww1 g ?_
 refine ⟨.inr (by omega), ?_⟩
 have f := f.put { CO.zero with s0 := R1.txt.1, s1 := (tb R1).txt.1 }
 simp only [CO.cells] at f
 revert f
 generalize H.put h4 o _ = hC
 intro f
 clear r4 g n4
 refine callF_of (xtext_spec hS f.rd f.len) okf ?_
 rintro _ h4 ⟨rfl, r4⟩
 have f := f.call r4 (tb_len _)
 have g := f.ob
 have n4 := f.lt
 unfold CO.cells at g
 refine ww1 g ?_
 refine ⟨.inr (by omega), ?_⟩
 have f := f.put { CO.zero with s0 := R1.txt.1, s1 := (tb R1).txt.1, s2 := (tb (tb R1)).txt.1 }
 simp only [CO.cells] at f
 revert f
 generalize H.put h4 o _ = hC
 intro f
 clear r4 g n4
 refine callF_of (xtext_spec hS f.rd f.len) okf ?_
 rintro _ h4 ⟨rfl, r4⟩
 have f := f.call r4 (tb_len _)
 have g := f.ob
 have n4 := f.lt
 unfold CO.cells at g
 refine ww1 g ?_
 refine ⟨.inr (by omega), ?_⟩
 have f := f.put { CO.zero with s0 := R1.txt.1, s1 := (tb R1).txt.1, s2 := (tb (tb R1)).txt.1, s3 := (tb (tb (tb R1))).txt.1 }
 simp only [CO.cells] at f
 revert f
 generalize H.put h4 o _ = hC
 intro f
 clear r4 g n4
 refine callF_of (xtext_spec hS f.rd f.len) okf ?_
 rintro _ h4 ⟨rfl, r4⟩
 have f := f.call r4 (tb_len _)
 have g := f.ob
 have n4 := f.lt
 unfold CO.cells at g
 refine ww1 g ?_
 refine ⟨.inr (by omega), ?_⟩
 have f := f.put { CO.zero with s0 := R1.txt.1, s1 := (tb R1).txt.1, s2 := (tb (tb R1)).txt.1, s3 := (tb (tb (tb R1))).txt.1, s4 := (tb (tb (tb (tb R1)))).txt.1 }
 simp only [CO.cells] at f
 revert f
 generalize H.put h4 o _ = hC
 intro f
 clear r4 g n4
 have e5 : xS R1 5 = ({ CO.zero with s0 := R1.txt.1, s1 := (tb R1).txt.1, s2 := (tb (tb R1)).txt.1, s3 := (tb (tb (tb R1))).txt.1, s4 := (tb (tb (tb (tb R1)))).txt.1 }, tb (tb (tb (tb (tb R1))))) := rfl
 rw [e5]
 clear e5
 generalize ({ CO.zero with s0 := R1.txt.1, s1 := (tb R1).txt.1, s2 := (tb (tb R1)).txt.1, s3 := (tb (tb (tb R1))).txt.1, s4 := (tb (tb (tb (tb R1)))).txt.1 } : CO) = x at *
 generalize tb (tb (tb (tb (tb R1)))) = R at *
 obtain ⟨s0, s1, s2, s3, s4, x5, x6, x7, x8, x9⟩ := x
 have hb := f.rd.cell.choose_spec.2.1.1
 unfold colB colC
 rw [fixbyt hb]
 refine callF_of (fbyte_spec hS.toStdF f.rd f.len) okf ?_
 rintro _ h4 ⟨rfl, r4⟩
 have f := f.call r4 (byt_len _)
 clear r4
 generalize R.byt = F at *
 refine ww0 ?_
 refine callF_of (fwrong_spec hS.toStdF f.rd (¬ F.1 = 12)) okf ?_
 rintro _ h5 r5
 have f := f.call r5 (by rw [Rd.bad_bs]; exact Nat.le_refl _)
 clear r5
 generalize F.2.bad (¬ F.1 = 12) = R at *
 refine ww0 ?_
 refine callF_of (ffixed_spec hS.toStdF f.rd f.len 2 (by omega)) okf ?_
 rintro _ h6 ⟨rfl, r6⟩
 have f := f.call r6 (Rd.fix_len _ _)
 have g := f.ob
 have n6 := f.lt
 unfold CO.cells at g
 refine ww1 g ?_
 refine ⟨.inr (by omega), ?_⟩
 have f := f.put ⟨s0, s1, s2, s3, s4, IntKind.u16.wrap (R.fix 2).1, x6, x7, x8, x9⟩
 simp only [CO.cells] at f
 revert f
 generalize H.put h6 o _ = hC
 intro f
 clear r6 g n6
 generalize R.fix 2 = F at *
 obtain ⟨F1, R⟩ := F
 unfold colD
 try simp only at f ⊢
 refine callF_of (ffixed_spec hS.toStdF f.rd f.len 4 (by omega)) okf ?_
 rintro _ h6 ⟨rfl, r6⟩
 have f := f.call r6 (Rd.fix_len _ _)
 have g := f.ob
 have n6 := f.lt
 unfold CO.cells at g
 refine ww1 g ?_
 refine ⟨.inr (by omega), ?_⟩
 have f := f.put ⟨s0, s1, s2, s3, s4, IntKind.u16.wrap F1, IntKind.u32.wrap (R.fix 4).1, x7, x8, x9⟩
 simp only [CO.cells] at f
 revert f
 generalize H.put h6 o _ = hC
 intro f
 clear r6 g n6
 generalize R.fix 4 = F at *
 obtain ⟨F2, R⟩ := F
 unfold colE
 try simp only at f ⊢
 have hb := f.rd.cell.choose_spec.2.1.1
 rw [fixbyt hb]
 clear hb
 have hb := f.rd.cell.choose_spec.2.1.1
 have hw := Rd.byt_in hb
 have hw2 : IntKind.u8.wrap R.byt.1 = R.byt.1 := by rw [IntKind.wrap_u8]; omega
 clear hb
 refine callF_of (fbyte_spec hS.toStdF f.rd f.len) okf ?_
 rintro _ h6 ⟨rfl, r6⟩
 have f := f.call r6 (byt_len _)
 have g := f.ob
 have n6 := f.lt
 unfold CO.cells at g
 refine ww1 g ?_
 refine ⟨.inr (by omega), ?_⟩
 have f := f.put ⟨s0, s1, s2, s3, s4, IntKind.u16.wrap F1, IntKind.u32.wrap F2, R.byt.1, x8, x9⟩
 simp only [CO.cells] at f
 revert f
 generalize H.put h6 o _ = hC
 intro f
 clear r6 g n6
 generalize R.byt = F at *
 obtain ⟨F3, R⟩ := F
 unfold colG
 try simp only at f hw hw2 ⊢
 rw [hw2]
 have g := f.ob
 have n6 := f.lt
 refine callF_pure (xknown_spec hS F3 hw _) ?_
 rintro _ h7 hx7 rfl
 have f := f.ext2 hx7
 refine ww0 ?_
 refine callF_of (fwrong_spec hS.toStdF f.rd (¬ knownP F3)) okf ?_
 rintro _ h8 r8
 have f := f.call r8 (by rw [Rd.bad_bs]; exact Nat.le_refl _)
 clear r8 g n6 hx7
 generalize R.bad (¬ knownP F3) = R at *
 refine ww0 ?_
 refine callF_of (ffixed_spec hS.toStdF f.rd f.len 2 (by omega)) okf ?_
 rintro _ h6 ⟨rfl, r6⟩
 have f := f.call r6 (Rd.fix_len _ _)
 have g := f.ob
 have n6 := f.lt
 unfold CO.cells at g
 refine ww1 g ?_
 refine ⟨.inr (by omega), ?_⟩
 have f := f.put ⟨s0, s1, s2, s3, s4, IntKind.u16.wrap F1, IntKind.u32.wrap F2, F3, IntKind.u16.wrap (R.fix 2).1, x9⟩
 simp only [CO.cells] at f
 revert f
 generalize H.put h6 o _ = hC
 intro f
 clear r6 g n6
 generalize R.fix 2 = F at *
 obtain ⟨F4, R⟩ := F
 unfold colH
 try simp only at f ⊢
 have hb := f.rd.cell.choose_spec.2.1.1
 rw [fixbyt hb]
 clear hb hw2
 have hb := f.rd.cell.choose_spec.2.1.1
 have hw := Rd.byt_in hb
 have hw2 : IntKind.u8.wrap R.byt.1 = R.byt.1 := by rw [IntKind.wrap_u8]; omega
 clear hb
 refine callF_of (fbyte_spec hS.toStdF f.rd f.len) okf ?_
 rintro _ h6 ⟨rfl, r6⟩
 have f := f.call r6 (byt_len _)
 have g := f.ob
 have n6 := f.lt
 unfold CO.cells at g
 refine ww1 g ?_
 refine ⟨.inr (by omega), ?_⟩
 have f := f.put ⟨s0, s1, s2, s3, s4, IntKind.u16.wrap F1, IntKind.u32.wrap F2, F3, IntKind.u16.wrap F4, R.byt.1⟩
 simp only [CO.cells] at f
 revert f
 generalize H.put h6 o _ = hC
 intro f
 clear r6 g n6
 generalize R.byt = F at *
 obtain ⟨F5, R⟩ := F
 unfold colI
 try simp only at f hw2 ⊢
 rw [hw2]
 have hb := f.rd.cell.choose_spec.2.1.1
 have hz := zeros_two hb
 refine callF_of (fzeros_spec hS f.rd f.len 2 (by omega)) okf ?_
 rw [hz]
 rintro _ h9 r9
 have f := f.call r9 (by rw [Rd.bad_bs]; exact Rd.fix_len _ _)
 clear r9 hz hb
 unfold colJ
 generalize (R.fix 2).2.bad (¬ (R.fix 2).1 = 0) = R at *
 refine ww0 ?_
 refine callF_of (fdone_spec hS.toStdF f.rd) okf ?_
 rintro _ hE ⟨rfl, rE⟩
 have hov : overF R = R.bad (¬ R.bs.length = 0) := by
  unfold overF Rd.over
  congr 1
  exact propext (not_congr List.length_eq_zero_iff.symm)
 have f := f.call rE (by unfold overF Rd.over; rw [Rd.bad_bs]; exact Nat.le_refl _)
 clear rE
 unfold colK
 rw [hov] at *
 generalize R.bad (¬ R.bs.length = 0) = R at *
 have gZ := f.z
 have gO := f.ob
 have nE := f.lt
 obtain ⟨⟨vE, gE, _, _⟩, _⟩ := f.rd
 unfold colL
 unfold CO.cells at gZ gO ⊢
 by_cases he : R.e = 0
 ·have he' := eq_true he
  rw [if_pos he]
  refine ww1 (cj gZ <| cj gO he') ?_
  exact f.ext.put (Nat.le_refl _) _
 ·rw [if_neg he]
  refine ww1 (cj gZ <| cj gO <| cj gE he) ?_
  refine draw_by [(4, 5)] (by kernel_rfl) ?_
  refine ww1 (cj gZ <| cj gO <| cj gE he) ?_
  exact ⟨rd_wr1, f.ext.put (Nat.le_refl _) _, rfl⟩
end
noncomputable section
theorem lst_rd {n0 : Nat} {R : Rd} {h h' : H} {rv : V} {cs : List V} {e sz : Nat} (a : Lst (n0 + 1) h rv cs e sz) (b : RdR 142 n0 n0 R h h') : Lst (n0 + 1) h' rv cs e sz := Lst.but a (Lst.off a n0 (Nat.lt_succ_self _)) b.2
theorem byt_go {R : Rd} (he : R.e = 0) (hl : 0 < R.bs.length) : R.byt.2 = ⟨R.bs.drop 1, 0⟩ := by
 unfold Rd.byt
 rw [if_neg (fun q => q he), if_neg (by omega)]
theorem rt_step {m : Nat} {R : Rd} (he : R.e = 0) : (if (txF R.bs).2.2 ≠ 0 then (txF R.bs).2.2 else if 16777216 < (txF R.bs).1.length then 5 else rtE m (R.bs.drop (txF R.bs).2.1)) = (if (R.txt.2.bad (16777216 < R.txt.1.length)).e = 0 then rtE m (R.txt.2.bad (16777216 < R.txt.1.length)).bs else (R.txt.2.bad (16777216 < R.txt.1.length)).e) := by
 have e : R.txt = ((txF R.bs).1, ⟨R.bs.drop (txF R.bs).2.1, (txF R.bs).2.2⟩) := by unfold Rd.txt; rw [if_neg (fun q => q he)]
 rw [e]
 by_cases h1 : (txF R.bs).2.2 = 0
 ·rw [if_neg (fun q => q h1)]
  by_cases h2 : 16777216 < (txF R.bs).1.length
  ·rw [if_pos h2, Rd.bad_yes ⟨h1, h2⟩]; rfl
  ·rw [if_neg h2, Rd.bad_no (fun q => h2 q.2), if_pos h1]
 ·rw [if_pos h1, bad_e (show Rd.e ⟨_, (txF R.bs).2.2⟩ ≠ 0 from h1), if_neg h1]
theorem over_rt0 (R : Rd) {n : Nat} : (if R.e = 0 then rtE (n - n) R.bs else R.e) = (overF R).e := by
 unfold overF Rd.over
 rw [Nat.sub_self]
 by_cases h0 : R.e = 0
 ·rw [if_pos h0, rtE]
  by_cases h1 : 0 < R.bs.length
  ·rw [if_pos h1, Rd.bad_yes ⟨h0, List.length_pos_iff.1 h1⟩]
  ·rw [if_neg h1, Rd.bad_no (fun q => h1 (List.length_pos_iff.2 q.2)), h0]
 ·rw [if_neg h0, bad_e h0]
theorem over_rt1 {R : Rd} (h : ¬ R.e = 0) : R.e = (overF R).e := by
 unfold overF Rd.over
 rw [bad_e h]
variable {S : Set0}
theorem app_vl {Ok : Nat → Prop} {env : Env} {h : H} {K : V → H → Fp → Prop} {s x : Operand} {rv : V} {cs new : List V} {n0 : Nat} (hs : evalE env s = rv) (hx : evalE env x = .slice h.nx 0 1 1) (a : Lst (n0 + 1) h rv cs 134 12) (hl : new.length = 12) (hc : new.all V.isCell = true) (hr : cs.length ≤ 4096 * 12) (hOk : ∀ k, n0 < k → Ok k) (hn : n0 < h.nx)
  (hK : ∀ v h' L, Lst (n0 + 1) h' v (cs ++ new) 134 12 → h.nx + 1 ≤ h'.nx → (∀ k, k < n0 + 1 → h'.get k = h.get k) → (∀ le ∈ L, n0 < blkOf le) → K v h' (.lg L)) : opW S.cfg Ok (.call ⟨.builtin .append, #[s, x], #[92, 92]⟩) env (h.push (.cells new 134 false)) K := by
 have hx1 : Ext h (h.push (.cells new 134 false)) := (Ext.refl h).push _
 refine append_lst (n0 := n0 + 1) (sv := rv) (xv := .slice h.nx 0 1 1) (cells := cs) (new := new) hs hx ap92' ⟨.slice 134, by kernel_rfl, rfl⟩ (a.ext hx1) (src_new rfl (by rw [hl])) hc (by omega) (by decide) (fun k hk => hOk k hk) (by show n0 + 1 ≤ h.nx + 1; omega) ?_
 intro v h' L hl2 hn2 _ hk2 hL
 have hn3 : h.nx + 1 ≤ h'.nx := hn2
 refine hK v h' L hl2 hn3 (fun k hk => by rw [hk2 k hk, hx1.2 k (by omega)]) fun le hle => ?_
 exact ap_low (kx := h.nx) a (by omega) (by show n0 + 1 ≤ h.nx + 1; omega) hL le hle
variable (hS : StdX S)
include hS
theorem xrtext_spec {v : V} {l : List Nat} {h : H} (a : BS 5 h v l) (hl : l.length < 2 ^ 28) (n : Nat) (hn : n ≤ 4096) : Pure S.cfg 89 [v, .int .i64 n] h fun w _ => ∃ rv, rv.cells = [rv] ∧ rv.isCell = true ∧ w = .tuple [rv, .int .i64 (rtE n l)] := by
 refine into Tryz.f89 _ Tryz.func89 (hS.ownX _ (by decide)) rfl rfl (by kernel_rfl) (by kernel_rfl) ?_
 have hn1 : ¬ ((n : Int) < 0) := by omega
 have hn2 : ¬ ((4096 : Int) < n) := by omega
 obtain ⟨c1, c2⟩ := a.cell
 refine ww1 (cj @Tryz.f89.eq_1 <| cj hn1 <| cj hn2 <| cj c1 c2) ?_
 generalize hhA : H.push h _ = hA
 have hxA : Ext h hA := by rw [← hhA]; exact (Ext.refl h).push _
 have hnA : hA.nx = h.nx + 1 := by rw [← hhA]; rfl
 have gR : hA.get h.nx = some (.cells [v, .int .i64 0] 142 false) := by rw [← hhA]; exact push_eq rfl
 clear hhA
 have a2 : RdS 5 142 h.nx h.nx ⟨l, 0⟩ hA := ⟨⟨v, gR, a.ext hxA, fun k hk => a.off hk⟩, by omega, by omega⟩
 have okf : ∀ k, k = h.nx → fresh h.nx nil1 k := fun k hk => by rw [fresh_def]; exact .inl (by omega)
 refine run_loop (fun k env h' => ∃ i : Nat, ∃ R : Rd, ∃ rv cs, k = n - i ∧ i ≤ n ∧ env 1 = .int .i64 n ∧ env 6 = .ptr h.nx 0 ∧ env 8 = .int .i64 i ∧ env 7 = rv ∧ RdS 5 142 h.nx h.nx R h' ∧ R.bs.length < 2 ^ 28 ∧ Ext h h' ∧ Lst (h.nx + 1) h' rv cs 134 12 ∧ cs.length = i * 12 ∧ rtE n l = (if R.e = 0 then rtE (n - i) R.bs else R.e)) n ⟨0, ?_⟩ ?_
 ·refine ww0 ?_
  exact ⟨⟨l, 0⟩, .nilslice, [], by omega, rfl, a2, hl, hxA, lst_nil _ _ _ _, rfl, by rw [if_pos rfl]; rfl⟩
 rintro k env h' ⟨i, R, rv, cs, rfl, hi, e1, e6, e8, e7, rd, hlR, hx, hrv, hcs, hrt⟩
 obtain ⟨⟨v1, g1, hb1, ho1⟩, hlt1⟩ := rd
 have rd : RdS 5 142 h.nx h.nx R h' := ⟨⟨v1, g1, hb1, ho1⟩, hlt1⟩
 obtain ⟨d1, d2⟩ := lst_form hrv
 have a1 := hb1.len 5
 by_cases hgo : i < n ∧ R.e = 0
 ·obtain ⟨hin, he⟩ := hgo
  have he' := eq_true he
  rw [if_pos he] at hrt
  have hs : n - i = (n - (i + 1)) + 1 := by omega
  rw [hs, rtE] at hrt
  by_cases h251 : 0 < R.bs.length ∧ byI R.bs 0 = 251
  ·rw [if_pos h251] at hrt
   have hl0 := eq_true h251.1
   have hb0 := eq_true h251.2
   obtain ⟨b, o, m, hv, _, _⟩ := hb1.at (i := 0) h251.1
   subst hv
   obtain ⟨_, _, hrd⟩ := hb1.rd
   have hr := hrd 0 h251.1
   rw [Nat.add_zero] at hr
   refine ww1 (cj e1 <| cj e6 <| cj e8 <| cj e7 <| cj g1 <| cj hin <| cj he' <| cj a1 <| cj hr <| cj hl0 hb0) ?_
   refine callF_of (fbyte_spec hS.toStdF rd hlR) okf ?_
   rintro _ h2 ⟨rfl, r2⟩
   have hrv2 := lst_rd hrv r2
   have n2 := r2.2.1
   refine ww1 (cj e1 <| cj e6 <| cj e8 e7) ?_
   refine app_vl (n0 := h.nx) ?_ ?_ hrv2 rfl rfl ?_ ?_ ?_ ?_
   ·exact wv0
   ·exact wv0
   ·omega
   ·exact fun k hk => by rw [fresh_def]; exact .inl (by omega)
   ·omega
   intro v2 h3 L3 hl3 hn3 hk3 hL3
   have e1' := byt_go he h251.1
   obtain ⟨u1, u2⟩ := lst_form hl3
   have r3 := r2.1.keep (h' := h3) (by omega) (hk3 _ (by omega)) fun k hk => hk3 k (by omega)
   refine ww1 (cj e1 <| cj e6 <| cj e8 e7) ?_
   exact ⟨n - (i + 1), by omega, i + 1, _, v2, _, rfl, by omega, rfl, rfl, r3, by rw [e1']; show (R.bs.drop 1).length < _; rw [List.length_drop]; omega, ⟨by omega, fun k hk => by rw [hk3 k (by omega), r2.2.2 k (by omega) (by omega), hx.2 k hk]⟩, hl3, by rw [List.length_append, hcs]; show _ + 12 = _; omega, by rw [e1', hrt]; rfl⟩
  ·rw [if_neg h251, rt_step he] at hrt
   have d0 : R.bs.length = 0 ∨ 0 < R.bs.length := by omega
   by_cases hl0 : 0 < R.bs.length
   ·have hb0 : ¬ byI R.bs 0 = 251 := fun q => h251 ⟨hl0, q⟩
    have hl0' := eq_true hl0
    obtain ⟨b, o, m, hv, _, _⟩ := hb1.at (i := 0) hl0
    subst hv
    obtain ⟨_, _, hrd⟩ := hb1.rd
    have hr := hrd 0 hl0
    rw [Nat.add_zero] at hr
    refine ww1 (cj e1 <| cj e6 <| cj e8 <| cj e7 <| cj g1 <| cj hin <| cj he' <| cj a1 <| cj hr <| cj hl0' hb0) ?_
    refine callF_of (ftext_spec hS.toStdF rd hlR) okf ?_
    rintro _ h2 ⟨rfl, r2⟩
    refine ww1 e6 ?_
    refine callF_of (fwrong_spec hS.toStdF r2.1 (16777216 < R.txt.1.length)) okf ?_
    rintro _ h2b r2b
    have r2 := r2.trans r2b
    have hlR2 : (R.txt.2.bad (16777216 < R.txt.1.length)).bs.length < 2 ^ 28 := by rw [Rd.bad_bs]; exact Nat.lt_of_le_of_lt (Rd.txt_len R) hlR
    generalize R.txt.2.bad (16777216 < R.txt.1.length) = R2 at *
    have hrv2 := lst_rd hrv r2
    have n2 := r2.2.1
    refine ww1 (cj e1 <| cj e6 <| cj e8 e7) ?_
    refine app_vl (n0 := h.nx) ?_ ?_ hrv2 rfl rfl ?_ ?_ ?_ ?_
    ·exact wv0
    ·exact wv0
    ·omega
    ·exact fun k hk => by rw [fresh_def]; exact .inl (by omega)
    ·omega
    intro v2 h3 L3 hl3 hn3 hk3 hL3
    obtain ⟨u1, u2⟩ := lst_form hl3
    have r3 := r2.1.keep (h' := h3) (by omega) (hk3 _ (by omega)) fun k hk => hk3 k (by omega)
    refine ww1 (cj e1 <| cj e6 <| cj e8 e7) ?_
    exact ⟨n - (i + 1), by omega, i + 1, _, v2, _, rfl, by omega, rfl, rfl, r3, hlR2, ⟨by omega, fun k hk => by rw [hk3 k (by omega), r2.2.2 k (by omega) (by omega), hx.2 k hk]⟩, hl3, by rw [List.length_append, hcs]; show _ + 12 = _; omega, hrt⟩
   ·refine ww1 (cj e1 <| cj e6 <| cj e8 <| cj e7 <| cj g1 <| cj hin <| cj he' <| cj a1 hl0) ?_
    refine callF_of (ftext_spec hS.toStdF rd hlR) okf ?_
    rintro _ h2 ⟨rfl, r2⟩
    refine ww1 e6 ?_
    refine callF_of (fwrong_spec hS.toStdF r2.1 (16777216 < R.txt.1.length)) okf ?_
    rintro _ h2b r2b
    have r2 := r2.trans r2b
    have hlR2 : (R.txt.2.bad (16777216 < R.txt.1.length)).bs.length < 2 ^ 28 := by rw [Rd.bad_bs]; exact Nat.lt_of_le_of_lt (Rd.txt_len R) hlR
    generalize R.txt.2.bad (16777216 < R.txt.1.length) = R2 at *
    have hrv2 := lst_rd hrv r2
    have n2 := r2.2.1
    refine ww1 (cj e1 <| cj e6 <| cj e8 e7) ?_
    refine app_vl (n0 := h.nx) ?_ ?_ hrv2 rfl rfl ?_ ?_ ?_ ?_
    ·exact wv0
    ·exact wv0
    ·omega
    ·exact fun k hk => by rw [fresh_def]; exact .inl (by omega)
    ·omega
    intro v2 h3 L3 hl3 hn3 hk3 hL3
    obtain ⟨u1, u2⟩ := lst_form hl3
    have r3 := r2.1.keep (h' := h3) (by omega) (hk3 _ (by omega)) fun k hk => hk3 k (by omega)
    refine ww1 (cj e1 <| cj e6 <| cj e8 e7) ?_
    exact ⟨n - (i + 1), by omega, i + 1, _, v2, _, rfl, by omega, rfl, rfl, r3, hlR2, ⟨by omega, fun k hk => by rw [hk3 k (by omega), r2.2.2 k (by omega) (by omega), hx.2 k hk]⟩, hl3, by rw [List.length_append, hcs]; show _ + 12 = _; omega, hrt⟩
 ·by_cases hin : i < n
  ·have he : ¬ R.e = 0 := fun q => hgo ⟨hin, q⟩
   rw [if_neg he] at hrt
   refine ww1 (cj e1 <| cj e6 <| cj e8 <| cj e7 <| cj g1 <| cj hin he) ?_
   refine callF_of (fdone_spec hS.toStdF rd) okf ?_
   rintro _ hE ⟨rfl, rE⟩
   have xE : Ext h hE := But.ext hx rE.2 (by omega)
   obtain ⟨⟨vE, gE, _, _⟩, _⟩ := rE.1
   have hov := over_rt1 he
   have hq : ¬ (overF R).e = 0 := by rw [← hov]; exact he
   simp +contextual (disch := first | exact de | fail) only [draw_calm, draw_calmA, wpy, fW, Int.reduceLE, Int.reduceLT, Nat.reduceLeDiff, UInt8.reduceToNat, ↓reduceIte, Nat.reduceEqDiff, Nat.reduceAdd, reduceCtorEq, Int.reduceToNat, e1, e6, e8, e7, hq, gE]
   exact ⟨xE, _, rfl, rfl, by rw [hrt, hov]⟩
  ·obtain rfl : i = n := by omega
   refine ww1 (cj e1 <| cj e6 <| cj e8 <| cj e7 <| cj g1 hin) ?_
   refine callF_of (fdone_spec hS.toStdF rd) okf ?_
   rintro _ hE ⟨rfl, rE⟩
   have xE : Ext h hE := But.ext hx rE.2 (by omega)
   obtain ⟨⟨vE, gE, _, _⟩, _⟩ := rE.1
   have hov := over_rt0 R (n := i)
   rw [hov] at hrt
   by_cases hq : (overF R).e = 0
   ·have hq' := eq_true hq
    refine ww1 (cj e1 <| cj e6 <| cj e8 <| cj e7 <| cj hq' <| cj d1 d2) ?_
    exact ⟨xE, _, d1, d2, by rw [hrt, hq]⟩
   ·simp +contextual (disch := first | exact de | fail) only [draw_calm, draw_calmA, wpy, fW, Int.reduceLE, Int.reduceLT, Nat.reduceLeDiff, UInt8.reduceToNat, ↓reduceIte, Nat.reduceEqDiff, Nat.reduceAdd, reduceCtorEq, Int.reduceToNat, e1, e6, e8, e7, hq, gE]
    exact ⟨xE, _, rfl, rfl, by rw [hrt]⟩
end
noncomputable section
def xszF (t : Int) : Int := if t = 1 then 1 else if t = 2 ∨ t = 13 then 2 else if t = 3 ∨ t = 9 ∨ t = 4 then 4 else 8
def clkX (w : WH) (R : Rd) (m : Prop) : WH × Rd := @ite _ m (Classical.propDecidable _) ({ w with a4 := R.byt.1, a5 := R.byt.2.byt.1, a6 := R.byt.2.byt.2.byt.1, a7 := IntKind.i64.wrap (R.byt.2.byt.2.byt.2.fix 4).1 }, (R.byt.2.byt.2.byt.2.fix 4).2) ({ w with a4 := R.byt.1, a5 := R.byt.2.byt.1, a6 := R.byt.2.byt.2.byt.1 }, R.byt.2.byt.2.byt.2)
def midP (w : WH) : Prop := w.a4 = 0 ∧ w.a5 = 0 ∧ w.a6 = 0 ∧ w.a7 = 0
variable {S : Set0} (hS : StdX S)
include hS
theorem xvsize_spec (t : Int) (h : H) : Pure S.cfg 159 [.int .u8 t] h fun v _ => v = .int .i64 (xszF t) := by
 refine into Tryz.f159 _ Tryz.func159 (hS.ownX _ (by decide)) rfl rfl (by kernel_rfl) (by kernel_rfl) ?_
 by_cases e : t = 1 ∨ t = 2 ∨ t = 13 ∨ t = 3 ∨ t = 9 ∨ t = 4
 ·rcases e with e | e | e | e | e | e
  all_goals
   subst e
   refine wew1 @Tryz.f159.eq_1 ?_
   exact ⟨Ext.refl _, rfl⟩
 ·simp only [not_or] at e
  obtain ⟨e1, e2, e13, e3, e9, e4⟩ := e
  refine ww1 (cj @Tryz.f159.eq_1 <| cj e1 <| cj e2 <| cj e13 <| cj e3 <| cj e9 e4) ?_
  exact ⟨Ext.refl _, by unfold xszF; simp only [e1, e2, e13, e3, e9, e4, or_self, if_false]⟩
theorem xkind_spec (t : Int) (u : Bool) (ht : 0 ≤ t ∧ t < 256) (h : H) : Pure S.cfg 131 [.agg [.int .u8 t, .bool u]] h fun v _ => v = .int .i64 (kindF t u) := by
 refine into Tryz.f131 _ Tryz.func131 (hS.ownX _ (by decide)) rfl rfl (by kernel_rfl) (by kernel_rfl) ?_
 refine ww1 @Tryz.f131.eq_1 ?_
 refine callF_pure (xknown_spec hS t ht _) ?_
 rintro _ h1 hx1 rfl
 have g0 : h1.get h.nx = some (.cells [.int .u8 t, .bool u] 108 false) := by rw [hx1.2 _ (by simp only [push_nx]; omega)]; exact push_eq rfl
 have hx : Ext h h1 := ((Ext.refl h).push _).trans hx1
 by_cases hk : knownP t
 case neg =>
  refine ww1 hk ?_
  refine ⟨hx, ?_⟩
  unfold kindF
  have hk2 : ¬ ((0 ≤ t ∧ t ≤ 13) ∨ t = 15 ∨ t = 16 ∨ 245 ≤ t) := hk
  rw [if_neg (by omega), if_neg (by omega), if_neg (by omega), if_neg (by omega), if_neg (by omega), if_neg (by omega), if_neg hk]
 have hk' := eq_true hk
 by_cases e : t = 1 ∨ t = 2 ∨ t = 13 ∨ t = 3 ∨ t = 9 ∨ t = 8
 ·cases u
  all_goals
   rcases e with e | e | e | e | e | e
   all_goals
    subst e
    refine wew1 (cj g0 hk') ?_
    exact ⟨hx, rfl⟩
 by_cases e2 : t = 4 ∨ t = 5 ∨ t = 7 ∨ t = 10 ∨ t = 12 ∨ t = 11 ∨ t = 6
 ·rcases e2 with e2 | e2 | e2 | e2 | e2 | e2 | e2
  all_goals
   subst e2
   refine wew1 (cj g0 hk') ?_
   exact ⟨hx, rfl⟩
 simp only [not_or] at e e2
 obtain ⟨e1, e3, e4, e5, e6, e7⟩ := e
 obtain ⟨d1, d2, d3, d4, d5, d6, d7⟩ := e2
 refine ww1 (cj g0 <| cj hk' <| cj e1 <| cj e3 <| cj e4 <| cj e5 <| cj e6 <| cj e7 <| cj d1 <| cj d2 <| cj d3 <| cj d4 <| cj d5 <| cj d6 d7) ?_
 refine ⟨hx, ?_⟩
 unfold kindF
 rw [if_neg (by omega), if_neg (by omega), if_neg (by omega), if_neg (by omega), if_neg (by omega), if_neg (by omega), if_pos hk]
theorem xclock_spec (w : WH) (h : H) : Pure S.cfg 165 [.agg w.cells] h fun v _ => v = bo (clockP w) := by
 refine into Tryz.f165 _ Tryz.func165 (hS.ownX _ (by decide)) rfl rfl (by kernel_rfl) (by kernel_rfl) ?_
 unfold WH.cells
 refine ww1 @Tryz.f165.eq_1 ?_
 refine ⟨(Ext.refl h).push _, bo_iff ?_⟩
 unfold clockP
 constructor
 ·rintro ⟨⟨⟨⟨⟨⟨⟨q1, q2⟩, q3⟩, q4⟩, q5⟩, q6⟩, q7⟩, q8⟩
  exact ⟨⟨q1, q2⟩, ⟨q3, q4⟩, ⟨q5, q6⟩, q7, q8⟩
 ·rintro ⟨⟨q1, q2⟩, ⟨q3, q4⟩, ⟨q5, q6⟩, q7, q8⟩
  exact ⟨⟨⟨⟨⟨⟨⟨q1, q2⟩, q3⟩, q4⟩, q5⟩, q6⟩, q7⟩, q8⟩
theorem xmid_spec (w : WH) (hw : clockP w) (h : H) : Pure S.cfg 166 [.agg w.cells] h fun v _ => v = bo (midP w) := by
 refine into Tryz.f166 _ Tryz.func166 (hS.ownX _ (by decide)) rfl rfl (by kernel_rfl) (by kernel_rfl) ?_
 obtain ⟨p4, p5, p6, p7⟩ := hw
 have w1 : IntKind.i64.wrap (w.a4 + w.a5) = w.a4 + w.a5 := i64_in _ (by omega)
 have w2 : IntKind.i64.wrap (w.a4 + w.a5 + w.a6) = w.a4 + w.a5 + w.a6 := i64_in _ (by omega)
 have w3 : IntKind.i64.wrap (w.a4 + w.a5 + w.a6 + w.a7) = w.a4 + w.a5 + w.a6 + w.a7 := i64_in _ (by omega)
 unfold WH.cells
 refine ww1 (cj @Tryz.f166.eq_1 <| cj w1 <| cj w2 w3) ?_
 exact ⟨(Ext.refl h).push _, bo_iff ⟨fun q => by unfold midP; omega, fun q => by unfold midP at q; omega⟩⟩
theorem xwhen_spec (w : WH) (t : Int) (h : H) : Pure S.cfg 164 [.agg w.cells, .int .u8 t] h fun v _ => v = bo (fineP w t) := by
 refine into Tryz.f164 _ Tryz.func164 (hS.ownX _ (by decide)) rfl rfl (by kernel_rfl) (by kernel_rfl) ?_
 have ck := fun h => xclock_spec hS w h
 have cm := fun q h => xmid_spec hS w q h
 unfold WH.cells at ck cm ⊢
 refine ww1 @Tryz.f164.eq_1 ?_
 refine callF_pure (ck _) ?_
 rintro _ h1 hx1 rfl
 have g1 : h1.get h.nx = some (.cells [.bool w.neg, .int .i64 w.a1, .int .i64 w.a2, .int .i64 w.a3, .int .i64 w.a4, .int .i64 w.a5, .int .i64 w.a6, .int .i64 w.a7] 132 false) := by rw [hx1.2 _ (Nat.lt_succ_self _), push_eq rfl]
 have hx : Ext h h1 := ((Ext.refl h).push _).trans hx1
 by_cases hp : clockP w
 case neg =>
  refine ww1 (cj hp g1) ?_
  exact ⟨hx, bo_iff ⟨fun q => q.elim, fun q => hp q.1⟩⟩
 have hp' := eq_true hp
 by_cases ht : t = 11
 ·have ht' := eq_true ht
  cases hN : w.neg with
  | false =>
    rw [hN] at g1
    refine ww1 (cj hp' <| cj g1 ht') ?_
    refine ⟨hx, bo_iff ⟨fun q => ⟨hp, .inl ⟨ht, q.1.1.1, q.1.1.2, ⟨q.1.2, q.2⟩, fun u => by rw [hN] at u; cases u.1⟩⟩, fun q => ?_⟩⟩
    rcases q.2 with z | z
    ·exact ⟨⟨⟨z.2.1, z.2.2.1⟩, z.2.2.2.1.1⟩, z.2.2.2.1.2⟩
    ·exact absurd ht z.1
  | true =>
    rw [hN, btT] at g1 cm
    by_cases hA : ((w.a1 = 0 ∧ w.a2 = 0) ∧ 0 ≤ w.a3) ∧ w.a3 ≤ 34
    ·have hA1 := eq_true hA.1.1.1
     have hA2 := eq_true hA.1.1.2
     have hA3 := eq_true hA.1.2
     have hA4 := eq_true hA.2
     by_cases h3 : w.a3 = 0
     ·have h3' := eq_true h3
      refine ww1 (cj hp' <| cj g1 <| cj ht' <| cj hA1 <| cj hA2 <| cj hA3 <| cj hA4 h3') ?_
      rw [h3] at cm ⊢
      refine callF_pure (cm hp _) ?_
      rintro _ h2 hx2 rfl
      have hx := hx.trans hx2
      refine ww1 (cj hp' <| cj hA1 <| cj hA2 <| cj hA3 <| cj hA4 h3') ?_
      refine ⟨hx, bo_iff ⟨fun q => ⟨hp, .inl ⟨ht, hA.1.1.1, hA.1.1.2, ⟨hA.1.2, hA.2⟩, fun u => q ⟨u.2.2.1, u.2.2.2.1, u.2.2.2.2.1, u.2.2.2.2.2⟩⟩⟩, fun q u => ?_⟩⟩
      rcases q.2 with z | z
      ·exact z.2.2.2.2 ⟨hN, h3, u.1, u.2.1, u.2.2.1, u.2.2.2⟩
      ·exact z.1 ht
     ·refine ww1 (cj hp' <| cj g1 <| cj ht' <| cj hA1 <| cj hA2 <| cj hA3 <| cj hA4 h3) ?_
      exact ⟨hx, bo_iff ⟨fun q => ⟨hp, .inl ⟨ht, hA.1.1.1, hA.1.1.2, ⟨hA.1.2, hA.2⟩, fun u => h3 u.2.1⟩⟩, fun q => trivial⟩⟩
    ·refine ww1 (cj hp' <| cj g1 <| cj ht' hA) ?_
     refine ⟨hx, bo_iff ⟨fun q => q.elim, fun q => ?_⟩⟩
     rcases q.2 with z | z
     ·exact hA ⟨⟨⟨z.2.1, z.2.2.1⟩, z.2.2.2.1.1⟩, z.2.2.2.1.2⟩
     ·exact z.1 ht
 ·cases hN : w.neg with
  | true =>
    rw [hN] at g1
    refine ww1 (cj hp' <| cj g1 ht) ?_
    refine ⟨hx, bo_iff ⟨fun q => q.elim, fun q => ?_⟩⟩
    rcases q.2 with z | z
    ·exact ht z.1
    ·rw [hN] at z; cases z.2.1
  | false =>
    rw [hN, btF] at g1 cm
    by_cases hA : ((((0 ≤ w.a1 ∧ w.a1 ≤ 9999) ∧ 0 ≤ w.a2) ∧ w.a2 ≤ 12) ∧ 0 ≤ w.a3) ∧ w.a3 ≤ 31
    ·have hA1 := eq_true hA.1.1.1.1.1
     have hA2 := eq_true hA.1.1.1.1.2
     have hA3 := eq_true hA.1.1.1.2
     have hA4 := eq_true hA.1.1.2
     have hA5 := eq_true hA.1.2
     have hA6 := eq_true hA.2
     by_cases hD : t = 10
     ·have hD' := eq_true hD
      refine ww1 (cj hp' <| cj g1 <| cj ht <| cj hA1 <| cj hA2 <| cj hA3 <| cj hA4 <| cj hA5 <| cj hA6 hD') ?_
      refine callF_pure (cm hp _) ?_
      rintro _ h2 hx2 rfl
      have hx := hx.trans hx2
      refine ww1 (cj hp' <| cj hA1 <| cj hA2 <| cj hA3 <| cj hA4 <| cj hA5 <| cj hA6 hD') ?_
      trace_state
      refine ⟨hx, bo_iff ⟨fun q => ⟨hp, .inr ⟨ht, hN, ⟨hA.1.1.1.1.1, hA.1.1.1.1.2⟩, ⟨hA.1.1.1.2, hA.1.1.2⟩, ⟨hA.1.2, hA.2⟩, fun u => u.2 q⟩⟩, fun q => ?_⟩⟩
      rcases q.2 with z | z
      ·exact absurd z.1 ht
      ·exact Classical.byContradiction fun u => z.2.2.2.2.2 ⟨hD, u⟩
     ·refine ww1 (cj hp' <| cj g1 <| cj ht <| cj hA1 <| cj hA2 <| cj hA3 <| cj hA4 <| cj hA5 <| cj hA6 hD) ?_
      exact ⟨hx, bo_iff ⟨fun q => ⟨hp, .inr ⟨ht, hN, ⟨hA.1.1.1.1.1, hA.1.1.1.1.2⟩, ⟨hA.1.1.1.2, hA.1.1.2⟩, ⟨hA.1.2, hA.2⟩, fun u => hD u.1⟩⟩, fun q => trivial⟩⟩
    ·refine ww1 (cj hp' <| cj g1 <| cj ht hA) ?_
     refine ⟨hx, bo_iff ⟨fun q => q.elim, fun q => ?_⟩⟩
     rcases q.2 with z | z
     ·exact ht z.1
     ·exact hA ⟨⟨⟨⟨⟨z.2.2.1.1, z.2.2.1.2⟩, z.2.2.2.1.1⟩, z.2.2.2.1.2⟩, z.2.2.2.2.1.1⟩, z.2.2.2.2.1.2⟩
end
noncomputable section
structure KX (h0 : H) (n0 r p q : Nat) (R : Rd) (w : WH) (h : H) : Prop where
 rd : RdR 142 n0 r R h0 h
 len : R.bs.length < 2 ^ 28
 gp : h.get p = some (.cells w.cells 132 false)
 gq : h.get q = some (.cells zWH 132 false)
 np : h0.nx ≤ p ∧ p < h.nx ∧ h0.nx ≤ q ∧ q < h.nx ∧ p ≠ q
 hr : r < h0.nx
theorem KX.call {h0 h1 h2 : H} {n0 r p q : Nat} {R R' : Rd} {w : WH} (a : KX h0 n0 r p q R w h1) (b : RdR 142 n0 r R' h1 h2) (hl : R'.bs.length ≤ R.bs.length) : KX h0 n0 r p q R' w h2 := by
 have np := a.np
 have hr := a.hr
 have n2 := b.2.1
 exact ⟨a.rd.trans b, Nat.lt_of_le_of_lt hl a.len, by rw [b.2.2 _ (by omega) (by omega)]; exact a.gp, by rw [b.2.2 _ (by omega) (by omega)]; exact a.gq, by omega, hr⟩
theorem KX.put {h0 h1 : H} {n0 r p q : Nat} {R : Rd} {w : WH} (a : KX h0 n0 r p q R w h1) (w' : WH) : KX h0 n0 r p q R w' (h1.put p (.cells w'.cells 132 false)) := by
 have np := a.np
 have hr := a.hr
 have n0r := a.rd.1.lt
 exact ⟨⟨a.rd.1.keep (Nat.le_refl _) (put_ne (by omega)) fun k hk => put_ne (by omega), a.rd.2.put_new np.1 _⟩, a.len, put_eq rfl, by rw [put_ne (by omega)]; exact a.gq, np, hr⟩
theorem KX.ext {h0 h1 h2 : H} {n0 r p q : Nat} {R : Rd} {w : WH} (a : KX h0 n0 r p q R w h1) (b : Ext h1 h2) : KX h0 n0 r p q R w h2 := by
 have np := a.np
 have n2 := b.1
 exact ⟨⟨a.rd.1.ext b, a.rd.2.trans (But.of_ext b)⟩, a.len, by rw [b.2 _ np.2.1]; exact a.gp, by rw [b.2 _ np.2.2.2.1]; exact a.gq, by omega, a.hr⟩
theorem KX.fin {h0 h1 : H} {n0 r p q : Nat} {R : Rd} {w : WH} (a : KX h0 n0 r p q R w h1) (o : Ob) : RdR 142 n0 r R h0 (h1.put q o) := by
 have np := a.np
 have hr := a.hr
 have n0r := a.rd.1.lt
 exact ⟨a.rd.1.keep (Nat.le_refl _) (put_ne (by omega)) fun k hk => put_ne (by omega), a.rd.2.put_new np.2.2.1 _⟩
theorem clkX_len (w : WH) (R : Rd) (m : Prop) : (clkX w R m).2.bs.length ≤ R.bs.length := by
 unfold clkX
 have h1 := byt_len R
 have h2 := byt_len R.byt.2
 have h3 := byt_len R.byt.2.byt.2
 have h4 := Rd.fix_len R.byt.2.byt.2.byt.2 4
 split
 ·show (R.byt.2.byt.2.byt.2.fix 4).2.bs.length ≤ _; omega
 ·show R.byt.2.byt.2.byt.2.bs.length ≤ _; omega
theorem clkX_yes {w : WH} {R : Rd} {m : Prop} (h : m) : clkX w R m = ({ w with a4 := R.byt.1, a5 := R.byt.2.byt.1, a6 := R.byt.2.byt.2.byt.1, a7 := IntKind.i64.wrap (R.byt.2.byt.2.byt.2.fix 4).1 }, (R.byt.2.byt.2.byt.2.fix 4).2) := if_pos h
theorem clkX_no {w : WH} {R : Rd} {m : Prop} (h : ¬ m) : clkX w R m = ({ w with a4 := R.byt.1, a5 := R.byt.2.byt.1, a6 := R.byt.2.byt.2.byt.1 }, R.byt.2.byt.2.byt.2) := if_neg h
variable {S : Set0} (hS : StdX S)
include hS
theorem xclockof_spec {n0 r : Nat} {R : Rd} {h : H} (a : RdS 5 142 n0 r R h) (hl : R.bs.length < 2 ^ 28) (w : WH) (m : Prop) : callW S.cfg (· = r) 163 [.ptr r 0, .agg w.cells, bo m] h fun v h' => v = .agg (clkX w R m).1.cells ∧ RdR 142 n0 r (clkX w R m).2 h h' := by
 refine into Tryz.f163 _ Tryz.func163 (hS.ownX _ (by decide)) rfl rfl (by kernel_rfl) (by kernel_rfl) ?_
 obtain ⟨wn, a1, a2, a3, a4, a5, a6, a7⟩ := w
 have okf : ∀ k, k = r → fresh h.nx (· = r) k := fun k hk => .inr hk
 unfold WH.cells
 refine ww1 @Tryz.f163.eq_1 ?_
 generalize hhA : H.push (H.push h _) _ = hA
 have f : KX h n0 r h.nx (h.nx + 1) R ⟨wn, a1, a2, a3, a4, a5, a6, a7⟩ hA := by
  have hxA : Ext h hA := by rw [← hhA]; exact ((Ext.refl h).push _).push _
  have hnA : hA.nx = h.nx + 2 := by rw [← hhA]; rfl
  exact ⟨⟨a.ext hxA, But.of_ext hxA⟩, hl, by rw [← hhA, push_ne (by simp only [push_nx]; omega)]; exact push_eq rfl, by rw [← hhA]; exact push_eq rfl, by omega, a.lt.2⟩
 clear hhA
 refine callF_of (fbyte_spec hS.toStdF f.rd.1 f.len) okf ?_
 rintro _ h1 ⟨rfl, r1⟩
 have hw := Rd.byt_in f.rd.1.cell.choose_spec.2.1.1
 have hw2 : IntKind.i64.wrap (R).byt.1 = (R).byt.1 := i64_in _ (by omega)
 have f := f.call r1 (byt_len _)
 have g := f.gp
 have gq := f.gq
 have np := f.np
 unfold WH.cells at g
 refine ww1 (cj g <| cj gq hw2) ?_
 have f := f.put ⟨wn, a1, a2, a3, R.byt.1, a5, a6, a7⟩
 simp only [WH.cells] at f
 revert f
 generalize H.put h1 _ _ = hC
 intro f
 clear hw hw2 r1 g gq np
 refine callF_of (fbyte_spec hS.toStdF f.rd.1 f.len) okf ?_
 rintro _ h2 ⟨rfl, r2⟩
 have hw := Rd.byt_in f.rd.1.cell.choose_spec.2.1.1
 have hw2 : IntKind.i64.wrap (R.byt.2).byt.1 = (R.byt.2).byt.1 := i64_in _ (by omega)
 have f := f.call r2 (byt_len _)
 have g := f.gp
 have gq := f.gq
 have np := f.np
 unfold WH.cells at g
 refine ww1 (cj g <| cj gq hw2) ?_
 have f := f.put ⟨wn, a1, a2, a3, R.byt.1, R.byt.2.byt.1, a6, a7⟩
 simp only [WH.cells] at f
 revert f
 generalize H.put h2 _ _ = hC
 intro f
 clear hw hw2 r2 g gq np
 refine callF_of (fbyte_spec hS.toStdF f.rd.1 f.len) okf ?_
 rintro _ h3 ⟨rfl, r3⟩
 have hw := Rd.byt_in f.rd.1.cell.choose_spec.2.1.1
 have hw2 : IntKind.i64.wrap (R.byt.2.byt.2).byt.1 = (R.byt.2.byt.2).byt.1 := i64_in _ (by omega)
 have f := f.call r3 (byt_len _)
 have g := f.gp
 have gq := f.gq
 have np := f.np
 unfold WH.cells at g
 refine ww1 (cj g <| cj gq hw2) ?_
 have f := f.put ⟨wn, a1, a2, a3, R.byt.1, R.byt.2.byt.1, R.byt.2.byt.2.byt.1, a7⟩
 simp only [WH.cells] at f
 revert f
 generalize H.put h3 _ _ = hC
 intro f
 clear hw hw2 r3 g gq np
 refine ⟨fun hm => ?_, fun hm => ?_⟩
 ·have e := clkX_yes (w := ⟨wn, a1, a2, a3, a4, a5, a6, a7⟩) (R := R) trivial
  refine callF_of (ffixed_spec hS.toStdF f.rd.1 f.len 4 (by omega)) okf ?_
  rintro _ h4 ⟨rfl, r4⟩
  have f := f.call r4 (Rd.fix_len _ _)
  have g := f.gp
  have gq := f.gq
  have np := f.np
  unfold WH.cells at g
  refine ww1 (cj g gq) ?_
  have f := f.put ⟨wn, a1, a2, a3, R.byt.1, R.byt.2.byt.1, R.byt.2.byt.2.byt.1, IntKind.i64.wrap (R.byt.2.byt.2.byt.2.fix 4).1⟩
  simp only [WH.cells] at f
  revert f
  generalize H.put h4 _ _ = hC
  intro f
  clear r4 g gq np
  rw [e]
  exact ⟨.inr (.inl (Nat.le_succ _)), rfl, f.fin _⟩
 ·have e := clkX_no (w := ⟨wn, a1, a2, a3, a4, a5, a6, a7⟩) (R := R) (fun q : False => q)
  rw [e]
  exact ⟨.inr (.inl (Nat.le_succ _)), rfl, f.fin _⟩
end
noncomputable section
def xwA (R : Rd) (n : Int) : WH × Rd := ((clkX ⟨@decide (R.byt.1 = 1) (Classical.propDecidable _), 0, 0, IntKind.i64.wrap (R.byt.2.fix 4).1, 0, 0, 0, 0⟩ (R.byt.2.fix 4).2 (n = 12)).1, (clkX ⟨@decide (R.byt.1 = 1) (Classical.propDecidable _), 0, 0, IntKind.i64.wrap (R.byt.2.fix 4).1, 0, 0, 0, 0⟩ (R.byt.2.fix 4).2 (n = 12)).2.bad (1 < R.byt.1))
def xwB (R : Rd) (n : Int) : WH × Rd := @ite _ ((R.fix 2).2.byt.2.byt.2.e = 0 ∧ 4 < n) (Classical.propDecidable _) (clkX ⟨false, IntKind.i64.wrap (R.fix 2).1, (R.fix 2).2.byt.1, (R.fix 2).2.byt.2.byt.1, 0, 0, 0, 0⟩ (R.fix 2).2.byt.2.byt.2 (n = 11)) (⟨false, IntKind.i64.wrap (R.fix 2).1, (R.fix 2).2.byt.1, (R.fix 2).2.byt.2.byt.1, 0, 0, 0, 0⟩, (R.fix 2).2.byt.2.byt.2)
def xwT1 (R : Rd) (n : Int) : WH × Rd := @ite _ (R.e = 0 ∧ 0 < n) (Classical.propDecidable _) (xwA R n) (WH.z, R)
def xwT2 (R : Rd) (n : Int) : WH × Rd := @ite _ (R.e = 0 ∧ 0 < n) (Classical.propDecidable _) (xwB R n) (WH.z, R)
def xwT (F : Int × Rd) (t : Int) : WH × Rd := @ite _ (t = 11) (Classical.propDecidable _) (xwT1 (F.2.bad ((¬ F.1 = 0 ∧ ¬ F.1 = 8) ∧ ¬ F.1 = 12)) F.1) (xwT2 (F.2.bad (((¬ F.1 = 0 ∧ ¬ F.1 = 4) ∧ ¬ F.1 = 7) ∧ ¬ F.1 = 11)) F.1)
theorem wh_f (a1 a2 a3 a4 a5 a6 a7 : Int) : WH.cells ⟨false, a1, a2, a3, a4, a5, a6, a7⟩ = [bo False, .int .i64 a1, .int .i64 a2, .int .i64 a3, .int .i64 a4, .int .i64 a5, .int .i64 a6, .int .i64 a7] := by simp only [WH.cells, btF]
theorem KX.put' {h0 h1 h2 : H} {n0 r p q : Nat} {R : Rd} {w : WH} (a : KX h0 n0 r p q R w h1) (w' : WH) (e : h1.put p (.cells w'.cells 132 false) = h2) : KX h0 n0 r p q R w' h2 := e ▸ a.put w'
variable {S : Set0} (hS : StdX S)
include hS
theorem xwhenof_spec {n0 r : Nat} {R : Rd} {h : H} (a : RdS 5 142 n0 r R h) (hl : R.bs.length < 2 ^ 28) (t : Int) : callW S.cfg (· = r) 160 [.ptr r 0, .int .u8 t] h fun v h' => v = .agg (xwT R.byt t).1.cells ∧ RdR 142 n0 r ((xwT R.byt t).2.bad (¬ fineP (xwT R.byt t).1 t)) h h' := by
 refine into Tryz.f160 _ Tryz.func160 (hS.ownX _ (by decide)) rfl rfl (by kernel_rfl) (by kernel_rfl) ?_
 have okf : ∀ k, k = r → fresh h.nx (· = r) k := fun k hk => .inr hk
 refine ww1 @Tryz.f160.eq_1 ?_
 generalize hhA : H.push h _ = hA
 have hxA : Ext h hA := by rw [← hhA]; exact (Ext.refl h).push _
 have hnA : hA.nx = h.nx + 1 := by rw [← hhA]; rfl
 have gZ : hA.get h.nx = some (.cells zWH 132 false) := by rw [← hhA]; exact push_eq rfl
 clear hhA
 have hw := Rd.byt_in a.cell.choose_spec.2.1.1
 have hw2 : IntKind.i64.wrap R.byt.1 = R.byt.1 := i64_in _ (by omega)
 have hr := a.lt
 refine callF_of (fbyte_spec hS.toStdF (a.ext hxA) hl) okf ?_
 have lb := byt_len R
 rintro _ h1 ⟨rfl, r1⟩
 generalize R.byt = F at *
 obtain ⟨n, R⟩ := F
 simp only at hw hw2 r1 lb
 have n1 := r1.2.1
 have gZ1 : h1.get h.nx = some (.cells zWH 132 false) := by rw [r1.2.2 _ (by omega) (by omega)]; exact gZ
 refine wr1 hw2 ?_
 have f : KX h n0 r h1.nx h.nx R WH.z (h1.push (.cells WH.z.cells 132 false)) := by
  have x1 : Ext h1 (h1.push (.cells WH.z.cells 132 false)) := (Ext.refl h1).push _
  exact ⟨⟨r1.1.ext x1, (But.of_ext hxA).trans (r1.2.trans (But.of_ext x1))⟩, by omega, push_eq rfl, by rw [x1.2 _ (by omega)]; exact gZ1, ⟨by omega, Nat.lt_succ_self _, Nat.le_refl _, by show h.nx < h1.nx + 1; omega, by omega⟩, by omega⟩
 rw [zWH_eq] at f
 revert f
 generalize H.push h1 _ = hB
 intro f
 have hno : h.nx < h1.nx := by omega
 generalize h1.nx = o at *
 refine ⟨.inr (.inl (by omega)), ?_⟩
 generalize hq : H.put _ _ _ = hC
 have f := f.put' (h2 := hC) WH.z (by rw [zWH_eq]; exact hq)
 clear hq
 refine run_cut (fun env' h' => env' 0 = .ptr r 0 ∧ env' 1 = .int .u8 t ∧ env' 4 = .ptr h.nx 0 ∧ env' 6 = .ptr o 0 ∧ KX h n0 r o h.nx (xwT (n, R) t).2 (xwT (n, R) t).1 h') ?_ ?_
 ·unfold xwT
  by_cases ht : t = 11
  ·rw [if_pos ht]
   have ht' := eq_true ht
   refine ww1 ht' ?_
   refine callF_of (fwrong_spec hS.toStdF f.rd.1 ((¬ n = 0 ∧ ¬ n = 8) ∧ ¬ n = 12)) okf ?_
   rintro _ h2 r2
   have f := f.call r2 (by rw [Rd.bad_bs]; exact Nat.le_refl _)
   clear r2
   generalize R.bad ((¬ n = 0 ∧ ¬ n = 8) ∧ ¬ n = 12) = R at *
   obtain ⟨⟨v2, g2, _, _⟩, _⟩ := f.rd.1
   unfold xwT1
   by_cases hgo : R.e = 0 ∧ 0 < n
   ·rw [if_pos hgo]
    have q1 := eq_true hgo.1
    have q2 := eq_true hgo.2
    refine ww1 (cj ht' <| cj g2 <| cj q1 q2) ?_
    unfold xwA
    refine callF_of (fbyte_spec hS.toStdF f.rd.1 f.len) okf ?_
    have hw := Rd.byt_in f.rd.1.cell.choose_spec.2.1.1
    have hw2 : IntKind.i64.wrap (R).byt.1 = (R).byt.1 := i64_in _ (by omega)
    rintro _ h2 ⟨rfl, r2⟩
    have f := f.call r2 (byt_len _)
    have g := f.gp
    have gq := f.gq
    have np := f.np
    unfold WH.cells at g
    refine ww1 (cj g hw2) ?_
    refine ⟨.inr (.inl (by omega)), ?_⟩
    generalize hq : H.put _ _ _ = hC
    have f := f.put' (h2 := hC) ⟨@decide (R.byt.1 = 1) (Classical.propDecidable _), 0, 0, 0, 0, 0, 0, 0⟩ hq
    clear hq
    clear hw hw2 r2 g gq np
    refine callF_of (ffixed_spec hS.toStdF f.rd.1 f.len 4 (by omega)) okf ?_
    rintro _ h2 ⟨rfl, r2⟩
    have f := f.call r2 (Rd.fix_len _ _)
    have g := f.gp
    have gq := f.gq
    have np := f.np
    unfold WH.cells at g
    refine ww1 g ?_
    refine ⟨.inr (.inl (by omega)), ?_⟩
    generalize hq : H.put _ _ _ = hC
    have f := f.put' (h2 := hC) ⟨@decide (R.byt.1 = 1) (Classical.propDecidable _), 0, 0, IntKind.i64.wrap (R.byt.2.fix 4).1, 0, 0, 0, 0⟩ hq
    clear hq
    clear r2 g gq np
    have cs := xclockof_spec hS f.rd.1 f.len ⟨@decide (R.byt.1 = 1) (Classical.propDecidable _), 0, 0, IntKind.i64.wrap (R.byt.2.fix 4).1, 0, 0, 0, 0⟩ (n = 12)
    refine callF_of cs okf ?_
    rintro _ h2 ⟨rfl, r2⟩
    have f := f.call r2 (clkX_len _ _ _)
    clear r2
    generalize clkX ⟨@decide (R.byt.1 = 1) (Classical.propDecidable _), 0, 0, IntKind.i64.wrap (R.byt.2.fix 4).1, 0, 0, 0, 0⟩ (R.byt.2.fix 4).2 (n = 12) = K at *
    obtain ⟨⟨b, x1, x2, x3, x4, x5, x6, x7⟩, R9⟩ := K
    have g := f.gp
    have np := f.np
    unfold WH.cells at g ⊢
    refine ww1 g ?_
    refine ⟨.inr (.inl (by omega)), ?_⟩
    generalize hq : H.put _ _ _ = hC
    have f := f.put' (h2 := hC) ⟨b, x1, x2, x3, x4, x5, x6, x7⟩ hq
    clear hq
    clear g np
    refine callF_of (fwrong_spec hS.toStdF f.rd.1 (1 < R.byt.1)) okf ?_
    rintro _ h2 r2
    have f := f.call r2 (by rw [Rd.bad_bs]; exact Nat.le_refl _)
    refine ww0 ?_
    exact f
   ·rw [if_neg hgo]
    refine ww1 (cj ht' <| cj g2 hgo) ?_
    exact f
  ·rw [if_neg ht]
   refine ww1 ht ?_
   refine callF_of (fwrong_spec hS.toStdF f.rd.1 (((¬ n = 0 ∧ ¬ n = 4) ∧ ¬ n = 7) ∧ ¬ n = 11)) okf ?_
   rintro _ h2 r2
   have f := f.call r2 (by rw [Rd.bad_bs]; exact Nat.le_refl _)
   clear r2
   generalize R.bad (((¬ n = 0 ∧ ¬ n = 4) ∧ ¬ n = 7) ∧ ¬ n = 11) = R at *
   obtain ⟨⟨v2, g2, _, _⟩, _⟩ := f.rd.1
   unfold xwT2
   by_cases hgo : R.e = 0 ∧ 0 < n
   ·rw [if_pos hgo]
    have q1 := eq_true hgo.1
    have q2 := eq_true hgo.2
    unfold xwB
    have f : KX h n0 r o h.nx R ⟨false, 0, 0, 0, 0, 0, 0, 0⟩ _ := f
    refine ww1 (cj ht <| cj g2 <| cj q1 q2) ?_
    refine callF_of (ffixed_spec hS.toStdF f.rd.1 f.len 2 (by omega)) okf ?_
    rintro _ h2 ⟨rfl, r2⟩
    have f := f.call r2 (Rd.fix_len _ _)
    have g := f.gp
    have gq := f.gq
    have np := f.np
    unfold WH.cells at g
    refine ww1 g ?_
    refine ⟨.inr (.inl (by omega)), ?_⟩
    generalize hq : H.put _ _ _ = hC
    have f := f.put' (h2 := hC) ⟨false, IntKind.i64.wrap (R.fix 2).1, 0, 0, 0, 0, 0, 0⟩ (by simp only [WH.cells, btF]; exact hq)
    clear hq
    clear r2 g gq np
    refine callF_of (fbyte_spec hS.toStdF f.rd.1 f.len) okf ?_
    have hw := Rd.byt_in f.rd.1.cell.choose_spec.2.1.1
    have hw2 : IntKind.i64.wrap ((R.fix 2).2).byt.1 = ((R.fix 2).2).byt.1 := i64_in _ (by omega)
    rintro _ h2 ⟨rfl, r2⟩
    have f := f.call r2 (byt_len _)
    have g := f.gp
    have gq := f.gq
    have np := f.np
    unfold WH.cells at g
    refine ww1 (cj g hw2) ?_
    refine ⟨.inr (.inl (by omega)), ?_⟩
    generalize hq : H.put _ _ _ = hC
    have f := f.put' (h2 := hC) ⟨false, IntKind.i64.wrap (R.fix 2).1, (R.fix 2).2.byt.1, 0, 0, 0, 0, 0⟩ (by simp only [WH.cells, btF]; exact hq)
    clear hq
    clear hw hw2 r2 g gq np
    refine callF_of (fbyte_spec hS.toStdF f.rd.1 f.len) okf ?_
    have hw := Rd.byt_in f.rd.1.cell.choose_spec.2.1.1
    have hw2 : IntKind.i64.wrap ((R.fix 2).2.byt.2).byt.1 = ((R.fix 2).2.byt.2).byt.1 := i64_in _ (by omega)
    rintro _ h2 ⟨rfl, r2⟩
    have f := f.call r2 (byt_len _)
    have g := f.gp
    have gq := f.gq
    have np := f.np
    unfold WH.cells at g
    obtain ⟨⟨v3, g3, _, _⟩, _⟩ := f.rd.1
    by_cases hg2 : (R.fix 2).2.byt.2.byt.2.e = 0 ∧ 4 < n
    ·have q3 := eq_true hg2.1
     have q4 := eq_true hg2.2
     rw [if_pos hg2]
     refine ww1 (cj g <| cj hw2 <| cj g3 <| cj q3 q4) ?_
     refine ⟨.inr (.inl (by omega)), ?_⟩
     generalize hq : H.put _ _ _ = hC
     have f := f.put' (h2 := hC) ⟨false, IntKind.i64.wrap (R.fix 2).1, (R.fix 2).2.byt.1, (R.fix 2).2.byt.2.byt.1, 0, 0, 0, 0⟩ (by simp only [WH.cells, btF]; exact hq)
     clear hq
     clear hw hw2 r2 g gq np g3
     have cs := xclockof_spec hS f.rd.1 f.len ⟨false, IntKind.i64.wrap (R.fix 2).1, (R.fix 2).2.byt.1, (R.fix 2).2.byt.2.byt.1, 0, 0, 0, 0⟩ (n = 11)
     rw [wh_f] at cs
     refine callF_of cs okf ?_
     rintro _ h2 ⟨rfl, r2⟩
     have f := f.call r2 (clkX_len _ _ _)
     clear r2
     generalize clkX ⟨false, IntKind.i64.wrap (R.fix 2).1, (R.fix 2).2.byt.1, (R.fix 2).2.byt.2.byt.1, 0, 0, 0, 0⟩ (R.fix 2).2.byt.2.byt.2 (n = 11) = K at *
     obtain ⟨⟨b, x1, x2, x3, x4, x5, x6, x7⟩, R9⟩ := K
     have g := f.gp
     have np := f.np
     unfold WH.cells at g ⊢
     refine ww1 g ?_
     refine ⟨.inr (.inl (by omega)), ?_⟩
     generalize hq : H.put _ _ _ = hC
     have f := f.put' (h2 := hC) ⟨b, x1, x2, x3, x4, x5, x6, x7⟩ hq
     clear hq
     clear g np
     exact f
    ·rw [if_neg hg2]
     refine ww1 (cj g <| cj hw2 <| cj g3 hg2) ?_
     refine ⟨.inr (.inl (by omega)), ?_⟩
     generalize hq : H.put _ _ _ = hC
     have f := f.put' (h2 := hC) ⟨false, IntKind.i64.wrap (R.fix 2).1, (R.fix 2).2.byt.1, (R.fix 2).2.byt.2.byt.1, 0, 0, 0, 0⟩ (by simp only [WH.cells, btF]; exact hq)
     clear hq
     clear hw hw2 r2 g gq np g3
     exact f
   ·rw [if_neg hgo]
    have hg3 : ¬ (R.e = 0 ∧ 4 < n) := fun q => hgo ⟨q.1, by omega⟩
    refine ww1 (cj ht <| cj g2 <| cj hgo hg3) ?_
    exact f
 ·rintro env' h' ⟨e0, e1, e4, e6, f⟩
  generalize xwT (n, R) t = T at *
  obtain ⟨W, Q⟩ := T
  have g := f.gp
  have gq := f.gq
  have np := f.np
  have wx := fun h => xwhen_spec hS W t h
  unfold WH.cells at g wx
  refine ww1 (cj e0 <| cj e1 <| cj e4 <| cj e6 g) ?_
  refine callF_pure (wx _) ?_
  rintro _ h2 hx2 rfl
  have f := f.ext hx2
  refine ww1 (cj e0 <| cj e1 <| cj e4 e6) ?_
  refine callF_of (fwrong_spec hS.toStdF f.rd.1 (¬ fineP W t)) okf ?_
  rintro _ h3 r3
  have f := f.call r3 (by rw [Rd.bad_bs]; exact Nat.le_refl _)
  have g := f.gp
  have gq := f.gq
  have np := f.np
  unfold WH.cells at g
  refine ww1 (cj e0 <| cj e1 <| cj e4 <| cj e6 <| cj g gq) ?_
  exact ⟨rfl, f.fin _⟩
end
noncomputable section
theorem ne4 : (4 : Int) ≠ 0 := by decide
theorem ne5 : (5 : Int) ≠ 0 := by decide
def Adv (R R' : Rd) (k : Nat) : Prop := R'.e = 0 → R.e = 0 ∧ k ≤ R.bs.length ∧ R'.bs = R.bs.drop k
theorem Adv.refl (R : Rd) : Adv R R 0 := fun h => ⟨h, Nat.zero_le _, by rw [List.drop_zero]⟩
theorem Adv.trans {R R1 R2 : Rd} {a b : Nat} (x : Adv R R1 a) (y : Adv R1 R2 b) : Adv R R2 (a + b) := fun h => by
 obtain ⟨h1, l1, e1⟩ := y h
 obtain ⟨h2, l2, e2⟩ := x h1
 rw [e2, List.length_drop] at l1
 exact ⟨h2, by omega, by rw [e1, e2, List.drop_drop]⟩
theorem adv_fix (R : Rd) (k : Nat) : Adv R (R.fix k).2 k := fun h => by
 have q := h
 rw [Rd.fix_e] at q
 refine ⟨q.1, q.2, ?_⟩
 unfold Rd.fix
 rw [if_neg (fun u => u q.1), if_neg (by omega)]
theorem adv_byt (R : Rd) : Adv R R.byt.2 1 := fun h => by
 unfold Rd.byt at h ⊢
 by_cases h0 : R.e = 0
 ·rw [if_neg (fun u => u h0)] at h ⊢
  by_cases h1 : R.bs.length < 1
  ·rw [if_pos h1] at h; exact absurd h ne4
  ·rw [if_neg h1] at h ⊢
   exact ⟨h0, by omega, rfl⟩
 ·rw [if_pos h0] at h
  exact absurd h h0
theorem adv_bad (R : Rd) (p : Prop) : Adv R (R.bad p) 0 := fun h => by
 have q := bad0 h
 exact ⟨q.1, Nat.zero_le _, by rw [Rd.bad_bs, List.drop_zero]⟩
theorem adv_clk (w : WH) (R : Rd) (m : Prop) : Adv R (clkX w R m).2 (@ite _ m (Classical.propDecidable _) 7 3) := by
 have b1 := adv_byt R
 have b2 := adv_byt R.byt.2
 have b3 := adv_byt R.byt.2.byt.2
 have f4 := adv_fix R.byt.2.byt.2.byt.2 4
 by_cases hm : m
 ·rw [clkX_yes hm, if_pos hm]
  exact ((b1.trans b2).trans b3).trans f4
 ·rw [clkX_no hm, if_neg hm]
  exact (b1.trans b2).trans b3
theorem go_byt {l : List Nat} {a : Nat} (h : a < l.length) : (Rd.mk (l.drop a) 0).byt = (byI l a, ⟨l.drop (a + 1), 0⟩) := by
 unfold Rd.byt
 rw [if_neg (fun u => u rfl), if_neg (by show ¬ (l.drop a).length < 1; rw [List.length_drop]; omega)]
 show (byI (l.drop a) 0, (⟨(l.drop a).drop 1, 0⟩ : Rd)) = _
 rw [List.drop_drop]
 unfold byI
 rw [List.getD_eq_getElem?_getD, List.getElem?_drop, ← List.getD_eq_getElem?_getD]
 rfl
theorem go_fix {l : List Nat} {a k : Nat} (h : a + k ≤ l.length) : (Rd.mk (l.drop a) 0).fix k = (rdX (l.drop a) k, ⟨l.drop (a + k), 0⟩) := by
 unfold Rd.fix
 rw [if_neg (fun u => u rfl), if_neg (by show ¬ (l.drop a).length < k; rw [List.length_drop]; omega)]
 show (rdX (l.drop a) k, (⟨(l.drop a).drop k, 0⟩ : Rd)) = _
 rw [List.drop_drop]
theorem rdX_congr {a b : List Nat} : ∀ k, (∀ j, j < k → byI a j = byI b j) → rdX a k = rdX b k
 | 0, _ => rfl
 | k + 1, h => by
   show iOr .u64 (rdX a k) (iShl .u64 (byI a k) _) = iOr .u64 (rdX b k) (iShl .u64 (byI b k) _)
   rw [rdX_congr k fun j hj => h j (by omega), h k (by omega)]
theorem byI_drop (l : List Nat) (a j : Nat) : byI (l.drop a) j = byI l (a + j) := by
 unfold byI
 rw [List.getD_eq_getElem?_getD, List.getElem?_drop, ← List.getD_eq_getElem?_getD]
section
variable {l : List Nat} {m : Nat} (hm : l.getD 0 0 = m) (hl : 1 + m ≤ l.length) (h13 : m ≤ 13)
include hm hl h13
theorem whenC_in {j : Nat} (h : j < m) : byI (whenC l) j = byI l (1 + j) := by
 unfold whenC byI
 rw [hm]
 have e1 : ((l.take (1 + m)).drop 1).length = m := by rw [List.length_drop, List.length_take]; omega
 rw [List.getD_eq_getElem?_getD, List.getElem?_append_left (by omega), List.getElem?_drop, List.getElem?_take, if_pos (by omega), ← List.getD_eq_getElem?_getD]
theorem whenC_out {j : Nat} (h : m ≤ j) : byI (whenC l) j = 0 := by
 unfold whenC byI
 rw [hm]
 have e1 : ((l.take (1 + m)).drop 1).length = m := by rw [List.length_drop, List.length_take]; omega
 rw [List.getD_eq_getElem?_getD, List.getElem?_append_right (by omega), List.getElem?_drop, List.getElem?_replicate]
 split <;> rfl
theorem whenC_len : (whenC l).length = 13 := by
 unfold whenC
 rw [hm]
 have e1 : ((l.take (1 + m)).drop 1).length = m := by rw [List.length_drop, List.length_take]; omega
 rw [List.length_append, e1, List.length_drop, List.length_replicate]
 omega
theorem whenN_in {i k : Nat} (h : i + k ≤ m) : whenN (whenC l) i k = IntKind.i64.wrap (rdX (l.drop (1 + i)) k) := by
 unfold whenN
 rw [if_neg (by rw [List.length_drop, whenC_len hm hl h13]; omega)]
 congr 1
 refine rdX_congr k fun j hj => ?_
 rw [byI_drop, byI_drop, whenC_in hm hl h13 (by omega), Nat.add_assoc]
theorem whenN_out {i k : Nat} (h : m ≤ i) (hk : i + k ≤ 13) : whenN (whenC l) i k = 0 := by
 unfold whenN
 rw [if_neg (by rw [List.length_drop, whenC_len hm hl h13]; omega)]
 have : rdX ((whenC l).drop i) k = rdX (List.replicate k 0) k := rdX_congr k fun j hj => by
  rw [byI_drop, whenC_out hm hl h13 (by omega), byI_zeros]
 rw [this, rdX_zeros]
 rfl
theorem whenN_one (hb : ∀ x ∈ l, x < 256) {i : Nat} (h : i + 1 ≤ m) : whenN (whenC l) i 1 = byI l (1 + i) := by
 rw [whenN_in hm hl h13 h, rdX_one (fun x hx => hb x (List.mem_of_mem_drop hx)), byI_drop, Nat.add_zero]
 have := byI_in hb (1 + i)
 exact i64_in _ (by omega)
end
def WRel (l : List Nat) (t : Int) (R : Rd) : Prop := (R.e = 0 ↔ (whenF l t).2.2 = 0) ∧ (R.e = 0 → R.bs = l.drop (1 + l.getD 0 0) ∧ 1 + l.getD 0 0 ≤ l.length ∧ (whenF l t).2.1 = ((1 + l.getD 0 0 : Nat) : Int))
theorem wrel_no {l : List Nat} {t : Int} {R : Rd} (h : R.e ≠ 0) (q : (whenF l t).2.2 ≠ 0) : WRel l t R := ⟨⟨fun w => absurd w h, fun w => absurd w q⟩, fun w => absurd w h⟩
theorem wrel_go {l : List Nat} {t : Int} {W : WH} {P : Prop} (h0 : ¬ l.length = 0) (h1 : byI l 0 ∈ whenSz t) (h2 : ¬ l.length < 1 + l.getD 0 0) (hW : W = whenW (whenC l) t) (hP : P ↔ t = 11 ∧ 1 < byI (whenC l) 0) : WRel l t (((Rd.mk (l.drop (1 + l.getD 0 0)) 0).bad P).bad (¬ fineP W t)) := by
 subst hW
 by_cases h3 : t = 11 ∧ 1 < byI (whenC l) 0
 ·rw [Rd.bad_yes ⟨rfl, hP.2 h3⟩, bad_e (show Rd.e ⟨_, 5⟩ ≠ 0 from ne5)]
  exact wrel_no ne5 (by rw [whenF3 h0 h1 h2 h3]; decide)
 ·rw [Rd.bad_no (fun q => h3 (hP.1 q.2))]
  by_cases h4 : fineP (whenW (whenC l) t) t
  ·rw [Rd.bad_no (show ¬ (Rd.e ⟨l.drop (1 + l.getD 0 0), 0⟩ = 0 ∧ ¬ fineP (whenW (whenC l) t) t) from fun q => q.2 h4)]
   rw [WRel, whenF5 h0 h1 h2 h3 h4]
   exact ⟨⟨fun _ => rfl, fun _ => rfl⟩, fun _ => ⟨rfl, by omega, by show 1 + byI l 0 = _; unfold byI; omega⟩⟩
  ·rw [Rd.bad_yes ⟨rfl, h4⟩]
   exact wrel_no ne5 (by rw [whenF4 h0 h1 h2 h3 h4]; decide)
theorem adv_no {l : List Nat} {R : Rd} {k : Nat} (h : Adv ⟨l.drop 1, 0⟩ R k) (hl : 0 < l.length) (hk : l.length < 1 + k) : R.e ≠ 0 := fun q => by
 have := (h q).2.1
 simp only [List.length_drop] at this
 omega
theorem adv_e {R R' : Rd} {k : Nat} (h : Adv R R' k) (q : R.e ≠ 0) : R'.e ≠ 0 := fun w => q (h w).1
theorem xw_plain {l : List Nat} (hb : ∀ x ∈ l, x < 256) (t : Int) : WRel l t ((xwT (Rd.mk l 0).byt t).2.bad (¬ fineP (xwT (Rd.mk l 0).byt t).1 t)) := by
 by_cases h0 : l.length = 0
 ·have e : (Rd.mk l 0).byt = (0, ⟨l, 4⟩) := by
   unfold Rd.byt
   rw [if_neg (fun u => u rfl), if_pos (by show l.length < 1; omega)]
  rw [e]
  refine wrel_no ?_ (by rw [whenF0 h0]; decide)
  have h4 : (Rd.mk l 4).e ≠ 0 := ne4
  have k : ∀ p, (Rd.mk l 4).bad p = ⟨l, 4⟩ := fun p => bad_e h4
  refine adv_e (adv_bad _ _) ?_
  unfold xwT
  by_cases ht : t = 11
  ·rw [if_pos ht]
   unfold xwT1
   rw [k, if_neg (fun q => h4 q.1)]
   exact h4
  ·rw [if_neg ht]
   unfold xwT2
   rw [k, if_neg (fun q => h4 q.1)]
   exact h4
 have e : (Rd.mk l 0).byt = (byI l 0, ⟨l.drop 1, 0⟩) := go_byt (l := l) (a := 0) (by omega)
 rw [e]
 have hn : byI l 0 = ((l.getD 0 0 : Nat) : Int) := rfl
 by_cases h1 : byI l 0 ∈ whenSz t
 case neg =>
  refine wrel_no ?_ (by rw [whenF1 h0 h1]; decide)
  unfold xwT xwT1 xwT2
  unfold whenSz at h1
  by_cases ht : t = 11
  ·rw [if_pos ht] at h1 ⊢
   simp only [List.mem_cons, List.not_mem_nil, or_false, not_or] at h1
   show Rd.e _ ≠ 0
   refine adv_e (adv_bad _ _) ?_
   rw [Rd.bad_yes ⟨rfl, ⟨h1.1, h1.2.1⟩, h1.2.2⟩, if_neg (fun q => ne5 q.1)]
   exact ne5
  ·rw [if_neg ht] at h1 ⊢
   simp only [List.mem_cons, List.not_mem_nil, or_false, not_or] at h1
   show Rd.e _ ≠ 0
   refine adv_e (adv_bad _ _) ?_
   rw [Rd.bad_yes ⟨rfl, ⟨⟨h1.1, h1.2.1⟩, h1.2.2.1⟩, h1.2.2.2⟩, if_neg (fun q => ne5 q.1)]
   exact ne5
 have h1' := h1
 unfold whenSz at h1'
 unfold xwT
 by_cases ht : t = 11
 ·rw [if_pos ht] at h1' ⊢
  simp only [List.mem_cons, List.not_mem_nil, or_false] at h1'
  dsimp only
  have hq : ¬ ((¬ byI l 0 = 0 ∧ ¬ byI l 0 = 8) ∧ ¬ byI l 0 = 12) := by omega
  rw [show (Rd.mk (l.drop 1) 0).bad ((¬ byI l 0 = 0 ∧ ¬ byI l 0 = 8) ∧ ¬ byI l 0 = 12) = ⟨l.drop 1, 0⟩ from Rd.bad_no fun q => hq q.2]
  unfold xwT1
  by_cases hz : byI l 0 = 0
  ·rw [if_neg (fun q => by have := q.2; omega)]
   have g0 : l.getD 0 0 = 0 := by omega
   have r := wrel_go (W := WH.z) (P := False) h0 h1 (by omega) (by
    unfold whenW WH.z
    rw [if_pos ht, whenC_out g0 (by omega) (by omega) (Nat.le_refl _), whenN_out g0 (by omega) (by omega) (by omega) (by omega), whenN_out g0 (by omega) (by omega) (by omega) (by omega), whenN_out g0 (by omega) (by omega) (by omega) (by omega), whenN_out g0 (by omega) (by omega) (by omega) (by omega), whenN_out g0 (by omega) (by omega) (by omega) (by omega)]
    rfl) ⟨fun q => q.elim, fun q => by rw [whenC_out g0 (by omega) (by omega) (Nat.le_refl _)] at q; omega⟩
   rw [Rd.bad_no (fun q => q.2), g0] at r
   exact r
  ·rw [if_pos ⟨rfl, by omega⟩]
   have hadv : Adv ⟨l.drop 1, 0⟩ (xwA ⟨l.drop 1, 0⟩ (byI l 0)).2 (l.getD 0 0) := by
    have A := (((adv_byt ⟨l.drop 1, 0⟩).trans (adv_fix _ 4)).trans (adv_clk ⟨@decide ((Rd.mk (l.drop 1) 0).byt.1 = 1) (Classical.propDecidable _), 0, 0, IntKind.i64.wrap ((Rd.mk (l.drop 1) 0).byt.2.fix 4).1, 0, 0, 0, 0⟩ _ (byI l 0 = 12))).trans (adv_bad _ (1 < (Rd.mk (l.drop 1) 0).byt.1))
    unfold xwA
    rcases (show byI l 0 = 8 ∨ byI l 0 = 12 by omega) with q | q
    ·rw [if_neg (by omega)] at A
     rw [show l.getD 0 0 = 1 + 4 + 3 + 0 by omega]
     exact A
    ·rw [if_pos q] at A
     rw [show l.getD 0 0 = 1 + 4 + 7 + 0 by omega]
     exact A
   by_cases h2 : l.length < 1 + l.getD 0 0
   ·exact wrel_no (adv_e (adv_bad _ _) (adv_no hadv (by omega) h2)) (by rw [whenF2 h0 h1 h2]; decide)
   ·have r := fun W P a b => wrel_go (W := W) (P := P) h0 h1 h2 a b
    unfold xwA
    rcases (show byI l 0 = 8 ∨ byI l 0 = 12 by omega) with q | q
    ·have g0 : l.getD 0 0 = 8 := by omega
     rw [go_byt (by omega), go_fix (by omega), clkX_no (by omega), go_byt (by omega), go_byt (by omega), go_byt (by omega)]
     have R := r ⟨@decide (byI l 1 = 1) (Classical.propDecidable _), 0, 0, IntKind.i64.wrap (rdX (l.drop (1 + 1)) 4), byI l (1 + 1 + 4), byI l (1 + 1 + 4 + 1), byI l (1 + 1 + 4 + 1 + 1), 0⟩ (1 < byI l 1) (by
      unfold whenW
      rw [if_pos ht, whenC_in g0 (by omega) (by omega) (by omega), whenN_in g0 (by omega) (by omega) (by omega), whenN_one g0 (by omega) (by omega) hb (by omega), whenN_one g0 (by omega) (by omega) hb (by omega), whenN_one g0 (by omega) (by omega) hb (by omega), whenN_out g0 (by omega) (by omega) (by omega) (by omega)]
      congr 1
      exact decide_eq_decide.2 Iff.rfl) (by rw [whenC_in g0 (by omega) (by omega) (by omega)]; exact ⟨fun q => ⟨ht, q⟩, fun q => q.2⟩)
     rw [g0] at R
     exact R
    ·have g0 : l.getD 0 0 = 12 := by omega
     rw [go_byt (by omega), go_fix (by omega), clkX_yes (by omega), go_byt (by omega), go_byt (by omega), go_byt (by omega), go_fix (by omega)]
     have R := r ⟨@decide (byI l 1 = 1) (Classical.propDecidable _), 0, 0, IntKind.i64.wrap (rdX (l.drop (1 + 1)) 4), byI l (1 + 1 + 4), byI l (1 + 1 + 4 + 1), byI l (1 + 1 + 4 + 1 + 1), IntKind.i64.wrap (rdX (l.drop (1 + 1 + 4 + 1 + 1 + 1)) 4)⟩ (1 < byI l 1) (by
      unfold whenW
      rw [if_pos ht, whenC_in g0 (by omega) (by omega) (by omega), whenN_in g0 (by omega) (by omega) (by omega), whenN_one g0 (by omega) (by omega) hb (by omega), whenN_one g0 (by omega) (by omega) hb (by omega), whenN_one g0 (by omega) (by omega) hb (by omega), whenN_in g0 (by omega) (by omega) (by omega)]
      congr 1
      exact decide_eq_decide.2 Iff.rfl) (by rw [whenC_in g0 (by omega) (by omega) (by omega)]; exact ⟨fun q => ⟨ht, q⟩, fun q => q.2⟩)
     rw [g0] at R
     exact R
 ·rw [if_neg ht] at h1' ⊢
  simp only [List.mem_cons, List.not_mem_nil, or_false] at h1'
  dsimp only
  have hq : ¬ (((¬ byI l 0 = 0 ∧ ¬ byI l 0 = 4) ∧ ¬ byI l 0 = 7) ∧ ¬ byI l 0 = 11) := by omega
  rw [show (Rd.mk (l.drop 1) 0).bad (((¬ byI l 0 = 0 ∧ ¬ byI l 0 = 4) ∧ ¬ byI l 0 = 7) ∧ ¬ byI l 0 = 11) = ⟨l.drop 1, 0⟩ from Rd.bad_no fun q => hq q.2]
  unfold xwT2
  have hP : ∀ {c : List Nat}, False ↔ t = 11 ∧ 1 < byI c 0 := fun {c} => ⟨fun q => q.elim, fun q => ht q.1⟩
  by_cases hz : byI l 0 = 0
  ·rw [if_neg (fun q => by have := q.2; omega)]
   have g0 : l.getD 0 0 = 0 := by omega
   have r := wrel_go (W := WH.z) (P := False) h0 h1 (by omega) (by
    unfold whenW WH.z
    rw [if_neg ht, whenN_out g0 (by omega) (by omega) (by omega) (by omega), whenN_out g0 (by omega) (by omega) (by omega) (by omega), whenN_out g0 (by omega) (by omega) (by omega) (by omega), whenN_out g0 (by omega) (by omega) (by omega) (by omega), whenN_out g0 (by omega) (by omega) (by omega) (by omega), whenN_out g0 (by omega) (by omega) (by omega) (by omega), whenN_out g0 (by omega) (by omega) (by omega) (by omega)]) hP
   rw [Rd.bad_no (fun q => q.2), g0] at r
   exact r
  ·rw [if_pos ⟨rfl, by omega⟩]
   have hadv : Adv ⟨l.drop 1, 0⟩ (xwB ⟨l.drop 1, 0⟩ (byI l 0)).2 (l.getD 0 0) := by
    have A := ((adv_fix ⟨l.drop 1, 0⟩ 2).trans (adv_byt _)).trans (adv_byt _)
    unfold xwB
    by_cases h4 : 4 < byI l 0
    ·by_cases he : ((Rd.mk (l.drop 1) 0).fix 2).2.byt.2.byt.2.e = 0
     ·rw [if_pos ⟨he, h4⟩]
      have B := A.trans (adv_clk ⟨false, IntKind.i64.wrap ((Rd.mk (l.drop 1) 0).fix 2).1, ((Rd.mk (l.drop 1) 0).fix 2).2.byt.1, ((Rd.mk (l.drop 1) 0).fix 2).2.byt.2.byt.1, 0, 0, 0, 0⟩ _ (byI l 0 = 11))
      rcases (show byI l 0 = 7 ∨ byI l 0 = 11 by omega) with q | q
      ·rw [if_neg (by omega)] at B
       rw [show l.getD 0 0 = 2 + 1 + 1 + 3 by omega]
       exact B
      ·rw [if_pos q] at B
       rw [show l.getD 0 0 = 2 + 1 + 1 + 7 by omega]
       exact B
     ·rw [if_neg (fun q => he q.1)]
      exact fun q => absurd q he
    ·rw [if_neg (fun q => h4 q.2)]
     rw [show l.getD 0 0 = 2 + 1 + 1 by omega]
     exact A
   by_cases h2 : l.length < 1 + l.getD 0 0
   ·exact wrel_no (adv_e (adv_bad _ _) (adv_no hadv (by omega) h2)) (by rw [whenF2 h0 h1 h2]; decide)
   ·have r := fun W a => wrel_go (W := W) (P := False) h0 h1 h2 a hP
    unfold xwB
    rw [go_fix (by omega), go_byt (by omega), go_byt (by omega)]
    rcases (show byI l 0 = 4 ∨ byI l 0 = 7 ∨ byI l 0 = 11 by omega) with q | q | q
    ·have g0 : l.getD 0 0 = 4 := by omega
     rw [if_neg (fun q => by have := q.2; omega)]
     have R := r ⟨false, IntKind.i64.wrap (rdX (l.drop 1) 2), byI l (1 + 2), byI l (1 + 2 + 1), 0, 0, 0, 0⟩ (by
      unfold whenW
      rw [if_neg ht, whenN_in g0 (by omega) (by omega) (by omega), whenN_one g0 (by omega) (by omega) hb (by omega), whenN_one g0 (by omega) (by omega) hb (by omega), whenN_out g0 (by omega) (by omega) (by omega) (by omega), whenN_out g0 (by omega) (by omega) (by omega) (by omega), whenN_out g0 (by omega) (by omega) (by omega) (by omega), whenN_out g0 (by omega) (by omega) (by omega) (by omega)])
     rw [Rd.bad_no (fun q => q.2), g0] at R
     exact R
    ·have g0 : l.getD 0 0 = 7 := by omega
     rw [if_pos ⟨rfl, by omega⟩, clkX_no (by omega), go_byt (by omega), go_byt (by omega), go_byt (by omega)]
     have R := r ⟨false, IntKind.i64.wrap (rdX (l.drop 1) 2), byI l (1 + 2), byI l (1 + 2 + 1), byI l (1 + 2 + 1 + 1), byI l (1 + 2 + 1 + 1 + 1), byI l (1 + 2 + 1 + 1 + 1 + 1), 0⟩ (by
      unfold whenW
      rw [if_neg ht, whenN_in g0 (by omega) (by omega) (by omega), whenN_one g0 (by omega) (by omega) hb (by omega), whenN_one g0 (by omega) (by omega) hb (by omega), whenN_one g0 (by omega) (by omega) hb (by omega), whenN_one g0 (by omega) (by omega) hb (by omega), whenN_one g0 (by omega) (by omega) hb (by omega), whenN_out g0 (by omega) (by omega) (by omega) (by omega)])
     rw [Rd.bad_no (fun q => q.2), g0] at R
     exact R
    ·have g0 : l.getD 0 0 = 11 := by omega
     rw [if_pos ⟨rfl, by omega⟩, clkX_yes (by omega), go_byt (by omega), go_byt (by omega), go_byt (by omega), go_fix (by omega)]
     have R := r ⟨false, IntKind.i64.wrap (rdX (l.drop 1) 2), byI l (1 + 2), byI l (1 + 2 + 1), byI l (1 + 2 + 1 + 1), byI l (1 + 2 + 1 + 1 + 1), byI l (1 + 2 + 1 + 1 + 1 + 1), IntKind.i64.wrap (rdX (l.drop (1 + 2 + 1 + 1 + 1 + 1 + 1)) 4)⟩ (by
      unfold whenW
      rw [if_neg ht, whenN_in g0 (by omega) (by omega) (by omega), whenN_one g0 (by omega) (by omega) hb (by omega), whenN_one g0 (by omega) (by omega) hb (by omega), whenN_one g0 (by omega) (by omega) hb (by omega), whenN_one g0 (by omega) (by omega) hb (by omega), whenN_one g0 (by omega) (by omega) hb (by omega), whenN_in g0 (by omega) (by omega) (by omega)])
     rw [Rd.bad_no (fun q => q.2), g0] at R
     exact R
end
end Go.Proofs.YtinbhlejofgomaaGreat
