/-
  Several texts of one walk, joined.
-/
import Derived.Test.YtfgnpegkcmkeaaaGreatDoorKsA
import Derived.Test.YtfgnpegkcmkeaaaGreatDoorRsB
set_option linter.unusedSimpArgs false
set_option linter.unusedVariables false
set_option linter.unusedSectionVars false
set_option linter.defProp false
set_option maxRecDepth 20000
set_option maxHeartbeats 2000000
namespace Go.Proofs.YtfgnpegkcmkeaaaGreatDoor.Rs
open Go.Proofs Go.Lx Go.Wx Go.IntWalk
noncomputable section
theorem ap144K : apI Tryz.prog 144 = some (148, 12, 104) := ap144
theorem tx144 : ∃ d, Tryz.prog.underlying 144 = some d ∧ isIntD d = false := ⟨.slice 148, by kernel_rfl, rfl⟩
def oldC (c : Int) : Prop := iAnd .u32 c 16777216 = 0
def endP (c : Int) : List Nat := @ite _ (oldC c) (Classical.propDecidable _) eofP (okP 254 c)
def midP (c : Int) : List (List Nat) := @ite _ (oldC c) (Classical.propDecidable _) [eofP] []
def toldP (k : Nat) (rows : List (List (List Nat))) (c : Int) : List (List Nat) := ([(colsK k).length] :: (colsK k).map colP ++ midP c) ++ rows.map rowB ++ [endP c]
theorem okP_ok {f : Nat} (hf : f < 256) (c : Int) : ∀ b ∈ okP f c, b < 256 := fun b hb => by
 unfold okP at hb
 rcases List.mem_append.1 hb with q | q
 ·simp only [List.mem_cons, List.not_mem_nil, or_false] at q
  omega
 ·split at q
  ·rw [List.mem_singleton] at q; omega
  ·cases q
theorem colsK_len (k : Nat) : (colsK k).length ≤ 6 := by
 unfold colsK
 split <;> decide
theorem rowsK {k : Nat} (h1 : 1 ≤ k) (h5 : k ≤ 5) : (colsK k).length = 2 ∨ (colsK k).length = 4 ∨ (colsK k).length = 5 ∨ (colsK k).length = 6 := by
 have : k = 1 ∨ k = 2 ∨ k = 3 ∨ k = 4 ∨ k = 5 := oM
 rcases this with rfl | rfl | rfl | rfl | rfl <;> decide
variable {S : Set0} (hS : StdT S)
include hS
theorem afine_spec (c : Int) (h : H) : Pure S.cfg 31 [.int .u32 c] h fun w h' => PB h.nx h' w [okP 0 c] := by
 refine inn Tryz.func31 (hS.ownK _ dC) rfl rfl ?_
 have ak := fun h => apok_spec hS.toStdK c False 0 (by simp) h
 unfold okA at ak
 refine ww1 @Tryz.f31.eq_1 ?_
 refine callF_pure (ak _) ?_
 rintro _ h1 hx1 ⟨v, rfl, hl⟩
 have hb := LB.bs hl (okP_ok dC c)
 obtain ⟨d1, d2⟩ := hb.cell
 refine ww1 (cj d1 d2) ?_
 exact ⟨hx1.push _, PG.one pbK hb hx1.1⟩
theorem wrong_spec (e : Int × List Nat × List Nat) (he : e = e1 ∨ e = e2) (h : H) : Pure S.cfg 33 [.int .u16 e.1, .str e.2.1, .str e.2.2] h fun w h' => PB h.nx h' w [errP e.1 e.2.1 e.2.2] := by
 refine inn Tryz.func33 (hS.ownK _ dC) rfl rfl ?_
 refine ww1 @Tryz.f33.eq_1 ?_
 refine callF_pure (hS.err e he _) ?_
 rintro _ h1 hx1 ⟨v, rfl, hb⟩
 obtain ⟨d1, d2⟩ := hb.cell
 refine ww1 (cj d1 d2) ?_
 exact ⟨hx1.push _, PG.one pbK hb hx1.1⟩
theorem told_spec {k : Nat} (h1k : 1 ≤ k) (h5k : k ≤ 5) {cv rv : V} {rcs : List V} {rows : List (List (List Nat))} {h : H} (rc : RW 9 1 (colsK k).length h cv ((colsK k).map V.str)) (rr : RW 38 1 rows.length h rv rcs) (re : ∀ i (hi : i < rows.length) (hc : i < rcs.length), RW 9 1 rows[i].length h rcs[i] (rows[i].map V.str)) (hR : RowsOk (colsK k).length rows) (hn : rows.length ≤ 200) (c : Int) : Pure S.cfg 34 [cv, rv, .int .u32 c] h fun w h' => PB h.nx h' w (toldP k rows c) := by
 refine inn Tryz.func34 (hS.ownK _ dC) rfl rfl ?_
 have lc := rc.len 9
 have lr := rr.len 38
 have k6 := colsK_len k
 refine ww1 (cj @Tryz.f34.eq_1 lc) ?_
 refine callF_pure (hS.cnt _ (rowsK h1k h5k) _) ?_
 rintro _ h1 hx1 ⟨v1, rfl, b1⟩
 have n1 := hx1.1
 obtain ⟨d1, d2⟩ := b1.cell
 refine ww1 (cj d1 <| cj d2 lc) ?_
 have okf : ∀ j, h1.nx ≤ j → fresh h.nx nil1 j := fun j hj => by rw [fresh_def]; exact .inl oM
 refine run_blk_cut (fun env h' => env 1 = rv ∧ env 2 = .int .u32 c ∧ ∃ lv, env 9 = lv ∧ Ext h1 h' ∧ PB h1.nx h' lv ([(colsK k).length] :: (colsK k).map colP)) ?_ ?_
 ·refine run_loop (fun m env h' => ∃ i : Nat, m = (colsK k).length - i ∧ i ≤ (colsK k).length ∧ env 1 = rv ∧ env 2 = .int .u32 c ∧ env 31 = cv ∧ env 32 = .int .i64 (colsK k).length ∧ env 33 = .int .i64 i ∧ ∃ lv, env 9 = lv ∧ Ext h1 h' ∧ PB h1.nx h' lv ([(colsK k).length] :: ((colsK k).take i).map colP)) (colsK k).length ⟨0, ?_⟩ ?_
  ·refine ww0 ?_
   exact ⟨(Nat.sub_zero _).symm, _, rfl, (Ext.refl h1).push _, PG.one pbK b1 (Nat.le_refl _)⟩
  rintro m env h' ⟨i, rfl, hi, e1, e2, e31, e32, e33, lv, e9, hx, hP⟩
  have nn := hx.1
  by_cases hin : i < (colsK k).length
  ·have hin' : (i : Int) < (colsK k).length := oM
   obtain ⟨b, o, m, hv⟩ := rc.at oM
   obtain ⟨_, hb, hr, _⟩ := RW.rd (hv ▸ rc)
   have hr1 := hr i 1 (by rw [List.length_map]; exact hin)
   rw [List.getElem_map, ← (hx1.trans hx).2 b hb] at hr1
   refine ww1 (cj e1 <| cj e2 <| cj e9 <| cj e31 <| cj e32 <| cj e33 <| cj hin <| cj hin' <| cj hv hr1) ?_
   refine callF_pure (hS.col k _ h1k h5k (List.getElem_mem hin) _) ?_
   rintro _ h3 hx3 ⟨v3, rfl, b3⟩
   have n3 := hx3.1
   obtain ⟨f1, f2⟩ := b3.cell
   refine ww1 (cj e1 <| cj e2 <| cj e9 <| cj e31 <| cj e32 <| cj e33 <| cj f1 f2) ?_
   refine app_pg pbK (n0 := h1.nx) (sv := lv) (a := colP (colsK k)[i]) (v := v3) ap45K tx45 (by exact wv1 e9) rfl rfl b3 f2 (hP.ext pbK hx3) (by rw [List.length_cons, List.length_map, List.length_take]; omega) okf oM ?_
   intro v4 h4 L4 hP4 st4 hk4 _
   have n4 := st4.1
   have w1 : IntKind.i64.wrap ((i : Int) + 1) = ((i + 1 : Nat) : Int) := i64_in _ oM
   refine ww1 (cj e1 <| cj e2 <| cj e9 <| cj e31 <| cj e32 <| cj e33 w1) ?_
   refine ⟨(colsK k).length - (i + 1), by omega, i + 1, rfl, by omega, hv, rfl, _, rfl, ⟨by omega, fun j hj => by rw [hk4 j hj, hx3.2 j oM, hx.2 j hj]⟩, ?_⟩
   rw [List.take_succ_eq_append_getElem hin, List.map_append]
   exact hP4
  ·obtain rfl : i = (colsK k).length := oM
   rw [List.take_length] at hP
   refine ww1 (cj e1 <| cj e2 <| cj e9 <| cj e31 <| cj e32 <| cj e33 hin) ?_
   exact ⟨_, rfl, hx, hP⟩
 rintro env h2 ⟨e1, e2, lv, e9, hx2, hP2⟩
 have n2 := hx2.1
 rw [run_seq]
 refine run_cut (fun env h' => env 1 = rv ∧ env 2 = .int .u32 c ∧ env 9 = lv ∧ ∃ ve, env 14 = ve ∧ Ext h2 h' ∧ BS 5 h' ve eofP) ?_ ?_
 ·refine ww1 (cj e1 <| cj e2 e9) ?_
  refine callF_pure (hS.eof _) ?_
  intro v3 h3 hx3 b3
  refine ww1 (cj e1 <| cj e2 e9) ?_
  exact ⟨_, rfl, hx3, b3⟩
 rintro env h3 ⟨e1, e2, e9, ve, e14, hx3, b3⟩
 have n3 := hx3.1
 rw [run_seq]
 refine run_cut (fun env h' => env 1 = rv ∧ ∃ lv ve, env 9 = lv ∧ env 14 = ve ∧ Ext h1 h' ∧ PB h1.nx h' lv ([(colsK k).length] :: (colsK k).map colP ++ midP c) ∧ BS 5 h' ve (endP c)) ?_ ?_
 ·obtain ⟨f1, f2⟩ := b3.cell
  unfold midP endP
  by_cases ho : oldC c
  ·have ho' := eq_true (show iAnd .u32 c 16777216 = 0 from ho)
   rw [if_pos ho, if_pos ho]
   refine ww1 (cj e1 <| cj e2 <| cj e9 <| cj e14 <| cj ho' <| cj f1 f2) ?_
   refine app_pg pbK (n0 := h1.nx) (sv := lv) (a := eofP) (v := ve) ap45K tx45 (by exact wv1 e9) rfl rfl b3 f2 (hP2.ext pbK hx3) (by rw [List.length_cons, List.length_map]; omega) okf oM ?_
   intro v4 h4 L4 hP4 st4 hk4 _
   have n4 := st4.1
   refine ww1 (cj e1 <| cj e2 <| cj e9 e14) ?_
   exact ⟨_, _, rfl, rfl, ⟨by omega, fun j hj => by rw [hk4 j hj, hx3.2 j oM, hx2.2 j hj]⟩, hP4, pbK _ _ _ _ b3 st4⟩
  ·have ho' : ¬ iAnd .u32 c 16777216 = 0 := ho
   rw [if_neg ho, if_neg ho, List.append_nil]
   have ak := fun h => apok_spec hS.toStdK c True 254 (by simp) h
   unfold okA at ak
   refine ww1 (cj e1 <| cj e2 <| cj e9 <| cj e14 ho') ?_
   refine callF_pure (ak _) ?_
   rintro _ h4 hx4 ⟨v4, rfl, hl4⟩
   refine ww1 (cj e1 <| cj e2 <| cj e9 e14) ?_
   exact ⟨_, _, rfl, rfl, (hx2.trans hx3).trans hx4, (hP2.ext pbK hx3).ext pbK hx4, LB.bs hl4 (okP_ok dC c)⟩
 rintro env h4 ⟨e1, lv, ve, e9, e14, hx4, hP4, b4⟩
 have n4 := hx4.1
 refine ww1 (cj e1 <| cj e9 <| cj e14 lr) ?_
 obtain ⟨hd, hhd⟩ : ∃ hd, hd = [(colsK k).length] :: (colsK k).map colP ++ midP c := ⟨_, rfl⟩
 have hdl : hd.length ≤ 8 := by
  rw [hhd, List.length_append, List.length_cons, List.length_map]
  unfold midP
  split
  ·show _ + 1 ≤ 8; omega
  ·show _ + 0 ≤ 8; omega
 rw [← hhd] at hP4
 refine run_blk_cut (fun env h' => ∃ lv ve, env 9 = lv ∧ env 14 = ve ∧ Ext h1 h' ∧ PB h1.nx h' lv (hd ++ rows.map rowB) ∧ BS 5 h' ve (endP c)) ?_ ?_
 ·refine run_loop (fun m env h' => ∃ i : Nat, m = rows.length - i ∧ i ≤ rows.length ∧ env 64 = rv ∧ env 65 = .int .i64 rows.length ∧ env 66 = .int .i64 i ∧ ∃ lv ve, env 9 = lv ∧ env 14 = ve ∧ Ext h1 h' ∧ PB h1.nx h' lv (hd ++ (rows.take i).map rowB) ∧ BS 5 h' ve (endP c)) rows.length ⟨0, ?_⟩ ?_
  ·refine ww0 ?_
   exact ⟨(Nat.sub_zero _).symm, _, _, e9, e14, hx4, hP4, b4⟩
  rintro m env h5 ⟨i, rfl, hi, ea, eb, ec, lv, ve, e9, e14, hx5, hP5, b5⟩
  have n5 := hx5.1
  by_cases hin : i < rows.length
  ·have hin' : (i : Int) < rows.length := oM
   have hlr : i < rcs.length := by rw [rr.1]; omega
   obtain ⟨b, o, m, hv⟩ := rr.at oM
   obtain ⟨_, hb, hr, _⟩ := RW.rd (hv ▸ rr)
   have hr1 := hr i 1 hlr
   rw [← (hx1.trans hx5).2 b hb] at hr1
   have rI := (re i hin hlr).ext (hx1.trans hx5)
   have lI := rI.len 9
   have hRi := hR _ (List.getElem_mem hin)
   have k6' := colsK_len k
   obtain ⟨ts, hts⟩ : ∃ ts, ts = rows[i] := ⟨_, rfl⟩
   rw [← hts] at rI lI hRi
   refine ww1 (cj ea <| cj eb <| cj ec <| cj e9 <| cj e14 <| cj hin <| cj hin' <| cj hv <| cj hr1 lI) ?_
   refine run_blk_cut (fun env h' => env 9 = lv ∧ env 14 = ve ∧ env 64 = rv ∧ env 65 = .int .i64 rows.length ∧ env 66 = .int .i64 i ∧ ∃ qv, env 17 = qv ∧ Ext h5 h' ∧ Lst h5.nx h' qv (vasC ts) 148 12) ?_ ?_
   ·refine run_loop (fun m env h' => ∃ j : Nat, m = ts.length - j ∧ j ≤ ts.length ∧ env 9 = lv ∧ env 14 = ve ∧ env 64 = rv ∧ env 65 = .int .i64 rows.length ∧ env 66 = .int .i64 i ∧ env 70 = rcs[i] ∧ env 71 = .int .i64 ts.length ∧ env 72 = .int .i64 j ∧ ∃ qv, env 17 = qv ∧ Ext h5 h' ∧ Lst h5.nx h' qv (vasC (ts.take j)) 148 12) ts.length ⟨0, ?_⟩ ?_
    ·refine ww0 ?_
     exact ⟨(Nat.sub_zero _).symm, e9, e14, ea, eb, ec, _, rfl, Ext.refl _, lst_nil _ _ _ _⟩
    rintro m env h6 ⟨j, rfl, hj, e9, e14, ea, eb, ec, e70, e71, e72, qv, e17, hx6, hq6⟩
    have n6 := hx6.1
    by_cases hjn : j < ts.length
    ·have hjn' : (j : Int) < ts.length := oM
     obtain ⟨b2, o2, m2, hv2⟩ := rI.at oM
     obtain ⟨_, hb2, hr2, _⟩ := RW.rd (hv2 ▸ rI)
     have hr3 := hr2 j 1 (by rw [List.length_map]; exact hjn)
     rw [List.getElem_map, ← hx6.2 b2 hb2] at hr3
     refine wr1 (cj e9 <| cj e14 <| cj ea <| cj eb <| cj ec <| cj e70 <| cj e71 <| cj e72 <| cj e17 <| cj hjn hjn') ?_
     refine cond_yes (p := True) (by first | rfl | simp +contextual (disch := first | exact dd | fail) only [wpy, fW, Int.reduceLE, Int.reduceLT, Nat.reduceLeDiff, UInt8.reduceToNat, ↓reduceIte, Nat.reduceEqDiff, Nat.reduceAdd, reduceCtorEq, Int.reduceToNat]) trivial ?_
     rw [run_skip, kont_seq, run_seq, run_block, run_seq]
     refine run_cut (fun env h' => env 9 = lv ∧ env 14 = ve ∧ env 64 = rv ∧ env 65 = .int .i64 rows.length ∧ env 66 = .int .i64 i ∧ env 17 = qv ∧ env 70 = rcs[i] ∧ env 71 = .int .i64 ts.length ∧ env 72 = .int .i64 j ∧ env 19 = .str ts[j] ∧ h6 = h') ?_ ?_
     ·exact wv1 (cj e9 <| cj e14 <| cj ea <| cj eb <| cj ec <| cj e17 <| cj e70 <| cj e71 <| cj e72 <| cj hjn <| cj hjn' <| cj hv2 hr3)
     rintro env hq ⟨e9, e14, ea, eb, ec, e17, e70, e71, e72, e19, rfl⟩
     rw [run_seq]
     refine run_cut (fun env h' => env 9 = lv ∧ env 14 = ve ∧ env 64 = rv ∧ env 65 = .int .i64 rows.length ∧ env 66 = .int .i64 i ∧ env 17 = qv ∧ env 70 = rcs[i] ∧ env 71 = .int .i64 ts.length ∧ env 72 = .int .i64 j ∧ env 19 = .str ts[j] ∧ env 20 = .ptr h6.nx 0 ∧ Ext h6 h' ∧ h'.nx = h6.nx + 1 ∧ h'.get h6.nx = some (.cells (vkC 7 ts[j]) 148 false)) ?_ ?_
     ·refine ww1 (cj e9 <| cj e14 <| cj ea <| cj eb <| cj ec <| cj e17 <| cj e70 <| cj e71 <| cj e72 e19) ?_
      exact ⟨.inr oM, Ext.new _ _ _, rfl⟩
     rintro env hB ⟨e9, e14, ea, eb, ec, e17, e70, e71, e72, e19, e20, xB, nB, gB⟩
     rw [run_seq]
     refine run_cut (fun env h' => env 9 = lv ∧ env 14 = ve ∧ env 64 = rv ∧ env 65 = .int .i64 rows.length ∧ env 66 = .int .i64 i ∧ env 17 = qv ∧ env 70 = rcs[i] ∧ env 71 = .int .i64 ts.length ∧ env 72 = .int .i64 j ∧ env 20 = .ptr h6.nx 0 ∧ Ext h6 h' ∧ h'.nx = h6.nx + 1 ∧ h'.get h6.nx = some (.cells (vaC ts[j]) 148 false)) ?_ ?_
     ·unfold vkC at gB
      unfold vaC
      by_cases h0 : ts[j] = [0]
      ·rw [if_pos h0]
       refine ww1 (cj e9 <| cj e14 <| cj ea <| cj eb <| cj ec <| cj e17 <| cj e70 <| cj e71 <| cj e72 <| cj e19 <| cj e20 <| cj h0 <| cj gB nB) ?_
       exact ⟨.inr oM, xB.put (Nat.le_refl _) _, rfl⟩
      ·rw [if_neg h0]
       refine ww1 (cj e9 <| cj e14 <| cj ea <| cj eb <| cj ec <| cj e17 <| cj e70 <| cj e71 <| cj e72 <| cj e19 <| cj e20 <| cj h0 <| cj gB nB) ?_
       exact ⟨xB, rfl⟩
     rintro env hC ⟨e9, e14, ea, eb, ec, e17, e70, e71, e72, e20, xC, nC, gC⟩
     obtain ⟨k0, s0, hvc, _⟩ := vaC_form ts[j]
     rw [hvc] at gC
     unfold vkC at gC
     refine ww1 (cj e9 <| cj e14 <| cj ea <| cj eb <| cj ec <| cj e17 <| cj e70 <| cj e71 <| cj e72 <| cj e20 gC) ?_
     have hvl := vasC_len (ts.take j)
     rw [List.length_take, Nat.min_eq_left hj] at hvl
     have hq8 := (hq6.ext xC).ext ((Ext.refl hC).push (.cells (vkC k0 s0) 148 false))
     refine append_lst (n0 := h5.nx) (sv := qv) (xv := .slice hC.nx 0 1 1) (cells := vasC (ts.take j)) (new := vkC k0 s0) (by exact wv1 e17) rfl ap144K tx144 hq8 (.inr ⟨hC.nx, 0, 1, 1, rfl, Nat.lt_succ_self _, by rw [push_eq rfl]; exact rdC_all rfl, rfl⟩) rfl (by rw [hvl]; show j * 12 + 12 ≤ _; omega) dC (fun q hq => okf q oM) (by show h5.nx ≤ hC.nx + 1; omega) ?_
     intro v9 h9 L9 hl9 hn9 _ hk9 _
     have n9 : hC.nx + 1 ≤ h9.nx := hn9
     have w1 : IntKind.i64.wrap ((j : Int) + 1) = ((j + 1 : Nat) : Int) := i64_in _ oM
     refine ww1 (cj e9 <| cj e14 <| cj ea <| cj eb <| cj ec <| cj e70 <| cj e71 <| cj e72 w1) ?_
     refine ⟨ts.length - (j + 1), by omega, j + 1, rfl, by omega, rfl, _, rfl, ⟨by omega, fun q hq => by rw [hk9 q oM, push_ne oM, xC.2 q oM, hx6.2 q hq]⟩, ?_⟩
     have e : vasC (ts.take (j + 1)) = vasC (ts.take j) ++ vkC k0 s0 := by
      unfold vasC
      rw [List.take_succ_eq_append_getElem hjn, List.flatMap_append, ← hvc]
      simp
     rw [e]
     exact hl9
    ·obtain rfl : j = ts.length := oM
     rw [List.take_length] at hq6
     refine ww1 (cj e9 <| cj e14 <| cj ea <| cj eb <| cj ec <| cj e70 <| cj e71 <| cj e72 <| cj e17 hjn) ?_
     exact ⟨_, rfl, hx6, hq6⟩
   rintro env h7 ⟨e9, e14, ea, eb, ec, qv, e17, hx7, hq7⟩
   have n7 := hx7.1
   have rQ := rw_of_lst hq7 dC (vasC_len ts)
   refine ww1 (cj e9 <| cj e14 <| cj ea <| cj eb <| cj ec e17) ?_
   refine callF_pure (rowap_spec hS.toStdK rQ oM fun t ht => hRi.2 t ht) ?_
   rintro _ h8 hx8 ⟨v8, rfl, hl8⟩
   have n8 := hx8.1
   have b8 := LB.bs hl8 (rowB_ok fun t ht => hRi.2 t ht)
   obtain ⟨f1, f2⟩ := b8.cell
   refine ww1 (cj e9 <| cj e14 <| cj ea <| cj eb <| cj ec <| cj f1 f2) ?_
   refine app_pg pbK (n0 := h1.nx) (sv := lv) (a := rowB ts) (v := v8) ap45K tx45 (by exact wv1 e9) rfl rfl b8 f2 ((hP5.ext pbK hx7).ext pbK hx8) (by rw [List.length_append, List.length_map, List.length_take]; omega) okf oM ?_
   intro v9 h9 L9 hP9 st9 hk9 _
   have n9 := st9.1
   have w1 : IntKind.i64.wrap ((i : Int) + 1) = ((i + 1 : Nat) : Int) := i64_in _ oM
   refine ww1 (cj e9 <| cj e14 <| cj ea <| cj eb <| cj ec w1) ?_
   refine ⟨rows.length - (i + 1), by omega, i + 1, rfl, by omega, hv, rfl, _, _, rfl, rfl, ⟨by omega, fun j hj => by rw [hk9 j hj, hx8.2 j oM, hx7.2 j oM, hx5.2 j hj]⟩, ?_, pbK _ _ _ _ ((b5.ext hx7).ext hx8) st9⟩
   rw [List.take_succ_eq_append_getElem hin, List.map_append, ← List.append_assoc, ← hts]
   exact hP9
  ·obtain rfl : i = rows.length := oM
   rw [List.take_length] at hP5
   refine ww1 (cj ea <| cj eb <| cj ec <| cj e9 <| cj e14 hin) ?_
   exact ⟨_, _, rfl, rfl, hx5, hP5, b5⟩
 rintro env h6 ⟨lv, ve, e9, e14, hx6, hP6, b6⟩
 have n6 := hx6.1
 obtain ⟨f1, f2⟩ := b6.cell
 refine ww1 (cj e9 <| cj e14 <| cj f1 f2) ?_
 refine app_pg pbK (n0 := h1.nx) (sv := lv) (a := endP c) (v := ve) ap45K tx45 (by exact wv1 e9) rfl rfl b6 f2 hP6 (by rw [List.length_append, List.length_map]; omega) okf oM ?_
 intro v7 h7 L7 hP7 st7 hk7 _
 have n7 := st7.1
 refine ww0 ?_
 refine ⟨⟨by omega, fun j hj => by rw [hk7 j oM, hx6.2 j oM, hx1.2 j hj]⟩, ?_⟩
 unfold toldP
 rw [← hhd]
 exact hP7.mono n1
end
noncomputable section
def Ans3 (l : List Nat) (c : Int) (na nb nc nd : Nat) (ls : List (List Nat)) : Prop := match Ad.readT l with
 | none => ls = [errP e2.1 e2.2.1 e2.2.2]
 | some (k, n) => if showE k n = 0 then (1 ≤ k ∧ k ≤ 5) ∧ ∃ rows, ls = toldP k rows c ∧ RowsOk (colsK k).length rows ∧ rows.length = cntK k na nb nc nd else ls = [okP 0 c]
def Ans (k : Int) (l : List Nat) (c : Int) (na nb nc nd : Nat) (ls : List (List Nat)) : Prop := if k = 3 then Ans3 l c na nb nc nd ls else if answerF k = 1 then ls = [] else ls = [errP e1.1 e1.2.1 e1.2.2] ∨ (k = 14 ∧ ls = [okP 0 c])
theorem Ans_query {k : Int} {l : List Nat} {c : Int} {na nb nc nd : Nat} {ls : List (List Nat)} (hk : k = 3) (h : Ans3 l c na nb nc nd ls) : Ans k l c na nb nc nd ls := by
 unfold Ans; rw [if_pos hk]; exact h
theorem BS.put_cells {h : H} {v : V} {l : List Nat} {k : Nat} {cs cs' : List V} {t : TypeId} (a : BS 5 h v l) (hg : h.get k = some (.cells cs t false)) (hne : ∀ x ∈ cs, ∀ n, x ≠ .int .u8 n) (hl : cs'.length = cs.length) : BS 5 (h.put k (.cells cs' t false)) v l := by
 cases l with
 | nil =>
   refine ⟨a.1, ?_⟩
   rcases a.2 with q | ⟨b, o, m, q1, q2, q3, q4, q5⟩
   ·exact .inl q
   ·refine .inr ⟨b, o, m, q1, q2, q3, ?_, fun kc e' fl w hf => ?_⟩
    ·by_cases hb : b = k
     ·subst hb
      rw [hg] at q4
      rw [put_eq rfl]
      have : rdC (some (Ob.cells cs t false)) o ([] : List Nat).length = (bif Nat.ble (o + 0) cs.length then some (sub cs o 0) else none) := rfl
      rw [this] at q4
      show (bif Nat.ble (o + 0) cs'.length then some (sub cs' o 0) else none) = _
      rw [hl]
      cases hq : Nat.ble (o + 0) cs.length with
      | false => rw [hq] at q4; cases q4
      | true => simp [sub, bytesV]
     ·rw [put_ne hb]; exact q4
    ·by_cases hb : b = k
     ·subst hb
      rw [put_eq rfl] at w
      cases w
      cases hf
     ·rw [put_ne hb] at w
      exact q5 kc e' fl w hf
 | cons x l =>
   refine BS.put a fun o n m q => ?_
   obtain ⟨b, o', m', q1, _, q2⟩ := a.at (i := 0) (by simp)
   rw [q] at q1
   injection q1 with e1 e2
   subst e1
   rw [hg] at q2
   have q3 : oneV (bif Nat.ble (o' + 0 + 1) cs.length then some (sub cs (o' + 0) 1) else none) = some (.int .u8 (((x :: l).getD 0 0 : Nat) : Int)) := q2
   refine hne (.int .u8 (((x :: l).getD 0 0 : Nat) : Int)) ?_ _ rfl
   cases hq : Nat.ble (o' + 0 + 1) cs.length with
   | false => rw [hq] at q3; cases q3
   | true =>
     rw [hq, cond_true] at q3
     generalize hs : sub cs (o' + 0) 1 = ys at q3
     cases ys with
     | nil => cases q3
     | cons y ys =>
       cases ys with
       | nil =>
         injection q3 with q3
         subst q3
         have hm : V.int .u8 (((x :: l).getD 0 0 : Nat) : Int) ∈ sub cs (o' + 0) 1 := by rw [hs]; exact List.mem_cons_self ..
         exact List.mem_of_mem_drop (List.mem_of_mem_take hm)
       | cons => cases q3
theorem PB.put {n0 k : Nat} {h : H} {lv : V} {ls : List (List Nat)} {cs cs' : List V} {t : TypeId} (a : PB n0 h lv ls) (hk : k < n0) (hg : h.get k = some (.cells cs t false)) (hne : ∀ x ∈ cs, ∀ n, x ≠ .int .u8 n) (hl : cs'.length = cs.length) : PB n0 (h.put k (.cells cs' t false)) lv ls := by
 obtain ⟨xs, q1, q2, q3⟩ := a
 refine ⟨xs, ?_, q2, fun i hi hc => BS.put_cells (q3 i hi hc) hg hne hl⟩
 rcases q1 with (⟨q, w⟩ | ⟨b, n, p1, p2, p3, p4, p5, p6⟩) | ⟨b, p1, p2, p3, p4⟩
 ·exact .inl (.inl ⟨q, w⟩)
 ·exact .inl (.inr ⟨b, n, p1, p2, p3, p4, by rw [put_ne oM]; exact p5, p6⟩)
 ·exact .inr ⟨b, p1, p2, p3, by rw [put_ne oM]; exact p4⟩
theorem i64_ne (a b : Int) : ∀ x ∈ [V.int .i64 a, .int .i64 b], ∀ n, x ≠ .int .u8 n := fun x hx n q => by
 simp only [List.mem_cons, List.not_mem_nil, or_false] at hx
 rcases hx with rfl | rfl <;> cases q
variable {S : Set0} (hS : StdT S)
include hS
theorem answ_spec {X : RX} {v : V} {k c : Int} {l : List Nat} {s : SnV} {cs : List CnV} {ws : List WaV} {ss : List SeV} {ds : List DiV} {h : H} (hk : 0 ≤ k ∧ k < 256) (hk1 : ¬ k = 1) (b : BS 5 h v (k.toNat :: l)) (hl : l.length ≤ 3000) (hT : Tail X k l) (a : SnOk s h cs ws ss ds) (hn : cs.length ≤ 200 ∧ ws.length ≤ 200 ∧ ss.length ≤ 200 ∧ ds.length ≤ 200) (okc : ∀ x ∈ cs, x.Ok) (oks : ∀ x ∈ ss, x.Ok) (okw : ∀ x ∈ ws, i64R x.cl) (okd : ∀ x ∈ ds, i64R x.n ∧ ∀ b ∈ x.t, b < 256) : Pure S.cfg 10 [v, .int .u32 c, .agg s.cells] h fun w h' => ∃ lv o1 o2 ls, w = .tuple [lv, .agg [.int .i64 o1, .int .i64 o2], bo False] ∧ PB h.nx h' lv ls ∧ Ans k l c cs.length ws.length ss.length ds.length ls := by
 refine inn Tryz.func10 (hS.ownK _ dC) rfl rfl ?_
 obtain ⟨c1, c2⟩ := a.fc.cell
 obtain ⟨w1, w2⟩ := a.fw.cell
 obtain ⟨s1, s2⟩ := a.fs.cell
 obtain ⟨d1, d2⟩ := a.fd.cell
 have shw := fun h b k n => shown_spec hS (h := h) (s := s) b hn okc oks okw okd k n
 unfold SnV.cells at shw ⊢
 refine ww1 (cj @Tryz.f10.eq_1 <| cj c1 <| cj c2 <| cj w1 <| cj w2 <| cj s1 <| cj s2 <| cj d1 d2) ?_
 generalize hhA : H.push (H.push h _) _ = hA
 have hxA : Ext h hA := by rw [← hhA]; exact ((Ext.refl h).push _).push _
 have nA : hA.nx = h.nx + 2 := by rw [← hhA]; rfl
 have gS : hA.get h.nx = some (.cells s.cells 37 false) := by rw [← hhA, push_ne (by simp only [push_nx]; omega)]; exact push_eq rfl
 have gO : hA.get (h.nx + 1) = some (.cells [.int .i64 0, .int .i64 0] 24 false) := by rw [← hhA]; exact push_eq rfl
 clear hhA
 unfold SnV.cells at gS
 refine callF_pure (cmdread_spec hS.toStdK hk (b.ext hxA) oM) ?_
 rintro _ h1 hx1 ⟨Y, kk, fl, e, rfl, ⟨y1, y2⟩, hek, h3, h4, h5⟩
 have n1 := hx1.1
 have gS1 := (hx1.2 h.nx oM).trans gS
 have gO1 := (hx1.2 (h.nx + 1) oM).trans gO
 unfold cmdC
 refine wr1 (cj y1 y2) ?_
 refine ⟨.inr oM, ?_⟩
 generalize hhB : H.put (H.push h1 _) h1.nx _ = hB
 have hxB : Ext h1 hB := by rw [← hhB]; exact Ext.new _ _ _
 have nB : hB.nx = h1.nx + 1 := by rw [← hhB]; rfl
 have gB : hB.get h1.nx = some (.cells (cmdC Y kk fl) 52 false) := by rw [← hhB]; exact put_eq rfl
 clear hhB
 unfold cmdC at gB
 have gSB := (hxB.2 h.nx oM).trans gS1
 have gOB := (hxB.2 (h.nx + 1) oM).trans gO1
 have hx0 : Ext h hB := (hxA.trans hx1).trans hxB
 have okf : ∀ j, h.nx ≤ j → fresh h.nx nil1 j := fun j hj => by rw [fresh_def]; exact .inl hj
 by_cases he : e = 0
 ·obtain rfl := hek he
  have he' := eq_true he
  by_cases hk3 : kk = 3
  ·subst hk3
   obtain ⟨_, rfl⟩ := h3 rfl
   refine wew1 (cj he' gB) ?_
   refine callF_pure (answer_spec hS.toStdR 3 _) ?_
   rintro _ h2 hx2 rfl
   have n2 := hx2.1
   have gB2 := (hx2.2 h1.nx oM).trans gB
   have gO2 := (hx2.2 (h.nx + 1) oM).trans gOB
   have gS2 := (hx2.2 h.nx oM).trans gSB
   have ha : ¬ answerF 3 = 1 := dC
   refine wew1 (cj he' <| cj ha <| cj gO2 gB2) ?_
   refine callF_pure (Ad.read_spec hS.ad Y.x1 _ (fun x hx => b.1 x (List.mem_cons_of_mem _ hx)) oM) ?_
   rintro _ h6 hx6 rfl
   have n6 := hx6.1
   have gO6 := (hx6.2 (h.nx + 1) oM).trans gO2
   have gS6 := (hx6.2 h.nx oM).trans gS2
   have hx06 : Ext h h6 := (hx0.trans hx2).trans hx6
   unfold Ad.readV
   cases hrd : Ad.readT Y.x1 with
   | none =>
     refine wew1 gO6 ?_
     refine ⟨.inr oM, callF_pure (wrong_spec hS Rs.e2 (.inr rfl) _) ?_⟩
     generalize hhP : H.put h6 _ _ = hP
     have xP : Ext h hP := by rw [← hhP]; exact hx06.put (k := h.nx + 1) oM _
     have nP : hP.nx = h6.nx := by rw [← hhP]; rfl
     have gP : hP.get (h.nx + 1) = some (.cells [.int .i64 0, .int .i64 0] 24 false) := by rw [← hhP]; exact put_eq rfl
     clear hhP
     rintro lv h5 hx5 hp5
     have n5 := hx5.1
     have gO5 := (hx5.2 (h.nx + 1) oM).trans gP
     refine ww1 gO5 ?_
     exact ⟨.inr oM, (xP.trans hx5).put (k := h.nx + 1) oM _, lv, 0, 0, _, rfl, (PB.put (k := h.nx + 1) hp5 oM gO5 (i64_ne _ _) rfl).mono oM, Ans_query rfl (by unfold Ans3; rw [hrd])⟩
   | some p =>
     obtain ⟨pk, pn⟩ := p
     refine ww1 gO6 ?_
     refine ⟨.inr oM, ?_⟩
     generalize hhP : H.put h6 _ _ = hP
     have xP : Ext h hP := by rw [← hhP]; exact hx06.put (k := h.nx + 1) oM _
     have nP : hP.nx = h6.nx := by rw [← hhP]; rfl
     have gP : hP.get (h.nx + 1) = some (.cells [.int .i64 pk, .int .i64 pn] 24 false) := by rw [← hhP]; exact put_eq rfl
     clear hhP
     refine ww1 gS6 ?_
     refine callF_pure (shw _ (a.ext xP) pk pn) ?_
     rintro w7 h7 hx7 ⟨q1, q2⟩
     have n7 := hx7.1
     have gO7 := (hx7.2 (h.nx + 1) oM).trans gP
     by_cases hz : showE pk pn = 0
     ·obtain ⟨cv, rv, rows, rfl, rc, rT, hR, hl⟩ := q2 hz
      rw [Int.toNat_natCast] at rc hR hl
      have hpk : 1 ≤ pk ∧ pk ≤ 5 := by
       unfold showE at hz
       by_cases w : Ad.okZ pk pn ∧ (pk : Int) ≤ 5
       ·have w1 := w.1.1
        have w2 := w.2
        omega
       ·rw [if_neg w] at hz; cases hz
      obtain ⟨rcs, rr, re⟩ := rT.rw
      have hrn : rows.length ≤ 200 := by
       rw [hl]
       unfold cntK
       split <;> omega
      refine ww1 gO7 ?_
      refine callF_pure (told_spec hS hpk.1 hpk.2 rc rr re hR hrn c) ?_
      rintro lv h5 hx5 hp5
      have n5 := hx5.1
      have gO5 := (hx5.2 (h.nx + 1) oM).trans gO7
      refine ww1 gO5 ?_
      exact ⟨.inr oM, ((xP.trans hx7).trans hx5).put (k := h.nx + 1) oM _, lv, 0, 0, _, rfl, (PB.put (k := h.nx + 1) (cs' := [.int .i64 0, .int .i64 0]) hp5 oM gO5 (i64_ne _ _) rfl).mono oM, Ans_query rfl (by unfold Ans3; rw [hrd]; simp only; rw [if_pos hz]; exact ⟨hpk, rows, rfl, hR, hl⟩)⟩
     ·rw [q1 hz]
      refine wew1 gO7 ?_
      refine draw_by [(1, 2)] kR ?_
      refine ww1 gO7 ?_
      refine callF_pure (afine_spec hS c _) ?_
      rintro lv h5 hx5 hp5
      have n5 := hx5.1
      have gO5 := (hx5.2 (h.nx + 1) oM).trans gO7
      refine ww1 gO5 ?_
      refine ⟨.inr oM, fun p hp => ?_, ((xP.trans hx7).trans hx5).put (k := h.nx + 1) oM _, lv, pk, pn, _, rfl, (PB.put (k := h.nx + 1) hp5 oM gO5 (i64_ne _ _) rfl).mono oM, Ans_query rfl (by unfold Ans3; rw [hrd]; show (if showE pk pn = 0 then _ else _); rw [if_neg hz])⟩
      rw [List.mem_singleton.1 hp]
      exact pair_one rfl rfl (cl_rd0 oM)
  ·by_cases hk14 : kk = 14
   ·subst hk14
    refine wew1 (cj he' gB) ?_
    refine callF_pure (afine_spec hS c _) ?_
    rintro lv h5 hx5 hp5
    have n5 := hx5.1
    have gO5 := (hx5.2 (h.nx + 1) oM).trans gOB
    refine ww1 gO5 ?_
    exact ⟨.inr oM, (hx0.trans hx5).put (k := h.nx + 1) oM _, lv, 0, 0, _, rfl, (PB.put (k := h.nx + 1) hp5 oM gO5 (i64_ne _ _) rfl).mono oM, by unfold Ans; rw [if_neg dC, if_neg dC]; exact .inr ⟨rfl, rfl⟩⟩
   ·refine ww1 (cj he' <| cj gB <| cj hk1 <| cj hk3 hk14) ?_
    refine callF_pure (answer_spec hS.toStdR kk _) ?_
    rintro _ h2 hx2 rfl
    have n2 := hx2.1
    have gB2 := (hx2.2 h1.nx oM).trans gB
    have gO2 := (hx2.2 (h.nx + 1) oM).trans gOB
    by_cases ha : answerF kk = 1
    ·have ha' := eq_true ha
     refine ww1 (cj he' <| cj ha' <| cj gO2 <| cj gB2 hk3) ?_
     exact ⟨.inr oM, (hx0.trans hx2).put (k := h.nx + 1) oM _, _, 0, 0, [], rfl, PG.nil _ _, by unfold Ans; rw [if_neg hk3, if_pos ha]⟩
    ·refine ww1 (cj he' <| cj ha <| cj gO2 <| cj gB2 hk3) ?_
     refine callF_pure (wrong_spec hS Rs.e1 (.inl rfl) _) ?_
     rintro lv h5 hx5 hp5
     have n5 := hx5.1
     have gO5 := (hx5.2 (h.nx + 1) oM).trans gO2
     refine ww1 gO5 ?_
     exact ⟨.inr oM, ((hx0.trans hx2).trans hx5).put (k := h.nx + 1) oM _, lv, 0, 0, _, rfl, (PB.put (k := h.nx + 1) hp5 oM gO5 (i64_ne _ _) rfl).mono oM, by unfold Ans; rw [if_neg hk3, if_neg ha]; exact .inl rfl⟩
 ·have hk3 : ¬ k = 3 := fun q => he (h3 (by rw [q]; rfl)).1
  have hna : ¬ answerF k = 1 := fun q => by
   have : k = 24 ∨ k = 25 := by
    unfold answerF at q
    by_cases w : k = 1 ∨ k = 24 ∨ k = 25
    ·rcases w with w | w
     ·exact absurd w hk1
     ·exact w
    ·rw [if_neg w] at q
     repeat' split at q
     all_goals cases q
   rcases this with rfl | rfl
   ·exact he (h4 rfl (hT.2.1 rfl))
   ·exact he (h5 rfl (hT.2.2 rfl))
  refine ww1 (cj he gB) ?_
  refine callF_pure (wrong_spec hS Rs.e1 (.inl rfl) _) ?_
  rintro lv h5 hx5 hp5
  have n5 := hx5.1
  have gO5 := (hx5.2 (h.nx + 1) oM).trans gOB
  refine ww1 gO5 ?_
  exact ⟨.inr oM, (hx0.trans hx5).put (k := h.nx + 1) oM _, lv, 0, 0, _, rfl, (PB.put (k := h.nx + 1) hp5 oM gO5 (i64_ne _ _) rfl).mono oM, by unfold Ans; rw [if_neg hk3, if_neg hna]; exact .inl rfl⟩
end
noncomputable section
theorem row_at1 {α : Type} {f : α → List V} {k : Nat} {e : TypeId} (hk : ∀ x, (f x).length = k) {l : List α} {h h' : H} {v : V} (a : RW e k l.length h v (l.flatMap f)) (hx : Ext h h') (i : Nat) (hi : i < l.length) : ∃ b o m, v = .slice b o l.length m ∧ ∀ j x, (f l[i])[j]? = some x → rdV (some (1, false)) (h'.get b) (o + i * k + j) = some x := by
 obtain ⟨b, o, m, hv⟩ := a.at oM
 obtain ⟨_, hb, hr, _⟩ := RW.rd (hv ▸ a)
 refine ⟨b, o, m, hv, fun j x hj => ?_⟩
 have hjk : j < k := by rw [← hk l[i]]; exact (List.getElem?_eq_some_iff.1 hj).1
 have hlen : i * k + j < (l.flatMap f).length := by
  rw [flat_len hk]
  have : (i + 1) * k ≤ l.length * k := Nat.mul_le_mul_right k hi
  rw [Nat.succ_mul] at this
  omega
 have e1 := flat_at hk l i hi
 have e2 := congrArg (fun q : List V => q[j]?) e1
 simp only [List.getElem?_take_of_lt hjk, List.getElem?_drop] at e2
 rw [hj] at e2
 have e3 := hr (i * k + j) 1 hlen
 rw [(List.getElem?_eq_some_iff.1 e2).2] at e3
 rw [hx.2 b hb, Nat.add_assoc]
 exact e3
def hgC : List V := [.int .u32 29294760, .int .u32 512, .int .u32 3145728, .int .u32 524288, .int .u32 65536, .int .u32 131072]
variable {S : Set0} (hS : StdK S)
include hS
theorem hangs_spec (h : H) : Pure S.cfg 35 [] h fun v h' => v = .slice h.nx 0 3 3 ∧ h' = h.push (.cells hgC 104 false) := by
 refine inn Tryz.func35 (hS.ownK _ dC) rfl rfl ?_
 refine ww1 @Tryz.f35.eq_1 ?_
 exact ⟨(Ext.refl h).push _, rfl⟩
theorem both_spec (c d : Int) (h : H) : Pure S.cfg 12 [.int .u32 c, .int .u32 d] h fun v _ => ∃ b, v = .int .u32 b := by
 refine inn Tryz.func12 (hS.ownK _ dC) rfl rfl ?_
 refine ww1 @Tryz.f12.eq_1 ?_
 refine callF_pure (hangs_spec hS _) ?_
 rintro _ h1 hx1 ⟨rfl, q⟩
 have g1 : h1.get h.nx = some (.cells hgC 104 false) := by rw [q]; exact push_eq rfl
 have n1 : h1.nx = h.nx + 1 := by rw [q]; rfl
 unfold hgC at g1
 refine ww0 ?_
 refine run_blk_cut (fun env h' => ∃ x, env 5 = .int .u32 x ∧ Ext h h') ?_ ?_
 ·refine run_loop (fun m env h' => ∃ i x, m = 3 - i ∧ i ≤ 3 ∧ env 5 = .int .u32 x ∧ env 11 = .slice h.nx 0 3 3 ∧ env 12 = .int .i64 3 ∧ env 13 = .int .i64 (i : Nat) ∧ Ext h1 h') 3 ⟨0, ?_⟩ ?_
  ·refine ww0 ?_
   exact ⟨_, rfl, Ext.refl _⟩
  rintro m env h' ⟨i, x, rfl, hi, e5, e11, e12, e13, hx⟩
  have g2 := (hx.2 h.nx oM).trans g1
  have nn := hx.1
  by_cases hin : i < 3
  ·have hin' : (i : Int) < 3 := oM
   obtain ⟨a, b, hr⟩ : ∃ a b, rdV (some (2, true)) (h'.get h.nx) (i * 2) = some (.agg [.int .u32 a, .int .u32 b]) := by
    rw [g2]
    have hi3 : i = 0 ∨ i = 1 ∨ i = 2 := oM
    rcases hi3 with rfl | rfl | rfl <;> exact ⟨_, _, rfl⟩
   have w1 : IntKind.i64.wrap ((i : Int) + 1) = ((i + 1 : Nat) : Int) := i64_in _ oM
   have hx5 : ∀ o1 o2, Ext h1 ((h'.push o1).put h'.nx o2) := fun o1 o2 => (hx.push o1).put nn o2
   have k12 : ((1 : Nat) < 2) = True := dC
   have k02 : ((0 : Nat) < 2) = True := dC
   by_cases hz : iAnd .u32 x b = 0
   ·have hz' := eq_true hz
    refine ww1 (cj e5 <| cj e11 <| cj e12 <| cj e13 <| cj hin <| cj hin' <| cj hr <| cj hz' <| cj w1 <| cj @Nat.zero_add <| cj k12 k02) ?_
    exact ⟨.inr oM, 3 - (i + 1), by omega, i + 1, _, rfl, by omega, rfl, rfl, hx5 _ _⟩
   ·refine ww1 (cj e5 <| cj e11 <| cj e12 <| cj e13 <| cj hin <| cj hin' <| cj hr <| cj hz <| cj w1 <| cj @Nat.zero_add <| cj k12 k02) ?_
    exact ⟨.inr oM, 3 - (i + 1), by omega, i + 1, _, rfl, by omega, rfl, rfl, hx5 _ _⟩
  ·obtain rfl : i = 3 := oM
   refine ww1 (cj e5 <| cj e11 <| cj e12 <| cj e13 hin) ?_
   exact ⟨_, rfl, hx1.trans hx⟩
 rintro env h5 ⟨x, e5, hx5⟩
 refine ww1 e5 ?_
 exact ⟨hx5, _, rfl⟩
theorem small_spec {s : SnV} {cs : List CnV} {ws : List WaV} {ss : List SeV} {ds : List DiV} {h : H} (a : SnOk s h cs ws ss ds) (hm : ds.length < 2 ^ 62 ∧ ss.length < 2 ^ 62) : Pure S.cfg 14 [.agg s.cells] h fun w _ => ∃ p : Prop, w = bo p ∧ (p → (cs.length ≤ 200 ∧ ws.length ≤ 200 ∧ ss.length ≤ 200 ∧ ds.length ≤ 200) ∧ ∀ x ∈ ss, x.user.length ≤ 255 ∧ x.schema.length ≤ 255) := by
 refine inn Tryz.func14 (hS.ownK _ dC) rfl rfl ?_
 obtain ⟨c1, c2⟩ := a.fc.cell
 obtain ⟨w1, w2⟩ := a.fw.cell
 obtain ⟨s1, s2⟩ := a.fs.cell
 obtain ⟨d1, d2⟩ := a.fd.cell
 have lc := a.fc.len 132
 have lw := a.fw.len 31
 have ls := a.fs.len 109
 have ld := a.fd.len 95
 unfold SnV.cells
 refine ww1 (cj @Tryz.f14.eq_1 <| cj c1 <| cj c2 <| cj w1 <| cj w2 <| cj s1 <| cj s2 <| cj d1 d2) ?_
 generalize hhA : H.push h _ = hA
 have hxA : Ext h hA := by rw [← hhA]; exact (Ext.refl h).push _
 have gA : hA.get h.nx = some (.cells s.cells 37 false) := by rw [← hhA]; exact push_eq rfl
 clear hhA
 unfold SnV.cells at gA
 refine run_blk_cut (fun env h' => env 1 = .ptr h.nx 0 ∧ h' = hA ∧ ds.length ≤ 200) ?_ ?_
 ·refine run_loop (fun m env h' => ∃ i : Nat, m = ds.length - i ∧ i ≤ ds.length ∧ i ≤ 200 ∧ env 1 = .ptr h.nx 0 ∧ env 3 = .int .i64 i ∧ h' = hA) ds.length ⟨0, ?_⟩ ?_
  ·refine ww0 ?_
   exact (Nat.sub_zero _).symm
  rintro m env h' ⟨i, rfl, hi, hi2, e1, e3, rfl⟩
  by_cases hin : i < ds.length
  ·have hin' : (i : Int) < ds.length := oM
   obtain ⟨b, o, m, hv, hr⟩ := row_at1 (f := DiV.cells) (k := 2) (fun _ => rfl) a.fd hxA i hin
   have r0 := hr 0 _ rfl
   rw [Nat.add_zero] at r0
   have w1' : IntKind.i64.wrap ((i : Int) + 1) = ((i + 1 : Nat) : Int) := i64_in _ oM
   by_cases h2 : 200 ≤ i
   ·have h2' : (200 : Int) ≤ i := oM
    refine ww1 (cj e1 <| cj e3 <| cj gA <| cj ld <| cj hin <| cj hin' <| cj hv <| cj h2 h2') ?_
    exact ⟨hxA, False, rfl, fun q => q.elim⟩
   ·have h2' : ¬ (200 : Int) ≤ i := oM
    by_cases h3 : 3000 < ds[i].t.length
    ·have h3' : (3000 : Int) < ds[i].t.length := oM
     refine ww1 (cj e1 <| cj e3 <| cj gA <| cj ld <| cj hin <| cj hin' <| cj hv <| cj h2 <| cj h2' <| cj r0 <| cj h3 h3') ?_
     exact ⟨hxA, False, rfl, fun q => q.elim⟩
    ·have h3' : ¬ (3000 : Int) < ds[i].t.length := oM
     refine ww1 (cj e1 <| cj e3 <| cj gA <| cj ld <| cj hin <| cj hin' <| cj hv <| cj h2 <| cj h2' <| cj r0 <| cj h3 <| cj h3' w1') ?_
     exact ⟨ds.length - (i + 1), by omega, i + 1, rfl, by omega, by omega, rfl⟩
  ·obtain rfl : i = ds.length := oM
   refine ww1 (cj e1 <| cj e3 <| cj gA <| cj ld hin) ?_
   exact hi2
 rintro env h1 ⟨e1, rfl, hd2⟩
 refine ww1 e1 ?_
 refine run_blk_cut (fun env h' => env 1 = .ptr h.nx 0 ∧ h' = h1 ∧ ss.length ≤ 200 ∧ ∀ x ∈ ss, x.user.length ≤ 255 ∧ x.schema.length ≤ 255) ?_ ?_
 ·refine run_loop (fun m env h' => ∃ i : Nat, m = ss.length - i ∧ i ≤ ss.length ∧ i ≤ 200 ∧ env 1 = .ptr h.nx 0 ∧ env 4 = .int .i64 i ∧ h' = h1 ∧ ∀ j (hj : j < ss.length), j < i → ss[j].user.length ≤ 255 ∧ ss[j].schema.length ≤ 255) ss.length ⟨0, ?_⟩ ?_
  ·refine ww1 e1 ?_
   exact ⟨(Nat.sub_zero _).symm, fun j _ q => by omega⟩
  rintro m env h' ⟨i, rfl, hi, hi2, e1, e4, rfl, hall⟩
  by_cases hin : i < ss.length
  ·have hin' : (i : Int) < ss.length := oM
   obtain ⟨b, o, m, hv, hr⟩ := row_at1 (f := SeV.cells) (k := 5) (fun _ => rfl) a.fs hxA i hin
   have r1 := hr 1 _ rfl
   have r2 := hr 2 _ rfl
   have w1' : IntKind.i64.wrap ((i : Int) + 1) = ((i + 1 : Nat) : Int) := i64_in _ oM
   by_cases h2 : 200 ≤ i
   ·have h2' : (200 : Int) ≤ i := oM
    refine ww1 (cj e1 <| cj e4 <| cj gA <| cj ls <| cj hin <| cj hin' <| cj hv <| cj h2 h2') ?_
    exact ⟨hxA, False, rfl, fun q => q.elim⟩
   ·have h2' : ¬ (200 : Int) ≤ i := oM
    by_cases h3 : 255 < ss[i].user.length
    ·have h3' : (255 : Int) < ss[i].user.length := oM
     refine ww1 (cj e1 <| cj e4 <| cj gA <| cj ls <| cj hin <| cj hin' <| cj hv <| cj h2 <| cj h2' <| cj r1 <| cj h3 h3') ?_
     exact ⟨hxA, False, rfl, fun q => q.elim⟩
    ·have h3' : ¬ (255 : Int) < ss[i].user.length := oM
     by_cases h4 : 255 < ss[i].schema.length
     ·have h4' : (255 : Int) < ss[i].schema.length := oM
      refine ww1 (cj e1 <| cj e4 <| cj gA <| cj ls <| cj hin <| cj hin' <| cj hv <| cj h2 <| cj h2' <| cj r1 <| cj r2 <| cj h3 <| cj h3' <| cj h4 h4') ?_
      exact ⟨hxA, False, rfl, fun q => q.elim⟩
     ·have h4' : ¬ (255 : Int) < ss[i].schema.length := oM
      refine ww1 (cj e1 <| cj e4 <| cj gA <| cj ls <| cj hin <| cj hin' <| cj hv <| cj h2 <| cj h2' <| cj r1 <| cj r2 <| cj h3 <| cj h3' <| cj h4 <| cj h4' w1') ?_
      refine ⟨ss.length - (i + 1), by omega, i + 1, rfl, by omega, by omega, rfl, fun j hj hji => ?_⟩
      by_cases hjj : j < i
      ·exact hall j hj hjj
      ·obtain rfl : j = i := oM
       exact ⟨by omega, by omega⟩
  ·obtain rfl : i = ss.length := oM
   refine ww1 (cj e1 <| cj e4 <| cj gA <| cj ls hin) ?_
   exact ⟨hi2, fun x hx => by
    obtain ⟨j, hj, rfl⟩ := List.getElem_of_mem hx
    exact hall j hj hj⟩
 rintro env h2 ⟨e1, rfl, hs2, hall⟩
 refine ww1 (cj e1 <| cj gA <| cj lc lw) ?_
 exact ⟨hxA, _, rfl, fun q => ⟨⟨q.1, q.2, hs2, hd2⟩, hall⟩⟩
end
noncomputable section
theorem errP_ok {code : Int} {st tx : List Nat} (h1 : ∀ b ∈ st, b < 256) (h2 : ∀ b ∈ tx, b < 256) : ∀ b ∈ errP code st tx, b < 256 := fun b hb => by
 unfold errP at hb
 rcases List.mem_cons.1 hb with q | q
 ·omega
 ·rcases List.mem_append.1 q with q | q
  ·exact leB_ok _ _ b q
  ·rcases List.mem_cons.1 q with q | q
   ·omega
   ·rcases List.mem_append.1 q with q | q
    ·exact h1 b q
    ·exact h2 b q
theorem errF_errP {code : Int} {st tx : List Nat} (h1 : ∀ b ∈ st, b < 256) (h2 : ∀ b ∈ tx, b < 256) (h5 : st.length = 5) : (errF (errP code st tx)).2.2.2 = 0 := by
 have hb := errP_ok (code := code) h1 h2
 have e1 : mustF ⟨errP code st tx, 0⟩ [255] = ⟨leB code 2 ++ 35 :: (st ++ tx), 0⟩ := must_ok hb
 have hb2 : ∀ b ∈ leB code 2 ++ 35 :: (st ++ tx), b < 256 := fun b q => hb b (List.mem_cons_of_mem _ q)
 have e2 : ((Rd.mk (leB code 2 ++ 35 :: (st ++ tx)) 0).fix 2).2 = ⟨35 :: (st ++ tx), 0⟩ := by
  unfold Rd.fix
  rw [if_neg (fun q => q rfl), if_neg (by show ¬ (leB code 2 ++ 35 :: (st ++ tx)).length < 2; rw [List.length_append, leB_len]; omega)]
  show Rd.mk (List.drop 2 (leB code 2 ++ 35 :: (st ++ tx))) 0 = _
  rw [List.drop_left' (leB_len code 2)]
 have e3 : mustF ⟨35 :: (st ++ tx), 0⟩ [35] = ⟨st ++ tx, 0⟩ := must_ok fun b q => hb2 b (List.mem_append_right _ q)
 unfold errF
 rw [e1, e2, e3]
 unfold errG
 rw [if_pos rfl, if_neg (by show ¬ (st ++ tx).length < 5; rw [List.length_append]; omega)]
theorem okS_okP {f : Nat} (hf : f = 0 ∨ f = 254) {t : List Nat} (ht : t = [] ∨ t = [0]) : okS ([f, 0, 0, 2, 0, 0, 0] ++ t) = (2, ⟨t, 0⟩) := by
 rcases hf with rfl | rfl <;> rcases ht with rfl | rfl
 all_goals
  unfold okS
  dsimp only
  rw [Rd.bad_no (fun q => by first | exact q.2.1 rfl | exact q.2.2 rfl)]
  rfl
theorem okP_form (f : Nat) (c : Int) : ∃ t, okP f c = [f, 0, 0, 2, 0, 0, 0] ++ t ∧ ((t = [0] ∧ sessP c) ∨ (t = [] ∧ ¬ sessP c)) := by
 unfold okP
 by_cases h : sessP c
 ·exact ⟨[0], by rw [if_pos h], .inl ⟨rfl, h⟩⟩
 ·exact ⟨[], by rw [if_neg h], .inr ⟨rfl, h⟩⟩
theorem over_nil : (Rd.mk [] 0).over = ⟨[], 0⟩ := Rd.bad_no fun q => q.2 rfl
theorem okeF_okP {f : Nat} (hf : f = 0 ∨ f = 254) (c : Int) : okeF (okP f c) c = 0 ∧ (okV (okP f c) c).s = 2 := by
 obtain ⟨t, e, ht⟩ := okP_form f c
 have hS : okS (okP f c) = (2, ⟨t, 0⟩) := by rw [e]; exact okS_okP hf (ht.elim (fun q => .inr q.1) fun q => .inl q.1)
 have h0 : okeF (okP f c) c = 0 := by
  unfold okeF okE okR
  rw [hS]
  simp only
  rw [if_neg (fun q => q rfl)]
  rcases ht with ⟨rfl, hs⟩ | ⟨rfl, hs⟩
  ·rw [if_pos hs, if_neg (not_trk c), if_pos (by simp)]
   have q : (Rd.mk [0] 0).txt.2 = ⟨[], 0⟩ := rfl
   rw [q, over_nil]
  ·rw [if_neg hs, over_nil]
 refine ⟨h0, ?_⟩
 unfold okV
 rw [if_pos h0, hS]
theorem eofF_eofP : eofF eofP = (0, 2, 0) := by
 have e1 : mustF ⟨eofP, 0⟩ [254] = ⟨[0, 0, 2, 0], 0⟩ := must_ok dC
 unfold eofF
 rw [e1]
 unfold eofG overF
 have e2 : (((Rd.mk [0, 0, 2, 0] 0).fix 2).2.fix 2).2 = ⟨[], 0⟩ := rfl
 rw [e2, over_nil, if_pos rfl]
 rfl
theorem countF_one {n : Nat} (h : n = 2 ∨ n = 4 ∨ n = 5 ∨ n = 6) : countF [n] = ((n : Int), (0 : Int)) := by
 rcases h with rfl | rfl | rfl | rfl <;> rfl
theorem firstF_one {n : Nat} (h : n = 2 ∨ n = 4 ∨ n = 5 ∨ n = 6) (c : Int) : firstF [n] c = 0 := by
 have b : byI [n] 0 = n := rfl
 unfold firstF
 rw [if_neg (by simp), b, if_neg oM, if_neg oM, if_neg (fun q => by have := q.1; omega)]
theorem txc_lenB {t r : List Nat} (h : t.length ≤ 255) (hb : ∀ b ∈ t ++ r, b < 256) : txc ⟨lenB t ++ r, 0⟩ = (t, ⟨r, 0⟩) := by
 have e := txF_lenB h hb
 have e1 : (txF (Rd.mk (lenB t ++ r) 0).bs).1 = t := congrArg (fun q => q.1) e
 have e2 : (txF (Rd.mk (lenB t ++ r) 0).bs).2.1 = (lenB t).length := congrArg (fun q => q.2.1) e
 have e3 : (txF (Rd.mk (lenB t ++ r) 0).bs).2.2 = 0 := congrArg (fun q => q.2.2) e
 unfold txc
 rw [if_pos rfl, if_pos e3, e1, e2, if_neg oM]
 show (t, Rd.mk (List.drop (lenB t).length (lenB t ++ r)) 0) = _
 rw [List.drop_left' rfl]
theorem colF_colP {s : List Nat} (h : s.length ≤ 255) (hb : ∀ b ∈ s, b < 256) : (colF (colP s)).2 = 0 := by
 have hT : ∀ b ∈ [12, 45, 0, 255, 0, 0, 0, 253, 0, 0, 0, 0, 0], b < 256 := dC
 obtain ⟨T, hTe⟩ : ∃ T, T = [12, 45, 0, 255, 0, 0, 0, 253, 0, 0, 0, 0, 0] := ⟨_, rfl⟩
 rw [← hTe] at hT
 have app : ∀ {a b : List Nat}, (∀ x ∈ a, x < 256) → (∀ x ∈ b, x < 256) → ∀ x ∈ a ++ b, x < 256 := fun ha hb x hx => by
  rcases List.mem_append.1 hx with q | q
  ·exact ha x q
  ·exact hb x q
 have n0 : ∀ b ∈ ([] : List Nat), b < 256 := fun b q => by cases q
 have h1 := app (lenB_ok hb) hT
 have h2 := app (lenB_ok hb) h1
 have h3 := app (lenB_ok n0) h2
 have h4 := app (lenB_ok n0) h3
 have h5 := app (lenB_ok n0) h4
 unfold colF colP
 rw [← hTe, txc_lenB dC (app dC h5)]
 unfold colA
 rw [show (((([100, 101, 102] : List Nat), (Rd.mk (lenB [] ++ (lenB [] ++ (lenB [] ++ (lenB s ++ (lenB s ++ T))))) 0)) : List Nat × Rd).2.bad (¬ ((([100, 101, 102] : List Nat), (Rd.mk (lenB [] ++ (lenB [] ++ (lenB [] ++ (lenB s ++ (lenB s ++ T))))) 0)) : List Nat × Rd).1 = [100, 101, 102])) = ⟨lenB [] ++ (lenB [] ++ (lenB [] ++ (lenB s ++ (lenB s ++ T)))), 0⟩ from Rd.bad_no fun q => q.2 rfl]
 have cs : ∃ x, colS ⟨lenB [] ++ (lenB [] ++ (lenB [] ++ (lenB s ++ (lenB s ++ T)))), 0⟩ 5 = (x, ⟨T, 0⟩) := by
  unfold colS colS colS colS colS colS
  simp only
  rw [txc_lenB dC (app n0 h4)]
  simp only
  rw [txc_lenB dC (app n0 h3)]
  simp only
  rw [txc_lenB dC (app n0 h2)]
  simp only
  rw [txc_lenB h (app hb h1)]
  simp only
  rw [txc_lenB h (app hb hT)]
  exact ⟨_, rfl⟩
 obtain ⟨x, cs⟩ := cs
 rw [cs, hTe]
 have b1 : ((12 : Int), (Rd.mk [45, 0, 255, 0, 0, 0, 253, 0, 0, 0, 0, 0] 0)).2.bad (¬ ((12 : Int), (Rd.mk [45, 0, 255, 0, 0, 0, 253, 0, 0, 0, 0, 0] 0)).1 = 12) = ⟨[45, 0, 255, 0, 0, 0, 253, 0, 0, 0, 0, 0], 0⟩ := Rd.bad_no fun q => q.2 rfl
 have b2 : ((253 : Int), (Rd.mk [0, 0, 0, 0, 0] 0)).2.bad (¬ knownP (IntKind.u8.wrap ((253 : Int), (Rd.mk [0, 0, 0, 0, 0] 0)).1)) = ⟨[0, 0, 0, 0, 0], 0⟩ := Rd.bad_no fun q => q.2 (by show knownP 253; unfold knownP; omega)
 have b3 : ((0 : Int), (Rd.mk [] 0)).2.bad (¬ ((0 : Int), (Rd.mk [] 0)).1 = 0) = ⟨[], 0⟩ := Rd.bad_no fun q => q.2 rfl
 have b4 : (Rd.mk [] 0).bad (¬ (Rd.mk [] 0).bs.length = 0) = ⟨[], 0⟩ := Rd.bad_no fun q => q.2 rfl
 unfold colB
 rw [show (Rd.mk [12, 45, 0, 255, 0, 0, 0, 253, 0, 0, 0, 0, 0] 0).fix 1 = (12, ⟨[45, 0, 255, 0, 0, 0, 253, 0, 0, 0, 0, 0], 0⟩) from rfl]
 unfold colC
 rw [b1, show (Rd.mk [45, 0, 255, 0, 0, 0, 253, 0, 0, 0, 0, 0] 0).fix 2 = (45, ⟨[255, 0, 0, 0, 253, 0, 0, 0, 0, 0], 0⟩) from rfl]
 unfold colD
 rw [show ((45 : Int), Rd.mk [255, 0, 0, 0, 253, 0, 0, 0, 0, 0] 0).2.fix 4 = (255, ⟨[253, 0, 0, 0, 0, 0], 0⟩) from rfl]
 unfold colE
 rw [show ((255 : Int), Rd.mk [253, 0, 0, 0, 0, 0] 0).2.fix 1 = (253, ⟨[0, 0, 0, 0, 0], 0⟩) from rfl]
 unfold colG
 rw [b2, show (Rd.mk [0, 0, 0, 0, 0] 0).fix 2 = (0, ⟨[0, 0, 0], 0⟩) from rfl]
 unfold colH
 rw [show ((0 : Int), Rd.mk [0, 0, 0] 0).2.fix 1 = (0, ⟨[0, 0], 0⟩) from rfl]
 unfold colI
 rw [show ((0 : Int), Rd.mk [0, 0] 0).2.fix 2 = (0, ⟨[], 0⟩) from rfl]
 unfold colJ
 rw [b3]
 unfold colK
 rw [b4]
 unfold colL
 rw [if_pos rfl]
theorem firstF_okP (c : Int) : firstF (okP 0 c) c = 1 := by
 obtain ⟨t, e, _⟩ := okP_form 0 c
 rw [e]
 unfold firstF
 rw [if_neg (by simp), if_pos (show byI ([0, 0, 0, 2, 0, 0, 0] ++ t) 0 = 0 from rfl)]
theorem lastF_rowB {ts : List (List Nat)} (h : ∀ t ∈ ts, Tx t) (hn : 0 < ts.length) (c : Int) : lastF (rowB ts) c = 0 := by
 obtain ⟨a, l, e, ha⟩ := rowB_first h hn
 have b : byI (rowB ts) 0 = a := by rw [e]; rfl
 unfold lastF
 rw [if_neg (by rw [e]; simp), b, if_neg oM, if_neg oM]
def Goes (s : RS) : List (List Nat) → Nat → Prop
 | [], n => s.nx = none ∧ n = 0
 | l :: ls, n => Tame s l ∧ (feedS s l).2.2 = 0 ∧ ((feedS s l).2.1.last ↔ ls = []) ∧ ∃ m, Goes (feedS s l).1 ls m ∧ (((feedS s l).2.1.k = 7 ∧ n = m + 1) ∨ (¬ (feedS s l).2.1.k = 7 ∧ n = m))
theorem feed_next {s s' : RS} {f : FuncId} {l : List Nat} {p : PT} (hf : s.nx = some f) (hw : ¬ s.wants) (h : nextS s l = (s', p, 0)) : feedS s l = (s', p, 0) := by
 unfold feedS
 rw [if_neg (by rw [hf]; exact fun q => by cases q), if_neg hw, h, if_neg (fun q => q rfl)]
theorem goes_more {s s' : RS} {f : FuncId} {l : List Nat} {ls : List (List Nat)} {p : PT} {n : Nat} (hf : s.nx = some f) (tm : Tame s l) (hw : ¬ s.wants) (h : nextS s l = (s', p, 0)) (hl : ¬ p.last) (hk : ¬ p.k = 7) (hls : ls ≠ []) (g : Goes s' ls n) : Goes s (l :: ls) n := by
 unfold Goes
 rw [feed_next hf hw h]
 exact ⟨tm, rfl, ⟨fun q => absurd q hl, fun q => absurd q hls⟩, n, g, .inr ⟨hk, rfl⟩⟩
theorem goes_row {s s' : RS} {f : FuncId} {l : List Nat} {ls : List (List Nat)} {p : PT} {n : Nat} (hf : s.nx = some f) (tm : Tame s l) (hw : ¬ s.wants) (h : nextS s l = (s', p, 0)) (hl : ¬ p.last) (hk : p.k = 7) (hls : ls ≠ []) (g : Goes s' ls n) : Goes s (l :: ls) (n + 1) := by
 unfold Goes
 rw [feed_next hf hw h]
 exact ⟨tm, rfl, ⟨fun q => absurd q hl, fun q => absurd q hls⟩, n, g, .inl ⟨hk, rfl⟩⟩
theorem goes_last {s s' : RS} {f : FuncId} {l : List Nat} {p : PT} (hf : s.nx = some f) (tm : Tame s l) (hw : ¬ s.wants) (h : nextS s l = (s', p, 0)) (hl : p.last) (hk : ¬ p.k = 7) (hn : s'.nx = none) : Goes s [l] 0 := by
 unfold Goes
 rw [feed_next hf hw h]
 exact ⟨tm, rfl, ⟨fun _ => rfl, fun _ => hl⟩, 0, ⟨hn, rfl⟩, .inr ⟨hk, rfl⟩⟩
theorem goes_err {s : RS} (i : RI s) (hm : s.may) (hw : ¬ s.wants) {l t : List Nat} (hb : ∀ x ∈ l, x < 256) (h255 : l = 255 :: t) (he : (errF l).2.2.2 = 0) : Goes s [l] 0 := by
 have l0 : ¬ l.length = 0 := by rw [h255]; simp
 have b0 : byI l 0 = 255 := by rw [h255]; rfl
 have b1 : ¬ byI l 0 = 0 := by rw [b0]; decide
 have f2 : firstF l s.c = 2 := by unfold firstF; rw [if_neg l0, if_neg b1, if_pos b0]
 have e : errS s l = (s.fin, { PT.z with k := 2, last := True, ec := (errF l).1, es := (errF l).2.1, et := (errF l).2.2.1 }, 0) := by
  unfold errS
  rw [if_neg (fun q => q he)]
 have ok : ∀ m, okS1 s l m = errS s l := fun m => by unfold okS1; rw [if_neg (by rw [f2]; decide)]
 obtain ⟨f, hf, hfm⟩ := i.may.1 hm
 have hn : nextS s l = errS s l := by
  simp only [List.mem_cons, List.not_mem_nil, or_false] at hfm
  rcases hfm with rfl | rfl | rfl | rfl | rfl | rfl | rfl | rfl
  ·rw [show nextS s l = okS1 s l False by unfold nextS; rw [hf]; rfl]; exact ok _
  ·rw [show nextS s l = eofOrOkS s l by unfold nextS; rw [hf]; rfl]
   unfold eofOrOkS
   rw [if_pos (eofF_err hb h255)]
   exact ok _
  ·rw [show nextS s l = textS s l by unfold nextS; rw [hf]; rfl]
   unfold textS
   rw [if_neg l0, if_pos b0]
  ·rw [show nextS s l = firstS s l by unfold nextS; rw [hf]; rfl]
   unfold firstS
   rw [if_neg (by rw [f2]; decide), if_pos f2]
  ·rw [show nextS s l = prepS s l by unfold nextS; rw [hf]; rfl]
   unfold prepS
   rw [if_pos (.inr b1)]
  ·rw [show nextS s l = rowS s l by unfold nextS; rw [hf]; rfl]
   unfold rowS
   rw [if_pos (lastF_err h255)]
  ·rw [show nextS s l = errS s l by unfold nextS; rw [hf]; rfl]
  ·rw [show nextS s l = okS1 s l True by unfold nextS; rw [hf]; rfl]; exact ok _
 exact goes_last hf (.inl ⟨⟨t, h255⟩, fun g hg => by rw [hf] at hg; cases hg; exact hfm⟩) hw (hn.trans e) trivial (show ¬ (2 : Int) = 7 by decide) rfl
theorem done_okP {s : RS} {f : Nat} (hf : f = 0 ∨ f = 254) (k : Int) (more : Prop) : ∃ s' p, doneS s (okP f s.c) k more = (s', p, 0) ∧ p.last ∧ p.k = k ∧ s'.nx = none := by
 obtain ⟨q1, q2⟩ := okeF_okP hf s.c
 have a8 : iAnd .u16 2 8 = 0 := rfl
 refine ⟨_, _, by unfold doneS; rw [if_neg (fun q => q q1)], ?_, rfl, ?_⟩
 ·show ¬ (more ∧ ¬ iAnd .u16 (okV (okP f s.c) s.c).s 8 = 0)
  rw [q2]
  exact fun q => q.2 a8
 ·unfold RS.ends
  rw [q2, if_neg (fun q => q.2 a8)]
  rfl
structure Q3 (c : Int) (f : FuncId) (left : Int) (nc : Nat) (s : RS) : Prop where
 c : s.c = c
 k : s.k = 3
 nx : s.nx = some f
 w : ¬ s.wants
 bin : ¬ s.bin
 left : s.left = left
 cols : s.cols.length = nc
 told : s.told.length = nc
theorem Q3.tm {c : Int} {f : FuncId} {left : Int} {nc : Nat} {s : RS} (q : Q3 c f left nc s) (hf : f ∈ [43, 46, 48, 84, 128]) (l : List Nat) : Tame s l := .inr ⟨fun _ => q.bin, fun g hg => by rw [q.nx] at hg; cases hg; exact hf⟩
theorem nk8 : ¬ (8 : Int) = 7 := dC
theorem goes_end {c : Int} {left : Int} {nc : Nat} {s : RS} (q : Q3 c 48 left nc s) : Goes s [endP c] 0 := by
 have hn : ∀ l, nextS s l = rowS s l := fun l => by unfold nextS; rw [q.nx]; rfl
 have hk : ¬ s.k = 28 := by rw [q.k]; decide
 have a8 : iAnd .u16 2 8 = 0 := rfl
 unfold endP
 by_cases ho : oldC c
 ·rw [if_pos ho]
  have hl : lastF eofP s.c = 3 := by
   unfold lastF
   have hp : ¬ hasP s.c 16777216 := fun w => w (by rw [q.c]; exact ho)
   rw [if_neg dC, if_neg (show ¬ byI eofP 0 = 255 by decide), if_pos (show byI eofP 0 = 254 from rfl), if_neg hp, if_pos (show eofP.length = 5 from rfl)]
  have e : ∃ s' p, rowS s eofP = (s', p, 0) ∧ p.last ∧ p.k = 8 ∧ s'.nx = none := by
   unfold rowS
   rw [if_neg (by rw [hl]; decide), if_neg (by rw [hl]; decide), if_pos hl, eofF_eofP]
   refine ⟨_, _, if_neg (fun q => q rfl), ?_, rfl, ?_⟩
   ·show ¬ ((¬ s.k = 28) ∧ ¬ iAnd .u16 2 8 = 0)
    exact fun w => w.2 a8
   ·unfold RS.ends
    rw [if_neg (fun w => w.2 a8)]
    rfl
  obtain ⟨s', p, e1, e2, e3, e4⟩ := e
  exact goes_last q.nx (q.tm dC _) q.w ((hn _).trans e1) e2 (by rw [e3]; exact nk8) e4
 ·rw [if_neg ho]
  have hl : lastF (okP 254 c) s.c = 1 := by
   obtain ⟨t, e, ht⟩ := okP_form 254 c
   rw [e]
   unfold lastF
   have hp : hasP s.c 16777216 := fun w => ho (by rw [q.c] at w; exact w)
   rw [if_neg (by simp), if_neg (show ¬ byI ([254, 0, 0, 2, 0, 0, 0] ++ t) 0 = 255 by show ¬ ((254 : Nat) : Int) = 255; decide), if_pos (show byI ([254, 0, 0, 2, 0, 0, 0] ++ t) 0 = 254 from rfl), if_pos hp, if_pos (by rcases ht with ⟨rfl, _⟩ | ⟨rfl, _⟩ <;> decide)]
  obtain ⟨s', p, e1, e2, e3, e4⟩ := done_okP (s := s) (f := 254) (.inr rfl) 8 (¬ s.k = 28)
  rw [q.c] at e1
  have e : rowS s (okP 254 c) = (s', p, 0) := by
   unfold rowS
   rw [if_neg (by rw [hl]; decide), if_pos hl]
   exact e1
  exact goes_last q.nx (q.tm dC _) q.w ((hn _).trans e) e2 (by rw [e3]; exact nk8) e4
theorem goes_rows {c : Int} {left : Int} {nc : Nat} {s : RS} (q : Q3 c 48 left nc s) (hc : 0 < nc) : ∀ {rows : List (List (List Nat))}, RowsOk nc rows → Goes s (rows.map rowB ++ [endP c]) rows.length
 | [], _ => goes_end q
 | r :: rows, h => by
   have hr := h r (List.mem_cons_self ..)
   have ih := goes_rows q hc (rows := rows) fun x hx => h x (List.mem_cons_of_mem _ hx)
   have hn : nextS s (rowB r) = rowS s (rowB r) := by unfold nextS; rw [q.nx]; rfl
   have hl := lastF_rowB (ts := r) hr.2 (by rw [hr.1]; exact hc) s.c
   have he : rowE s (rowB r) = 0 := by
    unfold rowE
    rw [q.cols, ← hr.1]
    exact rtE_rowB hr.2
   have e : rowS s (rowB r) = (s, { PT.z with k := 7 }, 0) := by
    unfold rowS
    rw [if_neg (by rw [hl]; decide), if_neg (by rw [hl]; decide), if_neg (by rw [hl]; decide), if_neg (fun w => w he)]
   exact goes_row q.nx (q.tm dC _) q.w (hn.trans e) (fun w => w) rfl (by simp) ih
theorem goes_mid {c : Int} {nc : Nat} {s : RS} {ls : List (List Nat)} {n : Nat} (hls : ls ≠ []) (q : Q3 c (if iAnd .u32 c 16777216 = 0 then 128 else 48) 0 nc s) (g : ∀ s', Q3 c 48 0 nc s' → Goes s' ls n) : Goes s (midP c ++ ls) n := by
 unfold midP
 by_cases ho : oldC c
 ·rw [if_pos (show iAnd .u32 c 16777216 = 0 from ho)] at q
  rw [if_pos ho]
  have hn : nextS s eofP = colEndS s eofP := by unfold nextS; rw [q.nx]; rfl
  have hk : ¬ (s.k = 23 ∧ s.fl = 1 ∧ ¬ iAnd .u16 2 64 = 0) := fun w => by rw [q.k] at w; exact absurd w.1 dC
  have e : ∃ p, colEndS s eofP = (({ s with st := 2 } : RS).await 48 True, p, 0) ∧ ¬ p.last ∧ p.k = 6 := by
   unfold colEndS
   rw [eofF_eofP]
   refine ⟨_, by rw [if_neg (fun q => q rfl), if_neg hk], hk, rfl⟩
  obtain ⟨p, e1, e2, e3⟩ := e
  exact goes_more q.nx (q.tm dC _) q.w (hn.trans e1) e2 (by rw [e3]; decide) hls (g _ ⟨q.c, q.k, rfl, q.w, q.bin, q.left, q.cols, q.told⟩)
 ·rw [if_neg (show ¬ iAnd .u32 c 16777216 = 0 from ho)] at q
  rw [if_neg ho]
  exact g s q
theorem goes_cols {c : Int} {ls : List (List Nat)} {n nt : Nat} (hls : ls ≠ []) (g : ∀ s', Q3 c (if iAnd .u32 c 16777216 = 0 then 128 else 48) 0 nt s' → Goes s' ls n) : ∀ {ns : List (List Nat)} {nc : Nat} {s : RS}, ns ≠ [] → nc + ns.length = nt → (∀ t ∈ ns, Tx t) → Q3 c 84 ns.length nc s → Goes s (ns.map colP ++ ls) n
 | [], _, _, h, _, _, _ => absurd rfl h
 | t :: ns, nc, s, _, hnt, ht, q => by
   have h0 := ht t (List.mem_cons_self ..)
   have hcf := colF_colP h0.1 h0.2
   have hn : nextS s (colP t) = colNS s (colP t) := by unfold nextS; rw [q.nx]; rfl
   have one : oneS s (colP t) = ({ s with told := s.told ++ [(colF (colP t)).1], left := s.left - 1 }, 0) := by
    unfold oneS
    rw [if_neg (fun w => w hcf)]
   obtain ⟨s1, hs1⟩ : ∃ s1 : RS, s1 = { s with told := s.told ++ [(colF (colP t)).1], left := s.left - 1, cols := s.told ++ [(colF (colP t)).1] } := ⟨_, rfl⟩
   have e : colNS s (colP t) = (colN s1, { PT.z with k := 5 }, 0) := by
    unfold colNS
    rw [one, if_neg (fun w => w rfl), hs1]
   have hlc : (s.told ++ [(colF (colP t)).1]).length = nc + 1 := by rw [List.length_append, q.told]; rfl
   have hlf : s.left = (ns.length : Int) + 1 := by rw [q.left]; rfl
   cases ns with
   | nil =>
     have hz : s1.left = 0 := by rw [hs1]; show s.left - 1 = 0; rw [hlf]; rfl
     refine goes_more q.nx (q.tm dC _) q.w (hn.trans e) (fun w => w) (show ¬ (5 : Int) = 7 by decide) (by simpa using hls) (g _ ?_)
     have hc1 : s1.c = c := by rw [hs1]; exact q.c
     have hnt' : nc + 1 = nt := hnt
     unfold colN
     rw [if_pos hz, hc1]
     by_cases ho : iAnd .u32 c 16777216 = 0
     ·rw [if_pos ho, if_pos ho]
      exact ⟨hc1, by rw [hs1]; exact q.k, rfl, by rw [hs1]; exact q.w, by rw [hs1]; exact q.bin, hz, by rw [hs1, ← hnt']; exact hlc, by rw [hs1, ← hnt']; exact hlc⟩
     ·rw [if_neg ho, if_neg ho]
      exact ⟨hc1, by rw [hs1]; exact q.k, rfl, by rw [hs1]; exact q.w, by rw [hs1]; exact q.bin, hz, by rw [hs1, ← hnt']; exact hlc, by rw [hs1, ← hnt']; exact hlc⟩
   | cons u us =>
     have hz : s1.left = ((u :: us).length : Int) := by rw [hs1]; show s.left - 1 = _; rw [hlf]; omega
     have hcn : colN s1 = s1 := by
      unfold colN
      rw [if_neg (by rw [hz]; exact fun w => by have : ((u :: us).length : Int) = us.length + 1 := rfl; omega)]
     refine goes_more q.nx (q.tm dC _) q.w (hn.trans e) (fun w => w) (show ¬ (5 : Int) = 7 by decide) (by simp) ?_
     rw [hcn]
     refine goes_cols hls g (nc := nc + 1) (by simp) (by rw [← hnt]; simp only [List.length_cons]; omega) (fun x hx => ht x (List.mem_cons_of_mem _ hx)) ⟨by rw [hs1]; exact q.c, by rw [hs1]; exact q.k, by rw [hs1]; exact q.nx, by rw [hs1]; exact q.w, by rw [hs1]; exact q.bin, hz, by rw [hs1]; exact hlc, by rw [hs1]; exact hlc⟩
theorem colsK_tx (k : Nat) : ∀ t ∈ colsK k, Tx t := by
 unfold colsK Tx
 split <;> decide
theorem goes_told {c fl : Int} {k : Nat} (h1 : 1 ≤ k) (h5 : k ≤ 5) {rows : List (List (List Nat))} (hR : RowsOk (colsK k).length rows) : Goes (newS c 3 fl []) (toldP k rows c) rows.length := by
 have hcnt := rowsK h1 h5
 have hne : colsK k ≠ [] := fun q => by rw [q] at hcnt; simp at hcnt
 have hn : nextS (newS c 3 fl []) [(colsK k).length] = firstS (newS c 3 fl []) [(colsK k).length] := by unfold nextS; rfl
 have hf := firstF_one hcnt c
 have hcf := countF_one hcnt
 have e : ∃ p, firstS (newS c 3 fl []) [(colsK k).length] = (({ newS c 3 fl [] with left := ((colsK k).length : Int), told := [], cols := [] } : RS).await 84 False, p, 0) ∧ ¬ p.last ∧ p.k = 4 := by
  have hc : (newS c 3 fl []).c = c := rfl
  unfold firstS
  rw [hc, hf, hcf]
  exact ⟨_, rfl, fun w => w, rfl⟩
 obtain ⟨p, e1, e2, e3⟩ := e
 unfold toldP
 rw [List.append_assoc, List.cons_append, List.cons_append, List.append_assoc]
 refine goes_more (f := 46) rfl (.inr ⟨fun w => (by cases w), fun g hg => by cases hg; decide⟩) (fun w => w) (hn.trans e1) e2 (by rw [e3]; decide) (by simp) ?_
 refine goes_cols (nt := (colsK k).length) (nc := 0) (by simp) (fun s' q => ?_) hne oM (colsK_tx k) ⟨rfl, rfl, rfl, fun w => w, fun w => w rfl, rfl, rfl, rfl⟩
 exact goes_mid (by simp) q fun s2 q2 => goes_rows q2 oM hR
def nRows (k : Int) (l : List Nat) (na nb nc nd : Nat) : Nat := if k = 3 then (match Ad.readT l with
 | none => 0
 | some (k, n) => if showE k n = 0 then cntK k na nb nc nd else 0) else 0
theorem goes_ans {k c fl : Int} {l : List Nat} {na nb nc nd : Nat} {ls : List (List Nat)} (h : Ans k l c na nb nc nd ls) : Goes (newS c k fl []) ls (nRows k l na nb nc nd) := by
 have i := RI.new c k fl
 have er : ∀ e : Int × List Nat × List Nat, (∀ b ∈ e.2.1, b < 256) → (∀ b ∈ e.2.2, b < 256) → e.2.1.length = 5 → ¬ answerF k = 1 → Goes (newS c k fl []) [errP e.1 e.2.1 e.2.2] 0 := fun e h1 h2 h3 hm => goes_err i hm (fun w => w) (errP_ok h1 h2) rfl (errF_errP h1 h2 h3)
 unfold Ans at h
 unfold nRows
 by_cases h3 : k = 3
 ·subst h3
  rw [if_pos rfl] at h
  rw [if_pos rfl]
  unfold Ans3 at h
  cases hr : Ad.readT l with
  | none =>
    rw [hr] at h
    rw [h]
    exact er e2 dC dC rfl dC
  | some p =>
    obtain ⟨pk, pn⟩ := p
    rw [hr] at h
    simp only at h ⊢
    by_cases hz : showE pk pn = 0
    ·rw [if_pos hz] at h
     rw [if_pos hz]
     obtain ⟨⟨h1, h5⟩, rows, rfl, hR, hl⟩ := h
     rw [← hl]
     exact goes_told h1 h5 hR
    ·rw [if_neg hz] at h
     rw [if_neg hz, h]
     have hn : nextS (newS c 3 fl []) (okP 0 c) = firstS (newS c 3 fl []) (okP 0 c) := by unfold nextS; rfl
     obtain ⟨s', p, e1, e2, e3, e4⟩ := done_okP (s := newS c 3 fl []) (f := 0) (.inl rfl) 1 True
     have e : firstS (newS c 3 fl []) (okP 0 c) = (s', p, 0) := by
      unfold firstS
      rw [if_pos (show firstF (okP 0 c) (newS c 3 fl []).c = 1 from firstF_okP c)]
      exact e1
     exact goes_last (f := 46) rfl (.inr ⟨fun w => (by cases w), fun g hg => by cases hg; decide⟩) (fun w => w) (hn.trans e) e2 (by rw [e3]; decide) e4
 ·rw [if_neg h3] at h
  rw [if_neg h3]
  by_cases ha : answerF k = 1
  ·rw [if_pos ha] at h
   rw [h]
   refine ⟨?_, rfl⟩
   show firstN k = none
   unfold firstN
   rw [if_pos ha]
  ·rw [if_neg ha] at h
   rcases h with h | ⟨rfl, h⟩
   ·rw [h]
    exact er e1 dC dC rfl ha
   ·rw [h]
    have hn : nextS (newS c 14 fl []) (okP 0 c) = okS1 (newS c 14 fl []) (okP 0 c) False := by unfold nextS; rfl
    obtain ⟨s', p, e1, e2, e3, e4⟩ := done_okP (s := newS c 14 fl []) (f := 0) (.inl rfl) 1 False
    have e : okS1 (newS c 14 fl []) (okP 0 c) False = (s', p, 0) := by
     unfold okS1
     rw [if_pos (show firstF (okP 0 c) (newS c 14 fl []).c = 1 from firstF_okP c)]
     exact e1
    exact goes_last (f := 43) rfl (.inr ⟨fun w => (by cases w), fun g hg => by cases hg; decide⟩) (fun w => w) (hn.trans e) e2 (by rw [e3]; decide) e4
theorem ans_len {k c : Int} {l : List Nat} {na nb nc nd : Nat} {ls : List (List Nat)} (h : Ans k l c na nb nc nd ls) : ∀ x ∈ ls, x.length ≤ 4000 := by
 have okl : ∀ f, (okP f c).length ≤ 4000 := fun f => by
  obtain ⟨t, e, ht⟩ := okP_form f c
  rw [e, List.length_append]
  rcases ht with ⟨rfl, _⟩ | ⟨rfl, _⟩
  ·exact (show (7 : Nat) + 1 ≤ 4000 by decide)
  ·exact (show (7 : Nat) + 0 ≤ 4000 by decide)
 have one : ∀ {y : List Nat}, y.length ≤ 4000 → ls = [y] → ∀ x ∈ ls, x.length ≤ 4000 := fun hy hl x hx => by
  rw [hl, List.mem_singleton] at hx
  rw [hx]; exact hy
 unfold Ans at h
 split at h
 ·unfold Ans3 at h
  split at h
  ·exact one dC h
  ·split at h
   ·obtain ⟨⟨h1, h5⟩, rows, rfl, hR, hl⟩ := h
    rename_i k' _ _ _
    have hk6 := colsK_len k'
    intro x hx
    unfold toldP at hx
    have endl : (endP c).length ≤ 4000 := by
     unfold endP
     split
     ·decide
     ·exact okl 254
    rcases List.mem_append.1 hx with hx | hx
    ·rcases List.mem_append.1 hx with hx | hx
     ·rcases List.mem_append.1 hx with hx | hx
      ·rcases List.mem_cons.1 hx with rfl | hx
       ·exact (show (1 : Nat) ≤ 4000 by decide)
       ·obtain ⟨t, ht, rfl⟩ := List.mem_map.1 hx
        have htx := lenB_len (colsK_tx k' t ht).1
        unfold colP
        have e0 : (lenB []).length = 1 := rfl
        have e3 : (lenB [100, 101, 102]).length = 4 := rfl
        simp only [List.length_append, e0, e3, List.length_cons, List.length_nil]
        omega
      ·unfold midP at hx
       split at hx
       ·rw [List.mem_singleton.1 hx]; decide
       ·cases hx
     ·obtain ⟨r, hr, rfl⟩ := List.mem_map.1 hx
      have := rowB_len (hR r hr).2
      rw [(hR r hr).1] at this
      omega
    ·rw [List.mem_singleton.1 hx]; exact endl
   ·exact one (okl 0) h
 ·split at h
  ·rw [h]; exact fun x hx => by cases hx
  ·rcases h with h | ⟨_, h⟩
   ·exact one dC h
   ·exact one (okl 0) h
end
noncomputable section
theorem bo_t : V.bool true = bo True := by simp [bo]
theorem neqB (P Q : Prop) (c : Bool) : binV Tryz.prog .neq 4 c (bo P) (bo Q) = some (bo (¬ (P ↔ Q))) := by
 have h : ∀ a b : Bool, binV Tryz.prog .neq 4 c (.bool a) (.bool b) = some (.bool (a != b)) := by
  intro a b
  cases a <;> cases b <;> cases c <;> kernel_rfl
 unfold bo
 rw [h]
 by_cases p : P <;> by_cases q : Q <;> simp [p, q]
theorem answer8 {k : Int} (h : ¬ k = 17) : ¬ answerF k = 8 := fun q => by
 unfold answerF at q
 repeat' split at q
 all_goals first | (cases q; done) | exact h (by assumption)
theorem ans_cnt {k c : Int} {l : List Nat} {na nb nc nd : Nat} {ls : List (List Nat)} (h : Ans k l c na nb nc nd ls) (hn : na ≤ 200 ∧ nb ≤ 200 ∧ nc ≤ 200 ∧ nd ≤ 200) : ls.length ≤ 300 := by
 have one : ∀ {y : List Nat}, ls = [y] → ls.length ≤ 300 := fun hl => by rw [hl]; exact (show (1 : Nat) ≤ 300 by decide)
 unfold Ans at h
 split at h
 ·unfold Ans3 at h
  split at h
  ·exact one h
  ·split at h
   ·obtain ⟨⟨q1, q5⟩, rows, rfl, hR, hl⟩ := h
    rename_i k' _ _ _
    have hk6 := colsK_len k'
    have hr : rows.length ≤ 200 := by
     rw [hl]
     unfold cntK
     split <;> omega
    have hmid : (midP c).length ≤ 1 := by unfold midP; split <;> decide
    unfold toldP
    simp only [List.length_append, List.length_cons, List.length_map, List.length_nil]
    omega
   ·exact one h
 ·split at h
  ·rw [h]; exact Nat.zero_le _
  ·rcases h with h | ⟨_, h⟩
   ·exact one h
   ·exact one h
variable {S : Set0} (hS : StdT S)
include hS
theorem whole_law {X : RX} {d : List Nat} {k fl c : Int} {s : SnV} {cs : List CnV} {ws : List WaV} {ss : List SeV} {ds : List DiV} {h : H} (hc : Cmd X k fl d) (b : BS 5 h X.x7 d) (a : SnOk s h cs ws ss ds) (hm : ds.length < 2 ^ 62 ∧ ss.length < 2 ^ 62) (okc : ∀ x ∈ cs, x.Ok) (oks : ∀ x ∈ ss, i64R x.n ∧ (∀ b ∈ x.user, b < 256) ∧ ∀ b ∈ x.schema, b < 256) (okw : ∀ x ∈ ws, i64R x.cl) (okd : ∀ x ∈ ds, i64R x.n ∧ ∀ b ∈ x.t, b < 256) : Pure S.cfg 4 [.agg (cmdC X k fl), .int .u32 c, .agg s.cells] h fun w _ => w = bo True := by
 refine inn Tryz.func4 (hS.ownK _ dC) rfl rfl ?_
 obtain ⟨x1, x2⟩ := b.cell
 obtain ⟨c1, c2⟩ := a.fc.cell
 obtain ⟨w1, w2⟩ := a.fw.cell
 obtain ⟨s1, s2⟩ := a.fs.cell
 obtain ⟨d1, d2⟩ := a.fd.cell
 have sml := fun h b => small_spec hS.toStdK (h := h) (s := s) (cs := cs) (ws := ws) (ss := ss) (ds := ds) b hm
 have apc := fun h b => apcmd_spec hS.toStdK (h := h) (X := X) (d := d) b hc
 have nw := fun h b c => new_spec hS.toStdR (h := h) (X := X) (d := d) b c k fl
 unfold SnV.cells at sml
 unfold cmdC at apc nw
 unfold SnV.cells cmdC
 refine ww1 (cj @Tryz.f4.eq_1 <| cj x1 <| cj x2 <| cj c1 <| cj c2 <| cj w1 <| cj w2 <| cj s1 <| cj s2 <| cj d1 d2) ?_
 generalize hhA : H.push (H.push h _) _ = hA
 have hxA : Ext h hA := by rw [← hhA]; exact ((Ext.refl h).push _).push _
 have nA : hA.nx = h.nx + 2 := by rw [← hhA]; rfl
 have gC : hA.get h.nx = some (.cells (cmdC X k fl) 52 false) := by rw [← hhA, push_ne (by simp only [push_nx]; omega)]; exact push_eq rfl
 have gS : hA.get (h.nx + 1) = some (.cells s.cells 37 false) := by rw [← hhA]; exact push_eq rfl
 clear hhA
 unfold cmdC at gC
 unfold SnV.cells at gS
 have lv := hS.ad.lives
 rw [bo_t] at lv
 refine callF_exact (lv _) ?_
 refine ww0 ?_
 refine callF_pure (both_spec hS.toStdK c c _) ?_
 rintro _ h1 hx1 ⟨bc, rfl⟩
 have n1 := hx1.1
 have gC1 := (hx1.2 h.nx oM).trans gC
 have gS1 := (hx1.2 (h.nx + 1) oM).trans gS
 refine ww1 gC1 ?_
 refine callF_pure (apc _ (b.ext (hxA.trans hx1))) ?_
 rintro w2' h2 hx2 ⟨ap1, ap2⟩
 have n2 := hx2.1
 have gC2 := (hx2.2 h.nx oM).trans gC1
 have gS2 := (hx2.2 (h.nx + 1) oM).trans gS1
 have hx02 := (hxA.trans hx1).trans hx2
 have sm := sml h2 (a.ext hx02)
 by_cases hk : cmdOk X k fl d.length
 case neg =>
  rw [ap1 hk]
  refine ww1 gS2 ?_
  refine callF_pure sm ?_
  rintro _ h3 hx3 ⟨p, rfl, hp⟩
  have gC3 := (hx3.2 h.nx oM).trans gC2
  refine wew1 gC3 ?_
  exact hx02.trans hx3
 obtain ⟨bv, l, rfl, bb, hT, ho⟩ := ap2 hk
 have lbv := bb.len 5
 refine ww1 gS2 ?_
 refine callF_pure sm ?_
 rintro _ h3 hx3 ⟨p, rfl, hp⟩
 have n3 := hx3.1
 have gC3 := (hx3.2 h.nx oM).trans gC2
 have gS3 := (hx3.2 (h.nx + 1) oM).trans gS2
 have hx03 := hx02.trans hx3
 by_cases hpp : p
 case neg =>
  refine ww1 (cj gC3 <| cj hpp lbv) ?_
  exact hx03
 have hpp' := eq_true hpp
 refine ww1 (cj gC3 <| cj hpp' lbv) ?_
 refine gCall_exact (first := []) (cap := []) (fun _ => caps_spec hS.toStdR bc _) fun fp => ?_
 by_cases hl3 : 3000 < l.length + 1
 case pos =>
  have hl3' : (3000 : Int) < ((l.length + 1 : Nat) : Int) := oM
  refine ww1 (cj gC3 <| cj hpp' <| cj lbv <| cj hl3 hl3') ?_
  exact hx03
 have hl3' : ¬ (3000 : Int) < ((l.length + 1 : Nat) : Int) := oM
 by_cases hcp : iAnd .u32 bc 565760 = 565760
 case neg =>
  rw [if_neg hcp]
  refine wew1 (cj gC3 <| cj hpp' <| cj lbv <| cj hl3 hl3') ?_
  exact hx03
 rw [if_pos hcp]
 by_cases hk1 : k = 1
 case pos =>
  refine wew1 (cj gC3 <| cj hpp' <| cj lbv <| cj hl3 <| cj hl3' hk1) ?_
  exact hx03
 by_cases hk17 : k = 17
 case pos =>
  refine wew1 (cj gC3 <| cj hpp' <| cj lbv <| cj hl3 <| cj hl3' <| cj hk1 hk17) ?_
  exact hx03
 refine wew1 (cj gC3 <| cj gS3 <| cj hpp' <| cj lbv <| cj hl3 <| cj hl3' <| cj hk1 hk17) ?_
 have hsz := hp hpp
 have oks2 : ∀ x ∈ ss, x.Ok := fun x hx => ⟨(oks x hx).1, ⟨(hsz.2 x hx).1, (oks x hx).2.1⟩, ⟨(hsz.2 x hx).2, (oks x hx).2.2⟩⟩
 have an := answ_spec hS (X := X) (c := bc) hc.k hk1 (bb.ext hx3) oM hT (a.ext hx03) hsz.1 okc oks2 okw okd
 have shw := fun h b kk n => shown_spec hS (h := h) (s := s) b hsz.1 okc oks2 okw okd kk n
 unfold SnV.cells at an shw
 refine callF_pure an ?_
 rintro _ h4 hx4 ⟨lv, o1, o2, ls, rfl, hP, hA⟩
 have n4 := hx4.1
 have gC4 := (hx4.2 h.nx oM).trans gC3
 have gS4 := (hx4.2 (h.nx + 1) oM).trans gS3
 have hx04 := hx03.trans hx4
 obtain ⟨pcs, prw, pbs⟩ := hP.rw
 obtain ⟨pc1, pc2⟩ := prw.cell
 have lls := prw.len 48
 refine ww1 (cj gC4 <| cj pc1 pc2) ?_
 refine ⟨.inr oM, ?_⟩
 generalize hhB : H.put (H.push h4 _) h4.nx _ = hB
 have xB : Ext h4 hB := by rw [← hhB]; exact Ext.new _ _ _
 have nB : hB.nx = h4.nx + 1 := by rw [← hhB]; rfl
 clear hhB
 have hx0B := hx04.trans xB
 refine callF_pure (nw _ (b.ext hx0B) bc) ?_
 rintro w5 h5 hx5 ⟨r1, _⟩
 have n5 := hx5.1
 have hnew : newOk X bc k fl d.length := ⟨hcp, hk, answer8 hk17⟩
 obtain ⟨r, rfl, f5⟩ := r1 hnew
 have lt5 := f5.rr.lt
 have gC5 := (hx5.2 h.nx oM).trans ((xB.2 h.nx oM).trans gC4)
 have gS5 := (hx5.2 (h.nx + 1) oM).trans ((xB.2 (h.nx + 1) oM).trans gS4)
 have goes := goes_ans (fl := fl) hA
 have plen := ans_len hA
 generalize hN : nRows k l cs.length ws.length ss.length ds.length = N at goes
 have hb5 : ∀ i (hi : i < ls.length) (hcc : i < pcs.length), BS 5 hB pcs[i] ls[i] := fun i hi hcc => (pbs i hi hcc).ext xB
 refine wew1 (cj gC5 lls) ?_
 have hlen := ans_cnt hA hsz.1
 have okn : ∀ j, hB.nx ≤ j → fresh h.nx nil1 j := fun j hj => by rw [fresh_def]; exact .inl oM
 refine run_blk_cut (fun env h' => env 3 = .ptr h.nx 0 ∧ env 5 = .ptr (h.nx + 1) 0 ∧ env 13 = .ptr r 0 ∧ env 14 = .int .i64 N ∧ Stp0 hB.nx h5 h' ∧ ∃ s' cv tv, s'.nx = none ∧ RF X hB.nx r s' cv tv h') ?_ ?_
 ·refine run_loop (fun mm env h' => ∃ (i cnt m : Nat) (s' : RS) (cv tv : V), mm = ls.length - i ∧ i ≤ ls.length ∧ env 3 = .ptr h.nx 0 ∧ env 5 = .ptr (h.nx + 1) 0 ∧ env 10 = lv ∧ env 13 = .ptr r 0 ∧ env 14 = .int .i64 cnt ∧ env 15 = .int .i64 i ∧ Stp0 hB.nx h5 h' ∧ RI s' ∧ RF X hB.nx r s' cv tv h' ∧ Goes s' (ls.drop i) m ∧ cnt + m = N ∧ cnt ≤ i) ls.length ⟨0, 0, N, newS bc k fl [], .nilslice, .nilslice, ?_⟩ ?_
  ·refine ww0 ?_
   exact ⟨(Nat.sub_zero _).symm, ⟨Nat.le_refl _, fun _ _ => rfl⟩, RI.new bc k fl, f5, goes⟩
  rintro mm env h6 ⟨i, cnt, m, s', cv, tv, rfl, hi, e3, e5, e10, e13, e14, e15, st6, ri, rf, gs, hcm, hci⟩
  have n6 := st6.1
  by_cases hin : i < ls.length
  ·have hin' : (i : Int) < ls.length := oM
   have hpc : i < pcs.length := by rw [prw.1]; omega
   obtain ⟨pb, po, pm, hpv⟩ := prw.at oM
   obtain ⟨_, hpb, hpr, _⟩ := RW.rd (hpv ▸ prw)
   have hpr1 := hpr i 1 hpc
   have hx46 : Ext h4 h6 := ⟨by omega, fun j hj => by rw [st6.2 j oM, hx5.2 j oM, xB.2 j hj]⟩
   rw [← hx46.2 pb hpb] at hpr1
   have bs := (pbs i hin hpc).ext hx46
   rw [List.drop_eq_getElem_cons hin] at gs
   obtain ⟨gt, ge, gl, m', gg, gk⟩ := gs
   have hlst : ls.drop (i + 1) = [] ↔ i + 1 = ls.length := ⟨fun q => by have := List.drop_eq_nil_iff.1 q; omega, fun q => List.drop_eq_nil_iff.2 oM⟩
   refine ww1 (cj e3 <| cj e5 <| cj e10 <| cj e13 <| cj e14 <| cj e15 <| cj lls <| cj hin <| cj hin' <| cj hpv hpr1) ?_
   refine callF_of (feed_spec hS.toStdR rf ri bs (by have := plen _ (List.getElem_mem hin); omega) ((pbs i hin hpc).off oM) gt) okn ?_
   rintro w8 h8 ⟨cv8, tv8, pr8, rf8, st8, fr8⟩
   have ri8 := ri.feed ls[i]
   obtain ⟨y, rfl, by8, ho8⟩ := pr8
   generalize feedS s' ls[i] = q at *
   obtain ⟨s8, p8, e8⟩ := q
   simp only at ge gl gg gk rf8 ri8 by8
   subst ge
   obtain ⟨y1, y2⟩ := by8.cell
   unfold PT.cells
   have n8 := st8.1
   have hwr : IntKind.i64.wrap ((ls.length : Int) - 1) = (ls.length : Int) - 1 := i64_in _ oM
   have hwi : IntKind.i64.wrap ((i : Int) + 1) = ((i + 1 : Nat) : Int) := i64_in _ oM
   have hwc : IntKind.i64.wrap ((cnt : Int) + 1) = ((cnt + 1 : Nat) : Int) := i64_in _ oM
   have hcond : (p8.last ↔ i = ((ls.length : Int) - 1).toNat) = True := eq_true (gl.trans (hlst.trans oM))
   rcases gk with ⟨g7, gm⟩ | ⟨g7, gm⟩
   ·refine ww1 (cj e3 <| cj e5 <| cj e10 <| cj e13 <| cj e14 <| cj e15 <| cj y1 <| cj y2 <| cj lls <| cj hwr <| cj neqB <| cj hcond <| cj hwi <| cj hwc g7) ?_
    refine ⟨.inr oM, ?_⟩
    generalize hhC : H.put (H.push h8 _) h8.nx _ = hC
    have xC : Ext h8 hC := by rw [← hhC]; exact Ext.new _ _ _
    clear hhC
    have st0 : Stp0 hB.nx h5 hC := (st6.trans st8).trans (Stp0.ext xC oM)
    have rfC := rf8.step (RP.same rf8.rr xC) rfl rfl
    exact ⟨_, Nat.sub_lt_sub_left hin (Nat.lt_succ_self i), i + 1, cnt + 1, m', s8, cv8, tv8, rfl, hin, hpv, rfl, rfl, st0, ri8, rfC, gg, by omega, by omega⟩
   ·refine ww1 (cj e3 <| cj e5 <| cj e10 <| cj e13 <| cj e14 <| cj e15 <| cj y1 <| cj y2 <| cj lls <| cj hwr <| cj neqB <| cj hcond <| cj hwi <| cj hwc g7) ?_
    refine ⟨.inr oM, ?_⟩
    generalize hhC : H.put (H.push h8 _) h8.nx _ = hC
    have xC : Ext h8 hC := by rw [← hhC]; exact Ext.new _ _ _
    clear hhC
    have st0 : Stp0 hB.nx h5 hC := (st6.trans st8).trans (Stp0.ext xC oM)
    have rfC := rf8.step (RP.same rf8.rr xC) rfl rfl
    exact ⟨_, Nat.sub_lt_sub_left hin (Nat.lt_succ_self i), i + 1, cnt, m', s8, cv8, tv8, rfl, hin, hpv, rfl, rfl, st0, ri8, rfC, gg, by omega, by omega⟩
  ·obtain rfl : i = ls.length := oM
   rw [List.drop_length] at gs
   obtain ⟨g1, rfl⟩ := gs
   refine ww1 (cj e3 <| cj e5 <| cj e10 <| cj e13 <| cj e14 <| cj e15 <| cj lls hin) ?_
   exact ⟨by omega, st6, s', cv, tv, g1, rf⟩
 rintro env h6 ⟨e3, e5, e13, e14, st6, s', cv, tv, hnx, rf⟩
 have gC6 := (st6.2 h.nx oM).trans gC5
 have gS6 := (st6.2 (h.nx + 1) oM).trans gS5
 have n6 := st6.1
 have hx06 : Ext h h6 := ⟨by omega, fun j hj => by rw [st6.2 j oM, hx5.2 j (by have := hx0B.1; omega), hx0B.2 j hj]⟩
 have ov := over_sp hS.toStdR rf.rr
 rw [eq_true hnx] at ov
 refine ww1 (cj e3 <| cj e5 <| cj e13 e14) ?_
 refine callF_exact ov ?_
 by_cases hk3 : k = 3
 case neg =>
  have hN0 : N = 0 := by rw [← hN]; unfold nRows; rw [if_neg hk3]
  subst hN0
  refine wew1 (cj e3 <| cj e5 <| cj e13 <| cj e14 <| cj gC6 hk3) ?_
  exact hx06
 subst hk3
 obtain rfl := hT.1 rfl
 refine wew1 (cj e3 <| cj e5 <| cj e13 <| cj e14 gC6) ?_
 refine callF_pure (Ad.read_spec hS.ad X.x1 _ (fun x hx => bb.1 x (List.mem_cons_of_mem _ hx)) oM) ?_
 rintro _ h7 hx7 rfl
 have n7 := hx7.1
 have gS7 := (hx7.2 (h.nx + 1) oM).trans gS6
 have hx07 := hx06.trans hx7
 have hN3 : N = match Ad.readT X.x1 with | none => 0 | some (k, n) => if showE k n = 0 then cntK k cs.length ws.length ss.length ds.length else 0 := by rw [← hN]; unfold nRows; rw [if_pos rfl]; first | done | (cases Ad.readT X.x1 <;> rfl)
 unfold Ad.readV
 cases hrd : Ad.readT X.x1 with
 | none =>
   rw [hrd] at hN3
   simp only at hN3
   subst hN3
   refine wew1 (cj e3 <| cj e5 <| cj e13 <| cj e14 gS7) ?_
   refine ⟨.inr oM, callF_pure (shw _ (a.ext (hx07.trans (Ext.new _ _ _))) _ _) ?_⟩
   rintro w9 h9 hx9 ⟨q1, q2⟩
   have hxE : Ext h h9 := (hx07.trans (Ext.new _ _ _)).trans hx9
   by_cases hsh : showE 0 0 = 0
   ·obtain ⟨cv, rv, rows, rfl, _, hTB, _⟩ := q2 hsh
    have lrv := hTB.rw.choose_spec.1.len 38
    refine wew1 (cj e3 <| cj e5 <| cj e13 <| cj e14 lrv) ?_
    exact hxE
   ·obtain rfl := q1 hsh
    refine wew1 (cj e3 <| cj e5 <| cj e13 e14) ?_
    exact hxE
 | some kn =>
   obtain ⟨k', n'⟩ := kn
   rw [hrd] at hN3
   simp only at hN3
   refine wew1 (cj e3 <| cj e5 <| cj e13 <| cj e14 gS7) ?_
   refine ⟨.inr oM, callF_pure (shw _ (a.ext (hx07.trans (Ext.new _ _ _))) _ _) ?_⟩
   rintro w9 h9 hx9 ⟨q1, q2⟩
   have hxE : Ext h h9 := (hx07.trans (Ext.new _ _ _)).trans hx9
   by_cases hsh : showE k' n' = 0
   ·obtain ⟨cv, rv, rows, rfl, _, hTB, _, hrl⟩ := q2 hsh
    rw [if_pos hsh] at hN3
    have lrv := hTB.rw.choose_spec.1.len 38
    have hNr : N = rows.length := by rw [hN3, hrl]; rfl
    subst hNr
    refine wew1 (cj e3 <| cj e5 <| cj e13 <| cj e14 lrv) ?_
    exact hxE
   ·obtain rfl := q1 hsh
    rw [if_neg hsh] at hN3
    subst hN3
    refine wew1 (cj e3 <| cj e5 <| cj e13 e14) ?_
    exact hxE
end
end Go.Proofs.YtfgnpegkcmkeaaaGreatDoor.Rs
