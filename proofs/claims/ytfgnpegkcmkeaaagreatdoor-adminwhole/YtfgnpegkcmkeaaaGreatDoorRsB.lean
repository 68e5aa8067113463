/-
  Several texts of one walk, joined.
-/
import Derived.Test.YtfgnpegkcmkeaaaGreatDoorRsA
set_option linter.unusedSimpArgs false
set_option linter.unusedVariables false
set_option linter.unusedSectionVars false
set_option linter.defProp false
set_option maxRecDepth 20000
set_option maxHeartbeats 2000000
namespace Go.Proofs.YtfgnpegkcmkeaaaGreatDoor.Rs
open Go.Proofs Go.Lx Go.Wx Go.IntWalk
noncomputable section
structure WH where
 neg : Bool
 a1 : Int
 a2 : Int
 a3 : Int
 a4 : Int
 a5 : Int
 a6 : Int
 a7 : Int
def WH.cells (w : WH) : List V := [.bool w.neg, .int .i64 w.a1, .int .i64 w.a2, .int .i64 w.a3, .int .i64 w.a4, .int .i64 w.a5, .int .i64 w.a6, .int .i64 w.a7]
def WH.z : WH := ⟨false, 0, 0, 0, 0, 0, 0, 0⟩
theorem cond_yes {c : Cfg} {Ok : Nat → Prop} {k : List Kt} {Q : Ex → Env → H → Prop} {env : Env} {h : H} {x : Operand} {a b : Code} {p : Prop} (hv : evalE env x = bo p) (hp : p) (hA : run c Ok k a env h Q) : run c Ok k (.cond x a b) env h Q := by
 rw [run_cond, hv]
 exact ⟨_, rfl, fun _ => hA, fun q => absurd hp (by simpa using q)⟩
variable {S : Set0} (hS : StdR S)
include hS
end
noncomputable section
theorem btT : V.bool true = bo True := by simp [bo]
variable {S : Set0}
variable (hS : StdR S)
include hS
theorem number_spec {cv : V} {cs : List Nat} {cb : Nat} {h : H} (g : h.get cb = some (.cells [cv] 48 false)) (a : BS 5 h cv cs) (hl : cs.length = 13) (i n : Nat) (hi : i ≤ 13) (hn : 1 ≤ n ∧ n ≤ 8) : Exact S.cfg 185 [.int .i64 i, .int .i64 n, .ptr cb 0] h (.int .i64 (IntKind.i64.wrap (if (cs.drop i).length < n then 0 else rdX (cs.drop i) n))) := by
 refine inn Tryz.func185 (hS.ownR _ dC) rfl rfl ?_
 refine ww1 (cj @Tryz.f185.eq_1 g) ?_
 refine drop_bs (i := i) a ubs szb (by exact wv0) (by exact wv0) oM fun w L hw _ _ => ?_
 refine ww0 ?_
 refine callF_exact (rfx_spec hS.toStdB hw (by rw [List.length_drop]; omega) n hn) ?_
 exact wv0
end
noncomputable section
variable {S : Set0}
variable (hS : StdR S)
include hS
end
noncomputable section
structure VL where
 k : Int
 i : Int
 u : Int
 s : List Nat
 w : WH
def VL.cells (x : VL) : List V := [.int .i64 x.k, .int .i64 x.i, .int .u64 x.u, .str x.s] ++ x.w.cells
def VL.z : VL := ⟨0, 0, 0, [], WH.z⟩
abbrev zVL : List V := [.int .i64 0, .int .i64 0, .int .u64 0, .str [], bo False, .int .i64 0, .int .i64 0, .int .i64 0, .int .i64 0, .int .i64 0, .int .i64 0, .int .i64 0]
variable {S : Set0} (hS : StdR S)
include hS
end
noncomputable section
def rtE : Nat → List Nat → Int
 | 0, l => if 0 < l.length then 5 else 0
 | n + 1, l => if 0 < l.length ∧ byI l 0 = 251 then rtE n (l.drop 1) else if (txF l).2.2 ≠ 0 then (txF l).2.2 else if 16777216 < (txF l).1.length then 5 else rtE n (l.drop (txF l).2.1)
theorem src_new {h : H} {cs : List V} {e k n sz : Nat} {p : Bool} (hk : k = h.nx) (hl : cs.length = n * sz) : Src (h.push (.cells cs e p)) (.slice k 0 n n) cs sz := .inr ⟨k, 0, n, n, rfl, by subst hk; exact Nat.lt_succ_self _, by rw [push_eq hk, rdC_all hl], hl⟩
theorem ap144' : apI Tryz.prog 144 = some (148, 12, 104) := ap144
theorem lst_form {n0 e sz : Nat} {h : H} {v : V} {cells : List V} (a : Lst n0 h v cells e sz) : v.cells = [v] ∧ v.isCell = true := by
 rcases a with (⟨rfl, _⟩ | ⟨b, n, _, _, rfl, _⟩) | ⟨_, b, _, _, rfl, _⟩ <;> exact ⟨rfl, rfl⟩
theorem bs_low {e n0 : Nat} {h h2 : H} {w : V} {l : List Nat} (aw : BS e h w l) (ow : ∀ k, n0 ≤ k → Off w k) (hn : h.nx ≤ h2.nx) (hk : ∀ k, k < n0 → h2.get k = h.get k) : BS e h2 w l := aw.keep hn fun k _ ⟨o, n, m, q⟩ => hk k (Classical.byContradiction fun u => ow k oM o n m q)
theorem blk_low {n0 : Nat} {w : V} {k o n m : Nat} (ow : ∀ k, n0 ≤ k → Off w k) (q : w = .slice k o n m) : k < n0 := Classical.byContradiction fun u => ow k oM o n m q
theorem ap_rd {n0 : Nat} {L M : List LE} {w : V} (hL : ∀ x ∈ L, n0 ≤ blkOf x) (ow : ∀ k, n0 ≤ k → Off w k) (hM : ∀ x ∈ M, x.isW = false ∧ ∃ o n m, w = .slice (blkOf x) o n m) : fpApart (.lg L) (.lg M) := apart_blk fun x hx y hy q => by
 obtain ⟨_, o, n, m, e⟩ := hM y hy
 have := hL x hx
 have := blk_low ow e
 omega
theorem ap_low {n0 n1 n2 e sz kx a b c : Nat} {h : H} {L : List LE} {sv : V} {cs : List V} (hs : Lst n0 h sv cs e sz) (hkx : n0 ≤ kx) (hn1 : n0 ≤ n1) (hL : ∀ le ∈ L, ((∃ o n m, V.slice kx a b c = .slice (blkOf le) o n m) ∧ le.isW = false) ∨ (n1 ≤ blkOf le ∧ blkOf le < n2) ∨ ∃ o n m, sv = .slice (blkOf le) o n m) : ∀ x ∈ L, n0 ≤ blkOf x := fun x hx => by
 rcases hL x hx with ⟨⟨o, n, m, q⟩, _⟩ | q | ⟨o, n, m, q⟩
 ·injection q with q1; omega
 ·omega
 ·exact Classical.byContradiction fun u => hs.off _ oM _ _ _ q
variable {S : Set0} (hS : StdR S)
include hS
theorem rtext_spec {v : V} {l : List Nat} {h : H} (a : BS 5 h v l) (hl : l.length < 2 ^ 28) (n : Nat) (hn : n ≤ 4096) : Pure S.cfg 91 [v, .int .i64 n] h fun w _ => ∃ rv, rv.cells = [rv] ∧ rv.isCell = true ∧ w = .tuple [rv, .int .i64 (rtE n l)] := by
 refine inn Tryz.func91 (hS.ownR _ dC) rfl rfl ?_
 have hn1 : ¬ ((n : Int) < 0) := oM
 have hn2 : ¬ ((4096 : Int) < n) := oM
 refine ww1 (cj @Tryz.f91.eq_1 <| cj hn1 hn2) ?_
 refine run_loop (fun k env h' => ∃ i : Nat, k = n - i ∧ i ≤ n ∧ env 16 = .int .i64 n ∧ env 17 = .int .i64 i ∧ Ext h h' ∧ ∃ w li rv cs, env 0 = w ∧ env 6 = rv ∧ BS 5 h' w li ∧ (∀ k, h.nx ≤ k → Off w k) ∧ li.length < 2 ^ 28 ∧ Lst h.nx h' rv cs 148 12 ∧ cs.length = i * 12 ∧ rtE n l = rtE (n - i) li) n ⟨0, ?_⟩ ?_
 ·refine ww0 ?_
  exact ⟨(Nat.sub_zero n).symm, Ext.refl h, v, l, .nilslice, [], rfl, rfl, a, fun k hk => a.off hk, hl, .inl (.inl ⟨rfl, rfl⟩), rfl, rfl⟩
 rintro k env h' ⟨i, rfl, hi, e16, e17, hx, w, li, rv, cs, e0, e6, aw, ow, hli, hrv, hcs, hrt⟩
 have nx := hx.1
 obtain ⟨c1, c2⟩ := lst_form hrv
 have a1 := aw.len 5
 by_cases hin : i < n
 ·have hin' : (i : Int) < n := oM
  have hs : n - i = (n - (i + 1)) + 1 := oM
  rw [hs, rtE] at hrt
  have nxt : ∀ (w2 : V) (L : List LE) (h3 : H), True := fun _ _ _ => trivial
  by_cases h251 : 0 < li.length ∧ byI li 0 = 251
  ·rw [if_pos h251] at hrt
   have hl0 := eq_true h251.1
   have hb1 := eq_true h251.2
   obtain ⟨b, o, m, hv, _, _⟩ := aw.at (i := 0) h251.1
   obtain ⟨_, hb, hrd⟩ := BS.rd (hv ▸ aw)
   have hr := hrd 0 h251.1
   rw [Nat.add_zero] at hr
   refine ww1 (cj e16 <| cj e17 <| cj e0 <| cj e6 <| cj hin <| cj hin' <| cj a1 <| cj hv <| cj hr <| cj hl0 hb1) ?_
   refine draw_by [(2, 5), (3, 5)] kR ?_
   refine ww1 (cj e16 <| cj e17 <| cj e0 e6) ?_
   generalize hhB : H.push h' _ = hB
   have hxB : Ext h' hB := by rw [← hhB]; exact (Ext.refl h').push _
   have hnB : hB.nx = h'.nx + 1 := by rw [← hhB]; rfl
   have sB : Src hB (.slice h'.nx 0 1 1) zVL 12 := by rw [← hhB]; exact src_new rfl rfl
   clear hhB
   refine append_lst (n0 := h.nx) (sv := rv) (xv := .slice h'.nx 0 1 1) (cells := cs) (new := zVL) ?_ ?_ ap144' ⟨.slice 148, by kernel_rfl, rfl⟩ (hrv.ext hxB) sB rfl ?_ dC (fun k hk => by rw [fresh_def]; exact .inl hk) oM ?_
   ·exact wv1 e6
   ·exact wv0
   ·rw [hcs]; show _ + 12 ≤ _; omega
   intro v2 h2 L2 hl2 hn2 _ hk2 hL2
   have aw2 := bs_low (h2 := h2) aw ow oM fun k hk => by rw [hk2 k hk, hxB.2 k oM]
   refine ww1 (cj e16 <| cj e17 <| cj e0 e6) ?_
   refine drop_bs (i := 1) aw2 ubs szb (by exact wv1 e0) (by exact wv0) h251.1 fun w3 L3 hw3 hoff hL3 => ?_
   refine ww1 (cj e16 <| cj e17 <| cj e0 e6) ?_
   refine ⟨fun p hp => ?_, n - (i + 1), by omega, i + 1, rfl, by omega, rfl, ⟨by omega, fun k hk => by rw [hk2 k hk, hxB.2 k oM, hx.2 k hk]⟩, w3, li.drop 1, v2, cs ++ zVL, rfl, rfl, hw3, fun k hk => hoff k (ow k hk), ?_, hl2, ?_, hrt⟩
   ·simp only [List.mem_cons, List.not_mem_nil, or_false] at hp
    have lo := ap_low hrv oM oM hL2
    rcases hp with rfl | rfl
    ·exact pair_one rfl rfl (ap_rd (fun x hx => by rw [List.mem_singleton.1 hx]; exact nx) ow hL3)
    ·exact pair_one rfl rfl (ap_rd lo ow hL3)
   ·rw [List.length_drop]; omega
   ·rw [List.length_append, hcs]; show _ + 12 = _; omega
  ·rw [if_neg h251] at hrt
   have rt := rtx_spec hS.toStdB aw oM
   have hi := txF_ok aw.1
   generalize htx : txF li = r at rt hrt hi
   obtain ⟨s, kk, e⟩ := r
   by_cases hl0 : 0 < li.length
   ·have hb1 : ¬ byI li 0 = 251 := fun q => h251 ⟨hl0, q⟩
    obtain ⟨b, o, m, hv, _, _⟩ := aw.at (i := 0) hl0
    obtain ⟨_, hb, hrd⟩ := BS.rd (hv ▸ aw)
    have hr := hrd 0 hl0
    rw [Nat.add_zero] at hr
    have hl0' := eq_true hl0
    subst hv
    refine ww1 (cj e16 <| cj e17 <| cj e0 <| cj e6 <| cj hin <| cj hin' <| cj a1 <| cj hr <| cj hl0' hb1) ?_
    refine callF_exact rt ?_
    by_cases he : e = 0
    case neg =>
     rw [if_pos he] at hrt
     refine ww1 he ?_
     exact ⟨hx, _, rfl, rfl, by rw [hrt]⟩
    subst he
    rw [if_neg (fun q => q rfl)] at hrt
    by_cases hs : 16777216 < s.length
    ·rw [if_pos hs] at hrt
     have hs' : (16777216 : Int) < s.length := oM
     refine ww1 hs' ?_
     exact ⟨hx, _, rfl, rfl, by rw [hrt]⟩
    rw [if_neg hs] at hrt
    have hs' : ¬ (16777216 : Int) < s.length := oM
    refine ww1 (cj hs' <| cj e16 <| cj e17 <| cj e0 e6) ?_
    refine draw_by [(3, 7), (4, 7)] kR ?_
    refine ww1 (cj e16 <| cj e17 <| cj e0 e6) ?_
    generalize hhB : H.push h' _ = hB
    have hxB : Ext h' hB := by rw [← hhB]; exact (Ext.refl h').push _
    have hnB : hB.nx = h'.nx + 1 := by rw [← hhB]; rfl
    have sB : Src hB (.slice h'.nx 0 1 1) [.int .i64 7, .int .i64 0, .int .u64 0, .str s, bo False, .int .i64 0, .int .i64 0, .int .i64 0, .int .i64 0, .int .i64 0, .int .i64 0, .int .i64 0] 12 := by rw [← hhB]; exact src_new rfl rfl
    clear hhB
    refine append_lst (n0 := h.nx) (sv := rv) (xv := .slice h'.nx 0 1 1) (cells := cs) (new := [.int .i64 7, .int .i64 0, .int .u64 0, .str s, bo False, .int .i64 0, .int .i64 0, .int .i64 0, .int .i64 0, .int .i64 0, .int .i64 0, .int .i64 0]) ?_ ?_ ap144' ⟨.slice 148, by kernel_rfl, rfl⟩ (hrv.ext hxB) sB rfl ?_ dC (fun k hk => by rw [fresh_def]; exact .inl hk) oM ?_
    ·exact wv1 e6
    ·exact wv0
    ·rw [hcs]; show _ + 12 ≤ _; omega
    intro v2 h2 L2 hl2 hn2 _ hk2 hL2
    have aw2 := bs_low (h2 := h2) aw ow oM fun k hk => by rw [hk2 k hk, hxB.2 k oM]
    refine ww1 (cj e16 <| cj e17 <| cj e0 e6) ?_
    refine drop_bs (i := kk) aw2 ubs szb (by exact wv1 e0) (by exact wv0) hi.1 fun w3 L3 hw3 hoff hL3 => ?_
    refine ww1 (cj e16 <| cj e17 <| cj e0 e6) ?_
    refine ⟨fun p hp => ?_, n - (i + 1), by omega, i + 1, rfl, by omega, rfl, ⟨by omega, fun k hk => by rw [hk2 k hk, hxB.2 k oM, hx.2 k hk]⟩, w3, li.drop kk, v2, _, rfl, rfl, hw3, fun k hk => hoff k (ow k hk), ?_, hl2, ?_, hrt⟩
    ·simp only [List.mem_cons, List.not_mem_nil, or_false] at hp
     have lo := ap_low hrv oM oM hL2
     rcases hp with rfl | rfl
     ·exact pair_one rfl rfl (ap_rd (fun x hx => by rw [List.mem_singleton.1 hx]; exact nx) ow hL3)
     ·exact pair_one rfl rfl (ap_rd lo ow hL3)
    ·rw [List.length_drop]; omega
    ·rw [List.length_append, hcs]; show _ + 12 = _; omega
   ·refine ww1 (cj e16 <| cj e17 <| cj e0 <| cj e6 <| cj hin <| cj hin' <| cj a1 hl0) ?_
    refine callF_exact rt ?_
    by_cases he : e = 0
    case neg =>
     rw [if_pos he] at hrt
     refine ww1 he ?_
     exact ⟨hx, _, rfl, rfl, by rw [hrt]⟩
    subst he
    rw [if_neg (fun q => q rfl)] at hrt
    by_cases hs : 16777216 < s.length
    ·rw [if_pos hs] at hrt
     have hs' : (16777216 : Int) < s.length := oM
     refine ww1 hs' ?_
     exact ⟨hx, _, rfl, rfl, by rw [hrt]⟩
    rw [if_neg hs] at hrt
    have hs' : ¬ (16777216 : Int) < s.length := oM
    refine ww1 (cj hs' <| cj e16 <| cj e17 <| cj e0 e6) ?_
    refine draw_by [(3, 7), (4, 7)] kR ?_
    refine ww1 (cj e16 <| cj e17 <| cj e0 e6) ?_
    generalize hhB : H.push h' _ = hB
    have hxB : Ext h' hB := by rw [← hhB]; exact (Ext.refl h').push _
    have hnB : hB.nx = h'.nx + 1 := by rw [← hhB]; rfl
    have sB : Src hB (.slice h'.nx 0 1 1) [.int .i64 7, .int .i64 0, .int .u64 0, .str s, bo False, .int .i64 0, .int .i64 0, .int .i64 0, .int .i64 0, .int .i64 0, .int .i64 0, .int .i64 0] 12 := by rw [← hhB]; exact src_new rfl rfl
    clear hhB
    refine append_lst (n0 := h.nx) (sv := rv) (xv := .slice h'.nx 0 1 1) (cells := cs) (new := [.int .i64 7, .int .i64 0, .int .u64 0, .str s, bo False, .int .i64 0, .int .i64 0, .int .i64 0, .int .i64 0, .int .i64 0, .int .i64 0, .int .i64 0]) ?_ ?_ ap144' ⟨.slice 148, by kernel_rfl, rfl⟩ (hrv.ext hxB) sB rfl ?_ dC (fun k hk => by rw [fresh_def]; exact .inl hk) oM ?_
    ·exact wv1 e6
    ·exact wv0
    ·rw [hcs]; show _ + 12 ≤ _; omega
    intro v2 h2 L2 hl2 hn2 _ hk2 hL2
    have aw2 := bs_low (h2 := h2) aw ow oM fun k hk => by rw [hk2 k hk, hxB.2 k oM]
    refine ww1 (cj e16 <| cj e17 <| cj e0 e6) ?_
    refine drop_bs (i := kk) aw2 ubs szb (by exact wv1 e0) (by exact wv0) hi.1 fun w3 L3 hw3 hoff hL3 => ?_
    refine ww1 (cj e16 <| cj e17 <| cj e0 e6) ?_
    refine ⟨fun p hp => ?_, n - (i + 1), by omega, i + 1, rfl, by omega, rfl, ⟨by omega, fun k hk => by rw [hk2 k hk, hxB.2 k oM, hx.2 k hk]⟩, w3, li.drop kk, v2, _, rfl, rfl, hw3, fun k hk => hoff k (ow k hk), ?_, hl2, ?_, hrt⟩
    ·simp only [List.mem_cons, List.not_mem_nil, or_false] at hp
     have lo := ap_low hrv oM oM hL2
     rcases hp with rfl | rfl
     ·exact pair_one rfl rfl (ap_rd (fun x hx => by rw [List.mem_singleton.1 hx]; exact nx) ow hL3)
     ·exact pair_one rfl rfl (ap_rd lo ow hL3)
    ·rw [List.length_drop]; omega
    ·rw [List.length_append, hcs]; show _ + 12 = _; omega
 obtain rfl : i = n := oM
 rw [Nat.sub_self, rtE] at hrt
 by_cases h0 : 0 < li.length
 ·rw [if_pos h0] at hrt
  refine ww1 (cj e16 <| cj e17 <| cj e0 <| cj e6 <| cj hin <| cj a1 h0) ?_
  exact ⟨hx, _, rfl, rfl, by rw [hrt]⟩
 ·rw [if_neg h0] at hrt
  refine ww1 (cj e16 <| cj e17 <| cj e0 <| cj e6 <| cj hin <| cj a1 h0) ?_
  exact ⟨hx, _, c1, c2, by rw [hrt]⟩
end
noncomputable section
variable {S : Set0} (hS : StdR S)
include hS
end
noncomputable section
theorem _root_.Go.Wx.Ext.trans_but {h a b : H} (x : Ext h a) (y : But h.nx a b) : Ext h b := ⟨Nat.le_trans x.1 y.1, fun k hk => by rw [y.2 k (Nat.lt_of_lt_of_le hk x.1) oM, x.2 k hk]⟩
variable {S : Set0} (hS : StdR S)
include hS
end
noncomputable section
def colV (l : List CO) : List V := l.flatMap CO.cells
theorem colV_len : ∀ l : List CO, (colV l).length = l.length * 10
 | [] => rfl
 | x :: l => by
   have := colV_len l
   unfold colV at this ⊢
   rw [List.flatMap_cons, List.length_append, this]
   show 10 + l.length * 10 = (l.length + 1) * 10
   omega
theorem colV_app (l : List CO) (x : CO) : colV (l ++ [x]) = colV l ++ x.cells := by simp [colV]
theorem nfc : V.nilfunc.cells = [V.nilfunc] := rfl
theorem nfi : V.nilfunc.isCell = true := rfl
structure RS where
 c : Int
 k : Int
 fl : Int
 nx : Option FuncId
 may : Prop
 wants : Prop
 left : Int
 cols : List CO
 told : List CO
 thn : Int
 second : Prop
 st : Int
 bin : Prop
structure RX where
 x1 : List Nat
 x2 : Int
 x3 : Int
 x5 : Int
 x6 : Int
 x7 : V
def fnV (r : Nat) : Option FuncId → V
 | none => .nilfunc
 | some f => .func f [.ptr r 0] []
def rsC (X : RX) (r : Nat) (s : RS) (cv tv : V) : List V := [.int .u32 s.c, .int .u8 s.k, .str X.x1, .int .u32 X.x2, .int .u16 X.x3, .int .u8 s.fl, .int .u32 X.x5, .int .u16 X.x6, X.x7, fnV r s.nx, bo s.may, bo s.wants, .int .i64 s.left, cv, tv, .int .i64 s.thn, bo s.second, .int .u16 s.st, bo s.bin, bo True]
def Sep (cv tv : V) : Prop := ∀ b o n m, tv = .slice b o n m → Off cv b
structure RR (X : RX) (n0 r : Nat) (s : RS) (cv tv : V) (h : H) : Prop where
 get : h.get r = some (.cells (rsC X r s cv tv) 116 false)
 told : Lst n0 h tv (colV s.told) 112 10
 tn : s.told = [] → tv = .nilslice
 toff : Off tv r
 coff : Off cv r
 ccell : cv.cells = [cv] ∧ cv.isCell = true
 lt : n0 ≤ r ∧ r < h.nx
 x7 : X.x7.cells = [X.x7] ∧ X.x7.isCell = true
def RCs (s : RS) (cv : V) (h : H) : Prop := RW 112 10 s.cols.length h cv (colV s.cols)
theorem Lst.but {n0 e sz r : Nat} {h h' : H} {v : V} {cells : List V} (a : Lst n0 h v cells e sz) (ho : Off v r) (b : But r h h') : Lst n0 h' v cells e sz := by
 rcases a with a | ⟨h1, k, h2, h3, rfl, h5⟩
 ·rcases a with ⟨rfl, rfl⟩ | ⟨k, n, h1, h2, rfl, h3, h4, h5⟩
  ·exact .inl (.inl ⟨rfl, rfl⟩)
  ·exact .inl (.inr ⟨k, n, h1, Nat.lt_of_lt_of_le h2 b.1, rfl, h3, by rw [b.2 k h2 fun e => ho 0 n n (by rw [← e])]; exact h4, h5⟩)
 ·exact .inr ⟨h1, k, h2, Nat.lt_of_lt_of_le h3 b.1, rfl, by rw [b.2 k h3 fun e => ho 0 0 0 (by rw [← e])]; exact h5⟩
theorem RCs.but {s : RS} {cv : V} {h h' : H} {r : Nat} (a : RCs s cv h) (ho : Off cv r) (b : But r h h') : RCs s cv h' := RW.keep a b.1 fun k hk ⟨o, n, m, q⟩ => b.2 k hk fun e => ho o n m (by rw [← e]; exact q)
theorem RR.ext {X : RX} {n0 r : Nat} {s : RS} {cv tv : V} {h h' : H} (a : RR X n0 r s cv tv h) (x : Ext h h') : RR X n0 r s cv tv h' := ⟨by rw [x.2 _ a.lt.2]; exact a.get, a.told.ext x, a.tn, a.toff, a.coff, a.ccell, ⟨a.lt.1, Nat.lt_of_lt_of_le a.lt.2 x.1⟩, a.x7⟩
theorem RR.put {X : RX} {n0 r : Nat} {s s' : RS} {cv tv : V} {h : H} (a : RR X n0 r s cv tv h) (ht : s'.told = s.told) : RR X n0 r s' cv tv (h.put r (.cells (rsC X r s' cv tv) 116 false)) := ⟨put_eq rfl, by rw [ht]; exact Lst.but a.told a.toff ((But.refl r h).put _), by rw [ht]; exact a.tn, a.toff, a.coff, a.ccell, a.lt, a.x7⟩
def RS.await (s : RS) (f : FuncId) (m : Prop) : RS := { s with nx := some f, may := m }
def RS.fin (s : RS) : RS := { s with nx := none, may := False }
def RP (X : RX) (n0 r : Nat) (s : RS) (cv tv : V) (h h' : H) : Prop := RR X n0 r s cv tv h' ∧ But r h h'
theorem RP.trans {X : RX} {n0 r : Nat} {s s' : RS} {cv tv : V} {h h1 h2 : H} (a : RP X n0 r s cv tv h h1) (b : RP X n0 r s' cv tv h1 h2) : RP X n0 r s' cv tv h h2 := ⟨b.1, a.2.trans b.2⟩
theorem RP.ext {X : RX} {n0 r : Nat} {s : RS} {cv tv : V} {h h1 h2 : H} (a : RP X n0 r s cv tv h h1) (b : Ext h1 h2) : RP X n0 r s cv tv h h2 := ⟨a.1.ext b, a.2.trans (But.of_ext b)⟩
theorem RP.pre {X : RX} {n0 r : Nat} {s : RS} {cv tv : V} {h h1 h2 : H} (a : Ext h h1) (b : RP X n0 r s cv tv h1 h2) : RP X n0 r s cv tv h h2 := ⟨b.1, (But.of_ext a).trans b.2⟩
def RS.ends (s : RS) (st : Int) (more : Prop) : RS := @ite _ (more ∧ ¬ iAnd .u16 st 8 = 0) (Classical.propDecidable _) (s.await 46 True) s.fin
variable {S : Set0} (hS : StdR S)
include hS
theorem await_spec {X : RX} {n0 r : Nat} {s : RS} {cv tv : V} {h : H} (a : RR X n0 r s cv tv h) (f : FuncId) (m : Prop) : callW S.cfg (· = r) 42 [.ptr r 0, .func f [.ptr r 0] [], bo m] h fun v h' => v = .tuple [] ∧ RP X n0 r (s.await f m) cv tv h h' := by
 refine inn Tryz.func42 (hS.ownR _ dC) rfl rfl ?_
 have g := a.get
 unfold rsC at g
 have lt := a.lt.2
 refine ww1 (cj @Tryz.f42.eq_1 g) ?_
 exact ⟨(a.put (s' := { s with nx := some f }) rfl).put (s' := s.await f m) rfl, ((But.refl r h).put _).put _⟩
theorem fin_spec {X : RX} {n0 r : Nat} {s : RS} {cv tv : V} {h : H} (a : RR X n0 r s cv tv h) : callW S.cfg (· = r) 51 [.ptr r 0] h fun v h' => v = .tuple [] ∧ RP X n0 r s.fin cv tv h h' := by
 refine inn Tryz.func51 (hS.ownR _ dC) rfl rfl ?_
 have g := a.get
 unfold rsC at g
 have lt := a.lt.2
 refine ww1 (cj @Tryz.f51.eq_1 <| cj g <| cj nfc nfi) ?_
 exact ⟨(a.put (s' := { s with nx := none }) rfl).put (s' := s.fin) rfl, ((But.refl r h).put _).put _⟩
theorem ends_spec {X : RX} {n0 r : Nat} {s : RS} {cv tv : V} {h : H} (a : RR X n0 r s cv tv h) (st : Int) (more : Prop) : callW S.cfg (· = r) 88 [.ptr r 0, .int .u16 st, bo more] h fun v h' => v = bo (¬ (more ∧ ¬ iAnd .u16 st 8 = 0)) ∧ RP X n0 r (s.ends st more) cv tv h h' := by
 refine inn Tryz.func88 (hS.ownR _ dC) rfl rfl ?_
 have okr : ∀ k, k = r → fresh h.nx (· = r) k := fun k hk => by rw [fresh_def]; exact .inr hk
 unfold RS.ends
 by_cases hm : more ∧ ¬ iAnd .u16 st 8 = 0
 ·have hm1 := eq_true hm.1
  have hm2 := hm.2
  rw [if_pos hm]
  refine ww1 (cj @Tryz.f88.eq_1 <| cj hm1 hm2) ?_
  refine callF_of (await_spec hS a 46 True) okr ?_
  rintro _ h1 ⟨rfl, p1⟩
  refine ww1 (cj @Tryz.f88.eq_1 <| cj hm1 hm2) ?_
  exact p1
 ·rw [if_neg hm]
  by_cases hm1 : more
  ·have hm2 : iAnd .u16 st 8 = 0 := Classical.byContradiction fun q => hm ⟨hm1, q⟩
   have hm1' := eq_true hm1
   refine ww1 (cj @Tryz.f88.eq_1 <| cj hm1' hm2) ?_
   refine callF_of (fin_spec hS a) okr ?_
   rintro _ h1 ⟨rfl, p1⟩
   refine ww1 (cj @Tryz.f88.eq_1 <| cj hm1' hm2) ?_
   exact p1
  ·refine ww1 (cj @Tryz.f88.eq_1 hm1) ?_
   refine callF_of (fin_spec hS a) okr ?_
   rintro _ h1 ⟨rfl, p1⟩
   refine ww1 (cj @Tryz.f88.eq_1 hm1) ?_
   exact p1
theorem none_spec {X : RX} {n0 r : Nat} {s : RS} {cv tv : V} {h : H} (a : RR X n0 r s cv tv h) : Exact S.cfg 50 [.ptr r 0] h (bo False) := by
 refine inn Tryz.func50 (hS.ownR _ dC) rfl rfl ?_
 have g := a.get
 unfold rsC at g
 exact wv1 (cj @Tryz.f50.eq_1 g)
theorem old_spec {X : RX} {n0 r : Nat} {s : RS} {cv tv : V} {h : H} (a : RR X n0 r s cv tv h) : Exact S.cfg 127 [.ptr r 0] h (bo (iAnd .u32 s.c 16777216 = 0)) := by
 refine inn Tryz.func127 (hS.ownR _ dC) rfl rfl ?_
 have g := a.get
 unfold rsC at g
 exact wv1 (cj @Tryz.f127.eq_1 g)
end
noncomputable section
structure PT where
 k : Int
 last : Prop
 ok : OkV
 ec : Int
 es : List Nat
 et : List Nat
 fw : Int
 fs : Int
 p1 : Int
 p2 : Int
 p3 : Int
 p4 : Int
def PT.z : PT := ⟨0, False, OkV.z, 0, [], [], 0, 0, 0, 0, 0, 0⟩
def PT.cells (p : PT) (y : V) : List V := [.int .i64 p.k, bo p.last, .int .u64 p.ok.a, .int .u64 p.ok.i, .int .u16 p.ok.s, .int .u16 p.ok.w, .str p.ok.t, y, .int .u16 p.ec, .str p.es, .str p.et, .int .u16 p.fw, .int .u16 p.fs, .int .u32 p.p1, .int .u16 p.p2, .int .u16 p.p3, .int .u16 p.p4]
def PR (h h' : H) (w : V) (p : PT) (e : Int) : Prop := ∃ y, w = .tuple [.agg (p.cells y), .int .i64 e] ∧ BS 5 h' y p.ok.k ∧ ∀ k, k < h.nx → Off y k
theorem PR.nil {h h' : H} {w : V} {p : PT} {e : Int} (hw : w = .tuple [.agg (p.cells .nilslice), .int .i64 e]) (hk : p.ok.k = []) : PR h h' w p e := ⟨.nilslice, hw, by rw [hk]; exact BS.nil _ _, fun k _ o n m q => by cases q⟩
theorem _root_.Go.Wx.But.put_new {r k : Nat} {a b : H} (x : But r a b) (hk : a.nx ≤ k) (o : Ob) : But r a (b.put k o) := ⟨x.1, fun j hj hr => by rw [put_ne oM, x.2 j hj hr]⟩
theorem _root_.Go.Wx.Lst.put_off {n0 e sz k : Nat} {h : H} {v : V} {cells : List V} {ob : Ob} (ha : Lst n0 h v cells e sz) (hk : Off v k) : Lst n0 (h.put k ob) v cells e sz := by
 rcases ha with ha | ⟨h1, b, h2, h3, rfl, h5⟩
 ·rcases ha with ⟨rfl, rfl⟩ | ⟨b, n, h1, h2, rfl, h3, h4, h5⟩
  ·exact .inl (.inl ⟨rfl, rfl⟩)
  ·exact .inl (.inr ⟨b, n, h1, h2, rfl, h3, by rw [put_ne (fun e => hk 0 n n (by rw [e]))]; exact h4, h5⟩)
 ·exact .inr ⟨h1, b, h2, h3, rfl, by rw [put_ne (fun e => hk 0 0 0 (by rw [e]))]; exact h5⟩
theorem _root_.Go.Wx.Lst.off_new {n0 e sz k : Nat} {h : H} {v : V} {cells : List V} (ha : Lst n0 h v cells e sz) (hk : h.nx ≤ k) : Off v k := by
 intro o n m q
 subst q
 rcases ha with (⟨q, _⟩ | ⟨b, n, _, h2, q, _⟩) | ⟨_, b, _, h3, q, _⟩
 ·cases q
 ·cases q; omega
 ·cases q; omega
theorem RP.put_new {X : RX} {n0 r k : Nat} {s s' : RS} {cv tv : V} {h h2 : H} (a : RR X n0 r s cv tv h) (p : RP X n0 r s' cv tv h h2) (hk : h.nx ≤ k) (ob : Ob) : RP X n0 r s' cv tv h (h2.put k ob) := by
 have lt := a.lt.2
 exact ⟨⟨by rw [put_ne oM]; exact p.1.get, p.1.told.put_off (a.told.off_new hk), p.1.tn, p.1.toff, p.1.coff, p.1.ccell, p.1.lt, p.1.x7⟩, p.2.put_new hk ob⟩
theorem RP.same {X : RX} {n0 r : Nat} {s : RS} {cv tv : V} {h h' : H} (a : RR X n0 r s cv tv h) (x : Ext h h') : RP X n0 r s cv tv h h' := ⟨a.ext x, But.of_ext x⟩
abbrev zPT : List V := [.int .i64 0, bo False, .int .u64 0, .int .u64 0, .int .u16 0, .int .u16 0, .str [], .nilslice, .int .u16 0, .str [], .str [], .int .u16 0, .int .u16 0, .int .u32 0, .int .u16 0, .int .u16 0, .int .u16 0]
def errS (s : RS) (l : List Nat) : RS × PT × Int := if (errF l).2.2.2 ≠ 0 then (s, PT.z, 5) else (s.fin, { PT.z with k := 2, last := True, ec := (errF l).1, es := (errF l).2.1, et := (errF l).2.2.1 }, 0)
def doneS (s : RS) (l : List Nat) (k : Int) (more : Prop) : RS × PT × Int := if okeF l s.c ≠ 0 then (s, PT.z, 5) else (({ s with st := (okV l s.c).s } : RS).ends (okV l s.c).s more, { PT.z with k := k, last := ¬ (more ∧ ¬ iAnd .u16 (okV l s.c).s 8 = 0), ok := okV l s.c }, 0)
def firstF (l : List Nat) (c : Int) : Int := @ite _ (l.length = 0) (Classical.propDecidable _) 0 (@ite _ (byI l 0 = 0) (Classical.propDecidable _) 1 (@ite _ (byI l 0 = 255) (Classical.propDecidable _) 2 (@ite _ (byI l 0 = 251 ∧ hasP c 128) (Classical.propDecidable _) 4 0)))
def okS1 (s : RS) (l : List Nat) (more : Prop) : RS × PT × Int := if firstF l s.c = 1 then doneS s l 1 more else errS s l
variable {S : Set0} (hS : StdR S)
include hS
theorem err_spec {X : RX} {n0 r : Nat} {s : RS} {cv tv v : V} {l : List Nat} {h : H} (a : RR X n0 r s cv tv h) (b : BS 5 h v l) (hl : l.length < 2 ^ 28) : callW S.cfg (· = r) 49 [.ptr r 0, v] h fun w h' => PR h h' w (errS s l).2.1 (errS s l).2.2 ∧ RP X n0 r (errS s l).1 cv tv h h' := by
 refine inn Tryz.func49 (hS.ownR _ dC) rfl rfl ?_
 have okr : ∀ k, k = r → fresh h.nx (· = r) k := fun k hk => by rw [fresh_def]; exact .inr hk
 have lt := a.lt.2
 refine ww1 @Tryz.f49.eq_1 ?_
 refine callF_pure (readerr_spec hS (b.ext ((Ext.refl h).push _)) hl) ?_
 rintro _ h1 hx1 rfl
 have n1 := hx1.1
 simp only [push_nx] at n1
 have g1 : h1.get h.nx = some (.cells zPT 71 false) := by rw [hx1.2 _ (by simp only [push_nx]; omega)]; exact push_eq rfl
 have hx : Ext h h1 := ((Ext.refl h).push _).trans hx1
 unfold errS
 by_cases he : (errF l).2.2.2 = 0
 case neg =>
  rw [if_pos he]
  refine ww1 (cj he g1) ?_
  exact ⟨.inr (.inl oM), PR.nil rfl rfl, RP.same a (((hx.push _).put oM _).put (Nat.le_refl _) _)⟩
 rw [if_neg (fun q => q he)]
 have he' := eq_true he
 refine ww1 (cj he' g1) ?_
 generalize hhB : H.put (H.push h1 _) _ _ = hB
 have hxB : Ext h1 hB := by rw [← hhB]; exact ((Ext.refl h1).push _).put (Nat.le_refl _) _
 have gB : hB.get h1.nx = some (.cells [.int .u16 (errF l).1, .str (errF l).2.1, .str (errF l).2.2.1] 65 false) := by rw [← hhB]; exact put_eq rfl
 have nB : hB.nx = h1.nx + 1 := by rw [← hhB]; rfl
 clear hhB
 refine ⟨.inr (.inl oM), callF_of (fin_spec hS (a.ext (hx.trans hxB))) okr ?_⟩
 rintro _ h3 ⟨rfl, p3⟩
 have n3 := p3.2.1
 have g3 : h3.get h1.nx = some (.cells [.int .u16 (errF l).1, .str (errF l).2.1, .str (errF l).2.2.1] 65 false) := by rw [p3.2.2 _ oM oM]; exact gB
 have g3z : h3.get h.nx = some (.cells zPT 71 false) := by rw [p3.2.2 _ oM oM, hxB.2 _ oM]; exact g1
 refine ww1 (cj g3 g3z) ?_
 exact ⟨PR.nil rfl rfl, RP.put_new a (RP.pre (hx.trans hxB) p3) (Nat.le_refl _) _⟩
theorem done_spec {X : RX} {n0 r : Nat} {s : RS} {cv tv v : V} {l : List Nat} {h : H} (a : RR X n0 r s cv tv h) (b : BS 5 h v l) (hl : l.length < 2 ^ 28) (k : Int) (more : Prop) : callW S.cfg (· = r) 79 [.ptr r 0, v, .int .i64 k, bo more] h fun w h' => PR h h' w (doneS s l k more).2.1 (doneS s l k more).2.2 ∧ RP X n0 r (doneS s l k more).1 cv tv h h' := by
 refine inn Tryz.func79 (hS.ownR _ dC) rfl rfl ?_
 have okr : ∀ k, k = r → fresh h.nx (· = r) k := fun k hk => by rw [fresh_def]; exact .inr hk
 have lt := a.lt.2
 have g := (a.ext ((Ext.refl h).push (.cells zPT 71 false))).get
 unfold rsC at g
 refine ww1 (cj @Tryz.f79.eq_1 g) ?_
 refine callF_pure (readok_spec hS.toStdB (b.ext ((Ext.refl h).push _)) hl s.c) ?_
 rintro _ h1 hx1 ⟨y, rfl, by1, yo⟩
 have n1 := hx1.1
 simp only [push_nx] at n1 yo
 have g1 : h1.get h.nx = some (.cells zPT 71 false) := by rw [hx1.2 _ (by simp only [push_nx]; omega)]; exact push_eq rfl
 have hx : Ext h h1 := ((Ext.refl h).push _).trans hx1
 obtain ⟨yc1, yc2⟩ := by1.cell
 unfold doneS
 generalize okV l s.c = o at *
 unfold OkV.cells
 by_cases he : okeF l s.c = 0
 case neg =>
  rw [if_pos he]
  refine ww1 (cj he <| cj g1 <| cj yc1 yc2) ?_
  exact ⟨.inr (.inl oM), PR.nil rfl rfl, RP.same a (((hx.push _).put oM _).put (Nat.le_refl _) _)⟩
 rw [if_neg (fun q => q he)]
 have he' := eq_true he
 have gr := (a.ext hx).get
 unfold rsC at gr
 refine ww1 (cj he' <| cj g1 <| cj gr <| cj yc1 yc2) ?_
 generalize hhB : H.put (H.push h1 _) h1.nx _ = hB
 have hxB : Ext h1 hB := by rw [← hhB]; exact ((Ext.refl h1).push _).put (Nat.le_refl _) _
 have gB : hB.get h1.nx = some (.cells (o.cells y) 63 false) := by rw [← hhB]; exact put_eq rfl
 have nB : hB.nx = h1.nx + 1 := by rw [← hhB]; rfl
 clear hhB
 have aB := a.ext (hx.trans hxB)
 have pB : RP X n0 r { s with st := o.s } cv tv hB (hB.put r (.cells (rsC X r { s with st := o.s } cv tv) 116 false)) := ⟨aB.put rfl, (But.refl r hB).put _⟩
 refine ⟨.inr (.inl oM), callF_of (ends_spec hS pB.1 o.s more) okr ?_⟩
 rintro _ h3 ⟨rfl, p3⟩
 have p3 := pB.trans p3
 have n3 := p3.2.1
 have g3 : h3.get h1.nx = some (.cells (o.cells y) 63 false) := by rw [p3.2.2 _ oM oM]; exact gB
 have g3z : h3.get h.nx = some (.cells zPT 71 false) := by rw [p3.2.2 _ oM oM, hxB.2 _ oM]; exact g1
 unfold OkV.cells at g3
 refine ww1 (cj g3 <| cj g3z <| cj yc1 yc2) ?_
 have by3 : BS 5 h3 y o.k := (by1.ext hxB).keep n3 fun j hj ⟨o', n, m, q⟩ => p3.2.2 j hj fun e => yo r oM o' n m (by rw [← e]; exact q)
 exact ⟨⟨y, rfl, by3.put (yo _ oM), fun k hk => yo k oM⟩, RP.put_new a (RP.pre (hx.trans hxB) p3) (Nat.le_refl _) _⟩
end
noncomputable section
def eofS (s : RS) (l : List Nat) : RS × (Int × Int) × Int := if (eofF l).2.2 ≠ 0 then (s, (0, 0), 5) else ({ s with st := (eofF l).2.1 }, ((eofF l).1, (eofF l).2.1), 0)
def eofOrOkS (s : RS) (l : List Nat) : RS × PT × Int := if (eofF l).2.2 ≠ 0 then okS1 s l False else (({ s with st := (eofF l).2.1 } : RS).fin, { PT.z with k := 6, last := True, fw := (eofF l).1, fs := (eofF l).2.1 }, 0)
def textS (s : RS) (l : List Nat) : RS × PT × Int := if l.length = 0 then (s, PT.z, 5) else if byI l 0 = 255 then errS s l else (s.fin, { PT.z with k := 10, last := True }, 0)
theorem PR.on {h h0 h1 h2 : H} {w : V} {p : PT} {e : Int} (a : PR h1 h2 w p e) (hn : h.nx ≤ h1.nx) : ∃ y, w = .tuple [.agg (p.cells y), .int .i64 e] ∧ BS 5 h2 y p.ok.k ∧ (y.cells = [y] ∧ y.isCell = true) ∧ ∀ k, k < h1.nx → Off y k := by
 obtain ⟨y, hw, hb, ho⟩ := a
 exact ⟨y, hw, hb, hb.cell, ho⟩
variable {S : Set0} (hS : StdR S)
include hS
theorem ffirst {v : V} {l : List Nat} {h : H} (a : BS 5 h v l) (c : Int) : Exact S.cfg 78 [v, .int .u32 c] h (.int .i64 (firstF l c)) := first_spec hS.toStdB a c
theorem ok_spec {X : RX} {n0 r : Nat} {s : RS} {cv tv v : V} {l : List Nat} {h : H} (a : RR X n0 r s cv tv h) (b : BS 5 h v l) (hl : l.length < 2 ^ 28) : callW S.cfg (· = r) 43 [.ptr r 0, v] h fun w h' => PR h h' w (okS1 s l False).2.1 (okS1 s l False).2.2 ∧ RP X n0 r (okS1 s l False).1 cv tv h h' := by
 refine inn Tryz.func43 (hS.ownR _ dC) rfl rfl ?_
 have okr : ∀ k, k = r → fresh h.nx (· = r) k := fun k hk => by rw [fresh_def]; exact .inr hk
 have lt := a.lt.2
 have hxA : Ext h (h.push (.cells zPT 71 false)) := (Ext.refl h).push _
 have aA := a.ext hxA
 have g := aA.get
 unfold rsC at g
 refine ww1 (cj @Tryz.f43.eq_1 g) ?_
 have gz : (h.push (.cells zPT 71 false)).get h.nx = some (.cells zPT 71 false) := push_eq rfl
 have nA : (h.push (.cells zPT 71 false)).nx = h.nx + 1 := rfl
 generalize h.push (.cells zPT 71 false) = hA at *
 refine callF_exact (ffirst hS (b.ext hxA) s.c) ?_
 unfold okS1
 by_cases h1 : firstF l s.c = 1
 ·rw [if_pos h1]
  have h1' := eq_true h1
  refine ww1 h1' ?_
  refine callF_of (done_spec hS aA (b.ext hxA) hl 1 False) okr ?_
  rintro _ h3 ⟨pr, p3⟩
  obtain ⟨y, rfl, by3, ⟨yc1, yc2⟩, yo⟩ := pr.on (h := h) (h0 := h) oM
  have gz3 : h3.get h.nx = some (.cells zPT 71 false) := by rw [p3.2.2 _ oM oM]; exact gz
  have n3 := p3.2.1
  unfold PT.cells
  refine ww1 (cj gz3 <| cj yc1 yc2) ?_
  exact ⟨⟨y, rfl, by3.put (yo _ oM), fun k hk => yo k oM⟩, RP.put_new a (RP.pre hxA p3) (Nat.le_refl _) _⟩
 ·rw [if_neg h1]
  refine ww1 h1 ?_
  refine callF_of (err_spec hS aA (b.ext hxA) hl) okr ?_
  rintro _ h3 ⟨pr, p3⟩
  obtain ⟨y, rfl, by3, ⟨yc1, yc2⟩, yo⟩ := pr.on (h := h) (h0 := h) oM
  have gz3 : h3.get h.nx = some (.cells zPT 71 false) := by rw [p3.2.2 _ oM oM]; exact gz
  have n3 := p3.2.1
  unfold PT.cells
  refine ww1 (cj gz3 <| cj yc1 yc2) ?_
  exact ⟨⟨y, rfl, by3.put (yo _ oM), fun k hk => yo k oM⟩, RP.put_new a (RP.pre hxA p3) (Nat.le_refl _) _⟩
theorem filed_spec {X : RX} {n0 r : Nat} {s : RS} {cv tv v : V} {l : List Nat} {h : H} (a : RR X n0 r s cv tv h) (b : BS 5 h v l) (hl : l.length < 2 ^ 28) : callW S.cfg (· = r) 82 [.ptr r 0, v] h fun w h' => PR h h' w (okS1 s l True).2.1 (okS1 s l True).2.2 ∧ RP X n0 r (okS1 s l True).1 cv tv h h' := by
 refine inn Tryz.func82 (hS.ownR _ dC) rfl rfl ?_
 have okr : ∀ k, k = r → fresh h.nx (· = r) k := fun k hk => by rw [fresh_def]; exact .inr hk
 have lt := a.lt.2
 have hxA : Ext h (h.push (.cells zPT 71 false)) := (Ext.refl h).push _
 have aA := a.ext hxA
 have g := aA.get
 unfold rsC at g
 refine ww1 (cj @Tryz.f82.eq_1 g) ?_
 have gz : (h.push (.cells zPT 71 false)).get h.nx = some (.cells zPT 71 false) := push_eq rfl
 have nA : (h.push (.cells zPT 71 false)).nx = h.nx + 1 := rfl
 generalize h.push (.cells zPT 71 false) = hA at *
 refine callF_exact (ffirst hS (b.ext hxA) s.c) ?_
 unfold okS1
 by_cases h1 : firstF l s.c = 1
 ·rw [if_pos h1]
  have h1' := eq_true h1
  refine ww1 h1' ?_
  refine callF_of (done_spec hS aA (b.ext hxA) hl 1 True) okr ?_
  rintro _ h3 ⟨pr, p3⟩
  obtain ⟨y, rfl, by3, ⟨yc1, yc2⟩, yo⟩ := pr.on (h := h) (h0 := h) oM
  have gz3 : h3.get h.nx = some (.cells zPT 71 false) := by rw [p3.2.2 _ oM oM]; exact gz
  have n3 := p3.2.1
  unfold PT.cells
  refine ww1 (cj gz3 <| cj yc1 yc2) ?_
  exact ⟨⟨y, rfl, by3.put (yo _ oM), fun k hk => yo k oM⟩, RP.put_new a (RP.pre hxA p3) (Nat.le_refl _) _⟩
 ·rw [if_neg h1]
  refine ww1 h1 ?_
  refine callF_of (err_spec hS aA (b.ext hxA) hl) okr ?_
  rintro _ h3 ⟨pr, p3⟩
  obtain ⟨y, rfl, by3, ⟨yc1, yc2⟩, yo⟩ := pr.on (h := h) (h0 := h) oM
  have gz3 : h3.get h.nx = some (.cells zPT 71 false) := by rw [p3.2.2 _ oM oM]; exact gz
  have n3 := p3.2.1
  unfold PT.cells
  refine ww1 (cj gz3 <| cj yc1 yc2) ?_
  exact ⟨⟨y, rfl, by3.put (yo _ oM), fun k hk => yo k oM⟩, RP.put_new a (RP.pre hxA p3) (Nat.le_refl _) _⟩
theorem eof_spec {X : RX} {n0 r : Nat} {s : RS} {cv tv v : V} {l : List Nat} {h : H} (a : RR X n0 r s cv tv h) (b : BS 5 h v l) (hl : l.length < 2 ^ 28) : callW S.cfg (· = r) 80 [.ptr r 0, v] h fun w h' => w = .tuple [.agg [.int .u16 (eofS s l).2.1.1, .int .u16 (eofS s l).2.1.2], .int .i64 (eofS s l).2.2] ∧ RP X n0 r (eofS s l).1 cv tv h h' := by
 refine inn Tryz.func80 (hS.ownR _ dC) rfl rfl ?_
 have okr : ∀ k, k = r → fresh h.nx (· = r) k := fun k hk => by rw [fresh_def]; exact .inr hk
 have lt := a.lt.2
 refine ww1 @Tryz.f80.eq_1 ?_
 have hxA : Ext h (h.push (.cells [.int .u16 0, .int .u16 0] 67 false)) := (Ext.refl h).push _
 refine callF_pure (readeof_spec hS.toStdG (b.ext hxA) hl) ?_
 rintro _ h1 hx1 rfl
 have n1 := hx1.1
 simp only [push_nx] at n1
 have g1 : h1.get h.nx = some (.cells [.int .u16 0, .int .u16 0] 67 false) := by rw [hx1.2 _ (by simp only [push_nx]; omega)]; exact push_eq rfl
 have hx : Ext h h1 := hxA.trans hx1
 unfold eofS
 by_cases he : (eofF l).2.2 = 0
 case neg =>
  rw [if_pos he]
  refine ww1 (cj he g1) ?_
  exact ⟨.inr (.inl oM), RP.same a (((hx.push _).put oM _).put (Nat.le_refl _) _)⟩
 rw [if_neg (fun q => q he)]
 have he' := eq_true he
 have gr := (a.ext hx).get
 unfold rsC at gr
 refine ww1 (cj he' <| cj g1 gr) ?_
 generalize hhB : H.put (H.push h1 _) h1.nx _ = hB
 have hxB : Ext h1 hB := by rw [← hhB]; exact ((Ext.refl h1).push _).put (Nat.le_refl _) _
 clear hhB
 have aB := a.ext (hx.trans hxB)
 have pB : RP X n0 r { s with st := (eofF l).2.1 } cv tv hB (hB.put r (.cells (rsC X r { s with st := (eofF l).2.1 } cv tv) 116 false)) := ⟨aB.put rfl, (But.refl r hB).put _⟩
 exact ⟨.inr (.inl oM), RP.put_new a (RP.pre (hx.trans hxB) pB) (Nat.le_refl _) _⟩
theorem eofOrOk_spec {X : RX} {n0 r : Nat} {s : RS} {cv tv v : V} {l : List Nat} {h : H} (a : RR X n0 r s cv tv h) (b : BS 5 h v l) (hl : l.length < 2 ^ 28) (ob : Off v r) : callW S.cfg (· = r) 44 [.ptr r 0, v] h fun w h' => PR h h' w (eofOrOkS s l).2.1 (eofOrOkS s l).2.2 ∧ RP X n0 r (eofOrOkS s l).1 cv tv h h' := by
 refine inn Tryz.func44 (hS.ownR _ dC) rfl rfl ?_
 have okr : ∀ k, k = r → fresh h.nx (· = r) k := fun k hk => by rw [fresh_def]; exact .inr hk
 have lt := a.lt.2
 have hxA : Ext h (h.push (.cells zPT 71 false)) := (Ext.refl h).push _
 have aA := a.ext hxA
 refine ww1 @Tryz.f44.eq_1 ?_
 have gz : (h.push (.cells zPT 71 false)).get h.nx = some (.cells zPT 71 false) := push_eq rfl
 have nA : (h.push (.cells zPT 71 false)).nx = h.nx + 1 := rfl
 generalize h.push (.cells zPT 71 false) = hA at *
 refine callF_of (eof_spec hS aA (b.ext hxA) hl) okr ?_
 rintro _ h1 ⟨rfl, p1⟩
 have n1 := p1.2.1
 have gz1 : h1.get h.nx = some (.cells zPT 71 false) := by rw [p1.2.2 _ oM oM]; exact gz
 have b1 : BS 5 h1 v l := (b.ext hxA).keep n1 fun j hj ⟨o', n, m, q⟩ => p1.2.2 j hj fun e => ob o' n m (by rw [← e]; exact q)
 unfold eofOrOkS eofS at *
 by_cases he : (eofF l).2.2 = 0
 case neg =>
  rw [if_pos he] at p1 ⊢
  rw [if_pos he]
  refine ww1 (cj gz1 n50) ?_
  generalize hhB : H.put (H.push h1 _) h1.nx _ = hB
  have hxB : Ext h1 hB := by rw [← hhB]; exact ((Ext.refl h1).push _).put (Nat.le_refl _) _
  have nB : hB.nx = h1.nx + 1 := by rw [← hhB]; rfl
  clear hhB
  refine ⟨.inr (.inl oM), callF_of (ok_spec hS (p1.1.ext hxB) (b1.ext hxB) hl) okr ?_⟩
  rintro _ h3 ⟨pr, p3⟩
  obtain ⟨y, rfl, by3, ⟨yc1, yc2⟩, yo⟩ := pr.on (h := h) (h0 := h) oM
  have gz3 : h3.get h.nx = some (.cells zPT 71 false) := by rw [p3.2.2 _ oM oM, hxB.2 _ oM]; exact gz1
  have n3 := p3.2.1
  unfold PT.cells
  refine ww1 (cj gz3 <| cj yc1 yc2) ?_
  exact ⟨⟨y, rfl, by3.put (yo _ oM), fun k hk => yo k oM⟩, RP.put_new a (RP.pre hxA ((p1.ext hxB).trans p3)) (Nat.le_refl _) _⟩
 rw [if_neg (fun q => q he)] at p1 ⊢
 rw [if_neg (fun q => q he)]
 refine ww1 gz1 ?_
 generalize hhB : H.put (H.push h1 _) h1.nx _ = hB
 have hxB : Ext h1 hB := by rw [← hhB]; exact ((Ext.refl h1).push _).put (Nat.le_refl _) _
 have gB : hB.get h1.nx = some (.cells [.int .u16 (eofF l).1, .int .u16 (eofF l).2.1] 67 false) := by rw [← hhB]; exact put_eq rfl
 have nB : hB.nx = h1.nx + 1 := by rw [← hhB]; rfl
 clear hhB
 refine ⟨.inr (.inl oM), callF_of (fin_spec hS (p1.1.ext hxB)) okr ?_⟩
 rintro _ h3 ⟨rfl, p3⟩
 have n3 := p3.2.1
 have g3 : h3.get h1.nx = some (.cells [.int .u16 (eofF l).1, .int .u16 (eofF l).2.1] 67 false) := by rw [p3.2.2 _ oM oM]; exact gB
 have gz3 : h3.get h.nx = some (.cells zPT 71 false) := by rw [p3.2.2 _ oM oM, hxB.2 _ oM]; exact gz1
 refine ww1 (cj g3 gz3) ?_
 exact ⟨PR.nil rfl rfl, RP.put_new a (RP.pre hxA ((p1.ext hxB).trans p3)) (Nat.le_refl _) _⟩
theorem text_spec {X : RX} {n0 r : Nat} {s : RS} {cv tv v : V} {l : List Nat} {h : H} (a : RR X n0 r s cv tv h) (b : BS 5 h v l) (hl : l.length < 2 ^ 28) : callW S.cfg (· = r) 45 [.ptr r 0, v] h fun w h' => PR h h' w (textS s l).2.1 (textS s l).2.2 ∧ RP X n0 r (textS s l).1 cv tv h h' := by
 refine inn Tryz.func45 (hS.ownR _ dC) rfl rfl ?_
 have okr : ∀ k, k = r → fresh h.nx (· = r) k := fun k hk => by rw [fresh_def]; exact .inr hk
 have lt := a.lt.2
 have hxA : Ext h (h.push (.cells zPT 71 false)) := (Ext.refl h).push _
 have aA := a.ext hxA
 have a1 := b.len 5
 unfold textS
 by_cases h0 : l.length = 0
 ·rw [if_pos h0]
  refine ww1 (cj @Tryz.f45.eq_1 <| cj a1 h0) ?_
  exact ⟨PR.nil rfl rfl, RP.put_new a (RP.same a hxA) (Nat.le_refl _) _⟩
 rw [if_neg h0]
 obtain ⟨bb, o, m, hv, _, _⟩ := b.at (i := 0) oM
 obtain ⟨_, hbb, hrd⟩ := BS.rd (hv ▸ b)
 have hr := hrd 0 oM
 rw [Nat.add_zero] at hr
 have hl0 : 0 < l.length := oM
 subst hv
 by_cases h5 : byI l 0 = 255
 ·rw [if_pos h5]
  have h5' := eq_true h5
  refine ww1 (cj @Tryz.f45.eq_1 <| cj a1 <| cj h0 <| cj hl0 <| cj hr h5') ?_
  have gz : (h.push (.cells zPT 71 false)).get h.nx = some (.cells zPT 71 false) := push_eq rfl
  have nA : (h.push (.cells zPT 71 false)).nx = h.nx + 1 := rfl
  generalize h.push (.cells zPT 71 false) = hA at *
  refine callF_of (err_spec hS aA (b.ext hxA) hl) okr ?_
  rintro _ h3 ⟨pr, p3⟩
  obtain ⟨y, rfl, by3, ⟨yc1, yc2⟩, yo⟩ := pr.on (h := h) (h0 := h) oM
  have gz3 : h3.get h.nx = some (.cells zPT 71 false) := by rw [p3.2.2 _ oM oM]; exact gz
  have n3 := p3.2.1
  unfold PT.cells
  refine ww1 (cj @Tryz.f45.eq_1 <| cj gz3 <| cj yc1 yc2) ?_
  exact ⟨⟨y, rfl, by3.put (yo _ oM), fun k hk => yo k oM⟩, RP.put_new a (RP.pre hxA p3) (Nat.le_refl _) _⟩
 ·rw [if_neg h5]
  refine ww1 (cj @Tryz.f45.eq_1 <| cj a1 <| cj h0 <| cj hl0 <| cj hr h5) ?_
  have gz : (h.push (.cells zPT 71 false)).get h.nx = some (.cells zPT 71 false) := push_eq rfl
  have nA : (h.push (.cells zPT 71 false)).nx = h.nx + 1 := rfl
  generalize h.push (.cells zPT 71 false) = hA at *
  refine callF_of (fin_spec hS aA) okr ?_
  rintro _ h3 ⟨rfl, p3⟩
  have gz3 : h3.get h.nx = some (.cells zPT 71 false) := by rw [p3.2.2 _ oM oM]; exact gz
  have n3 := p3.2.1
  refine ww1 (cj @Tryz.f45.eq_1 gz3) ?_
  exact ⟨PR.nil rfl rfl, RP.put_new a (RP.pre hxA p3) (Nat.le_refl _) _⟩
end
noncomputable section
structure RF (X : RX) (n0 r : Nat) (s : RS) (cv tv : V) (h : H) : Prop where
 rr : RR X n0 r s cv tv h
 cs : RCs s cv h
 sep : (cv = tv ∧ s.cols = s.told) ∨ Sep cv tv
def Stp0 (n0 : Nat) (h h' : H) : Prop := h.nx ≤ h'.nx ∧ ∀ k, k < n0 → h'.get k = h.get k
theorem Stp0.trans {n0 : Nat} {a b c : H} (x : Stp0 n0 a b) (y : Stp0 n0 b c) : Stp0 n0 a c := ⟨Nat.le_trans x.1 y.1, fun k hk => by rw [y.2 k hk, x.2 k hk]⟩
theorem Stp0.ext {n0 : Nat} {a b : H} (x : Ext a b) (hn : n0 ≤ a.nx) : Stp0 n0 a b := ⟨x.1, fun k hk => x.2 k oM⟩
theorem Stp0.but {n0 r : Nat} {a b : H} (x : But r a b) (hn : n0 ≤ a.nx) (hr : n0 ≤ r) : Stp0 n0 a b := ⟨x.1, fun k hk => x.2 k oM oM⟩
structure Fr (r : Nat) (cv tv : V) (h : H) (cv' tv' : V) (h' : H) : Prop where
 get : ∀ k, k < h.nx → k ≠ r → Off tv k → h'.get k = h.get k
 off : ∀ k, k < h.nx → Off tv k → Off cv k → Off tv' k ∧ Off cv' k
theorem Fr.but {r : Nat} {cv tv : V} {h h' : H} (b : But r h h') : Fr r cv tv h cv tv h' := ⟨fun k hk hr _ => b.2 k hk hr, fun k _ x y => ⟨x, y⟩⟩
def SF (X : RX) (n0 r : Nat) (cv tv : V) (h : H) (q : RS × PT × Int) (w : V) (h' : H) : Prop := ∃ cv' tv', PR h h' w q.2.1 q.2.2 ∧ RF X n0 r q.1 cv' tv' h' ∧ Stp0 n0 h h' ∧ Fr r cv tv h cv' tv' h'
theorem RF.step {X : RX} {n0 r : Nat} {s s' : RS} {cv tv : V} {h h' : H} (a : RF X n0 r s cv tv h) (p : RP X n0 r s' cv tv h h') (hc : s'.cols = s.cols) (ht : s'.told = s.told) : RF X n0 r s' cv tv h' :=
 ⟨p.1, by unfold RCs; rw [hc]; exact RCs.but (s := s) a.cs a.rr.coff p.2, by rw [hc, ht]; exact a.sep⟩
theorem RF.sf {X : RX} {n0 r : Nat} {s : RS} {cv tv : V} {h h' : H} {q : RS × PT × Int} {w : V} (a : RF X n0 r s cv tv h) (p : PR h h' w q.2.1 q.2.2) (rp : RP X n0 r q.1 cv tv h h') (hc : q.1.cols = s.cols) (ht : q.1.told = s.told) : SF X n0 r cv tv h q w h' :=
 ⟨cv, tv, p, a.step rp hc ht, Stp0.but rp.2 (by have := a.rr.lt; omega) a.rr.lt.1, Fr.but rp.2⟩
theorem errS_ct (s : RS) (l : List Nat) : (errS s l).1.cols = s.cols ∧ (errS s l).1.told = s.told := by
 unfold errS; split <;> exact ⟨rfl, rfl⟩
theorem ends_ct (s : RS) (st : Int) (m : Prop) : (s.ends st m).cols = s.cols ∧ (s.ends st m).told = s.told := by
 unfold RS.ends; split <;> exact ⟨rfl, rfl⟩
theorem doneS_ct (s : RS) (l : List Nat) (k : Int) (m : Prop) : (doneS s l k m).1.cols = s.cols ∧ (doneS s l k m).1.told = s.told := by
 unfold doneS; split
 ·exact ⟨rfl, rfl⟩
 ·exact ends_ct _ _ _
theorem okS1_ct (s : RS) (l : List Nat) (m : Prop) : (okS1 s l m).1.cols = s.cols ∧ (okS1 s l m).1.told = s.told := by
 unfold okS1; split
 ·exact doneS_ct _ _ _ _
 ·exact errS_ct _ _
theorem eofS_ct (s : RS) (l : List Nat) : (eofS s l).1.cols = s.cols ∧ (eofS s l).1.told = s.told := by
 unfold eofS; split <;> exact ⟨rfl, rfl⟩
theorem eofOrOkS_ct (s : RS) (l : List Nat) : (eofOrOkS s l).1.cols = s.cols ∧ (eofOrOkS s l).1.told = s.told := by
 unfold eofOrOkS; split
 ·exact okS1_ct _ _ _
 ·exact ⟨rfl, rfl⟩
theorem textS_ct (s : RS) (l : List Nat) : (textS s l).1.cols = s.cols ∧ (textS s l).1.told = s.told := by
 unfold textS; split
 ·exact ⟨rfl, rfl⟩
 ·split
  ·exact errS_ct _ _
  ·exact ⟨rfl, rfl⟩
theorem lst_nil (n0 : Nat) (h : H) (e sz : Nat) : Lst n0 h .nilslice [] e sz := .inl (.inl ⟨rfl, rfl⟩)
theorem off_nil (k : Nat) : Off .nilslice k := fun o n m q => by cases q
theorem off_or {tv tv' : V} {k : Nat} (ht : tv' = tv ∨ tv' = .nilslice) (x : Off tv k) : Off tv' k := by
 rcases ht with rfl | rfl
 ·exact x
 ·exact off_nil _
theorem sep_nil (cv : V) : Sep cv .nilslice := fun b o n m q => by cases q
theorem RR.nilT {X : RX} {n0 r : Nat} {s s' : RS} {cv tv : V} {h : H} (a : RR X n0 r s cv tv h) (ht : s'.told = []) : RR X n0 r s' cv .nilslice (h.put r (.cells (rsC X r s' cv .nilslice) 116 false)) := ⟨put_eq rfl, by rw [ht]; exact lst_nil _ _ _ _, fun _ => rfl, off_nil _, a.coff, a.ccell, a.lt, a.x7⟩
theorem RR.nilTC {X : RX} {n0 r : Nat} {s s' : RS} {cv tv : V} {h : H} (a : RR X n0 r s cv tv h) (ht : s'.told = []) : RR X n0 r s' .nilslice .nilslice (h.put r (.cells (rsC X r s' .nilslice .nilslice) 116 false)) := ⟨put_eq rfl, by rw [ht]; exact lst_nil _ _ _ _, fun _ => rfl, off_nil _, off_nil _, ⟨rfl, rfl⟩, a.lt, a.x7⟩
theorem rcs_nil {s : RS} {h : H} (hc : s.cols = []) : RCs s .nilslice h := by
 unfold RCs
 rw [hc]
 exact ⟨rfl, .inl ⟨rfl, rfl⟩⟩
theorem RF.put_off {X : RX} {n0 r k : Nat} {s : RS} {cv tv : V} {h : H} (a : RF X n0 r s cv tv h) (hk : ¬ r = k) (ot : Off tv k) (oc : Off cv k) (ob : Ob) : RF X n0 r s cv tv (h.put k ob) :=
 ⟨⟨by rw [put_ne hk]; exact a.rr.get, a.rr.told.put_off ot, a.rr.tn, a.rr.toff, a.rr.coff, a.rr.ccell, a.rr.lt, a.rr.x7⟩, RW.keep a.cs (Nat.le_refl _) fun j hj ⟨o, n, m, q⟩ => put_ne fun e => oc o n m (by rw [← e]; exact q), a.sep⟩
theorem k21 : ((2 : Int) = 1) = False := dC
theorem k41 : ((4 : Int) = 1) = False := dC
theorem k42 : ((4 : Int) = 2) = False := dC
def firstS (s : RS) (l : List Nat) : RS × PT × Int :=
 if firstF l s.c = 1 then doneS s l 1 True else
 if firstF l s.c = 2 then errS s l else
 if firstF l s.c = 4 then (if fileE l ≠ 0 then (s, PT.z, 5) else (({ s with wants := True } : RS).await 82 True, { PT.z with k := 3 }, 0)) else
 if (countF l).2 ≠ 0 then (s, PT.z, 5) else (({ s with left := (countF l).1, told := [], cols := [] } : RS).await 84 False, { PT.z with k := 4 }, 0)
variable {S : Set0} (hS : StdR S)
include hS
theorem first_sf {X : RX} {n0 r : Nat} {s : RS} {cv tv v : V} {l : List Nat} {h : H} (a : RF X n0 r s cv tv h) (b : BS 5 h v l) (hl : l.length < 2 ^ 28) : callW S.cfg (· = r) 46 [.ptr r 0, v] h fun w h' => SF X n0 r cv tv h (firstS s l) w h' := by
 refine inn Tryz.func46 (hS.ownR _ dC) rfl rfl ?_
 have okr : ∀ k, k = r → fresh h.nx (· = r) k := fun k hk => by rw [fresh_def]; exact .inr hk
 have lt := a.rr.lt.2
 have hxA : Ext h (h.push (.cells zPT 71 false)) := (Ext.refl h).push _
 have aA := a.rr.ext hxA
 have g := aA.get
 unfold rsC at g
 refine ww1 (cj @Tryz.f46.eq_1 g) ?_
 have gz : (h.push (.cells zPT 71 false)).get h.nx = some (.cells zPT 71 false) := push_eq rfl
 have nA : (h.push (.cells zPT 71 false)).nx = h.nx + 1 := rfl
 generalize h.push (.cells zPT 71 false) = hA at *
 refine callF_exact (ffirst hS (b.ext hxA) s.c) ?_
 unfold firstS
 by_cases h1 : firstF l s.c = 1
 ·rw [if_pos h1]
  have h1' := eq_true h1
  refine ww1 h1' ?_
  refine callF_of (done_spec hS aA (b.ext hxA) hl 1 True) okr ?_
  rintro _ h3 ⟨pr, p3⟩
  obtain ⟨y, rfl, by3, ⟨yc1, yc2⟩, yo⟩ := pr.on (h := h) (h0 := h) oM
  have gz3 : h3.get h.nx = some (.cells zPT 71 false) := by rw [p3.2.2 _ oM oM]; exact gz
  have n3 := p3.2.1
  have ct := doneS_ct s l 1 True
  unfold PT.cells
  refine ww1 (cj gz3 <| cj yc1 yc2) ?_
  exact a.sf ⟨y, rfl, by3.put (yo _ oM), fun k hk => yo k oM⟩ (RP.put_new a.rr (RP.pre hxA p3) (Nat.le_refl _) _) ct.1 ct.2
 rw [if_neg h1]
 by_cases h2 : firstF l s.c = 2
 ·rw [if_pos h2]
  refine ww1 (cj h2 k21) ?_
  refine callF_of (err_spec hS aA (b.ext hxA) hl) okr ?_
  rintro _ h3 ⟨pr, p3⟩
  obtain ⟨y, rfl, by3, ⟨yc1, yc2⟩, yo⟩ := pr.on (h := h) (h0 := h) oM
  have gz3 : h3.get h.nx = some (.cells zPT 71 false) := by rw [p3.2.2 _ oM oM]; exact gz
  have n3 := p3.2.1
  have ct := errS_ct s l
  unfold PT.cells
  refine ww1 (cj gz3 <| cj yc1 yc2) ?_
  exact a.sf ⟨y, rfl, by3.put (yo _ oM), fun k hk => yo k oM⟩ (RP.put_new a.rr (RP.pre hxA p3) (Nat.le_refl _) _) ct.1 ct.2
 rw [if_neg h2]
 by_cases h4 : firstF l s.c = 4
 ·rw [if_pos h4]
  refine ww1 (cj h4 <| cj k41 k42) ?_
  refine callF_pure (readfile_spec hS (b.ext hxA) hl) ?_
  rintro _ h3 hx3 ⟨t, rfl⟩
  have n3 := hx3.1
  have gz3 : h3.get h.nx = some (.cells zPT 71 false) := by rw [hx3.2 _ oM]; exact gz
  by_cases he : fileE l = 0
  case neg =>
   rw [if_pos he]
   refine ww1 (cj he gz3) ?_
   exact a.sf (PR.nil rfl rfl) (RP.put_new a.rr (RP.same a.rr (hxA.trans hx3)) (Nat.le_refl _) _) rfl rfl
  rw [if_neg (fun q => q he)]
  have he' := eq_true he
  have a3 := aA.ext hx3
  have g3 := a3.get
  unfold rsC at g3
  refine ww1 (cj he' <| cj gz3 g3) ?_
  have p3 : RP X n0 r { s with wants := True } cv tv h3 (h3.put r (.cells (rsC X r { s with wants := True } cv tv) 116 false)) := ⟨a3.put rfl, (But.refl r h3).put _⟩
  refine callF_of (await_spec hS p3.1 82 True) okr ?_
  rintro _ h5 ⟨rfl, p5⟩
  have p5 := p3.trans p5
  have n5 := p5.2.1
  have gz5 : h5.get h.nx = some (.cells zPT 71 false) := by rw [p5.2.2 _ oM oM]; exact gz3
  refine ww1 gz5 ?_
  exact a.sf (PR.nil rfl rfl) (RP.put_new a.rr (RP.pre (hxA.trans hx3) p5) (Nat.le_refl _) _) rfl rfl
 rw [if_neg h4]
 refine ww1 (cj h1 <| cj h2 h4) ?_
 refine callF_pure (count_spec hS (b.ext hxA) hl) ?_
 rintro _ h3 hx3 rfl
 have n3 := hx3.1
 have gz3 : h3.get h.nx = some (.cells zPT 71 false) := by rw [hx3.2 _ oM]; exact gz
 by_cases he : (countF l).2 = 0
 case neg =>
  rw [if_pos he]
  refine ww1 (cj he gz3) ?_
  exact a.sf (PR.nil rfl rfl) (RP.put_new a.rr (RP.same a.rr (hxA.trans hx3)) (Nat.le_refl _) _) rfl rfl
 rw [if_neg (fun q => q he)]
 have he' := eq_true he
 have g3 := (aA.ext hx3).get
 unfold rsC at g3
 refine ww1 (cj he' <| cj gz3 g3) ?_
 have a3 := aA.ext hx3
 have a4 : RR X n0 r { s with left := (countF l).1 } cv tv (h3.put r (.cells (rsC X r { s with left := (countF l).1 } cv tv) 116 false)) := a3.put rfl
 have a5 := a4.nilT (s' := { s with left := (countF l).1, told := [] }) rfl
 have a6 := a5.nilTC (s' := { s with left := (countF l).1, told := [], cols := [] }) rfl
 have b6 := (((But.refl r h3).put (.cells (rsC X r { s with left := (countF l).1 } cv tv) 116 false)).put (.cells (rsC X r { s with left := (countF l).1, told := [] } cv .nilslice) 116 false)).put (.cells (rsC X r { s with left := (countF l).1, told := [], cols := [] } .nilslice .nilslice) 116 false)
 refine callF_of (await_spec hS a6 84 False) okr ?_
 rintro _ h5 ⟨rfl, p5⟩
 have b5 := b6.trans p5.2
 have n5 := b5.1
 have gz5 : h5.get h.nx = some (.cells zPT 71 false) := by rw [b5.2 _ oM oM]; exact gz3
 refine ww1 gz5 ?_
 exact ⟨.nilslice, .nilslice, PR.nil rfl rfl, RF.put_off (k := h.nx) ⟨p5.1, rcs_nil rfl, .inr (sep_nil _)⟩ oM (off_nil _) (off_nil _) _, Stp0.but (((But.of_ext (hxA.trans hx3)).trans b5).put_new (Nat.le_refl _) _) (by have := a.rr.lt; omega) a.rr.lt.1, ⟨fun k hk hr _ => (((But.of_ext (hxA.trans hx3)).trans b5).put_new (Nat.le_refl _) _).2 k hk hr, fun k _ _ _ => ⟨off_nil _, off_nil _⟩⟩⟩
end
noncomputable section
def furA (s : RS) : RS := @ite _ (s.left = 0 ∧ ¬ s.second) (Classical.propDecidable _) { s with second := True, left := s.thn } s
def furtherS (s : RS) : RS × Prop := if (furA s).left = 0 then ((furA s).fin, True) else (({ furA s with told := [] } : RS).await 131 False, False)
def afterS (s : RS) : RS × Prop := @ite _ s.second (Classical.propDecidable _) (s.fin, True) (furtherS s)
def defEndS (s : RS) (l : List Nat) : RS × PT × Int := if (eofF l).2.2 ≠ 0 then (s, PT.z, 5) else ((afterS { s with st := (eofF l).2.1 }).1, { PT.z with k := 6, last := (afterS { s with st := (eofF l).2.1 }).2, fw := (eofF l).1, fs := (eofF l).2.1 }, 0)
def colEndS (s : RS) (l : List Nat) : RS × PT × Int := if (eofF l).2.2 ≠ 0 then (s, PT.z, 5) else
 (@ite _ (s.k = 23 ∧ s.fl = 1 ∧ ¬ iAnd .u16 (eofF l).2.1 64 = 0) (Classical.propDecidable _) ({ s with st := (eofF l).2.1 } : RS).fin (({ s with st := (eofF l).2.1 } : RS).await 48 True), { PT.z with k := 6, last := s.k = 23 ∧ s.fl = 1 ∧ ¬ iAnd .u16 (eofF l).2.1 64 = 0, fw := (eofF l).1, fs := (eofF l).2.1 }, 0)
def prepS (s : RS) (l : List Nat) : RS × PT × Int := if l.length = 0 ∨ ¬ byI l 0 = 0 then errS s l else if (prepF l).2.2.2.2 ≠ 0 then (s, PT.z, 5) else
 ((furtherS { s with left := (prepF l).2.2.1, thn := (prepF l).2.1 }).1, { PT.z with k := 9, last := (furtherS { s with left := (prepF l).2.2.1, thn := (prepF l).2.1 }).2, p1 := (prepF l).1, p2 := (prepF l).2.1, p3 := (prepF l).2.2.1, p4 := (prepF l).2.2.2.1 }, 0)
theorem SF.fin {X : RX} {n0 r : Nat} {s s' : RS} {cv tv tv' w : V} {h h2 : H} {ob : Ob} {p : PT} {e : Int} (a : RF X n0 r s cv tv h) (f : RF X n0 r s' cv tv' h2) (b : But r h h2) (ht : tv' = tv ∨ tv' = .nilslice) (pr : PR h (h2.put h.nx ob) w p e) : SF X n0 r cv tv h (s', p, e) w (h2.put h.nx ob) := by
 have lt := a.rr.lt
 have ot : Off tv' h.nx := by
  rcases ht with rfl | rfl
  ·exact a.rr.told.off_new (Nat.le_refl _)
  ·exact off_nil _
 exact ⟨cv, tv', pr, f.put_off oM ot (RW.off a.cs (Nat.le_refl _)) ob, Stp0.but (b.put_new (Nat.le_refl _) ob) oM lt.1, ⟨fun k hk hr _ => (b.put_new (Nat.le_refl _) ob).2 k hk hr, fun k _ x y => ⟨off_or ht x, y⟩⟩⟩
theorem cl_rd {n0 n1 r k o m : Nat} (h1 : k < n0) (h2 : ¬ k = r) : fpApart (.cl n0 n1 (· = r)) (.lg [.rd k o m]) := fun e he => .inr (by
 rw [List.mem_singleton.1 he]
 exact ⟨rfl, h1, h2⟩)
variable {S : Set0} (hS : StdR S)
include hS
theorem colEnd_sf {X : RX} {n0 r : Nat} {s : RS} {cv tv v : V} {l : List Nat} {h : H} (a : RF X n0 r s cv tv h) (b : BS 5 h v l) (hl : l.length < 2 ^ 28) : callW S.cfg (· = r) 128 [.ptr r 0, v] h fun w h' => SF X n0 r cv tv h (colEndS s l) w h' := by
 refine inn Tryz.func128 (hS.ownR _ dC) rfl rfl ?_
 have okr : ∀ k, k = r → fresh h.nx (· = r) k := fun k hk => by rw [fresh_def]; exact .inr hk
 have lt := a.rr.lt.2
 have hxA : Ext h (h.push (.cells zPT 71 false)) := (Ext.refl h).push _
 refine ww1 @Tryz.f128.eq_1 ?_
 have gz : (h.push (.cells zPT 71 false)).get h.nx = some (.cells zPT 71 false) := push_eq rfl
 have nA : (h.push (.cells zPT 71 false)).nx = h.nx + 1 := rfl
 generalize h.push (.cells zPT 71 false) = hA at *
 have aA : RF X n0 r s cv tv hA := a.step (RP.same a.rr hxA) rfl rfl
 refine callF_of (eof_spec hS aA.rr (b.ext hxA) hl) okr ?_
 rintro _ h1 ⟨rfl, p1⟩
 have n1 := p1.2.1
 have gz1 : h1.get h.nx = some (.cells zPT 71 false) := by rw [p1.2.2 _ oM oM]; exact gz
 have ct := eofS_ct s l
 unfold eofS at p1 ct ⊢
 by_cases he : (eofF l).2.2 = 0
 case neg =>
  rw [if_pos he] at p1 ct ⊢
  rw [show colEndS s l = (s, PT.z, 5) from if_pos he]
  refine ww1 (cj gz1 n50) ?_
  exact ⟨.inr (.inl oM), a.sf (PR.nil rfl rfl) (RP.put_new a.rr (RP.pre hxA (p1.ext (((Ext.refl h1).push _).put (Nat.le_refl _) _))) (Nat.le_refl _) _) rfl rfl⟩
 rw [if_neg (fun q => q he)] at p1 ct ⊢
 have q1 : colEndS s l = (@ite _ (s.k = 23 ∧ s.fl = 1 ∧ ¬ iAnd .u16 (eofF l).2.1 64 = 0) (Classical.propDecidable _) ({ s with st := (eofF l).2.1 } : RS).fin (({ s with st := (eofF l).2.1 } : RS).await 48 True), { PT.z with k := 6, last := s.k = 23 ∧ s.fl = 1 ∧ ¬ iAnd .u16 (eofF l).2.1 64 = 0, fw := (eofF l).1, fs := (eofF l).2.1 }, 0) := if_neg (fun q => q he)
 rw [q1]
 have g1 := p1.1.get
 unfold rsC at g1
 generalize hhB : H.put (H.push h1 (.cells [.int .u16 0, .int .u16 0] 67 false)) h1.nx (.cells [.int .u16 (eofF l).1, .int .u16 (eofF l).2.1] 67 false) = hB
 have hxB : Ext h1 hB := by rw [← hhB]; exact ((Ext.refl h1).push _).put (Nat.le_refl _) _
 have gB : hB.get h1.nx = some (.cells [.int .u16 (eofF l).1, .int .u16 (eofF l).2.1] 67 false) := by rw [← hhB]; exact put_eq rfl
 have nB : hB.nx = h1.nx + 1 := by rw [← hhB]; rfl
 have aB : RF X n0 r { s with st := (eofF l).2.1 } cv tv hB := aA.step (p1.ext hxB) rfl rfl
 have bB := (But.of_ext hxA).trans (p1.2.trans (But.of_ext hxB))
 have gr := aB.rr.get
 unfold rsC at gr
 by_cases hk : s.k = 23 ∧ s.fl = 1 ∧ ¬ iAnd .u16 (eofF l).2.1 64 = 0
 ·rw [if_pos hk]
  have hw : bo (s.k = 23 ∧ s.fl = 1 ∧ ¬ iAnd .u16 (eofF l).2.1 64 = 0) = bo True := by simp only [eq_true hk]
  have hk1 := eq_true hk.1
  have hk2 := eq_true hk.2.1
  have hk3 := hk.2.2
  refine ww1 (cj gz1 <| cj hhB <| cj gB <| cj gr <| cj hk1 <| cj hk2 hk3) ?_
  refine ⟨.inr (.inl oM), callF_of (fin_spec hS aB.rr) okr ?_⟩
  rintro _ h3 ⟨rfl, p3⟩
  have n3 := p3.2.1
  have g3 : h3.get h1.nx = some (.cells [.int .u16 (eofF l).1, .int .u16 (eofF l).2.1] 67 false) := by rw [p3.2.2 _ oM oM]; exact gB
  have gz3 : h3.get h.nx = some (.cells zPT 71 false) := by rw [p3.2.2 _ oM oM, ← hhB, put_ne oM, push_ne oM]; exact gz1
  refine ww1 (cj g3 gz3) ?_
  exact SF.fin a (aB.step p3 rfl rfl) (bB.trans p3.2) (.inl rfl) (PR.nil (by unfold PT.cells; simp only [hw]; rfl) rfl)
 ·rw [if_neg hk]
  have fin : ∀ h3, RP X n0 r (({ s with st := (eofF l).2.1 } : RS).await 48 True) cv tv hB h3 → h3.get h1.nx = some (.cells [.int .u16 (eofF l).1, .int .u16 (eofF l).2.1] 67 false) ∧ h3.get h.nx = some (.cells zPT 71 false) ∧ hB.nx ≤ h3.nx := fun h3 p3 => ⟨by rw [p3.2.2 _ oM oM]; exact gB, by rw [p3.2.2 _ oM oM, ← hhB, put_ne oM, push_ne oM]; exact gz1, p3.2.1⟩
  have hw : bo (s.k = 23 ∧ s.fl = 1 ∧ ¬ iAnd .u16 (eofF l).2.1 64 = 0) = bo False := by simp only [eq_false hk]
  by_cases hk1 : s.k = 23
  ·by_cases hk2 : s.fl = 1
   ·have hk3 : iAnd .u16 (eofF l).2.1 64 = 0 := Classical.byContradiction fun q => hk ⟨hk1, hk2, q⟩
    have hk1' := eq_true hk1
    have hk2' := eq_true hk2
    refine ww1 (cj gz1 <| cj hhB <| cj gB <| cj gr <| cj hk1' <| cj hk2' hk3) ?_
    refine ⟨.inr (.inl oM), callF_of (await_spec hS aB.rr 48 True) okr ?_⟩
    rintro _ h3 ⟨rfl, p3⟩
    obtain ⟨g3, gz3, n3⟩ := fin h3 p3
    refine ww1 (cj g3 gz3) ?_
    exact SF.fin a (aB.step p3 rfl rfl) (bB.trans p3.2) (.inl rfl) (PR.nil (by unfold PT.cells; simp only [hw]; rfl) rfl)
   ·have hk1' := eq_true hk1
    refine ww1 (cj gz1 <| cj hhB <| cj gB <| cj gr <| cj hk1' hk2) ?_
    refine ⟨.inr (.inl oM), callF_of (await_spec hS aB.rr 48 True) okr ?_⟩
    rintro _ h3 ⟨rfl, p3⟩
    obtain ⟨g3, gz3, n3⟩ := fin h3 p3
    refine ww1 (cj g3 gz3) ?_
    exact SF.fin a (aB.step p3 rfl rfl) (bB.trans p3.2) (.inl rfl) (PR.nil (by unfold PT.cells; simp only [hw]; rfl) rfl)
  ·refine ww1 (cj gz1 <| cj hhB <| cj gB <| cj gr hk1) ?_
   refine ⟨.inr (.inl oM), callF_of (await_spec hS aB.rr 48 True) okr ?_⟩
   rintro _ h3 ⟨rfl, p3⟩
   obtain ⟨g3, gz3, n3⟩ := fin h3 p3
   refine ww1 (cj g3 gz3) ?_
   exact SF.fin a (aB.step p3 rfl rfl) (bB.trans p3.2) (.inl rfl) (PR.nil (by unfold PT.cells; simp only [hw]; rfl) rfl)
end
noncomputable section
theorem rd_wr {j k o m o' m' : Nat} (h : j ≠ k) : fpApart (.lg [.rd j o m]) (.lg [.wr k o' m']) := wr_apart fun x hx => by rw [List.mem_singleton.1 hx]; exact h
theorem ap110' : apI Tryz.prog 110 = some (112, 10, 96) := ap110
def oneS (s : RS) (l : List Nat) : RS × Int := if (colF l).2 ≠ 0 then (s, 5) else ({ s with told := s.told ++ [(colF l).1], left := s.left - 1 }, 0)
variable {S : Set0} (hS : StdR S)
include hS
theorem prep_sf {X : RX} {n0 r : Nat} {s : RS} {cv tv v : V} {l : List Nat} {h : H} (a : RF X n0 r s cv tv h) (b : BS 5 h v l) (hl : l.length < 2 ^ 28) (hnz : ¬ byI l 0 = 0) : callW S.cfg (· = r) 47 [.ptr r 0, v] h fun w h' => SF X n0 r cv tv h (prepS s l) w h' := by
 refine inn Tryz.func47 (hS.ownR _ dC) rfl rfl ?_
 have okr : ∀ k, k = r → fresh h.nx (· = r) k := fun k hk => by rw [fresh_def]; exact .inr hk
 have lt := a.rr.lt.2
 have hxA : Ext h (h.push (.cells zPT 71 false)) := (Ext.refl h).push _
 have a1 := b.len 5
 have aA : RF X n0 r s cv tv (h.push (.cells zPT 71 false)) := a.step (RP.same a.rr hxA) rfl rfl
 have gz : (h.push (.cells zPT 71 false)).get h.nx = some (.cells zPT 71 false) := push_eq rfl
 have nA : (h.push (.cells zPT 71 false)).nx = h.nx + 1 := rfl
 have ct := errS_ct s l
 by_cases h0 : l.length = 0
 ·rw [show prepS s l = errS s l from if_pos (.inl h0)]
  refine ww1 (cj @Tryz.f47.eq_1 <| cj a1 h0) ?_
  generalize h.push (.cells zPT 71 false) = hA at *
  refine callF_of (err_spec hS aA.rr (b.ext hxA) hl) okr ?_
  rintro _ h3 ⟨pr, p3⟩
  obtain ⟨y, rfl, by3, ⟨yc1, yc2⟩, yo⟩ := pr.on (h := h) (h0 := h) oM
  have gz3 : h3.get h.nx = some (.cells zPT 71 false) := by rw [p3.2.2 _ oM oM]; exact gz
  have n3 := p3.2.1
  unfold PT.cells
  refine ww1 (cj @Tryz.f47.eq_1 <| cj gz3 <| cj yc1 yc2) ?_
  exact a.sf ⟨y, rfl, by3.put (yo _ oM), fun k hk => yo k oM⟩ (RP.put_new a.rr (RP.pre hxA p3) (Nat.le_refl _) _) ct.1 ct.2
 obtain ⟨bb, o, m, hv, _, _⟩ := b.at (i := 0) oM
 obtain ⟨_, hbb, hrd⟩ := BS.rd (hv ▸ b)
 have hr := hrd 0 oM
 rw [Nat.add_zero] at hr
 have hl0 : 0 < l.length := oM
 subst hv
 by_cases hz : byI l 0 = 0
 case neg =>
  rw [show prepS s l = errS s l from if_pos (.inr hz)]
  refine ww1 (cj @Tryz.f47.eq_1 <| cj a1 <| cj h0 <| cj hl0 <| cj hr hz) ?_
  generalize h.push (.cells zPT 71 false) = hA at *
  refine callF_of (err_spec hS aA.rr (b.ext hxA) hl) okr ?_
  rintro _ h3 ⟨pr, p3⟩
  obtain ⟨y, rfl, by3, ⟨yc1, yc2⟩, yo⟩ := pr.on (h := h) (h0 := h) oM
  have gz3 : h3.get h.nx = some (.cells zPT 71 false) := by rw [p3.2.2 _ oM oM]; exact gz
  have n3 := p3.2.1
  unfold PT.cells
  refine ww1 (cj @Tryz.f47.eq_1 <| cj gz3 <| cj yc1 yc2) ?_
  exact a.sf ⟨y, rfl, by3.put (yo _ oM), fun k hk => yo k oM⟩ (RP.put_new a.rr (RP.pre hxA p3) (Nat.le_refl _) _) ct.1 ct.2
 exact absurd hz hnz
theorem one_spec {X : RX} {n0 r : Nat} {s : RS} {cv tv v : V} {l : List Nat} {h : H} (a : RR X n0 r s cv tv h) (b : BS 5 h v l) (hl : l.length < 2 ^ 28) (hL : 1 ≤ s.left ∧ s.left ≤ 65536) (hT : s.told.length ≤ 65536) : callW S.cfg (fun k => n0 ≤ k) 126 [.ptr r 0, v] h fun w h' => w = .int .i64 (oneS s l).2 ∧ ∃ tv', RR X n0 r (oneS s l).1 cv tv' h' ∧ (Sep cv tv → RCs s cv h → RCs s cv h' ∧ Sep cv tv') ∧ h.nx ≤ h'.nx ∧ (∀ k, k < h.nx → k ≠ r → Off tv k → h'.get k = h.get k) ∧ (∀ k, k < h.nx → Off tv k → Off tv' k) ∧ ((oneS s l).2 ≠ 0 → tv' = tv ∧ Ext h h') := by
 refine inn Tryz.func126 (hS.ownR _ dC) rfl rfl ?_
 have lt := a.lt
 refine ww1 @Tryz.f126.eq_1 ?_
 refine callF_pure (colread_spec hS b hl) ?_
 rintro _ h1 hx1 rfl
 have n1 := hx1.1
 unfold oneS
 by_cases he : (colF l).2 = 0
 case neg =>
  rw [if_pos he]
  unfold CO.cells
  refine ww1 he ?_
  have hx2 : Ext h ((h1.push (.cells CO.zero.cells 112 false)).put h1.nx (.cells (colF l).1.cells 112 false)) := (hx1.push _).put oM _
  exact ⟨.inr (.inl oM), tv, a.ext hx2, fun q1 q2 => ⟨RW.ext q2 hx2, q1⟩, hx2.1, fun k hk _ _ => hx1.2 k hk, fun k _ q => q, fun _ => ⟨rfl, hx2⟩⟩
 rw [if_neg (fun q => q he)]
 have he' := eq_true he
 generalize (colF l).1 = x at *
 unfold CO.cells
 generalize hhB : H.put (H.push h1 (.cells CO.zero.cells 112 false)) h1.nx (.cells x.cells 112 false) = hB
 have hxB : Ext h1 hB := by rw [← hhB]; exact ((Ext.refl h1).push _).put (Nat.le_refl _) _
 have gB : hB.get h1.nx = some (.cells x.cells 112 false) := by rw [← hhB]; exact put_eq rfl
 have nB : hB.nx = h1.nx + 1 := by rw [← hhB]; rfl
 unfold CO.cells CO.zero at hhB
 unfold CO.cells at gB
 have aB := a.ext (hx1.trans hxB)
 have gr := aB.get
 unfold rsC at gr
 refine ww1 (cj he' hhB) ?_
 refine ⟨.inr (.inl oM), draw_by [(4, 6)] kR ?_⟩
 refine ww1 (cj gr gB) ?_
 generalize hhC : H.push hB _ = hC
 have hxC : Ext hB hC := by rw [← hhC]; exact (Ext.refl hB).push _
 have nC : hC.nx = hB.nx + 1 := by rw [← hhC]; rfl
 have gC : hC.get hB.nx = some (.cells x.cells 112 false) := by rw [← hhC]; exact push_eq rfl
 clear hhC hhB
 have aC := aB.ext hxC
 refine append_fresh (n0 := n0) (sv := tv) (b2 := hB.nx) (o2 := 0) (n := 1) (m := 1) (cells := colV s.told) (new := x.cells) ?_ ?_ ap110' ⟨.slice 112, by kernel_rfl, rfl⟩ aC.told dC (by rw [gC]; exact rdC_all rfl) rfl rfl ?_ dC (fun k hk => by
  rw [fresh_def]
  obtain ⟨o, n, m, q⟩ := hk
  exact .inr (Classical.byContradiction fun u => a.told.off k oM o n m q)) oM ?_
 ·exact wv0
 ·exact wv0
 ·rw [colV_len]; show _ + 10 ≤ _; omega
 intro v2 h2 L2 hl2 n2 hk2 hL2
 have rn : ∀ o n m, tv ≠ .slice r o n m := fun o n m q => a.toff o n m q
 have g2 : h2.get r = some (.cells (rsC X r s cv tv) 116 false) := by rw [hk2 r oM rn]; exact aC.get
 unfold rsC at g2
 obtain ⟨d1, d2⟩ := hl2.cell
 have wl : IntKind.i64.wrap (s.left - 1) = s.left - 1 := i64_in _ oM
 have t2 : Lst n0 h2 v2 (colV (s.told ++ [x])) 112 10 := by rw [colV_app]; exact .inl (hl2.mono oM)
 have off2 : ∀ k, k < hC.nx → Off v2 k := fun k hk o n m q => by have := hl2.blk q; omega
 have a2 : RR X n0 r { s with told := s.told ++ [x] } cv v2 (h2.put r (.cells (rsC X r { s with told := s.told ++ [x] } cv v2) 116 false)) := ⟨put_eq rfl, t2.put_off (off2 r oM), fun q => by simp at q, off2 r oM, a.coff, a.ccell, ⟨lt.1, by show r < h2.nx; omega⟩, a.x7⟩
 refine ww1 (cj g2 <| cj d1 <| cj d2 wl) ?_
 have fr : ∀ k, k < h.nx → k ≠ r → Off tv k → h2.get k = h.get k := fun k hk hr q => by rw [hk2 k oM q, hxC.2 k oM, hxB.2 k oM, hx1.2 k hk]
 refine ⟨.inr (.inr lt.1), fun p hp => ?_, .inr (.inr lt.1), v2, a2.put (s' := { s with told := s.told ++ [x], left := s.left - 1 }) rfl, fun q1 q2 => ⟨?_, fun b' o n m q o' n' m' q' => ?_⟩, by omega, fr, fun k hk _ => off2 k oM, fun q => absurd rfl q⟩
 ·rw [List.mem_singleton.1 hp]
  exact pair_one rfl rfl (apart_blk fun y hy z hz q => by
   rw [List.mem_singleton.1 hy, List.mem_singleton.1 hz] at q
   have q : r = hB.nx := q
   omega)
 ·exact RW.keep q2 (by show h.nx ≤ h2.nx; omega) fun k hk ⟨o, n, m, q⟩ => by
   have kr : k ≠ r := fun e => a.coff o n m (by rw [← e]; exact q)
   rw [put_ne kr, put_ne kr]
   exact fr k hk kr fun o' n' m' q' => q1 k o' n' m' q' o n m q
 ·have := hl2.blk q
  have hb := RW.blk q2 q'
  omega
end
noncomputable section
def colN (s : RS) : RS := if s.left = 0 then (if iAnd .u32 s.c 16777216 = 0 then s.await 128 False else s.await 48 True) else s
def colNS (s : RS) (l : List Nat) : RS × PT × Int := if (oneS s l).2 ≠ 0 then ((oneS s l).1, PT.z, (oneS s l).2) else (colN { (oneS s l).1 with cols := (oneS s l).1.told }, { PT.z with k := 5 }, 0)
def defN (s : RS) : RS × Prop := if s.left = 0 then (if iAnd .u32 s.c 16777216 = 0 then (s.await 162 False, False) else afterS s) else (s, False)
def defNS (s : RS) (l : List Nat) : RS × PT × Int := if (oneS s l).2 ≠ 0 then ((oneS s l).1, PT.z, (oneS s l).2) else ((defN (oneS s l).1).1, { PT.z with k := 5, last := (defN (oneS s l).1).2 }, 0)
theorem rw_of_lst {n0 e sz n : Nat} {h : H} {v : V} {cells : List V} (a : Lst n0 h v cells e sz) (hsz : 0 < sz) (hn : cells.length = n * sz) : RW e sz n h v cells := by
 rcases a with a | ⟨rfl, b, h2, h3, rfl, h5⟩
 ·exact RW.of_acc' a hsz hn
 ·have : n = 0 := by
   rcases Nat.eq_zero_or_pos n with q | q
   ·exact q
   ·have := Nat.mul_pos q hsz; simp at hn; omega
  subst this
  exact ⟨hn, .inr ⟨b, 0, 0, rfl, h3, Nat.le_refl _, by rw [h5, Nat.zero_mul]; exact rdC_all rfl, fun kc e' fl q hf => by rw [h5] at q; cases q; cases hf⟩⟩
theorem oneS_cols (s : RS) (l : List Nat) : (oneS s l).1.cols = s.cols := by unfold oneS; split <;> rfl
variable {S : Set0} (hS : StdR S)
include hS
theorem col_sf {X : RX} {n0 r : Nat} {s : RS} {cv tv v : V} {l : List Nat} {h : H} (a : RF X n0 r s cv tv h) (b : BS 5 h v l) (hl : l.length < 2 ^ 28) (hL : 1 ≤ s.left ∧ s.left ≤ 65536) (hT : s.told.length ≤ 65536) : callW S.cfg (fun k => n0 ≤ k) 84 [.ptr r 0, v] h fun w h' => SF X n0 r cv tv h (colNS s l) w h' := by
 refine inn Tryz.func84 (hS.ownR _ dC) rfl rfl ?_
 have okr : ∀ k, k = r → fresh h.nx (fun k => n0 ≤ k) k := fun k hk => by rw [fresh_def]; exact .inr (by rw [hk]; exact a.rr.lt.1)
 have okn : ∀ k, n0 ≤ k → fresh h.nx (fun k => n0 ≤ k) k := fun k hk => by rw [fresh_def]; exact .inr hk
 have lt := a.rr.lt
 have hxA : Ext h (h.push (.cells zPT 71 false)) := (Ext.refl h).push _
 refine ww1 @Tryz.f84.eq_1 ?_
 have gz : (h.push (.cells zPT 71 false)).get h.nx = some (.cells zPT 71 false) := push_eq rfl
 have nA : (h.push (.cells zPT 71 false)).nx = h.nx + 1 := rfl
 generalize h.push (.cells zPT 71 false) = hA at *
 have aA : RF X n0 r s cv tv hA := a.step (RP.same a.rr hxA) rfl rfl
 have otv : Off tv h.nx := a.rr.told.off_new (Nat.le_refl _)
 have ocv : Off cv h.nx := RW.off a.cs (Nat.le_refl _)
 refine callF_of (one_spec hS aA.rr (b.ext hxA) hl hL hT) okn ?_
 rintro _ h1 ⟨rfl, tv', r1, cs1, n1, fr1, of1, er1⟩
 have gz1 : h1.get h.nx = some (.cells zPT 71 false) := by rw [fr1 _ oM oM otv]; exact gz
 have st1 : Stp0 n0 h h1 := ⟨by omega, fun k hk => by rw [fr1 k oM oM (a.rr.told.off k hk), hxA.2 k oM]⟩
 have otv' : Off tv' h.nx := of1 _ oM otv
 unfold colNS
 by_cases he : (oneS s l).2 = 0
 case neg =>
  rw [if_pos he]
  have hcs : (oneS s l).1 = s := by
   unfold oneS at he ⊢
   split
   ·rfl
   ·rename_i q; rw [if_neg q] at he; exact absurd rfl he
  obtain ⟨rfl, hx1⟩ := er1 he
  rw [hcs]
  refine ww1 (cj he gz1) ?_
  exact a.sf (PR.nil rfl rfl) (RP.put_new a.rr (RP.same a.rr (hxA.trans hx1)) (Nat.le_refl _) _) rfl rfl
 rw [if_neg (fun q => q he)]
 have he' := eq_true he
 have hcs := oneS_cols s l
 generalize (oneS s l).1 = s1 at *
 have g1 := r1.get
 unfold rsC at g1
 obtain ⟨d1, d2⟩ := lst_form r1.told
 refine wr1 (cj he' <| cj gz1 <| cj g1 <| cj d1 d2) ?_
 refine cond_no (p := ¬ (oneS s l).2 = 0) (by exact wv1 he') (fun q => q he) ?_
 have r2 : RR X n0 r { s1 with cols := s1.told } tv' tv' (h1.put r (.cells (rsC X r { s1 with cols := s1.told } tv' tv') 116 false)) := ⟨put_eq rfl, r1.told.put_off r1.toff, r1.tn, r1.toff, r1.toff, lst_form r1.told, r1.lt, r1.x7⟩
 have f2 : RF X n0 r { s1 with cols := s1.told } tv' tv' (h1.put r (.cells (rsC X r { s1 with cols := s1.told } tv' tv') 116 false)) := ⟨r2, rw_of_lst r2.told dC (colV_len _), .inl ⟨rfl, rfl⟩⟩
 have b2 : But r h1 (h1.put r (.cells (rsC X r { s1 with cols := s1.told } tv' tv') 116 false)) := (But.refl r h1).put _
 refine wr1 (cj he' <| cj gz1 <| cj g1 <| cj d1 d2) ?_
 refine ⟨.inr (.inr lt.1), ?_⟩
 obtain ⟨h2, hh2⟩ : ∃ h2, h2 = h1.put r (.cells (rsC X r { s1 with cols := s1.told } tv' tv') 116 false) := ⟨_, rfl⟩
 rw [← hh2] at f2 b2
 unfold rsC at hh2
 dsimp only at hh2
 rw [← hh2]
 clear hh2 r2
 generalize hs2 : ({ s1 with cols := s1.told } : RS) = s2 at *
 have hl2 : s1.left = s2.left := by rw [← hs2]
 have n2 := b2.1
 have g2 := f2.rr.get
 unfold rsC at g2
 rw [hl2]
 refine run_cut (fun env' h' => env' 0 = .ptr r 0 ∧ env' 4 = .ptr h.nx 0 ∧ RF X n0 r (colN s2) tv' tv' h' ∧ But r h1 h') ?_ ?_
 ·unfold colN
  by_cases hz : s2.left = 0
  ·rw [if_pos hz]
   have hz' := eq_true hz
   refine ww1 hz' ?_
   refine callF_exact (old_spec hS f2.rr) ?_
   by_cases ho : iAnd .u32 s2.c 16777216 = 0
   ·rw [if_pos ho]
    have ho' := eq_true ho
    refine ww1 ho' ?_
    refine callF_of (await_spec hS f2.rr 128 False) okr ?_
    rintro _ h3 ⟨rfl, p3⟩
    refine ww0 ?_
    exact ⟨f2.step p3 rfl rfl, b2.trans p3.2⟩
   ·rw [if_neg ho]
    refine ww1 ho ?_
    refine callF_of (await_spec hS f2.rr 48 True) okr ?_
    rintro _ h3 ⟨rfl, p3⟩
    refine ww0 ?_
    exact ⟨f2.step p3 rfl rfl, b2.trans p3.2⟩
  ·rw [if_neg hz]
   refine ww1 hz ?_
   exact ⟨f2, b2⟩
 rintro env3 h3 ⟨e0, e4, f3, b3⟩
 have n3 := b3.1
 have gz3 : h3.get h.nx = some (.cells zPT 71 false) := by rw [b3.2 _ oM oM]; exact gz1
 refine ww1 (cj e0 <| cj e4 gz3) ?_
 exact ⟨tv', tv', PR.nil rfl rfl, f3.put_off oM otv' otv' _, ⟨by show _ ≤ h3.nx; omega, fun k hk => by rw [put_ne oM, b3.2 k oM oM]; exact st1.2 k hk⟩, ⟨fun k hk hr ho => by rw [put_ne oM, b3.2 k oM hr, fr1 k oM hr ho, hxA.2 k hk], fun k hk x _ => ⟨of1 k oM x, of1 k oM x⟩⟩⟩
end
noncomputable section
theorem k12 : ((1 : Int) = 2) = False := dC
theorem k31 : ((3 : Int) = 1) = False := dC
theorem k32 : ((3 : Int) = 2) = False := dC
def rowE (s : RS) (l : List Nat) : Int := rtE s.cols.length l
def rowS (s : RS) (l : List Nat) : RS × PT × Int :=
 if lastF l s.c = 2 then errS s l else
 if lastF l s.c = 1 then doneS s l 8 (¬ s.k = 28) else
 if lastF l s.c = 3 then (if (eofF l).2.2 ≠ 0 then (s, PT.z, 5) else (({ s with st := (eofF l).2.1 } : RS).ends (eofF l).2.1 (¬ s.k = 28), { PT.z with k := 8, last := ¬ ((¬ s.k = 28) ∧ ¬ iAnd .u16 (eofF l).2.1 8 = 0), fw := (eofF l).1, fs := (eofF l).2.1 }, 0)) else
 if rowE s l ≠ 0 then (s, PT.z, 5) else (s, { PT.z with k := 7 }, 0)
variable {S : Set0}
variable (hS : StdR S)
include hS
theorem row_sf {X : RX} {n0 r : Nat} {s : RS} {cv tv v : V} {l : List Nat} {h : H} (a : RF X n0 r s cv tv h) (b : BS 5 h v l) (hl : l.length < 2 ^ 28) (hn : s.cols.length ≤ 4096) (hb : lastF l s.c = 2 ∨ ¬ s.bin) : callW S.cfg (· = r) 48 [.ptr r 0, v] h fun w h' => SF X n0 r cv tv h (rowS s l) w h' := by
 refine inn Tryz.func48 (hS.ownR _ dC) rfl rfl ?_
 have okr : ∀ k, k = r → fresh h.nx (· = r) k := fun k hk => by rw [fresh_def]; exact .inr hk
 have lt := a.rr.lt.2
 have hxA : Ext h (h.push (.cells zPT 71 false)) := (Ext.refl h).push _
 have aA : RF X n0 r s cv tv (h.push (.cells zPT 71 false)) := a.step (RP.same a.rr hxA) rfl rfl
 have g := aA.rr.get
 unfold rsC at g
 refine ww1 (cj @Tryz.f48.eq_1 g) ?_
 have gz : (h.push (.cells zPT 71 false)).get h.nx = some (.cells zPT 71 false) := push_eq rfl
 have nA : (h.push (.cells zPT 71 false)).nx = h.nx + 1 := rfl
 generalize h.push (.cells zPT 71 false) = hA at *
 refine callF_exact (last_spec hS (b.ext hxA) s.c) ?_
 unfold rowS
 by_cases h2 : lastF l s.c = 2
 ·rw [if_pos h2]
  refine ww1 h2 ?_
  refine callF_of (err_spec hS aA.rr (b.ext hxA) hl) okr ?_
  rintro _ h3 ⟨pr, p3⟩
  obtain ⟨y, rfl, by3, ⟨yc1, yc2⟩, yo⟩ := pr.on (h := h) (h0 := h) oM
  have gz3 : h3.get h.nx = some (.cells zPT 71 false) := by rw [p3.2.2 _ oM oM]; exact gz
  have n3 := p3.2.1
  have ct := errS_ct s l
  unfold PT.cells
  refine ww1 (cj gz3 <| cj yc1 yc2) ?_
  exact a.sf ⟨y, rfl, by3.put (yo _ oM), fun k hk => yo k oM⟩ (RP.put_new a.rr (RP.pre hxA p3) (Nat.le_refl _) _) ct.1 ct.2
 rw [if_neg h2]
 by_cases h1 : lastF l s.c = 1
 ·rw [if_pos h1]
  refine ww1 (cj h1 k12) ?_
  refine callF_of (done_spec hS aA.rr (b.ext hxA) hl 8 (¬ s.k = 28)) okr ?_
  rintro _ h3 ⟨pr, p3⟩
  obtain ⟨y, rfl, by3, ⟨yc1, yc2⟩, yo⟩ := pr.on (h := h) (h0 := h) oM
  have gz3 : h3.get h.nx = some (.cells zPT 71 false) := by rw [p3.2.2 _ oM oM]; exact gz
  have n3 := p3.2.1
  have ct := doneS_ct s l 8 (¬ s.k = 28)
  unfold PT.cells
  refine ww1 (cj gz3 <| cj yc1 yc2) ?_
  exact a.sf ⟨y, rfl, by3.put (yo _ oM), fun k hk => yo k oM⟩ (RP.put_new a.rr (RP.pre hxA p3) (Nat.le_refl _) _) ct.1 ct.2
 rw [if_neg h1]
 by_cases h3 : lastF l s.c = 3
 ·rw [if_pos h3]
  refine ww1 (cj h3 <| cj k31 k32) ?_
  refine callF_of (eof_spec hS aA.rr (b.ext hxA) hl) okr ?_
  rintro _ h1 ⟨rfl, p1⟩
  have n1 := p1.2.1
  have gz1 : h1.get h.nx = some (.cells zPT 71 false) := by rw [p1.2.2 _ oM oM]; exact gz
  unfold eofS at p1 ⊢
  by_cases he : (eofF l).2.2 = 0
  case neg =>
   rw [if_pos he] at p1
   rw [if_pos he, if_pos he]
   refine ww1 (cj gz1 n50) ?_
   exact ⟨.inr (.inl oM), a.sf (PR.nil rfl rfl) (RP.put_new a.rr (RP.pre hxA (p1.ext (((Ext.refl h1).push _).put (Nat.le_refl _) _))) (Nat.le_refl _) _) rfl rfl⟩
  rw [if_neg (fun q => q he)] at p1
  rw [if_neg (fun q => q he), if_neg (fun q => q he)]
  refine ww1 gz1 ?_
  generalize hhB : H.put (H.push h1 _) h1.nx _ = hB
  have hxB : Ext h1 hB := by rw [← hhB]; exact ((Ext.refl h1).push _).put (Nat.le_refl _) _
  have gB : hB.get h1.nx = some (.cells [.int .u16 (eofF l).1, .int .u16 (eofF l).2.1] 67 false) := by rw [← hhB]; exact put_eq rfl
  have nB : hB.nx = h1.nx + 1 := by rw [← hhB]; rfl
  clear hhB
  refine ⟨.inr (.inl oM), draw_by [(4, 5)] kR ?_⟩
  refine ww1 gB ?_
  have aB : RF X n0 r { s with st := (eofF l).2.1 } cv tv hB := aA.step (p1.ext hxB) rfl rfl
  refine callF_of (ends_spec hS aB.rr _ _) okr ?_
  rintro _ h3 ⟨rfl, p3⟩
  have n3 := p3.2.1
  have g3 : h3.get h1.nx = some (.cells [.int .u16 (eofF l).1, .int .u16 (eofF l).2.1] 67 false) := by rw [p3.2.2 _ oM oM]; exact gB
  have gz3 : h3.get h.nx = some (.cells zPT 71 false) := by rw [p3.2.2 _ oM oM, hxB.2 _ oM]; exact gz1
  have ct := ends_ct { s with st := (eofF l).2.1 } (eofF l).2.1 (¬ s.k = 28)
  refine ww1 (cj g3 gz3) ?_
  have bh := (But.of_ext hxA).trans ((p1.2.trans (But.of_ext hxB)).trans p3.2)
  refine ⟨fun p hp => ?_, SF.fin a (aB.step p3 ct.1 ct.2) bh (.inl rfl) (PR.nil rfl rfl)⟩
  rw [List.mem_singleton.1 hp]
  exact pair_one rfl rfl (cl_rd oM oM)
 rw [if_neg h3]
 refine ww1 (cj g <| cj h1 <| cj h2 h3) ?_
 refine ⟨fun hbin => absurd hbin (hb.resolve_left h2), fun hbin => ?_⟩
 ·have q : rowE s l = rtE s.cols.length l := rfl
  rw [q]
  have t1 := RW.len aA.cs 112
  refine ww1 (cj g t1) ?_
  refine callF_pure (rtext_spec hS (b.ext hxA) hl _ hn) ?_
  rintro _ h5 hx5 ⟨rv, rc1, rc2, rfl⟩
  have n5 := hx5.1
  have gz5 : h5.get h.nx = some (.cells zPT 71 false) := by rw [hx5.2 _ oM]; exact gz
  by_cases he : rtE s.cols.length l = 0
  ·rw [if_neg (fun q => q he)]
   have he' := eq_true he
   refine ww1 (cj he' gz5) ?_
   exact a.sf (PR.nil rfl rfl) (RP.put_new a.rr (RP.same a.rr (hxA.trans hx5)) (Nat.le_refl _) _) rfl rfl
  ·rw [if_pos he]
   refine ww1 (cj he gz5) ?_
   exact a.sf (PR.nil rfl rfl) (RP.put_new a.rr (RP.same a.rr (hxA.trans hx5)) (Nat.le_refl _) _) rfl rfl
end
noncomputable section
theorem nf_none (t : Nat) : binV Tryz.prog .eql 114 (constO (.tmp t) || constO (.const Value.nilFunc)) .nilfunc .nilfunc = some (bo True) := by
 rw [show bo True = .bool true by simp [bo]]
 rfl
theorem nf_some (t f r : Nat) : binV Tryz.prog .eql 114 (constO (.tmp t) || constO (.const Value.nilFunc)) (.func f [.ptr r 0] []) .nilfunc = some (bo False) := by
 rw [show bo False = .bool false by simp [bo]]
 rfl
def nextS (s : RS) (l : List Nat) : RS × PT × Int :=
 if s.nx = some 43 then okS1 s l False else if s.nx = some 44 then eofOrOkS s l else if s.nx = some 45 then textS s l else
 if s.nx = some 46 then firstS s l else if s.nx = some 47 then prepS s l else if s.nx = some 48 then rowS s l else
 if s.nx = some 49 then errS s l else if s.nx = some 82 then okS1 s l True else if s.nx = some 84 then colNS s l else
 if s.nx = some 128 then colEndS s l else if s.nx = some 131 then defNS s l else defEndS s l
def feedS (s : RS) (l : List Nat) : RS × PT × Int := if s.nx = none then (s, PT.z, 9) else @ite _ s.wants (Classical.propDecidable _) (s, PT.z, 6) (if (nextS s l).2.2 ≠ 0 then ((nextS s l).1.fin, PT.z, (nextS s l).2.2) else ((nextS s l).1, (nextS s l).2.1, 0))
structure RI (s : RS) : Prop where
 nx : ∀ f, s.nx = some f → f ∈ [43, 44, 45, 46, 47, 48, 49, 82, 84, 128, 131, 162]
 l55 : s.nx = some 84 → 1 ≤ s.left ∧ s.told.length + s.left ≤ 4096
 l77 : s.nx = some 131 → 1 ≤ s.left ∧ s.told.length + s.left ≤ 65536
 c37 : s.nx = some 48 ∨ s.nx = some 128 → s.cols.length ≤ 4096
 c0 : s.nx = some 47 ∨ s.nx = some 131 ∨ s.nx = some 162 → s.cols = []
 ok : (∀ x ∈ s.cols, x.Ok) ∧ ∀ x ∈ s.told, x.Ok
 thn : 0 ≤ s.thn ∧ s.thn ≤ 65535
 lf : 0 ≤ s.left ∧ s.left ≤ 65535
 may : s.may ↔ ∃ f, s.nx = some f ∧ f ∈ [43, 44, 45, 46, 47, 48, 49, 82]
def Tame (s : RS) (l : List Nat) : Prop := ((∃ t, l = 255 :: t) ∧ ∀ f, s.nx = some f → f ∈ [43, 44, 45, 46, 47, 48, 49, 82]) ∨ ((s.nx = some 48 → ¬ s.bin) ∧ ∀ f, s.nx = some f → f ∈ [43, 46, 48, 84, 128])
theorem SF.top {X : RX} {n0 r : Nat} {s s' : RS} {cv tv cv' tv' w : V} {h hA h2 : H} {ob : Ob} {p : PT} {e : Int} (a : RF X n0 r s cv tv h) (hx : Ext h hA) (nA : hA.nx = h.nx + 1) (f : RF X n0 r s' cv' tv' h2) (st : Stp0 n0 hA h2) (fr : Fr r cv tv hA cv' tv' h2) (pr : PR h (h2.put h.nx ob) w p e) : SF X n0 r cv tv h (s', p, e) w (h2.put h.nx ob) := by
 have lt := a.rr.lt
 have st1 := st.1
 obtain ⟨ot1, oc1⟩ := fr.off h.nx oM (a.rr.told.off_new (Nat.le_refl _)) (RW.off a.cs (Nat.le_refl _))
 exact ⟨cv', tv', pr, f.put_off oM ot1 oc1 ob, ⟨by show _ ≤ h2.nx; omega, fun k hk => by rw [put_ne oM, st.2 k hk, hx.2 k oM]⟩, ⟨fun k hk hr ho => by rw [put_ne oM, fr.get k oM hr ho, hx.2 k hk], fun k hk x z => fr.off k oM x z⟩⟩
theorem Fr.trans_but {r : Nat} {cv tv cv' tv' : V} {h h1 h2 : H} (a : Fr r cv tv h cv' tv' h1) (b : But r h1 h2) (hn : h.nx ≤ h1.nx) : Fr r cv tv h cv' tv' h2 := ⟨fun k hk hr ho => by rw [b.2 k oM hr, a.get k hk hr ho], a.off⟩
variable {S : Set0} (hS : StdR S)
include hS
theorem next_spec {X : RX} {n0 r f : Nat} {s : RS} {cv tv v : V} {l : List Nat} {h : H} (a : RF X n0 r s cv tv h) (i : RI s) (b : BS 5 h v l) (hl : l.length < 2 ^ 28) (ob : Off v r) (hf : s.nx = some f) (tm : Tame s l) : callW S.cfg (fun k => n0 ≤ k) f [.ptr r 0, v] h fun w h' => SF X n0 r cv tv h (nextS s l) w h' := by
 have okr : ∀ k, k = r → n0 ≤ k := fun k hk => by rw [hk]; exact a.rr.lt.1
 have hm := i.nx f hf
 simp only [List.mem_cons, List.not_mem_nil, or_false] at hm
 rcases hm with rfl | rfl | rfl | rfl | rfl | rfl | rfl | rfl | rfl | rfl | rfl | rfl
 ·rw [show nextS s l = okS1 s l False by unfold nextS; rw [hf]; rfl]
  exact callW_mono (ok_spec hS a.rr b hl) okr fun w h' q => a.sf q.1 q.2 (okS1_ct _ _ _).1 (okS1_ct _ _ _).2
 ·rw [show nextS s l = eofOrOkS s l by unfold nextS; rw [hf]; rfl]
  exact callW_mono (eofOrOk_spec hS a.rr b hl ob) okr fun w h' q => a.sf q.1 q.2 (eofOrOkS_ct _ _).1 (eofOrOkS_ct _ _).2
 ·rw [show nextS s l = textS s l by unfold nextS; rw [hf]; rfl]
  exact callW_mono (text_spec hS a.rr b hl) okr fun w h' q => a.sf q.1 q.2 (textS_ct _ _).1 (textS_ct _ _).2
 ·rw [show nextS s l = firstS s l by unfold nextS; rw [hf]; rfl]
  exact callW_mono (first_sf hS a b hl) okr fun w h' q => q
 ·rw [show nextS s l = prepS s l by unfold nextS; rw [hf]; rfl]
  exact callW_mono (prep_sf hS a b hl (by
   rcases tm with ⟨⟨t, rfl⟩, _⟩ | ⟨_, q⟩
   ·show ¬ ((255 : Nat) : Int) = 0; decide
   ·exact absurd (q _ hf) dC)) okr fun w h' q => q
 ·rw [show nextS s l = rowS s l by unfold nextS; rw [hf]; rfl]
  exact callW_mono (row_sf hS a b hl (i.c37 (.inl hf)) (by
   rcases tm with ⟨⟨t, rfl⟩, _⟩ | ⟨q, _⟩
   ·exact .inl (by unfold lastF; rw [if_neg (by simp), if_pos (show byI (255 :: t) 0 = 255 from rfl)])
   ·exact .inr (q hf))) okr fun w h' q => q
 ·rw [show nextS s l = errS s l by unfold nextS; rw [hf]; rfl]
  exact callW_mono (err_spec hS a.rr b hl) okr fun w h' q => a.sf q.1 q.2 (errS_ct _ _).1 (errS_ct _ _).2
 ·rw [show nextS s l = okS1 s l True by unfold nextS; rw [hf]; rfl]
  exact callW_mono (filed_spec hS a.rr b hl) okr fun w h' q => a.sf q.1 q.2 (okS1_ct _ _ _).1 (okS1_ct _ _ _).2
 ·rw [show nextS s l = colNS s l by unfold nextS; rw [hf]; rfl]
  have q := i.l55 hf
  exact col_sf hS a b hl oM oM
 ·rw [show nextS s l = colEndS s l by unfold nextS; rw [hf]; rfl]
  exact callW_mono (colEnd_sf hS a b hl) okr fun w h' q => q
 ·rcases tm with ⟨_, q⟩ | ⟨_, q⟩
  ·exact absurd (q _ hf) dC
  ·exact absurd (q _ hf) dC
 ·rcases tm with ⟨_, q⟩ | ⟨_, q⟩
  ·exact absurd (q _ hf) dC
  ·exact absurd (q _ hf) dC
theorem feed_spec {X : RX} {n0 r : Nat} {s : RS} {cv tv v : V} {l : List Nat} {h : H} (a : RF X n0 r s cv tv h) (i : RI s) (b : BS 5 h v l) (hl : l.length < 2 ^ 28) (ob : Off v r) (tm : Tame s l) : callW S.cfg (fun k => n0 ≤ k) 17 [.ptr r 0, v] h fun w h' => SF X n0 r cv tv h (feedS s l) w h' := by
 refine inn Tryz.func17 (hS.ownR _ dC) rfl rfl ?_
 have okr : ∀ k, k = r → fresh h.nx (fun k => n0 ≤ k) k := fun k hk => by rw [fresh_def]; exact .inr (by rw [hk]; exact a.rr.lt.1)
 have okn : ∀ k, n0 ≤ k → fresh h.nx (fun k => n0 ≤ k) k := fun k hk => by rw [fresh_def]; exact .inr hk
 have lt := a.rr.lt
 have hxA : Ext h (h.push (.cells zPT 71 false)) := (Ext.refl h).push _
 refine ww1 @Tryz.f17.eq_1 ?_
 have gz : (h.push (.cells zPT 71 false)).get h.nx = some (.cells zPT 71 false) := push_eq rfl
 have nA : (h.push (.cells zPT 71 false)).nx = h.nx + 1 := rfl
 generalize h.push (.cells zPT 71 false) = hA at *
 have aA : RF X n0 r s cv tv hA := a.step (RP.same a.rr hxA) rfl rfl
 have g := aA.rr.get
 unfold rsC at g
 refine callF_exact (none_spec hS aA.rr) ?_
 cases hf : s.nx with
 | none =>
   rw [show feedS s l = (s, PT.z, 9) from if_pos hf]
   rw [hf] at g
   unfold fnV at g
   refine ww1 (cj g <| cj gz nf_none) ?_
   exact a.sf (PR.nil rfl rfl) (RP.put_new a.rr (RP.same a.rr hxA) (Nat.le_refl _) _) rfl rfl
 | some f =>
   rw [hf] at g
   unfold fnV at g
   have hne : ¬ s.nx = none := by rw [hf]; exact fun q => by cases q
   by_cases hw : s.wants
   ·rw [show feedS s l = (s, PT.z, 6) by unfold feedS; rw [if_neg hne, if_pos hw]]
    have hw' := eq_true hw
    refine ww1 (cj g <| cj gz <| cj hw' nf_some) ?_
    exact a.sf (PR.nil rfl rfl) (RP.put_new a.rr (RP.same a.rr hxA) (Nat.le_refl _) _) rfl rfl
   ·have q1 : feedS s l = (if (nextS s l).2.2 ≠ 0 then ((nextS s l).1.fin, PT.z, (nextS s l).2.2) else ((nextS s l).1, (nextS s l).2.1, 0)) := by unfold feedS; rw [if_neg hne, if_neg hw]
    rw [q1]
    refine ww1 (cj g <| cj gz <| cj hw nf_some) ?_
    refine callF_of (next_spec hS aA i (b.ext hxA) hl ob hf tm) okn ?_
    rintro _ h1 ⟨cv1, tv1, pr, f1, st1, fr1⟩
    have n1 := st1.1
    obtain ⟨y, rfl, by1, ⟨yc1, yc2⟩, yo⟩ := pr.on (h := h) (h0 := h) oM
    have otv : Off tv h.nx := a.rr.told.off_new (Nat.le_refl _)
    have ocv : Off cv h.nx := RW.off a.cs (Nat.le_refl _)
    have gz1 : h1.get h.nx = some (.cells zPT 71 false) := by rw [fr1.get _ oM oM otv]; exact gz
    obtain ⟨ot1, oc1⟩ := fr1.off h.nx oM otv ocv
    generalize nextS s l = q at *
    obtain ⟨s1, p, e⟩ := q
    simp only at f1 by1
    have yr : Off y r := yo r oM
    have hb3 : ∀ {h3 : H}, But r h1 h3 → BS 5 h3 y p.ok.k := fun {h3} b3 => by1.keep b3.1 fun j hj ⟨o', n, m, q⟩ => b3.2 j hj fun e => yr o' n m (by rw [← e]; exact q)
    by_cases he : e = 0
    ·rw [if_neg (fun q => q he)]
     subst he
     unfold PT.cells
     refine ww1 (cj gz1 <| cj yc1 yc2) ?_
     have hxB : ∀ o1 o2, Ext h1 ((h1.push o1).put h1.nx o2) := fun o1 o2 => ((Ext.refl h1).push o1).put (Nat.le_refl _) o2
     have bB := fun o1 o2 => But.of_ext (r := r) (hxB o1 o2)
     exact ⟨.inr (.inl oM), SF.top a hxA nA (f1.step (RP.same f1.rr (hxB _ _)) rfl rfl) (st1.trans (Stp0.but (bB _ _) oM lt.1)) (fr1.trans_but (bB _ _) n1) ⟨y, rfl, (hb3 (bB _ _)).put (yo _ oM), fun k hk => yo k oM⟩⟩
    ·rw [if_pos he]
     unfold PT.cells
     refine ww1 (cj he <| cj gz1 <| cj yc1 yc2) ?_
     generalize hhB : H.put (H.push h1 _) h1.nx _ = hB
     have hxB : Ext h1 hB := by rw [← hhB]; exact ((Ext.refl h1).push _).put (Nat.le_refl _) _
     have nB : hB.nx = h1.nx + 1 := by rw [← hhB]; rfl
     clear hhB
     have fB := f1.step (RP.same f1.rr hxB) rfl rfl
     refine ⟨.inr (.inl oM), callF_of (fin_spec hS fB.rr) okr ?_⟩
     rintro _ h3 ⟨rfl, p3⟩
     have b3 := (But.of_ext hxB).trans p3.2
     have n3 := b3.1
     have gz3 : h3.get h.nx = some (.cells zPT 71 false) := by rw [b3.2 _ oM oM]; exact gz1
     refine ww1 gz3 ?_
     exact SF.top a hxA nA (fB.step p3 rfl rfl) (st1.trans (Stp0.but b3 oM lt.1)) (fr1.trans_but b3 n1) (PR.nil rfl rfl)
end
noncomputable section
def shapeF (t : Int) : Int := if t = 1 ∨ t = 9 ∨ t = 14 ∨ t = 31 then 0 else if t = 2 ∨ t = 3 ∨ t = 22 then 1 else if t = 12 then 2 else if t = 23 then 3 else if t = 24 then 4 else if t = 25 ∨ t = 26 then 5 else if t = 27 then 6 else if t = 28 then 7 else 8
def answerF (t : Int) : Int := if t = 1 ∨ t = 24 ∨ t = 25 then 1 else if t = 2 ∨ t = 14 ∨ t = 26 ∨ t = 31 ∨ t = 12 then 2 else if t = 27 then 3 else if t = 9 then 4 else if t = 3 ∨ t = 23 then 5 else if t = 22 then 6 else if t = 28 then 7 else if t = 17 then 8 else 9
variable {S : Set0} (hS : StdR S)
include hS
theorem over_sp {X : RX} {n0 r : Nat} {s : RS} {cv tv : V} {h : H} (a : RR X n0 r s cv tv h) : Exact S.cfg 18 [.ptr r 0] h (bo (s.nx = none)) := by
 refine inn Tryz.func18 (hS.ownR _ dC) rfl rfl ?_
 have g := a.get
 unfold rsC at g
 refine ww1 @Tryz.f18.eq_1 ?_
 refine callF_exact (none_spec hS a) ?_
 cases hf : s.nx with
 | none =>
   rw [hf] at g
   unfold fnV at g
   exact wv1 (cj g nf_none)
 | some f =>
   rw [hf] at g
   unfold fnV at g
   rw [show ((some f : Option FuncId) = none) = False by simp]
   exact wv1 (cj g nf_some)
theorem shape_spec (t : Int) (h : H) : Pure S.cfg 38 [.int .u8 t] h fun v _ => v = .int .i64 (shapeF t) := by
 refine inn Tryz.func38 (hS.ownR _ dC) rfl rfl ?_
 refine wr1 @Tryz.f38.eq_1 ?_
 by_cases c1 : t = 1
 ·refine cond_yes (p := t = 1) (by exact wv0) c1 ?_
  refine wr0 ?_
  refine cond_yes (p := t = 1) (by exact wv0) c1 ?_
  refine ww0 ?_
  exact ⟨Ext.refl _, by subst c1; rfl⟩
 refine cond_no (p := t = 1) (by exact wv0) c1 ?_
 refine wr0 ?_
 by_cases c9 : t = 9
 ·refine cond_yes (p := t = 9) (by exact wv0) c9 ?_
  refine wr0 ?_
  refine cond_yes (p := t = 9) (by exact wv0) c9 ?_
  refine ww0 ?_
  exact ⟨Ext.refl _, by subst c9; rfl⟩
 refine cond_no (p := t = 9) (by exact wv0) c9 ?_
 refine wr0 ?_
 by_cases c14 : t = 14
 ·refine cond_yes (p := t = 14) (by exact wv0) c14 ?_
  refine wr0 ?_
  refine cond_yes (p := t = 14) (by exact wv0) c14 ?_
  refine ww0 ?_
  exact ⟨Ext.refl _, by subst c14; rfl⟩
 refine cond_no (p := t = 14) (by exact wv0) c14 ?_
 refine wr0 ?_
 by_cases c31 : t = 31
 ·refine cond_yes (p := t = 31) (by exact wv0) c31 ?_
  refine ww0 ?_
  exact ⟨Ext.refl _, by subst c31; rfl⟩
 refine cond_no (p := t = 31) (by exact wv0) c31 ?_
 refine wr0 ?_
 by_cases c2 : t = 2
 ·refine cond_yes (p := t = 2) (by exact wv0) c2 ?_
  refine wr0 ?_
  refine cond_yes (p := t = 2) (by exact wv0) c2 ?_
  refine ww0 ?_
  exact ⟨Ext.refl _, by subst c2; rfl⟩
 refine cond_no (p := t = 2) (by exact wv0) c2 ?_
 refine wr0 ?_
 by_cases c3 : t = 3
 ·refine cond_yes (p := t = 3) (by exact wv0) c3 ?_
  refine wr0 ?_
  refine cond_yes (p := t = 3) (by exact wv0) c3 ?_
  refine ww0 ?_
  exact ⟨Ext.refl _, by subst c3; rfl⟩
 refine cond_no (p := t = 3) (by exact wv0) c3 ?_
 refine wr0 ?_
 by_cases c22 : t = 22
 ·refine cond_yes (p := t = 22) (by exact wv0) c22 ?_
  refine ww0 ?_
  exact ⟨Ext.refl _, by subst c22; rfl⟩
 refine cond_no (p := t = 22) (by exact wv0) c22 ?_
 refine wr0 ?_
 by_cases c12 : t = 12
 ·refine cond_yes (p := t = 12) (by exact wv0) c12 ?_
  refine ww0 ?_
  exact ⟨Ext.refl _, by subst c12; rfl⟩
 refine cond_no (p := t = 12) (by exact wv0) c12 ?_
 refine wr0 ?_
 by_cases c23 : t = 23
 ·refine cond_yes (p := t = 23) (by exact wv0) c23 ?_
  refine ww0 ?_
  exact ⟨Ext.refl _, by subst c23; rfl⟩
 refine cond_no (p := t = 23) (by exact wv0) c23 ?_
 refine wr0 ?_
 by_cases c24 : t = 24
 ·refine cond_yes (p := t = 24) (by exact wv0) c24 ?_
  refine ww0 ?_
  exact ⟨Ext.refl _, by subst c24; rfl⟩
 refine cond_no (p := t = 24) (by exact wv0) c24 ?_
 refine wr0 ?_
 by_cases c25 : t = 25
 ·refine cond_yes (p := t = 25) (by exact wv0) c25 ?_
  refine wr0 ?_
  refine cond_yes (p := t = 25) (by exact wv0) c25 ?_
  refine ww0 ?_
  exact ⟨Ext.refl _, by subst c25; rfl⟩
 refine cond_no (p := t = 25) (by exact wv0) c25 ?_
 refine wr0 ?_
 by_cases c26 : t = 26
 ·refine cond_yes (p := t = 26) (by exact wv0) c26 ?_
  refine ww0 ?_
  exact ⟨Ext.refl _, by subst c26; rfl⟩
 refine cond_no (p := t = 26) (by exact wv0) c26 ?_
 refine wr0 ?_
 by_cases c27 : t = 27
 ·refine cond_yes (p := t = 27) (by exact wv0) c27 ?_
  refine ww0 ?_
  exact ⟨Ext.refl _, by subst c27; rfl⟩
 refine cond_no (p := t = 27) (by exact wv0) c27 ?_
 refine wr0 ?_
 by_cases c28 : t = 28
 ·refine cond_yes (p := t = 28) (by exact wv0) c28 ?_
  refine ww0 ?_
  exact ⟨Ext.refl _, by subst c28; rfl⟩
 refine cond_no (p := t = 28) (by exact wv0) c28 ?_
 refine wr0 ?_
 exact ⟨Ext.refl _, by unfold shapeF; rw [if_neg oM, if_neg oM, if_neg oM, if_neg oM, if_neg oM, if_neg oM, if_neg oM, if_neg oM]⟩
theorem answer_spec (t : Int) (h : H) : Pure S.cfg 32 [.int .u8 t] h fun v _ => v = .int .i64 (answerF t) := by
 refine inn Tryz.func32 (hS.ownR _ dC) rfl rfl ?_
 refine wr1 @Tryz.f32.eq_1 ?_
 by_cases c1 : t = 1
 ·refine cond_yes (p := t = 1) (by exact wv0) c1 ?_
  refine wr0 ?_
  refine cond_yes (p := t = 1) (by exact wv0) c1 ?_
  refine ww0 ?_
  exact ⟨Ext.refl _, by subst c1; rfl⟩
 refine cond_no (p := t = 1) (by exact wv0) c1 ?_
 refine wr0 ?_
 by_cases c24 : t = 24
 ·refine cond_yes (p := t = 24) (by exact wv0) c24 ?_
  refine wr0 ?_
  refine cond_yes (p := t = 24) (by exact wv0) c24 ?_
  refine ww0 ?_
  exact ⟨Ext.refl _, by subst c24; rfl⟩
 refine cond_no (p := t = 24) (by exact wv0) c24 ?_
 refine wr0 ?_
 by_cases c25 : t = 25
 ·refine cond_yes (p := t = 25) (by exact wv0) c25 ?_
  refine ww0 ?_
  exact ⟨Ext.refl _, by subst c25; rfl⟩
 refine cond_no (p := t = 25) (by exact wv0) c25 ?_
 refine wr0 ?_
 by_cases c2 : t = 2
 ·refine cond_yes (p := t = 2) (by exact wv0) c2 ?_
  refine wr0 ?_
  refine cond_yes (p := t = 2) (by exact wv0) c2 ?_
  refine ww0 ?_
  exact ⟨Ext.refl _, by subst c2; rfl⟩
 refine cond_no (p := t = 2) (by exact wv0) c2 ?_
 refine wr0 ?_
 by_cases c14 : t = 14
 ·refine cond_yes (p := t = 14) (by exact wv0) c14 ?_
  refine wr0 ?_
  refine cond_yes (p := t = 14) (by exact wv0) c14 ?_
  refine ww0 ?_
  exact ⟨Ext.refl _, by subst c14; rfl⟩
 refine cond_no (p := t = 14) (by exact wv0) c14 ?_
 refine wr0 ?_
 by_cases c26 : t = 26
 ·refine cond_yes (p := t = 26) (by exact wv0) c26 ?_
  refine wr0 ?_
  refine cond_yes (p := t = 26) (by exact wv0) c26 ?_
  refine ww0 ?_
  exact ⟨Ext.refl _, by subst c26; rfl⟩
 refine cond_no (p := t = 26) (by exact wv0) c26 ?_
 refine wr0 ?_
 by_cases c31 : t = 31
 ·refine cond_yes (p := t = 31) (by exact wv0) c31 ?_
  refine wr0 ?_
  refine cond_yes (p := t = 31) (by exact wv0) c31 ?_
  refine ww0 ?_
  exact ⟨Ext.refl _, by subst c31; rfl⟩
 refine cond_no (p := t = 31) (by exact wv0) c31 ?_
 refine wr0 ?_
 by_cases c12 : t = 12
 ·refine cond_yes (p := t = 12) (by exact wv0) c12 ?_
  refine ww0 ?_
  exact ⟨Ext.refl _, by subst c12; rfl⟩
 refine cond_no (p := t = 12) (by exact wv0) c12 ?_
 refine wr0 ?_
 by_cases c27 : t = 27
 ·refine cond_yes (p := t = 27) (by exact wv0) c27 ?_
  refine ww0 ?_
  exact ⟨Ext.refl _, by subst c27; rfl⟩
 refine cond_no (p := t = 27) (by exact wv0) c27 ?_
 refine wr0 ?_
 by_cases c9 : t = 9
 ·refine cond_yes (p := t = 9) (by exact wv0) c9 ?_
  refine ww0 ?_
  exact ⟨Ext.refl _, by subst c9; rfl⟩
 refine cond_no (p := t = 9) (by exact wv0) c9 ?_
 refine wr0 ?_
 by_cases c3 : t = 3
 ·refine cond_yes (p := t = 3) (by exact wv0) c3 ?_
  refine wr0 ?_
  refine cond_yes (p := t = 3) (by exact wv0) c3 ?_
  refine ww0 ?_
  exact ⟨Ext.refl _, by subst c3; rfl⟩
 refine cond_no (p := t = 3) (by exact wv0) c3 ?_
 refine wr0 ?_
 by_cases c23 : t = 23
 ·refine cond_yes (p := t = 23) (by exact wv0) c23 ?_
  refine ww0 ?_
  exact ⟨Ext.refl _, by subst c23; rfl⟩
 refine cond_no (p := t = 23) (by exact wv0) c23 ?_
 refine wr0 ?_
 by_cases c22 : t = 22
 ·refine cond_yes (p := t = 22) (by exact wv0) c22 ?_
  refine ww0 ?_
  exact ⟨Ext.refl _, by subst c22; rfl⟩
 refine cond_no (p := t = 22) (by exact wv0) c22 ?_
 refine wr0 ?_
 by_cases c28 : t = 28
 ·refine cond_yes (p := t = 28) (by exact wv0) c28 ?_
  refine ww0 ?_
  exact ⟨Ext.refl _, by subst c28; rfl⟩
 refine cond_no (p := t = 28) (by exact wv0) c28 ?_
 refine wr0 ?_
 by_cases c17 : t = 17
 ·refine cond_yes (p := t = 17) (by exact wv0) c17 ?_
  refine ww0 ?_
  exact ⟨Ext.refl _, by subst c17; rfl⟩
 refine cond_no (p := t = 17) (by exact wv0) c17 ?_
 refine wr0 ?_
 exact ⟨Ext.refl _, by unfold answerF; rw [if_neg oM, if_neg oM, if_neg oM, if_neg oM, if_neg oM, if_neg oM, if_neg oM, if_neg oM]⟩
end
noncomputable section
def cmdOk (X : RX) (k fl : Int) (n : Nat) : Prop := (shapeF k = 1 ∨ X.x1 = []) ∧ (shapeF k = 3 ∨ shapeF k = 4 ∨ shapeF k = 5 ∨ shapeF k = 7 ∨ X.x2 = 0) ∧ (shapeF k = 4 ∨ X.x3 = 0) ∧ (shapeF k = 3 ∨ fl = 0) ∧ (shapeF k = 2 ∨ shapeF k = 7 ∨ X.x5 = 0) ∧ (shapeF k = 6 ∨ X.x6 = 0) ∧ (shapeF k = 3 ∨ shapeF k = 4 ∨ shapeF k = 8 ∨ n = 0) ∧ fl ≤ 1
def bareX (X : RX) (k fl : Int) : List V := [.int .u8 k, .str (if shapeF k = 1 then X.x1 else []), .int .u32 (if shapeF k = 3 ∨ shapeF k = 4 ∨ shapeF k = 5 ∨ shapeF k = 7 then X.x2 else 0), .int .u16 (if shapeF k = 4 then X.x3 else 0), .int .u8 (if shapeF k = 3 then fl else 0), .int .u32 (if shapeF k = 2 ∨ shapeF k = 7 then X.x5 else 0), .int .u16 (if shapeF k = 6 then X.x6 else 0), if shapeF k = 3 ∨ shapeF k = 4 ∨ shapeF k = 8 then X.x7 else .nilslice]
def cmdC (X : RX) (k fl : Int) : List V := [.int .u8 k, .str X.x1, .int .u32 X.x2, .int .u16 X.x3, .int .u8 fl, .int .u32 X.x5, .int .u16 X.x6, X.x7]
theorem shape_in (k : Int) : shapeF k = 0 ∨ shapeF k = 1 ∨ shapeF k = 2 ∨ shapeF k = 3 ∨ shapeF k = 4 ∨ shapeF k = 5 ∨ shapeF k = 6 ∨ shapeF k = 7 ∨ shapeF k = 8 := by
 unfold shapeF
 repeat' split
 all_goals omega
variable {S : Set0} (hS : StdR S)
include hS
theorem needed_spec (h : H) : Exact S.cfg 9 [] h (.int .u32 565760) := by
 refine inn Tryz.func9 (hS.ownR _ dC) rfl rfl ?_
 exact wv1 @Tryz.f9.eq_1
theorem caps_spec (c : Int) (h : H) : Exact S.cfg 15 [.int .u32 c] h (.int .i64 (@ite _ (iAnd .u32 c 565760 = 565760) (Classical.propDecidable _) 0 5)) := by
 refine inn Tryz.func15 (hS.ownR _ dC) rfl rfl ?_
 refine ww1 @Tryz.f15.eq_1 ?_
 refine callF_exact (needed_spec hS _) ?_
 refine ww0 ?_
 refine callF_exact (needed_spec hS _) ?_
 by_cases q : iAnd .u32 c 565760 = 565760
 ·rw [if_pos q]
  have q' := eq_true q
  exact wv1 q'
 ·rw [if_neg q]
  exact wv1 q
theorem bare_spec (X : RX) (hX : X.x7.cells = [X.x7] ∧ X.x7.isCell = true) (k fl : Int) (h : H) : Pure S.cfg 75 [.agg (cmdC X k fl)] h fun v _ => v = .agg (bareX X k fl) := by
 refine inn Tryz.func75 (hS.ownR _ dC) rfl rfl ?_
 unfold cmdC
 have x1 := hX.1
 have x2 := hX.2
 refine ww1 (cj @Tryz.f75.eq_1 <| cj x1 x2) ?_
 refine ⟨.inr oM, ?_⟩
 generalize hhA : H.put (H.push (H.push (H.push h _) _) _) _ _ = hA
 have hxA : Ext h hA := by rw [← hhA]; exact ((((Ext.refl h).push _).push _).push _).put oM _
 have nA : hA.nx = h.nx + 3 := by rw [← hhA]; rfl
 have g0 : hA.get h.nx = some (.cells (cmdC X k fl) 52 false) := by rw [← hhA, put_ne oM, push_ne (by simp only [push_nx]; omega), push_ne (by simp only [push_nx]; omega)]; exact push_eq rfl
 have g1 : hA.get (h.nx + 1) = some (.cells [.int .u8 0, .str [], .int .u32 0, .int .u16 0, .int .u8 0, .int .u32 0, .int .u16 0, .nilslice] 52 false) := by rw [← hhA, put_ne oM, push_ne (by simp only [push_nx]; omega)]; exact push_eq rfl
 have g2 : hA.get (h.nx + 1 + 1) = some (.cells [.int .u8 k, .str [], .int .u32 0, .int .u16 0, .int .u8 0, .int .u32 0, .int .u16 0, .nilslice] 52 false) := by rw [← hhA]; exact put_eq rfl
 clear hhA
 refine callF_pure (shape_spec hS k _) ?_
 rintro _ h1 hx1 rfl
 have n1 := hx1.1
 have k0 : h1.get h.nx = some (.cells (cmdC X k fl) 52 false) := by rw [hx1.2 _ oM]; exact g0
 have k1 := (hx1.2 (h.nx + 1) oM).trans g1
 have k2 := (hx1.2 (h.nx + 1 + 1) oM).trans g2
 unfold cmdC at k0
 have hx := hxA.trans hx1
 have hp : ∀ o1, Ext h (h1.put (h.nx + 1) o1) := fun o1 => hx.put oM o1
 unfold bareX
 have hp2 : ∀ o1 o2, Ext h ((h1.put (h.nx + 1 + 1) o1).put (h.nx + 1) o2) := fun o1 o2 => (hx.put oM o1).put oM o2
 have hp3 : ∀ o1 o2 o3, Ext h (((h1.put (h.nx + 1 + 1) o1).put (h.nx + 1 + 1) o2).put (h.nx + 1) o3) := fun o1 o2 o3 => ((hx.put oM o1).put oM o2).put oM o3
 have hp4 : ∀ o1 o2 o3 o4, Ext h ((((h1.put (h.nx + 1 + 1) o1).put (h.nx + 1 + 1) o2).put (h.nx + 1 + 1) o3).put (h.nx + 1) o4) := fun o1 o2 o3 o4 => (((hx.put oM o1).put oM o2).put oM o3).put oM o4
 have rw1 : ∀ o n o' n', fpApart (.lg [.rd h.nx o n]) (.lg [.wr (h.nx + 1 + 1) o' n']) := fun o n o' n' => rd_wr oM
 have q1 : ¬ h.nx = h.nx + 1 + 1 := oM
 rcases shape_in k with e | e | e | e | e | e | e | e | e
 ·refine wew1 (cj e <| cj k0 <| cj k1 <| cj k2 <| cj x1 x2) ?_
  exact ⟨.inr oM, hp _⟩
 ·refine wew1 (cj e <| cj k0 <| cj k1 <| cj k2 <| cj x1 x2) ?_
  exact ⟨.inr oM, .inr oM, hp2 _ _⟩
 ·refine wew1 (cj e <| cj k0 <| cj k1 <| cj k2 <| cj x1 x2) ?_
  exact ⟨.inr oM, .inr oM, hp2 _ _⟩
 ·refine wew1 (cj e <| cj k0 <| cj k1 <| cj k2 <| cj x1 x2) ?_
  refine draw_by [(3, 7), (5, 7), (5, 9)] kR ?_
  refine wew1 (cj e <| cj k0 <| cj k1 <| cj k2 <| cj x1 <| cj x2 q1) ?_
  refine ⟨.inr oM, .inr oM, .inr oM, fun p hp => ?_, .inr oM, hp4 _ _ _ _⟩
  simp only [List.mem_cons, List.not_mem_nil, or_false] at hp
  rcases hp with rfl | rfl | rfl
  ·exact pair_one rfl rfl (rw1 _ _ _ _)
  ·exact pair_one rfl rfl (rw1 _ _ _ _)
  ·exact pair_one rfl rfl (rw1 _ _ _ _)
 ·refine wew1 (cj e <| cj k0 <| cj k1 <| cj k2 <| cj x1 x2) ?_
  refine draw_by [(3, 7), (5, 7), (5, 9)] kR ?_
  refine wew1 (cj e <| cj k0 <| cj k1 <| cj k2 <| cj x1 <| cj x2 q1) ?_
  refine ⟨.inr oM, .inr oM, .inr oM, fun p hp => ?_, .inr oM, hp4 _ _ _ _⟩
  simp only [List.mem_cons, List.not_mem_nil, or_false] at hp
  rcases hp with rfl | rfl | rfl
  ·exact pair_one rfl rfl (rw1 _ _ _ _)
  ·exact pair_one rfl rfl (rw1 _ _ _ _)
  ·exact pair_one rfl rfl (rw1 _ _ _ _)
 ·refine wew1 (cj e <| cj k0 <| cj k1 <| cj k2 <| cj x1 x2) ?_
  exact ⟨.inr oM, .inr oM, hp2 _ _⟩
 ·refine wew1 (cj e <| cj k0 <| cj k1 <| cj k2 <| cj x1 x2) ?_
  exact ⟨.inr oM, .inr oM, hp2 _ _⟩
 ·refine wew1 (cj e <| cj k0 <| cj k1 <| cj k2 <| cj x1 x2) ?_
  refine draw_by [(3, 5)] kR ?_
  refine wew1 (cj e <| cj k0 <| cj k1 <| cj k2 <| cj x1 <| cj x2 q1) ?_
  refine ⟨.inr oM, .inr oM, fun p hp => ?_, .inr oM, hp3 _ _ _⟩
  rw [List.mem_singleton.1 hp]
  exact pair_one rfl rfl (rw1 _ _ _ _)
 ·refine wew1 (cj e <| cj k0 <| cj k1 <| cj k2 <| cj x1 x2) ?_
  exact ⟨.inr oM, .inr oM, hp2 _ _⟩
theorem check_spec {X : RX} {d : List Nat} {h : H} (b : BS 5 h X.x7 d) (k fl : Int) : Pure S.cfg 36 [.agg (cmdC X k fl)] h fun v _ => v = .int .i64 (@ite _ (cmdOk X k fl d.length) (Classical.propDecidable _) 0 2) := by
 refine inn Tryz.func36 (hS.ownR _ dC) rfl rfl ?_
 have hX := b.cell
 have x1 := hX.1
 have x2 := hX.2
 have bs := fun h => bare_spec hS X hX k fl h
 unfold cmdC at bs ⊢
 refine ww1 (cj @Tryz.f36.eq_1 <| cj x1 x2) ?_
 refine callF_pure (bs _) ?_
 rintro _ h1 hx1 rfl
 have n1 := hx1.1
 have g0 : h1.get h.nx = some (.cells [.int .u8 k, .str X.x1, .int .u32 X.x2, .int .u16 X.x3, .int .u8 fl, .int .u32 X.x5, .int .u16 X.x6, X.x7] 52 false) := by rw [hx1.2 _ (by simp only [push_nx]; omega)]; exact push_eq rfl
 have hx : Ext h h1 := ((Ext.refl h).push _).trans hx1
 simp only [push_nx] at n1
 have l1 := b.len 5
 have l2 := (BS.nil 5 h).len 5
 have nc : V.nilslice.cells = [V.nilslice] := rfl
 have ni : V.nilslice.isCell = true := rfl
 have q : ¬ h.nx = h1.nx := oM
 unfold bareX
 have hE : ∀ o1 o2, Ext h ((h1.push o1).put h1.nx o2) := fun o1 o2 => (hx.push o1).put oM o2
 have hb0 : d.length = 0 ∨ 0 < d.length := oM
 rcases shape_in k with e | e | e | e | e | e | e | e | e
 all_goals
  refine wew1 (cj e <| cj g0 <| cj x1 <| cj x2 <| cj l1 <| cj l2 <| cj nc <| cj ni q) ?_
  refine ⟨.inr oM, fun w => ⟨hE _ _, ?_⟩, fun w => ⟨hE _ _, ?_⟩⟩
  ·rw [if_neg]
   intro u
   unfold cmdOk at u
   rw [e] at u
   grind
  ·rw [if_pos]
   unfold cmdOk
   rw [e]
   grind
end
noncomputable section
theorem answer_in (k : Int) : answerF k = 1 ∨ answerF k = 2 ∨ answerF k = 3 ∨ answerF k = 4 ∨ answerF k = 5 ∨ answerF k = 6 ∨ answerF k = 7 ∨ answerF k = 8 ∨ answerF k = 9 := by
 unfold answerF
 repeat' split
 all_goals omega
def firstN (k : Int) : Option FuncId := if answerF k = 1 then none else if answerF k = 2 then some 43 else if answerF k = 3 then some 44 else if answerF k = 4 then some 45 else if answerF k = 5 then some 46 else if answerF k = 6 then some 47 else if answerF k = 7 then some 48 else some 49
def newS (c k fl : Int) (cols : List CO) : RS := ⟨c, k, fl, firstN k, ¬ answerF k = 1, False, 0, if answerF k = 7 then cols else [], [], 0, False, 0, ¬ k = 3⟩
def newOk (X : RX) (c k fl : Int) (n : Nat) : Prop := iAnd .u32 c 565760 = 565760 ∧ cmdOk X k fl n ∧ ¬ answerF k = 8
theorem _root_.Go.Wx.Ext.trans_but' {r : Nat} {h a b : H} (x : Ext h a) (y : But r a b) (hr : h.nx ≤ r) : Ext h b := ⟨Nat.le_trans x.1 y.1, fun k hk => by rw [y.2 k (Nat.lt_of_lt_of_le hk x.1) oM, x.2 k hk]⟩
variable {S : Set0} (hS : StdR S)
include hS
theorem clone0_spec (h : H) : Exact S.cfg 41 [.nilslice] h .nilslice := by
 refine inn Tryz.func41 (hS.ownR _ dC) rfl rfl ?_
 have e : ∀ t, binV Tryz.prog .eql 110 (constO (.tmp t) || constO (.const (Value.slice none 0 0))) .nilslice .nilslice = some (bo True) := fun t => by
  rw [show bo True = .bool true by simp [bo]]
  rfl
 exact wv1 (cj @Tryz.f41.eq_1 e)
theorem new_spec {X : RX} {d : List Nat} {h : H} (b : BS 5 h X.x7 d) (c k fl : Int) : Pure S.cfg 16 [.int .u32 c, .agg (cmdC X k fl), .nilslice] h fun w h' => (newOk X c k fl d.length → ∃ r, w = .tuple [.ptr r 0, .int .i64 0] ∧ RF X h.nx r (newS c k fl []) .nilslice .nilslice h') ∧ (¬ newOk X c k fl d.length → w = .tuple [.nilptr, .int .i64 2]) := by
 refine inn Tryz.func16 (hS.ownR _ dC) rfl rfl ?_
 have hX := b.cell
 have x1 := hX.1
 have x2 := hX.2
 have cs := fun h b => check_spec hS (X := X) (d := d) (h := h) b k fl
 unfold cmdC at cs ⊢
 refine ww1 (cj @Tryz.f16.eq_1 <| cj x1 x2) ?_
 generalize hhA : H.push h _ = hA
 have hxA : Ext h hA := by rw [← hhA]; exact (Ext.refl h).push _
 have nA : hA.nx = h.nx + 1 := by rw [← hhA]; rfl
 have gA : hA.get h.nx = some (.cells [.int .u8 k, .str X.x1, .int .u32 X.x2, .int .u16 X.x3, .int .u8 fl, .int .u32 X.x5, .int .u16 X.x6, X.x7] 52 false) := by rw [← hhA]; exact push_eq rfl
 clear hhA
 refine callF_pure (answer_spec hS k _) ?_
 rintro _ h1 hx1 rfl
 have n1 := hx1.1
 have g1 := (hx1.2 _ oM).trans gA
 have hxh1 := hxA.trans hx1
 refine ww0 ?_
 refine callF_exact (caps_spec hS c _) ?_
 by_cases hc : iAnd .u32 c 565760 = 565760
 case neg =>
  rw [if_neg hc]
  refine wew0 ?_
  exact ⟨hxh1, fun q => absurd q.1 hc⟩
 rw [if_pos hc]
 refine wew1 g1 ?_
 refine callF_pure (cs _ (b.ext hxh1)) ?_
 rintro _ h2 hx2 rfl
 have n2 := hx2.1
 have g2 := (hx2.2 _ oM).trans g1
 have hxh2 := hxh1.trans hx2
 by_cases hk : cmdOk X k fl d.length
 case neg =>
  rw [if_neg hk]
  refine wew0 ?_
  exact ⟨hxh2, fun q => absurd q.2.1 hk⟩
 rw [if_pos hk]
 by_cases h8 : answerF k = 8
 ·refine wew1 h8 ?_
  exact ⟨hxh2, fun q => absurd h8 q.2.2⟩
 have hok : newOk X c k fl d.length := ⟨hc, hk, h8⟩
 have z1 : ¬ ((4096 : Int) < 0) := dC
 have z2 : ¬ ((4096 : Nat) < 0) := dC
 refine wew1 (cj h8 <| cj z1 z2) ?_
 refine run_loop (fun m env h' => m = 0 ∧ h' = h2 ∧ env 0 = .int .u32 c ∧ env 2 = .nilslice ∧ env 4 = .ptr h.nx 0 ∧ env 8 = .int .i64 (answerF k) ∧ env 33 = .int .i64 0 ∧ env 34 = .int .i64 0) 0 ?_ ?_
 ·exact wv0
 rintro _ env h' ⟨rfl, rfl, e0, e2, e4, e8, e33, e34⟩
 have z3 : ¬ ((0 : Int) < 0) := dC
 have nc : V.nilslice.cells = [V.nilslice] := rfl
 have ni : V.nilslice.isCell = true := rfl
 generalize hhB : h'.push (.cells [.int .u32 c, .int .u8 k, .str X.x1, .int .u32 X.x2, .int .u16 X.x3, .int .u8 fl, .int .u32 X.x5, .int .u16 X.x6, X.x7, .nilfunc, bo False, bo False, .int .i64 0, .nilslice, .nilslice, .int .i64 0, bo False, .int .u16 0, bo (¬ k = 3), bo True] 116 false) = hB
 have hxB : Ext h hB := by rw [← hhB]; exact hxh2.push _
 have nB : hB.nx = h'.nx + 1 := by rw [← hhB]; rfl
 have gr : hB.get h'.nx = some (.cells [.int .u32 c, .int .u8 k, .str X.x1, .int .u32 X.x2, .int .u16 X.x3, .int .u8 fl, .int .u32 X.x5, .int .u16 X.x6, X.x7, .nilfunc, bo False, bo False, .int .i64 0, .nilslice, .nilslice, .int .i64 0, bo False, .int .u16 0, bo (¬ k = 3), bo True] 116 false) := by rw [← hhB]; exact push_eq rfl
 have hnh : h.nx ≤ h'.nx := hxh2.1
 obtain ⟨s0, hs0⟩ : ∃ s0 : RS, (⟨c, k, fl, none, False, False, 0, [], [], 0, False, 0, ¬ k = 3⟩ : RS) = s0 := ⟨_, rfl⟩
 have a0 : RR X h.nx h'.nx s0 .nilslice .nilslice hB := by
  rw [← hs0]
  exact ⟨gr, lst_nil _ _ _ _, fun _ => rfl, off_nil _, off_nil _, ⟨rfl, rfl⟩, ⟨hnh, by omega⟩, hX⟩
 have c0 : s0.cols = [] := by rw [← hs0]
 have okr : ∀ j, j = h'.nx → fresh h.nx nil1 j := fun j hj => by rw [fresh_def]; exact .inl oM
 rcases answer_in k with e | e | e | e | e | e | e | e | e
 ·have hn : newS c k fl [] = s0 := by rw [← hs0]; unfold newS firstN; rw [e]; simp
  refine wew1 (cj e0 <| cj e2 <| cj e4 <| cj e8 <| cj e33 <| cj e34 <| cj z3 <| cj g2 <| cj x1 <| cj x2 <| cj e hhB) ?_
  exact ⟨hxB, fun _ => ⟨h'.nx, rfl, by rw [hn]; exact ⟨a0, rcs_nil c0, .inr (sep_nil _)⟩⟩, fun q => absurd hok q⟩
 ·have hn : newS c k fl [] = s0.await 43 True := by rw [← hs0]; unfold newS firstN RS.await; rw [e]; simp
  refine wew1 (cj e0 <| cj e2 <| cj e4 <| cj e8 <| cj e33 <| cj e34 <| cj z3 <| cj g2 <| cj x1 <| cj x2 <| cj e hhB) ?_
  refine callF_of (await_spec hS a0 43 True) okr ?_
  rintro _ h3 ⟨rfl, p3⟩
  refine ww1 (cj e0 <| cj e2 <| cj e4 e8) ?_
  exact ⟨hxB.trans_but' p3.2 oM, fun _ => ⟨h'.nx, rfl, by rw [hn]; exact ⟨p3.1, rcs_nil c0, .inr (sep_nil _)⟩⟩, fun q => absurd hok q⟩
 ·have hn : newS c k fl [] = s0.await 44 True := by rw [← hs0]; unfold newS firstN RS.await; rw [e]; simp
  refine wew1 (cj e0 <| cj e2 <| cj e4 <| cj e8 <| cj e33 <| cj e34 <| cj z3 <| cj g2 <| cj x1 <| cj x2 <| cj e hhB) ?_
  refine callF_of (await_spec hS a0 44 True) okr ?_
  rintro _ h3 ⟨rfl, p3⟩
  refine ww1 (cj e0 <| cj e2 <| cj e4 e8) ?_
  exact ⟨hxB.trans_but' p3.2 oM, fun _ => ⟨h'.nx, rfl, by rw [hn]; exact ⟨p3.1, rcs_nil c0, .inr (sep_nil _)⟩⟩, fun q => absurd hok q⟩
 ·have hn : newS c k fl [] = s0.await 45 True := by rw [← hs0]; unfold newS firstN RS.await; rw [e]; simp
  refine wew1 (cj e0 <| cj e2 <| cj e4 <| cj e8 <| cj e33 <| cj e34 <| cj z3 <| cj g2 <| cj x1 <| cj x2 <| cj e hhB) ?_
  refine callF_of (await_spec hS a0 45 True) okr ?_
  rintro _ h3 ⟨rfl, p3⟩
  refine ww1 (cj e0 <| cj e2 <| cj e4 e8) ?_
  exact ⟨hxB.trans_but' p3.2 oM, fun _ => ⟨h'.nx, rfl, by rw [hn]; exact ⟨p3.1, rcs_nil c0, .inr (sep_nil _)⟩⟩, fun q => absurd hok q⟩
 ·have hn : newS c k fl [] = s0.await 46 True := by rw [← hs0]; unfold newS firstN RS.await; rw [e]; simp
  refine wew1 (cj e0 <| cj e2 <| cj e4 <| cj e8 <| cj e33 <| cj e34 <| cj z3 <| cj g2 <| cj x1 <| cj x2 <| cj e hhB) ?_
  refine callF_of (await_spec hS a0 46 True) okr ?_
  rintro _ h3 ⟨rfl, p3⟩
  refine ww1 (cj e0 <| cj e2 <| cj e4 e8) ?_
  exact ⟨hxB.trans_but' p3.2 oM, fun _ => ⟨h'.nx, rfl, by rw [hn]; exact ⟨p3.1, rcs_nil c0, .inr (sep_nil _)⟩⟩, fun q => absurd hok q⟩
 ·have hn : newS c k fl [] = s0.await 47 True := by rw [← hs0]; unfold newS firstN RS.await; rw [e]; simp
  refine wew1 (cj e0 <| cj e2 <| cj e4 <| cj e8 <| cj e33 <| cj e34 <| cj z3 <| cj g2 <| cj x1 <| cj x2 <| cj e hhB) ?_
  refine callF_of (await_spec hS a0 47 True) okr ?_
  rintro _ h3 ⟨rfl, p3⟩
  refine ww1 (cj e0 <| cj e2 <| cj e4 e8) ?_
  exact ⟨hxB.trans_but' p3.2 oM, fun _ => ⟨h'.nx, rfl, by rw [hn]; exact ⟨p3.1, rcs_nil c0, .inr (sep_nil _)⟩⟩, fun q => absurd hok q⟩
 ·have hn : newS c k fl [] = s0.await 48 True := by rw [← hs0]; unfold newS firstN RS.await; rw [e]; simp
  refine wew1 (cj e0 <| cj e2 <| cj e4 <| cj e8 <| cj e33 <| cj e34 <| cj z3 <| cj g2 <| cj x1 <| cj x2 <| cj e hhB) ?_
  refine callF_exact (clone0_spec hS _) ?_
  refine wew1 (cj gr <| cj nc <| cj ni <| cj e0 <| cj e2 <| cj e4 <| cj e8 e) ?_
  have a1 : RR X h.nx h'.nx s0 .nilslice .nilslice (hB.put h'.nx (.cells (rsC X h'.nx s0 .nilslice .nilslice) 116 false)) := a0.put rfl
  have b1 : Ext h (hB.put h'.nx (.cells (rsC X h'.nx s0 .nilslice .nilslice) 116 false)) := hxB.put oM _
  rw [← hs0] at a1 b1
  refine ⟨.inr oM, callF_of (await_spec hS a1 48 True) okr ?_⟩
  rintro _ h3 ⟨rfl, p3⟩
  refine ww1 (cj e0 <| cj e2 <| cj e4 e8) ?_
  rw [hs0] at p3 b1
  exact ⟨b1.trans_but' p3.2 oM, fun _ => ⟨h'.nx, rfl, by rw [hn]; exact ⟨p3.1, rcs_nil c0, .inr (sep_nil _)⟩⟩, fun q => absurd hok q⟩
 ·exact absurd e h8
 ·have hn : newS c k fl [] = s0.await 49 True := by rw [← hs0]; unfold newS firstN RS.await; rw [e]; simp
  refine wew1 (cj e0 <| cj e2 <| cj e4 <| cj e8 <| cj e33 <| cj e34 <| cj z3 <| cj g2 <| cj x1 <| cj x2 <| cj e hhB) ?_
  refine callF_of (await_spec hS a0 49 True) okr ?_
  rintro _ h3 ⟨rfl, p3⟩
  refine ww1 (cj e0 <| cj e2 <| cj e4 e8) ?_
  exact ⟨hxB.trans_but' p3.2 oM, fun _ => ⟨h'.nx, rfl, by rw [hn]; exact ⟨p3.1, rcs_nil c0, .inr (sep_nil _)⟩⟩, fun q => absurd hok q⟩
end
noncomputable section
abbrev mayL : List Nat := [43, 44, 45, 46, 47, 48, 49, 82]
theorem RI.fin {s : RS} (i : RI s) : RI s.fin :=
 ⟨fun f q => (by cases q), fun q => (by cases q), fun q => (by cases q), fun q => (by rcases q with q | q <;> cases q), fun q => (by rcases q with q | q | q <;> cases q), i.ok, i.thn, i.lf, ⟨fun q => False.elim q, fun ⟨f, q, _⟩ => by cases q⟩⟩
theorem RI.awaitMay {s : RS} (i : RI s) (f : Nat) (hf : f ∈ mayL) (h37 : f = 48 → s.cols.length ≤ 4096) (h36 : f = 47 → s.cols = []) : RI (s.await f True) := by
 have nf : ∀ g, (s.await f True).nx = some g → g = f := fun g q => by
  have q : some f = some g := q
  injection q with q
  exact q.symm
 have no : ∀ g, (s.await f True).nx = some g → g ∉ mayL → False := fun g q h => by rw [nf g q] at h; exact h hf
 refine ⟨fun g q => ?_, fun q => (no _ q dC).elim, fun q => (no _ q dC).elim, fun q => ?_, fun q => ?_, i.ok, i.thn, i.lf, ⟨fun _ => ⟨f, rfl, hf⟩, fun _ => trivial⟩⟩
 ·rw [nf g q]
  simp only [mayL, List.mem_cons, List.not_mem_nil, or_false] at hf
  rcases hf with rfl | rfl | rfl | rfl | rfl | rfl | rfl | rfl <;> decide
 ·rcases q with q | q
  ·exact h37 (nf _ q).symm
  ·exact (no _ q dC).elim
 ·rcases q with q | q | q
  ·exact h36 (nf _ q).symm
  ·exact (no _ q dC).elim
  ·exact (no _ q dC).elim
theorem RI.awaitNo {s : RS} (i : RI s) (f : Nat) (hf : f = 84 ∨ f = 128 ∨ f = 131 ∨ f = 162) (h55 : f = 84 → 1 ≤ s.left ∧ s.told.length + s.left ≤ 4096) (h77 : f = 131 → 1 ≤ s.left ∧ s.told.length + s.left ≤ 65536) (h74 : f = 128 → s.cols.length ≤ 4096) (h0 : f = 131 ∨ f = 162 → s.cols = []) : RI (s.await f False) := by
 have nf : ∀ g, (s.await f False).nx = some g → g = f := fun g q => by
  have q : some f = some g := q
  injection q with q
  exact q.symm
 have no : ∀ g, (s.await f False).nx = some g → g ∈ mayL → False := fun g q h => by
  rw [nf g q] at h
  rcases hf with rfl | rfl | rfl | rfl <;> exact absurd h dC
 refine ⟨fun g q => ?_, fun q => h55 (nf _ q).symm, fun q => h77 (nf _ q).symm, fun q => ?_, fun q => ?_, i.ok, i.thn, i.lf, ⟨fun q => False.elim q, fun ⟨g, q, hg⟩ => ?_⟩⟩
 ·rw [nf g q]
  rcases hf with rfl | rfl | rfl | rfl <;> decide
 ·rcases q with q | q
  ·exact (no _ q dC).elim
  ·exact h74 (nf _ q).symm
 ·rcases q with q | q | q
  ·exact (no _ q dC).elim
  ·exact h0 (.inl (nf _ q).symm)
  ·exact h0 (.inr (nf _ q).symm)
 ·exact no g q hg
theorem RI.err {s : RS} (i : RI s) (l : List Nat) : RI (errS s l).1 := by
 unfold errS; split
 ·exact i
 ·exact i.fin
theorem RI.st {s : RS} (i : RI s) (x : Int) : RI { s with st := x } := ⟨i.nx, i.l55, i.l77, i.c37, i.c0, i.ok, i.thn, i.lf, i.may⟩
theorem RI.ends {s : RS} (i : RI s) (x : Int) (m : Prop) : RI (s.ends x m) := by
 unfold RS.ends; split
 ·exact i.awaitMay 46 dC (fun q => by cases q) (fun q => by cases q)
 ·exact i.fin
theorem RI.done {s : RS} (i : RI s) (l : List Nat) (k : Int) (m : Prop) : RI (doneS s l k m).1 := by
 unfold doneS; split
 ·exact i
 ·exact (i.st _).ends _ _
theorem RI.ok1 {s : RS} (i : RI s) (l : List Nat) (m : Prop) : RI (okS1 s l m).1 := by
 unfold okS1; split
 ·exact i.done _ _ _
 ·exact i.err _
theorem RI.eofOrOk {s : RS} (i : RI s) (l : List Nat) : RI (eofOrOkS s l).1 := by
 unfold eofOrOkS; split
 ·exact i.ok1 _ _
 ·exact (i.st _).fin
theorem RI.text {s : RS} (i : RI s) (l : List Nat) : RI (textS s l).1 := by
 unfold textS; split
 ·exact i
 ·split
  ·exact i.err _
  ·exact i.fin
theorem RI.first {s : RS} (i : RI s) (l : List Nat) : RI (firstS s l).1 := by
 unfold firstS; split
 ·exact i.done _ _ _
 split
 ·exact i.err _
 split
 ·split
  ·exact i
  ·exact RI.awaitMay (s := { s with wants := True }) ⟨i.nx, i.l55, i.l77, i.c37, i.c0, i.ok, i.thn, i.lf, i.may⟩ 82 dC (fun q => by cases q) (fun q => by cases q)
 split
 ·exact i
 ·rename_i he
  have hn := countF_in (l := l) (Classical.not_not.1 he)
  have hl : RI ({ s with left := (countF l).1, told := [], cols := [] } : RS).fin := ⟨fun f q => (by cases q), fun q => (by cases q), fun q => (by cases q), fun q => (by rcases q with q | q <;> cases q), fun q => (by rcases q with q | q | q <;> cases q), ⟨fun x hx => (by simp [RS.fin] at hx), fun x hx => (by simp [RS.fin] at hx)⟩, i.thn, ⟨(by show 0 ≤ (countF l).1; omega), (by show (countF l).1 ≤ 65535; omega)⟩, ⟨fun q => False.elim q, fun ⟨f, q, _⟩ => by cases q⟩⟩
  exact RI.awaitNo hl 84 (.inl rfl) (fun _ => ⟨hn.1, by show ((0 : Nat) : Int) + (countF l).1 ≤ 4096; omega⟩) (fun q => by cases q) (fun q => by cases q) (fun q => by rcases q with q | q <;> cases q)
theorem RI.one {s : RS} (i : RI s) (l : List Nat) (h1 : 1 ≤ s.left) : ((oneS s l).2 ≠ 0 ∧ (oneS s l).1 = s) ∨ ((oneS s l).2 = 0 ∧ (oneS s l).1 = { s with told := s.told ++ [(colF l).1], left := s.left - 1 }) := by
 unfold oneS
 split
 ·exact .inl ⟨(show (5 : Int) ≠ 0 by decide), rfl⟩
 ·exact .inr ⟨rfl, rfl⟩
theorem told_ok {s : RS} (i : RI s) (l : List Nat) : ∀ x ∈ s.told ++ [(colF l).1], x.Ok := fun x hx => by
 rcases List.mem_append.1 hx with q | q
 ·exact i.ok.2 x q
 ·rw [List.mem_singleton.1 q]; exact colF_ok l
structure RJ (s : RS) : Prop where
 ok : (∀ x ∈ s.cols, x.Ok) ∧ ∀ x ∈ s.told, x.Ok
 thn : 0 ≤ s.thn ∧ s.thn ≤ 65535
 lf : 0 ≤ s.left ∧ s.left ≤ 65535
theorem RJ.fin {s : RS} (i : RJ s) : RI s.fin :=
 ⟨fun f q => (by cases q), fun q => (by cases q), fun q => (by cases q), fun q => (by rcases q with q | q <;> cases q), fun q => (by rcases q with q | q | q <;> cases q), i.ok, i.thn, i.lf, ⟨fun q => False.elim q, fun ⟨f, q, _⟩ => by cases q⟩⟩
theorem RI.j {s : RS} (i : RI s) : RJ s := ⟨i.ok, i.thn, i.lf⟩
theorem RJ.no {s : RS} (i : RJ s) (f : Nat) (hf : f = 84 ∨ f = 128 ∨ f = 131 ∨ f = 162) (h55 : f = 84 → 1 ≤ s.left ∧ s.told.length + s.left ≤ 4096) (h77 : f = 131 → 1 ≤ s.left ∧ s.told.length + s.left ≤ 65536) (h74 : f = 128 → s.cols.length ≤ 4096) (h0 : f = 131 ∨ f = 162 → s.cols = []) : RI (s.await f False) := RI.awaitNo i.fin f hf h55 h77 h74 h0
theorem RJ.yes {s : RS} (i : RJ s) (f : Nat) (hf : f ∈ mayL) (h37 : f = 48 → s.cols.length ≤ 4096) (h36 : f = 47 → s.cols = []) : RI (s.await f True) := RI.awaitMay i.fin f hf h37 h36
theorem RI.further {s : RS} (i : RJ s) (hc : s.cols = []) : RI (furtherS s).1 := by
 have ja : RJ (furA s) ∧ (furA s).cols = [] := by
  unfold furA
  split
  ·exact ⟨⟨i.ok, i.thn, i.thn⟩, hc⟩
  ·exact ⟨i, hc⟩
 unfold furtherS
 generalize furA s = s1 at *
 split
 ·exact ja.1.fin
 ·rename_i hz
  have jl := ja.1.lf
  exact RJ.no (s := { s1 with told := [] }) ⟨⟨ja.1.ok.1, fun x hx => by cases hx⟩, ja.1.thn, ja.1.lf⟩ 131 dC (fun q => (by cases q)) (fun _ => ⟨by show 1 ≤ s1.left; omega, by show ((0 : Nat) : Int) + s1.left ≤ 65536; omega⟩) (fun q => (by cases q)) (fun _ => ja.2)
theorem RI.after {s : RS} (i : RJ s) (hc : s.cols = []) : RI (afterS s).1 := by
 unfold afterS
 split
 ·exact i.fin
 ·exact RI.further i hc
theorem RI.defEnd {s : RS} (i : RI s) (h : s.nx = some 162) (l : List Nat) : RI (defEndS s l).1 := by
 unfold defEndS
 split
 ·exact i
 ·exact RI.after (s := { s with st := (eofF l).2.1 }) ⟨i.ok, i.thn, i.lf⟩ (i.c0 (.inr (.inr h)))
theorem RI.colEnd {s : RS} (i : RI s) (h : s.nx = some 128) (l : List Nat) : RI (colEndS s l).1 := by
 unfold colEndS
 split
 ·exact i
 ·show RI (@ite _ _ (Classical.propDecidable _) _ _)
  split
  ·exact (i.st _).fin
  ·exact RI.awaitMay (i.st _) 48 dC (fun _ => i.c37 (.inr h)) (fun q => (by cases q))
theorem RI.prep {s : RS} (i : RI s) (h : s.nx = some 47) (l : List Nat) : RI (prepS s l).1 := by
 have hin := prepF_in l
 unfold prepS
 split
 ·exact i.err l
 split
 ·exact i
 ·exact RI.further (s := { s with left := (prepF l).2.2.1, thn := (prepF l).2.1 }) ⟨i.ok, ⟨hin.1, by show (prepF l).2.1 ≤ 65535; omega⟩, ⟨hin.2.2.1, by show (prepF l).2.2.1 ≤ 65535; omega⟩⟩ (i.c0 (.inl h))
theorem RI.row {s : RS} (i : RI s) (l : List Nat) : RI (rowS s l).1 := by
 unfold rowS
 split
 ·exact i.err l
 split
 ·exact i.done _ _ _
 split
 ·split
  ·exact i
  ·exact (i.st _).ends _ _
 split <;> exact i
theorem RI.col {s : RS} (i : RI s) (h : s.nx = some 84) (l : List Nat) : RI (colNS s l).1 := by
 have hl := i.l55 h
 have ilf := i.lf
 unfold colNS
 rcases i.one l hl.1 with ⟨h1, h2⟩ | ⟨h1, h2⟩
 ·rw [if_pos h1, h2]; exact i
 ·rw [if_neg (fun q => q h1), h2]
  have j : RJ { s with told := s.told ++ [(colF l).1], left := s.left - 1, cols := s.told ++ [(colF l).1] } := ⟨⟨told_ok i l, told_ok i l⟩, i.thn, ⟨by show 0 ≤ s.left - 1; omega, by show s.left - 1 ≤ 65535; omega⟩⟩
  have hlen : (s.told ++ [(colF l).1]).length = s.told.length + 1 := by rw [List.length_append]; rfl
  show RI (colN _)
  unfold colN
  split
  ·split
   ·exact RJ.no j 128 dC (fun q => (by cases q)) (fun q => (by cases q)) (fun _ => by show (s.told ++ [(colF l).1]).length ≤ 4096; omega) (fun q => (by rcases q with q | q <;> cases q))
   ·exact RJ.yes j 48 dC (fun _ => by show (s.told ++ [(colF l).1]).length ≤ 4096; omega) (fun q => (by cases q))
  ·rename_i hz
   have hz : ¬ s.left - 1 = 0 := hz
   have hne : ∀ f, s.nx = some f → f = 84 := fun f q => by rw [h] at q; injection q with q; exact q.symm
   refine ⟨i.nx, fun _ => ⟨by show 1 ≤ s.left - 1; omega, by show ((s.told ++ [(colF l).1]).length : Int) + (s.left - 1) ≤ 4096; omega⟩, fun q => ?_, fun q => ?_, fun q => ?_, j.ok, j.thn, j.lf, i.may⟩
   ·have q : s.nx = some 131 := q
    rw [h] at q; cases q
   ·have q : s.nx = some 48 ∨ s.nx = some 128 := q
    rw [h] at q; rcases q with q | q <;> cases q
   ·have q : s.nx = some 47 ∨ s.nx = some 131 ∨ s.nx = some 162 := q
    rw [h] at q; rcases q with q | q | q <;> cases q
theorem RI.dfn {s : RS} (i : RI s) (h : s.nx = some 131) (l : List Nat) : RI (defNS s l).1 := by
 have hl := i.l77 h
 have ilf := i.lf
 have hc := i.c0 (.inr (.inl h))
 unfold defNS
 rcases i.one l hl.1 with ⟨h1, h2⟩ | ⟨h1, h2⟩
 ·rw [if_pos h1, h2]; exact i
 ·rw [if_neg (fun q => q h1), h2]
  have j : RJ { s with told := s.told ++ [(colF l).1], left := s.left - 1 } := ⟨⟨i.ok.1, told_ok i l⟩, i.thn, ⟨by show 0 ≤ s.left - 1; omega, by show s.left - 1 ≤ 65535; omega⟩⟩
  have hlen : (s.told ++ [(colF l).1]).length = s.told.length + 1 := by rw [List.length_append]; rfl
  show RI (defN _).1
  unfold defN
  split
  ·split
   ·exact RJ.no j 162 dC (fun q => (by cases q)) (fun q => (by cases q)) (fun q => (by cases q)) (fun _ => hc)
   ·exact RI.after j hc
  ·rename_i hz
   have hz : ¬ s.left - 1 = 0 := hz
   refine ⟨i.nx, fun q => ?_, fun _ => ⟨by show 1 ≤ s.left - 1; omega, by show ((s.told ++ [(colF l).1]).length : Int) + (s.left - 1) ≤ 65536; omega⟩, fun q => ?_, fun _ => hc, j.ok, j.thn, j.lf, i.may⟩
   ·have q : s.nx = some 84 := q
    rw [h] at q; cases q
   ·have q : s.nx = some 48 ∨ s.nx = some 128 := q
    rw [h] at q; rcases q with q | q <;> cases q
theorem RI.next {s : RS} (i : RI s) {f : Nat} (hf : s.nx = some f) (l : List Nat) : RI (nextS s l).1 := by
 have hm := i.nx f hf
 simp only [List.mem_cons, List.not_mem_nil, or_false] at hm
 rcases hm with rfl | rfl | rfl | rfl | rfl | rfl | rfl | rfl | rfl | rfl | rfl | rfl
 ·rw [show nextS s l = okS1 s l False by unfold nextS; rw [hf]; rfl]; exact i.ok1 _ _
 ·rw [show nextS s l = eofOrOkS s l by unfold nextS; rw [hf]; rfl]; exact i.eofOrOk _
 ·rw [show nextS s l = textS s l by unfold nextS; rw [hf]; rfl]; exact i.text _
 ·rw [show nextS s l = firstS s l by unfold nextS; rw [hf]; rfl]; exact i.first _
 ·rw [show nextS s l = prepS s l by unfold nextS; rw [hf]; rfl]; exact i.prep hf _
 ·rw [show nextS s l = rowS s l by unfold nextS; rw [hf]; rfl]; exact i.row _
 ·rw [show nextS s l = errS s l by unfold nextS; rw [hf]; rfl]; exact i.err _
 ·rw [show nextS s l = okS1 s l True by unfold nextS; rw [hf]; rfl]; exact i.ok1 _ _
 ·rw [show nextS s l = colNS s l by unfold nextS; rw [hf]; rfl]; exact i.col hf _
 ·rw [show nextS s l = colEndS s l by unfold nextS; rw [hf]; rfl]; exact i.colEnd hf _
 ·rw [show nextS s l = defNS s l by unfold nextS; rw [hf]; rfl]; exact i.dfn hf _
 ·rw [show nextS s l = defEndS s l by unfold nextS; rw [hf]; rfl]; exact i.defEnd hf _
theorem RI.feed {s : RS} (i : RI s) (l : List Nat) : RI (feedS s l).1 := by
 unfold feedS
 cases hf : s.nx with
 | none => rw [if_pos rfl]; exact i
 | some f =>
   rw [if_neg (fun q => by cases q)]
   split
   ·exact i
   ·split
    ·exact (i.next hf l).fin
    ·exact i.next hf l
theorem RI.new (c k fl : Int) : RI (newS c k fl []) := by
 have hc : (newS c k fl []).cols = [] := by unfold newS; simp
 have hn : (answerF k = 1 ∧ (newS c k fl []).nx = none) ∨ (¬ answerF k = 1 ∧ ∃ f, (newS c k fl []).nx = some f ∧ f ∈ mayL) := by
  show (answerF k = 1 ∧ firstN k = none) ∨ (¬ answerF k = 1 ∧ ∃ f, firstN k = some f ∧ f ∈ mayL)
  unfold firstN
  by_cases h1 : answerF k = 1
  ·exact .inl ⟨h1, if_pos h1⟩
  ·refine .inr ⟨h1, ?_⟩
   rw [if_neg h1]
   repeat' split
   all_goals exact ⟨_, rfl, by decide⟩
 have ns : ∀ f, (newS c k fl []).nx = some f → f ∈ mayL := fun f q => by
  rcases hn with ⟨_, e⟩ | ⟨_, g, e, hg⟩
  ·rw [e] at q; cases q
  ·rw [e] at q; cases q; exact hg
 refine ⟨fun f q => ?_, fun q => absurd (ns _ q) dC, fun q => absurd (ns _ q) dC, fun q => (by rw [hc]; exact Nat.zero_le _), fun q => hc, ⟨fun x hx => (by rw [hc] at hx; cases hx), fun x hx => (by cases hx)⟩, ⟨Int.le_refl 0, (show (0 : Int) ≤ 65535 by decide)⟩, ⟨Int.le_refl 0, (show (0 : Int) ≤ 65535 by decide)⟩, ?_⟩
 ·have := ns f q
  simp only [mayL, List.mem_cons, List.not_mem_nil, or_false] at this
  rcases this with rfl | rfl | rfl | rfl | rfl | rfl | rfl | rfl <;> decide
 ·show (¬ answerF k = 1) ↔ _
  rcases hn with ⟨h1, e⟩ | ⟨h1, g, e, hg⟩
  ·rw [e]
   exact ⟨fun q => absurd h1 q, fun ⟨f, q, _⟩ => by cases q⟩
  ·exact ⟨fun _ => ⟨g, e, hg⟩, fun _ => h1⟩
end
end Go.Proofs.YtfgnpegkcmkeaaaGreatDoor.Rs
