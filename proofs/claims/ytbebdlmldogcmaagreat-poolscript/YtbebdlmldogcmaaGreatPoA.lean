/-
  Several texts of one walk, joined.
-/
import Derived.Test.YtbebdlmldogcmaaGreatScA
import Derived.Test.YtbebdlmldogcmaaGreatLyR
import Derived.Test.YtbebdlmldogcmaaGreatWxZ
set_option linter.unusedSimpArgs false
set_option linter.unusedVariables false
set_option linter.unusedSectionVars false
set_option linter.defProp false
set_option maxRecDepth 10000
set_option maxHeartbeats 1000000
namespace Go.Proofs.YtbebdlmldogcmaaGreat
open Int (reduceLE reduceLT reduceToNat)
open Nat (reduceLeDiff reduceEqDiff reduceAdd)
open Go.Proofs Go.Lx Go.Wx Go.IntWalk
noncomputable section
structure CN where
  blk : Nat
  num : Int
  st : Int
  cl : Int
  since : Int
  born : Nat
def CN.cells (c : CN) : List V := [.int .i64 c.num, .int .i64 c.st, .int .i64 c.cl, .int .i64 c.since]
def CN.ie (c : CN) : IE := ⟨c.num, .ptr c.blk 0, c.born⟩
structure WT where
  cl : Int
  til : Int
def WT.cells (w : WT) : List V := [.int .i64 w.cl, .int .i64 w.til]
structure MV where
  kd : Int
  cn : Int
  cl : Int
def MV.cells (m : MV) : List V := [.int .i64 m.kd, .int .i64 m.cn, .int .i64 m.cl]
def mcells (l : List MV) : List V := l.flatMap MV.cells
structure PS where
  lim : Int
  wait : Int
  keep : Int
  now : Int
  last : Int
  conns : List CN
  wts : List WT
  paused : Prop
  closed : Prop
  moves : List MV
structure PD where
  b : Nat
  mb : Nat
  ck : Nat
  wv : V
  mv : V
def pcells (D : PD) (P : PS) : List V := [bo True, .int .i64 P.lim, .int .i64 P.wait, .int .i64 P.keep, .int .i64 P.now, .int .i64 P.last, .map D.mb, D.wv, bo P.paused, bo P.closed, D.mv]
def centries (l : List CN) : List ME := l.map fun c => c.ie.me
def Wts (h : H) (v : V) (ws : List WT) : Prop := (v = .nilslice ∧ ws = []) ∨ ∃ b o m c fl, v = .slice b o ws.length m ∧ b < h.nx ∧ h.get b = some (.cells c 70 fl) ∧ (∀ i (hi : i < ws.length), o + i * 2 + 2 ≤ c.length ∧ (c.drop (o + i * 2)).take 2 = ws[i].cells) ∧ ws.length ≤ m ∧ o ≤ c.length
def owns (D : PD) (P : PS) (k : Nat) : Prop := k = D.b ∨ k = D.mb ∨ (∃ c ∈ P.conns, c.blk = k) ∨ ∃ o n m, D.mv = .slice k o n m
structure PR (D : PD) (P : PS) (h : H) : Prop where
  pool : h.get D.b = some (.cells (pcells D P) 55 false)
  map : h.get D.mb = some (.map (centries P.conns) D.ck)
  conn : ∀ c ∈ P.conns, h.get c.blk = some (.cells c.cells 65 false)
  wts : Wts h D.wv P.wts
  mvs : Lst 0 h D.mv (mcells P.moves) 63 3
  bmb : D.b ≠ D.mb
  cb : ∀ c ∈ P.conns, c.blk ≠ D.b ∧ c.blk ≠ D.mb
  cc : (P.conns.map CN.blk).Nodup
  wb : ∀ k o n m, D.wv = .slice k o n m → k ≠ D.b ∧ k ≠ D.mb ∧ (∀ c ∈ P.conns, c.blk ≠ k) ∧ ∀ o n m, D.mv ≠ .slice k o n m
  mvb : ∀ k o n m, D.mv = .slice k o n m → k ≠ D.b ∧ k ≠ D.mb ∧ ∀ c ∈ P.conns, c.blk ≠ k
  lt : D.b < h.nx ∧ D.mb < h.nx ∧ ∀ c ∈ P.conns, c.blk < h.nx
  stamps : ∀ c ∈ P.conns, c.born < D.ck
  apart : (P.conns.map CN.born).Nodup
  rise : (P.conns.map CN.num).Pairwise (· < ·)
  few : P.conns.length ≤ 1000
  wf : ∀ c ∈ P.conns, (Lit.int .i64 c.num).wf = true
structure StpC (D : PD) (P : PS) (h : H) (D1 : PD) (P1 : PS) (h1 : H) : Prop where
  pr : PR D1 P1 h1
  nx : h.nx ≤ h1.nx
  same : ∀ k, k < h.nx → ¬ owns D P k → h1.get k = h.get k
  own : ∀ k, owns D1 P1 k → owns D P k ∨ h.nx ≤ k
  b : D1.b = D.b
structure Stp (D : PD) (P : PS) (h : H) (D1 : PD) (P1 : PS) (h1 : H) : Prop extends StpC D P h D1 P1 h1 where
  wvk : ∀ k o n m, D1.wv = .slice k o n m → (∃ o n m, D.wv = .slice k o n m) ∨ h.nx ≤ k := by exact fun k o n m q => .inl ⟨o, n, m, q⟩
theorem Stp.refl {D : PD} {P : PS} {h : H} (r : PR D P h) : Stp D P h D P h := { pr := r, nx := Nat.le_refl _, same := fun _ _ _ => rfl, own := fun _ q => .inl q, b := rfl }
theorem StpC.trans {D D1 D2 : PD} {P P1 P2 : PS} {h h1 h2 : H} (a : StpC D P h D1 P1 h1) (b : StpC D1 P1 h1 D2 P2 h2) : StpC D P h D2 P2 h2 where
  pr := b.pr
  nx := Nat.le_trans a.nx b.nx
  same := fun k hk ho => by
    rw [b.same k (Nat.lt_of_lt_of_le hk a.nx) (fun q => (a.own k q).elim ho (by omega)), a.same k hk ho]
  own := fun k q => (b.own k q).elim (a.own k) fun q => .inr (Nat.le_trans a.nx q)
  b := b.b.trans a.b
theorem Stp.trans {D D1 D2 : PD} {P P1 P2 : PS} {h h1 h2 : H} (a : Stp D P h D1 P1 h1) (b : Stp D1 P1 h1 D2 P2 h2) : Stp D P h D2 P2 h2 :=
  ⟨a.toStpC.trans b.toStpC, fun k o n m q => (b.wvk k o n m q).elim (fun ⟨o, n, m, q⟩ => a.wvk k o n m q) fun q => .inr (Nat.le_trans a.nx q)⟩
theorem Wts.ext {h h' : H} {v : V} {ws : List WT} (hw : Wts h v ws) (hx : h.nx ≤ h'.nx) (hk : ∀ b o n m, v = .slice b o n m → h'.get b = h.get b) : Wts h' v ws := by
  rcases hw with h1 | ⟨b, o, m, c, fl, rfl, hb, hg, hc⟩
  · exact .inl h1
  · exact .inr ⟨b, o, m, c, fl, rfl, Nat.lt_of_lt_of_le hb hx, by rw [hk b _ _ _ rfl]; exact hg, hc⟩
theorem Wts.lt {h : H} {v : V} {ws : List WT} (hw : Wts h v ws) {b o n m : Nat} (q : v = .slice b o n m) : b < h.nx := by
  rcases hw with ⟨h1, _⟩ | ⟨b', o', m', c, fl, h1, hb, _⟩
  · rw [h1] at q; cases q
  · rw [h1] at q; cases q; exact hb
theorem PR.ext {D : PD} {P : PS} {h h' : H} (r : PR D P h) (hx : Ext h h') : PR D P h' where
  pool := by rw [hx.2 _ r.lt.1]; exact r.pool
  map := by rw [hx.2 _ r.lt.2.1]; exact r.map
  conn := fun c hc => by rw [hx.2 _ (r.lt.2.2 c hc)]; exact r.conn c hc
  wts := r.wts.ext hx.1 fun b o n m q => hx.2 b (r.wts.lt q)
  mvs := r.mvs.ext hx
  bmb := r.bmb
  cb := r.cb
  cc := r.cc
  wb := r.wb
  mvb := r.mvb
  lt := ⟨Nat.lt_of_lt_of_le r.lt.1 hx.1, Nat.lt_of_lt_of_le r.lt.2.1 hx.1, fun c hc => Nat.lt_of_lt_of_le (r.lt.2.2 c hc) hx.1⟩
  stamps := r.stamps
  apart := r.apart
  rise := r.rise
  few := r.few
  wf := r.wf
theorem Stp.ext {D : PD} {P : PS} {h h' : H} (r : PR D P h) (hx : Ext h h') : Stp D P h D P h' := { pr := r.ext hx, nx := hx.1, same := fun k hk _ => hx.2 k hk, own := fun _ q => .inl q, b := rfl }
theorem Wts.put {h : H} {v : V} {ws : List WT} (hw : Wts h v ws) {b : Nat} {o : Ob} (hb : ∀ k o n m, v = .slice k o n m → k ≠ b) : Wts (h.put b o) v ws := hw.ext (Nat.le_refl _) fun k o n m q => put_ne (hb k o n m q)
theorem Lst.put' {n0 e sz : Nat} {h : H} {v : V} {cells : List V} (hl : Lst n0 h v cells e sz) {b : Nat} {o : Ob} (hb : ∀ k o n m, v = .slice k o n m → k ≠ b) : Lst n0 (h.put b o) v cells e sz := by
  rcases hl with (ha | ⟨k, n, h1, h2, rfl, h4, h5, h6⟩) | ⟨h1, k, h2, h3, rfl, h5⟩
  · exact .inl (.inl ha)
  · exact .inl (.inr ⟨k, n, h1, h2, rfl, h4, by rw [put_ne (hb k _ _ _ rfl)]; exact h5, h6⟩)
  · exact .inr ⟨h1, k, h2, h3, rfl, by rw [put_ne (hb k _ _ _ rfl)]; exact h5⟩
theorem Lst.lt {n0 e sz : Nat} {h : H} {v : V} {cells : List V} (hl : Lst n0 h v cells e sz) {k o n m : Nat} (q : v = .slice k o n m) : k < h.nx := by
  rcases hl with (⟨h0, _⟩ | ⟨k', n', h1, h2, h3, _⟩) | ⟨_, k', _, h3, h4, _⟩
  · rw [h0] at q; cases q
  · rw [h3] at q; cases q; exact h2
  · rw [h4] at q; cases q; exact h3
theorem StpC.set {D D' : PD} {P P' : PS} {h h4 : H} (r : PR D P h) (hx : h.nx ≤ h4.nx) (hk : ∀ k, k < h.nx → (∀ o n m, D.mv ≠ .slice k o n m) → h4.get k = h.get k) (eb : D'.b = D.b) (em : D'.mb = D.mb) (ec : D'.ck = D.ck) (ecn : P'.conns = P.conns) (hw : Wts h4 D'.wv P'.wts) (hm : Lst 0 h4 D'.mv (mcells P'.moves) 63 3)
    (wb : ∀ k o n m, D'.wv = .slice k o n m → k ≠ D.b ∧ k ≠ D.mb ∧ (∀ c ∈ P.conns, c.blk ≠ k) ∧ ∀ o n m, D'.mv ≠ .slice k o n m) (mvb : ∀ k o n m, D'.mv = .slice k o n m → (k ≠ D.b ∧ k ≠ D.mb ∧ ∀ c ∈ P.conns, c.blk ≠ k) ∧ ((∃ o n m, D.mv = .slice k o n m) ∨ h.nx ≤ k)) :
    StpC D P h D' P' (h4.put D.b (.cells (pcells D' P') 55 false)) where
  pr := {
    pool := by rw [eb, put_eq rfl]
    map := by rw [em, ec, ecn, put_ne (Ne.symm r.bmb), hk _ r.lt.2.1 fun o n m q => (r.mvb _ _ _ _ q).2.1 rfl]; exact r.map
    conn := fun c hc => by
      rw [ecn] at hc
      rw [put_ne (r.cb c hc).1, hk _ (r.lt.2.2 c hc) fun o n m q => (r.mvb _ _ _ _ q).2.2 c hc rfl]
      exact r.conn c hc
    wts := hw.put fun k o n m q => (wb k o n m q).1
    mvs := Lst.put' hm fun k o n m q => (mvb k o n m q).1.1
    bmb := by rw [eb, em]; exact r.bmb
    cb := fun c hc => by rw [ecn] at hc; rw [eb, em]; exact r.cb c hc
    cc := by rw [ecn]; exact r.cc
    wb := fun k o n m q => by rw [eb, em, ecn]; exact wb k o n m q
    mvb := fun k o n m q => by rw [eb, em, ecn]; exact (mvb k o n m q).1
    lt := ⟨by rw [eb]; exact Nat.lt_of_lt_of_le r.lt.1 hx, by rw [em]; exact Nat.lt_of_lt_of_le r.lt.2.1 hx, fun c hc => by rw [ecn] at hc; exact Nat.lt_of_lt_of_le (r.lt.2.2 c hc) hx⟩
    stamps := fun c hc => by rw [ecn] at hc; rw [ec]; exact r.stamps c hc
    apart := by rw [ecn]; exact r.apart
    rise := by rw [ecn]; exact r.rise
    few := by rw [ecn]; exact r.few
    wf := fun c hc => by rw [ecn] at hc; exact r.wf c hc }
  nx := hx
  same := fun k hkn ho => by
    rw [put_ne (fun q => ho (.inl q)), hk k hkn fun o n m q => ho (.inr (.inr (.inr ⟨o, n, m, q⟩)))]
  own := fun k q => by
    rcases q with q | q | ⟨c, hc, q⟩ | ⟨o, n, m, q⟩
    · exact .inl (.inl (by rw [q, eb]))
    · exact .inl (.inr (.inl (by rw [q, em])))
    · rw [ecn] at hc; exact .inl (.inr (.inr (.inl ⟨c, hc, q⟩)))
    · rcases (mvb k o n m q).2 with w | w
      · exact .inl (.inr (.inr (.inr w)))
      · exact .inr w
  b := eb
theorem Stp.set {D D' : PD} {P P' : PS} {h h4 : H} (r : PR D P h) (hx : h.nx ≤ h4.nx) (hk : ∀ k, k < h.nx → (∀ o n m, D.mv ≠ .slice k o n m) → h4.get k = h.get k) (eb : D'.b = D.b) (em : D'.mb = D.mb) (ec : D'.ck = D.ck) (ecn : P'.conns = P.conns) (hw : Wts h4 D'.wv P'.wts) (hm : Lst 0 h4 D'.mv (mcells P'.moves) 63 3)
    (wb : ∀ k o n m, D'.wv = .slice k o n m → k ≠ D.b ∧ k ≠ D.mb ∧ (∀ c ∈ P.conns, c.blk ≠ k) ∧ ∀ o n m, D'.mv ≠ .slice k o n m) (mvb : ∀ k o n m, D'.mv = .slice k o n m → (k ≠ D.b ∧ k ≠ D.mb ∧ ∀ c ∈ P.conns, c.blk ≠ k) ∧ ((∃ o n m, D.mv = .slice k o n m) ∨ h.nx ≤ k)) (wvk : ∀ k o n m, D'.wv = .slice k o n m → (∃ o n m, D.wv = .slice k o n m) ∨ h.nx ≤ k := by exact fun k o n m q => .inl ⟨o, n, m, q⟩) :
    Stp D P h D' P' (h4.put D.b (.cells (pcells D' P') 55 false)) := ⟨StpC.set r hx hk eb em ec ecn hw hm wb mvb, wvk⟩
theorem mcells_len (l : List MV) : (mcells l).length = l.length * 3 := by
  induction l with
  | nil => rfl
  | cons w l ih =>
    show (MV.cells w ++ mcells l).length = _
    rw [List.length_append, ih]
    show 3 + _ = (l.length + 1) * 3
    omega
theorem mcells_snoc (l : List MV) (x : MV) : mcells (l ++ [x]) = mcells l ++ x.cells := by simp [mcells]
structure StdP (S : Set0) : Prop extends StdS S where
  ownP : ∀ f, f ∈ [3, 5, 6, 7, 8, 9, 10, 11, 12, 13, 14, 15, 16, 17, 18, 19, 20, 21, 22, 23, 24, 25, 26, 27, 28, 29, 30, 31, 32, 33, 34, 35, 36, 37, 38, 39, 40, 41, 42, 43, 44, 45, 46, 47, 48, 49, 50, 51, 52, 53, 54, 55, 56, 57, 58, 59, 60, 61, 62, 63, 64, 65, 66, 67, 68, 69, 70, 71, 73, 74, 75, 76, 77, 78, 79, 83] → sums S.exts f = none
  srt : ∃ c n, sums S.exts 72 = some (sortedMG c n 82 81 .i64 3)
  lives : ∀ h : H, Exact S.cfg 4 [] h (.bool true)
variable {S : Set0} (hS : StdP S)
include hS
theorem none_spec {D : PD} {P : PS} {h : H} (r : PR D P h) : Exact S.cfg 45 [.ptr D.b 0] h (bo False) := by
  refine into Tryz.f45 _ Tryz.func45 (hS.ownP _ (by decide)) rfl rfl (by kernel_rfl) (by kernel_rfl) ?_
  have hp := r.pool
  unfold pcells at hp
  simp +contextual (disch := first | simp only [fq]; done | omega | simp only [Knx]; omega) only [fV, reduceLE, reduceLT, reduceLeDiff, ↓reduceIte, reduceEqDiff, reduceAdd, reduceCtorEq, reduceToNat, Tryz.f45, hp]
theorem told_spec {D : PD} {P : PS} {h : H} (r : PR D P h) : callW S.cfg (owns D P) 53 [.ptr D.b 0] h fun v h' => v = .tuple [D.mv, .int .i64 0] ∧ Stp D P h { D with mv := .nilslice } { P with moves := [] } h' ∧ ∀ k, k ≠ D.b → h'.get k = h.get k := by
  refine into Tryz.f53 _ Tryz.func53 (hS.ownP _ (by decide)) rfl rfl (by kernel_rfl) (by kernel_rfl) ?_
  have hp := r.pool
  unfold pcells at hp
  simp +contextual (disch := first | simp only [fq]; done | omega | simp only [Knx]; omega) only [fV, reduceLE, reduceLT, reduceLeDiff, ↓reduceIte, reduceEqDiff, reduceAdd, reduceCtorEq, reduceToNat, Tryz.f53, hp]
  refine ⟨.inr (.inr (.inl rfl)), Stp.set (D' := { D with mv := .nilslice }) (P' := { P with moves := [] }) r (Nat.le_refl _) (fun _ _ _ => rfl) rfl rfl rfl rfl r.wts (.inl (.inl ⟨rfl, rfl⟩)) (fun k o n m q => ?_) (fun k o n m q => by cases q)⟩
  obtain ⟨w1, w2, w3, _⟩ := r.wb k o n m q
  exact ⟨w1, w2, w3, fun o n m q => by cases q⟩
theorem move_spec {D : PD} {P : PS} {h : H} (r : PR D P h) (kd cn cl : Int) (hm : P.moves.length ≤ 1000000) : callW S.cfg (owns D P) 52 [.ptr D.b 0, .int .i64 kd, .int .i64 cn, .int .i64 cl] h fun _ h' => ∃ mv, Stp D P h { D with mv := mv } { P with moves := P.moves ++ [⟨kd, cn, cl⟩] } h' := by
  refine into Tryz.f52 _ Tryz.func52 (hS.ownP _ (by decide)) rfl rfl (by kernel_rfl) (by kernel_rfl) ?_
  have hp := r.pool
  unfold pcells at hp
  simp +contextual (disch := first | simp only [fq]; done | omega | simp only [Knx]; omega) only [fV, reduceLE, reduceLT, reduceLeDiff, ↓reduceIte, reduceEqDiff, reduceAdd, reduceCtorEq, reduceToNat, Tryz.f52, hp]
  obtain ⟨hA, hhA⟩ : ∃ hA, hA = h.push (Ob.cells [V.int IntKind.i64 kd, V.int IntKind.i64 cn, V.int IntKind.i64 cl] 63 false) := ⟨_, rfl⟩
  rw [← hhA]
  have hnA : hA.nx = h.nx + 1 := by rw [hhA]; rfl
  have hxA : Ext h hA := by rw [hhA]; exact (Ext.refl h).push _
  have hgA : hA.get h.nx = some (.cells [.int .i64 kd, .int .i64 cn, .int .i64 cl] 63 false) := by rw [hhA]; exact push_eq rfl
  clear hhA
  have hb1 := r.lt.1
  refine append_fresh (n0 := 0) (sv := D.mv) (cells := mcells P.moves) (new := MV.cells ⟨kd, cn, cl⟩) ?_ (b2 := h.nx) (o2 := 0) (n := 1) (m := 1) ?_ ap33 ⟨.slice 63, by kernel_rfl, rfl⟩ (r.mvs.ext hxA) (by decide) (by rw [hgA]; exact rdC_all rfl) rfl rfl ?_ (by decide) (fun k ⟨o, n, m, q⟩ => by rw [fresh_def]; exact .inr (.inr (.inr (.inr ⟨o, n, m, q⟩)))) (Nat.zero_le _) ?_
  · simp +contextual (disch := first | simp only [fq]; done | omega | simp only [Knx]; omega) only [fV, reduceLE, reduceLT, reduceLeDiff, ↓reduceIte, reduceEqDiff, reduceAdd, reduceCtorEq, reduceToNat]
  · simp +contextual (disch := first | simp only [fq]; done | omega | simp only [Knx]; omega) only [fV, reduceLE, reduceLT, reduceLeDiff, ↓reduceIte, reduceEqDiff, reduceAdd, reduceCtorEq, reduceToNat]
  · rw [mcells_len]; show P.moves.length * 3 + 3 ≤ _; omega
  intro v h4 L ha hx4 hk4 hL
  have hp4 : h4.get D.b = h.get D.b := by rw [hk4 D.b (by omega) fun o n m q => (r.mvb _ _ _ _ q).1 rfl, hxA.2 _ hb1]
  rw [hp] at hp4
  obtain ⟨c1, c2⟩ := ha.cell
  simp +contextual (disch := first | simp only [fq]; done | omega | simp only [Knx]; omega) only [fV, reduceLE, reduceLT, reduceLeDiff, ↓reduceIte, reduceEqDiff, reduceAdd, reduceCtorEq, reduceToNat, Tryz.f52, hp4, c1, c2]
  refine ⟨.inr (.inr (.inl rfl)), v, ?_⟩
  have hs := Stp.set (h4 := h4) (D' := { D with mv := v }) (P' := { P with moves := P.moves ++ [⟨kd, cn, cl⟩] }) r (by omega) (fun k hk q => by rw [hk4 k (by omega) q, hxA.2 k hk]) rfl rfl rfl rfl (r.wts.ext (by omega) fun k o n m q => by rw [hk4 k (by have := r.wts.lt q; omega) (r.wb k o n m q).2.2.2, hxA.2 k (r.wts.lt q)]) (.inl ?_) ?_ ?_
  · exact hs
  · rw [mcells_snoc]
    exact ha.mono (Nat.zero_le _)
  · intro k o n m q
    obtain ⟨w1, w2, w3, _⟩ := r.wb k o n m q
    refine ⟨w1, w2, w3, fun o n m q2 => ?_⟩
    have := (ha.blk q2).1
    have := r.wts.lt q
    omega
  · intro k o n m q
    have := (ha.blk q).1
    refine ⟨⟨by omega, by have := r.lt.2.1; omega, fun c hc => by have := r.lt.2.2 c hc; omega⟩, .inr (by omega)⟩
end
noncomputable section
def nums (P : PS) : List Int := P.conns.map CN.num
def ptrs (l : List CN) : List V := l.map fun c => .ptr c.blk 0
theorem keys_of : ∀ {l : List CN}, (∀ c ∈ l, (Lit.int .i64 c.num).wf = true) → keysI .i64 (centries l) = some (l.map CN.num)
  | [], _ => rfl
  | c :: l, h => by
    have ih := keys_of (l := l) fun c hc => h c (by simp [hc])
    have hc := h c (by simp)
    show (if IntKind.i64 = IntKind.i64 then (bif (Lit.int .i64 c.num).wf then (match keysI .i64 (centries l) with | some r => some (c.num :: r) | none => none) else none) else none) = _
    rw [if_pos rfl, hc, cond_true, ih]
    rfl
theorem sorted_rise {P : PS} (h : (P.conns.map CN.num).Pairwise (· < ·)) : srt (nums P) = nums P := by
  exact (srt_unique (List.Perm.refl _) (h.imp fun q => Int.le_of_lt q)).symm
theorem find_at {l : List CN} (hr : (l.map CN.num).Pairwise (· < ·)) {j : Nat} (hj : j < l.length) : (l.map CN.ie).findIdx? (fun e => e.key == l[j].num) = some j := by
  rw [List.findIdx?_eq_some_iff_getElem]
  refine ⟨by simpa using hj, by simp [CN.ie], fun k hk => ?_⟩
  have hk' : k < l.length := by omega
  have := List.pairwise_iff_getElem.1 hr k j (by simpa using hk') (by simpa using hj) hk
  simp only [List.getElem_map] at this ⊢
  simp [CN.ie]
  omega
theorem lk_hit (z : V) (i : Nat) (v : V) : lkV false z (some (i, v)) = v := rfl
theorem lk_hit2 (z : V) (i : Nat) (v : V) : lkV true z (some (i, v)) = .tuple [v, bo True] := by unfold bo; simp [lkV]
theorem lk_no2 (z : V) : lkV true z none = .tuple [z, bo False] := by unfold bo; simp [lkV]
theorem centries_ie (l : List CN) : centries l = (l.map CN.ie).map IE.me := by
  unfold centries
  rw [List.map_map]
  rfl
theorem find_conn {l : List CN} (hr : (l.map CN.num).Pairwise (· < ·)) {j : Nat} (hj : j < l.length) : findV (.int .i64) (.int .i64 l[j].num) (centries l) 0 = some (some (j, .ptr l[j].blk 0)) := by
  rw [centries_ie, find_int, find_at hr hj]
  simp only [List.getElem?_map, List.getElem?_eq_getElem hj, Option.map_some, Option.getD_some, Nat.zero_add]
  rfl
theorem find_no {l : List CN} {n : Int} (h : ∀ c ∈ l, c.num ≠ n) : findV (.int .i64) (.int .i64 n) (centries l) 0 = some none := by
  rw [centries_ie, find_int]
  have : (l.map CN.ie).findIdx? (fun e => e.key == n) = none := by
    rw [List.findIdx?_eq_none_iff]
    intro x hx
    obtain ⟨c, hc, rfl⟩ := List.mem_map.1 hx
    have := h c hc
    simpa [CN.ie] using this
  rw [this]
theorem Lst.mono' {n0 n1 e sz : Nat} {h : H} {v : V} {cells : List V} (hl : Lst n0 h v cells e sz) (hn : n1 ≤ n0) : Lst n1 h v cells e sz := by
  rcases hl with ha | ⟨h1, k, h2, h3, h4, h5⟩
  · exact .inl (ha.mono hn)
  · exact .inr ⟨h1, k, Nat.le_trans hn h2, h3, h4, h5⟩
theorem distinct_of : ∀ {l : List Int}, l.Nodup → Lx.distinct l = true
  | [], _ => rfl
  | x :: l, h => by
    rw [List.nodup_cons] at h
    unfold Lx.distinct
    rw [Bool.and_eq_true]
    refine ⟨List.all_eq_true.2 fun y hy => ?_, distinct_of h.2⟩
    have : x ≠ y := fun e => h.1 (e ▸ hy)
    simp [this]
theorem nodup_int {l : List Nat} (h : l.Nodup) : (l.map fun n : Nat => (n : Int)).Nodup := by
  induction l with
  | nil => exact List.nodup_nil
  | cons a l ih =>
    rw [List.nodup_cons] at h
    rw [List.map_cons, List.nodup_cons]
    refine ⟨fun q => ?_, ih h.2⟩
    obtain ⟨b, hb, e⟩ := List.mem_map.1 q
    have : b = a := by omega
    exact h.1 (this ▸ hb)
theorem nice_sorted (c : Cfg) (n : Nat) (vs : List V) : Nice (sortedMG c n 82 81 .i64 3 vs) := by
  unfold sortedMG
  split
  · refine Nice.cond (Nice.bnd (Nice.ld _ _ _) fun cs => ?_) (Nice.err _)
    unfold sortedBoxG
    split
    · refine Nice.bnd (Nice.getO _) fun ob => ?_
      unfold sortedMapG
      split
      · refine Nice.bnd (Nice.opt _ _) fun ts => ?_
        unfold sortedTail
        split
        · exact Nice.ret _
        · exact Nice.bnd (Nice.alloc _) fun _ => Nice.ret _
      · exact Nice.err _
    · exact Nice.err _
  · exact Nice.err _
theorem PR.good {D : PD} {P : PS} {h : H} (r : PR D P h) : keysGood (centries P.conns) D.ck (nums P) = true := by
  unfold keysGood nums
  have h1 : Nat.ble (P.conns.map CN.num).length 1000 = true := by rw [List.length_map]; exact ble_iff.2 r.few
  have h2 : ((centries P.conns).all fun x => Nat.blt x.born D.ck) = true := by
    refine List.all_eq_true.2 fun x hx => ?_
    obtain ⟨c, hc, rfl⟩ := List.mem_map.1 hx
    exact blt_iff.2 (r.stamps c hc)
  have h3 : Lx.distinct ((centries P.conns).map fun x => (x.born : Int)) = true := by
    have e : ((centries P.conns).map fun x => (x.born : Int)) = (P.conns.map CN.born).map fun n : Nat => (n : Int) := by
      unfold centries
      rw [List.map_map, List.map_map]
      rfl
    rw [e]
    exact distinct_of (nodup_int r.apart)
  have h4 : Lx.distinct (P.conns.map CN.num) = true := distinct_of (r.rise.imp fun q => by omega)
  rw [h1, h2, h3, h4]
  rfl
def SdI (D : PD) (P : PS) (h : H) (kv : V) (m : Nat) (env : Env) (h' : H) : Prop :=
  ∃ (j : Nat) (ov : V), m = P.conns.length - j ∧ j ≤ P.conns.length ∧ env 0 = .ptr D.b 0 ∧ env 3 = ov ∧ env 11 = kv ∧ env 12 = .int .i64 P.conns.length ∧ env 13 = .int .i64 j ∧ Ext h h' ∧ Lst h.nx h' kv ((nums P).map (V.int .i64)) 3 1 ∧ Lst h.nx h' ov (ptrs (P.conns.take j)) 68 1 ∧ (∀ k o n m o' n' m', kv = .slice k o n m → ov ≠ .slice k o' n' m')
theorem lst_lenV {n0 e k : Nat} {h : H} {sv : V} {α : Type} {l : List α} {f : α → V} (hL : Lst n0 h sv (l.map f) k 1) : lenO (some (.slice e)) sv = some (.int .i64 l.length) := by
  rcases hL with (⟨rfl, hw⟩ | ⟨b, n, _, _, rfl, _, _, hk⟩) | ⟨hw, b, _, _, rfl, _⟩
  · rw [List.map_eq_nil_iff.1 hw]; rfl
  · rw [List.length_map, Nat.mul_one] at hk; rw [hk]; rfl
  · rw [List.map_eq_nil_iff.1 hw]; rfl
theorem lst_rowV {n0 k : Nat} {h : H} {sv : V} {α : Type} {l : List α} {f : α → V} (hL : Lst n0 h sv (l.map f) k 1) (h0 : 0 < l.length) : ∃ b, sv = .slice b 0 l.length l.length ∧ n0 ≤ b ∧ b < h.nx ∧ h.get b = some (.cells (l.map f) k true) := by
  rcases hL with (⟨rfl, hw⟩ | ⟨b, n, h1, h2, rfl, _, h3, hk⟩) | ⟨hw, b, _, _, rfl, _⟩
  · rw [List.map_eq_nil_iff.1 hw] at h0; cases h0
  · rw [List.length_map, Nat.mul_one] at hk; subst hk; exact ⟨b, rfl, h1, h2, h3⟩
  · rw [List.map_eq_nil_iff.1 hw] at h0; cases h0
variable {S : Set0} (hS : StdP S)
include hS
theorem keys_spec (mb : Nat) (h : H) : callW S.cfg nil1 73 [.map mb] h fun v h' => v = .func 82 [] [.ptr h.nx 0] ∧ h' = h.push (.cells [.map mb] 53 false) := by
  refine into Tryz.f73 _ Tryz.func73 (hS.ownP _ (by decide)) rfl rfl (by kernel_rfl) (by kernel_rfl) ?_
  simp +contextual (disch := first | simp only [fq]; done | omega | simp only [Knx]; omega) only [fV, reduceLE, reduceLT, reduceLeDiff, ↓reduceIte, reduceEqDiff, reduceAdd, reduceCtorEq, reduceToNat, Tryz.f73]
theorem srt_spec {D : PD} {P : PS} {h : H} (r : PR D P h) (b : Nat) (hb : h.get b = some (.cells [.map D.mb] 53 false)) : Pure S.cfg 72 [.func 82 [] [.ptr b 0]] h fun v h' => Lst h.nx h' v ((nums P).map (V.int .i64)) 3 1 := by
  obtain ⟨c, n, hs⟩ := hS.srt
  have hk := keys_of r.wf
  have hg := r.good
  have hso := sorted_rise r.rise
  have hmb : h.get D.mb = some (.map (centries P.conns) D.ck) := r.map
  have e1 : sortedMG c n 82 81 .i64 3 [.func 82 [] [.ptr b 0]] = Lx.bnd (ld b 0 1) (sortedBoxG c n 81 .i64 3) := rfl
  have e2 : sortedEsG c n 81 .i64 3 (centries P.conns) D.ck = some (nums P) := by
    unfold sortedEsG
    rw [hk]
    show (bif keysGood (centries P.conns) D.ck (nums P) then some (srt (nums P)) else none) = _
    rw [hg, cond_true, hso]
  have hb' : h.heap.get b = some (.cells [.map D.mb] 53 false) := hb
  have hmb' : h.heap.get D.mb = some (.map (centries P.conns) D.ck) := hmb
  have e3 : sortedMG c n 82 81 .i64 3 [.func 82 [] [.ptr b 0]] h.st = sortedTail .i64 3 (nums P) ⟨h.heap, h.nx, [.rdd D.mb, .rd b 0 1]⟩ := by
    rw [e1]
    have g1 : ld b 0 1 h.st = .ok [.map D.mb] ⟨h.heap, h.nx, [.rd b 0 1]⟩ := by
      unfold ld H.st
      simp only [hb']
      rfl
    rw [bnd_eq g1]
    show Lx.bnd (getO D.mb) (sortedMapG c n 56 .i64 3) _ = _
    have g2 : getO D.mb ⟨h.heap, h.nx, [.rd b 0 1]⟩ = .ok (.map (centries P.conns) D.ck) ⟨h.heap, h.nx, [.rdd D.mb, .rd b 0 1]⟩ := by
      unfold getO
      simp only [hmb']
      rfl
    rw [bnd_eq g2]
    show Lx.bnd (Lx.opt (sortedEsG c n 81 .i64 3 (centries P.conns) D.ck) "sorted") (sortedTail .i64 3) _ = _
    rw [e2]
    rfl
  cases hN : nums P with
  | nil =>
    refine callW_sum (s := ⟨h.heap, h.nx, [.rdd D.mb, .rd b 0 1]⟩) (v := .nilslice) hs (nice_sorted c n _) (by rw [e3, hN]; rfl) ?_ ⟨Ext.refl h, .inl (.inl ⟨rfl, rfl⟩)⟩
    intro e he hw
    simp only [List.mem_cons, List.not_mem_nil, or_false] at he
    rcases he with rfl | rfl <;> cases hw
  | cons x xs =>
    refine callW_sum (s := ⟨(h.push (.cells ((x :: xs).map (V.int .i64)) 3 true)).heap, h.nx + 1, [.wrd h.nx, .rdd D.mb, .rd b 0 1]⟩) (v := .slice h.nx 0 (x :: xs).length (x :: xs).length) hs (nice_sorted c n _) (by rw [e3, hN]; rfl) ?_ ⟨show Ext h (h.push _) from (Ext.refl h).push _, ?_⟩
    · intro e he hw
      simp only [List.mem_cons, List.not_mem_nil, or_false] at he
      rcases he with rfl | rfl | rfl
      · exact .inl (Nat.le_refl _)
      · cases hw
      · cases hw
    · refine .inl (.inr ⟨h.nx, (x :: xs).length, Nat.le_refl _, Nat.lt_succ_self _, rfl, Nat.succ_pos _, push_eq (o := .cells ((x :: xs).map (V.int .i64)) 3 true) rfl, by simp⟩)
theorem sorted_spec {D : PD} {P : PS} {h : H} (r : PR D P h) : Pure S.cfg 46 [.ptr D.b 0] h fun v h' => Lst h.nx h' v (ptrs P.conns) 68 1 := by
  refine into Tryz.f46 _ Tryz.func46 (hS.ownP _ (by decide)) rfl rfl (by kernel_rfl) (by kernel_rfl) ?_
  have hp := r.pool
  unfold pcells at hp
  simp +contextual (disch := first | simp only [fq]; done | omega | simp only [Knx]; omega) only [fV, reduceLE, reduceLT, reduceLeDiff, ↓reduceIte, reduceEqDiff, reduceAdd, reduceCtorEq, reduceToNat, Tryz.f46, hp]
  refine callF_of (keys_spec hS D.mb h) (fun _ q => q.elim) ?_
  rintro v h1 ⟨rfl, hh1⟩
  have hx1 : Ext h h1 := by rw [hh1]; exact (Ext.refl h).push _
  have hg1 : h1.get h.nx = some (.cells [.map D.mb] 53 false) := by rw [hh1]; exact push_eq rfl
  clear hh1
  simp +contextual (disch := first | simp only [fq]; done | omega | simp only [Knx]; omega) only [fV, reduceLE, reduceLT, reduceLeDiff, ↓reduceIte, reduceEqDiff, reduceAdd, reduceCtorEq, reduceToNat, Tryz.f46]
  refine callF_pure (srt_spec hS (r.ext hx1) h.nx hg1) ?_
  intro kv h2 hx2 hL2
  have hx02 := hx1.trans hx2
  have hlen := lst_lenV (e := 3) hL2
  have hnl : (nums P).length = P.conns.length := List.length_map ..
  rw [hnl] at hlen
  simp +contextual (disch := first | simp only [fq]; done | omega | simp only [Knx]; omega) only [fV, reduceLE, reduceLT, reduceLeDiff, ↓reduceIte, reduceEqDiff, reduceAdd, reduceCtorEq, reduceToNat, Tryz.f46, hlen]
  refine run_loop (SdI D P h kv) P.conns.length ⟨0, .nilslice, by simp +contextual (disch := first | simp only [fq]; done | omega | simp only [Knx]; omega) only [fV, reduceLE, reduceLT, reduceLeDiff, ↓reduceIte, reduceEqDiff, reduceAdd, reduceCtorEq, reduceToNat]; exact ⟨(Nat.sub_zero _).symm, hx02, Lst.mono' hL2 hx1.1, .inl (.inl ⟨rfl, rfl⟩), fun _ _ _ _ _ _ _ _ q => by cases q⟩⟩ ?_
  rintro m env h3 ⟨j, ov, rfl, hj, e0, e3, e11, e12, e13, hx3, hLk, hLo, hne⟩
  have hp3 := (r.ext hx3).pool
  unfold pcells at hp3
  by_cases hlt : j < P.conns.length
  · obtain ⟨kb, rfl, kb0, kb1, hkb⟩ := lst_rowV hLk (by rw [hnl]; omega)
    have hjn : j < (nums P).length := by rw [hnl]; exact hlt
    have c1 : ((nums P).map (V.int .i64))[j]? = some (.int .i64 P.conns[j].num) := by
      show ((P.conns.map CN.num).map (V.int .i64))[j]? = _
      rw [List.getElem?_map, List.getElem?_map, List.getElem?_eq_getElem hlt]
      rfl
    have hjn' : j < (nums P).length := hjn
    simp +contextual (disch := first | simp only [fq]; done | omega | simp only [Knx]; omega) only [fV, reduceLE, reduceLT, reduceLeDiff, ↓reduceIte, reduceEqDiff, reduceAdd, reduceCtorEq, reduceToNat, Tryz.f46, e0, e3, e11, e12, e13, hlt, hjn', hkb, c1, hp3]
    refine lookup_by (d := .int .i64) (z := .nilptr) (r := D.mb) rfl rfl (by kernel_rfl) rfl (by have := (r.ext hx3).map; exact this) (find_conn r.rise hlt) ?_
    simp +contextual (disch := first | simp only [fq]; done | omega | simp only [Knx]; omega) only [fV, reduceLE, reduceLT, reduceLeDiff, ↓reduceIte, reduceEqDiff, reduceAdd, reduceCtorEq, reduceToNat, Tryz.f46, e0, e3, e11, e12, e13, hlt, lk_hit]
    obtain ⟨hA, hhA⟩ : ∃ hA, hA = h3.push (Ob.cells [V.ptr P.conns[j].blk 0] 68 false) := ⟨_, rfl⟩
    rw [← hhA]
    have hnA : hA.nx = h3.nx + 1 := by rw [hhA]; rfl
    have hxA : Ext h3 hA := by rw [hhA]; exact (Ext.refl h3).push _
    have hgA : hA.get h3.nx = some (.cells [V.ptr P.conns[j].blk 0] 68 false) := by rw [hhA]; exact push_eq rfl
    clear hhA
    have hf := r.few
    refine append_fresh (n0 := h.nx) (sv := ov) (cells := ptrs (P.conns.take j)) (new := [.ptr P.conns[j].blk 0]) ?_ (b2 := h3.nx) (o2 := 0) (n := 1) (m := 1) ?_ ap66 ⟨.slice 68, by kernel_rfl, rfl⟩ (hLo.ext hxA) (by decide) (by rw [hgA]; exact rdC_all rfl) rfl rfl ?_ (by decide) (fun k ⟨o, n, m, q⟩ => by
      rw [fresh_def]
      refine .inl ?_
      rcases hLo with (⟨q1, _⟩ | ⟨b1, n1, q1, _, q2, _⟩) | ⟨_, b1, q1, _, q2, _⟩
      · rw [q1] at q; cases q
      · rw [q2] at q; cases q; exact q1
      · rw [q2] at q; cases q; exact q1) (by have := hx3.1; omega) ?_
    · simp +contextual (disch := first | simp only [fq]; done | omega | simp only [Knx]; omega) only [fV, reduceLE, reduceLT, reduceLeDiff, ↓reduceIte, reduceEqDiff, reduceAdd, reduceCtorEq, reduceToNat, e3]
    · simp +contextual (disch := first | simp only [fq]; done | omega | simp only [Knx]; omega) only [fV, reduceLE, reduceLT, reduceLeDiff, ↓reduceIte, reduceEqDiff, reduceAdd, reduceCtorEq, reduceToNat]
    · unfold ptrs; rw [List.length_map, List.length_take]; simp only [List.length_cons, List.length_nil]; omega
    intro v4 h4 L ha hx4 hk4 hL
    have hwj : IntKind.i64.wrap ((j : Int) + 1) = ((j + 1 : Nat) : Int) := by rw [i64_in _ (by omega)]; omega
    have hkv : hA.nx ≤ h4.nx := hx4
    simp +contextual (disch := first | simp only [fq]; done | omega | simp only [Knx]; omega) only [fV, reduceLE, reduceLT, reduceLeDiff, ↓reduceIte, reduceEqDiff, reduceAdd, reduceCtorEq, reduceToNat, Tryz.f46, e0, e3, e11, e12, e13]
    have hov : ∀ k, k < h.nx → ∀ o n m, ov ≠ .slice k o n m := fun k hk o n m q => by
      rcases hLo with (⟨q1, _⟩ | ⟨b1, n1, q1, _, q2, _⟩) | ⟨_, b1, q1, _, q2, _⟩
      · rw [q1] at q; cases q
      · rw [q2] at q; cases q; omega
      · rw [q2] at q; cases q; omega
    have hx3n := hx3.1
    refine ⟨P.conns.length - (j + 1), by omega, j + 1, v4, rfl, hlt, e0, rfl, e11, e12, by simp +contextual (disch := first | simp only [fq]; done | omega | simp only [Knx]; omega) only [fV, reduceLE, reduceLT, reduceLeDiff, ↓reduceIte, reduceEqDiff, reduceAdd, reduceCtorEq, reduceToNat, e13, hwj], ⟨by omega, fun k hk => by rw [hk4 k (by omega) (hov k hk), hxA.2 k (by omega), hx3.2 k hk]⟩, .inl (.inr ⟨kb, (nums P).length, kb0, by omega, rfl, by omega, by rw [hk4 kb (by omega) (fun o n m => hne kb 0 _ _ o n m rfl), hxA.2 kb kb1]; exact hkb, by simp⟩), .inl ?_, fun k o n m o' n' m' q q2 => ?_⟩
    · have e : ptrs (P.conns.take (j + 1)) = ptrs (P.conns.take j) ++ [.ptr P.conns[j].blk 0] := by
        unfold ptrs
        rw [List.take_succ_eq_append_getElem hlt, List.map_append]
        rfl
      rw [e]
      exact ha.mono (by omega)
    · cases q
      have := (ha.blk q2).1
      omega
  · have hje : j = P.conns.length := by omega
    subst hje
    rw [List.take_length] at hLo
    simp +contextual (disch := first | simp only [fq]; done | omega | simp only [Knx]; omega) only [fV, reduceLE, reduceLT, reduceLeDiff, ↓reduceIte, reduceEqDiff, reduceAdd, reduceCtorEq, reduceToNat, Tryz.f46, e0, e3, e11, e12, e13, hlt]
    exact ⟨hx3, hLo⟩
end
noncomputable section
def cnV : Option CN → V
  | some c => .ptr c.blk 0
  | none => .nilptr
def betterP (c : CN) : Option CN → Prop
  | none => c.st = 4
  | some b => c.st = 4 ∧ c.since < b.since
noncomputable instance (c : CN) (o : Option CN) : Decidable (betterP c o) := Classical.propDecidable _
def longR : List CN → Option CN → Option CN
  | [], b => b
  | c :: l, b => longR l (if betterP c b then some c else b)
def longF (P : PS) : Option CN := longR P.conns none
def choseR (cl : Int) : List CN → Option CN
  | [] => none
  | c :: l => if c.st = 4 ∧ c.cl = cl then some c else choseR cl l
def choseF (P : PS) (cl : Int) : Option CN := match choseR cl P.conns with
  | some c => some c
  | none => longF P
def LgI (D : PD) (P : PS) (h1 : H) (lv : V) (m : Nat) (env : Env) (h' : H) : Prop :=
  ∃ (j : Nat) (b : Option CN), m = P.conns.length - j ∧ j ≤ P.conns.length ∧ env 0 = .ptr D.b 0 ∧ env 3 = cnV b ∧ env 7 = lv ∧ env 8 = .int .i64 P.conns.length ∧ env 9 = .int .i64 j ∧ h' = h1 ∧ (∀ c, b = some c → c ∈ P.conns) ∧ longR (P.conns.drop j) b = longF P
def ChI (D : PD) (P : PS) (cl : Int) (h1 : H) (lv : V) (m : Nat) (env : Env) (h' : H) : Prop :=
  ∃ (j : Nat), m = P.conns.length - j ∧ j ≤ P.conns.length ∧ env 0 = .ptr D.b 0 ∧ env 1 = .int .i64 cl ∧ env 8 = lv ∧ env 9 = .int .i64 P.conns.length ∧ env 10 = .int .i64 j ∧ h' = h1 ∧ choseR cl (P.conns.drop j) = choseR cl P.conns
variable {S : Set0} (hS : StdP S)
include hS
theorem longest_spec {D : PD} {P : PS} {h : H} (r : PR D P h) : Pure S.cfg 60 [.ptr D.b 0] h fun v _ => v = cnV (longF P) := by
  refine into Tryz.f60 _ Tryz.func60 (hS.ownP _ (by decide)) rfl rfl (by kernel_rfl) (by kernel_rfl) ?_
  simp +contextual (disch := first | simp only [fq]; done | omega | simp only [Knx]; omega) only [fV, reduceLE, reduceLT, reduceLeDiff, ↓reduceIte, reduceEqDiff, reduceAdd, reduceCtorEq, reduceToNat, Tryz.f60]
  refine callF_pure (sorted_spec hS r) ?_
  intro lv h1 hx1 hL
  have hlen := lst_lenV (e := 68) hL
  have hf := r.few
  have r1 := r.ext hx1
  simp +contextual (disch := first | simp only [fq]; done | omega | simp only [Knx]; omega) only [fV, reduceLE, reduceLT, reduceLeDiff, ↓reduceIte, reduceEqDiff, reduceAdd, reduceCtorEq, reduceToNat, Tryz.f60, hlen]
  refine run_loop (LgI D P h1 lv) P.conns.length ⟨0, none, by simp +contextual (disch := first | simp only [fq]; done | omega | simp only [Knx]; omega) only [fV, reduceLE, reduceLT, reduceLeDiff, ↓reduceIte, reduceEqDiff, reduceAdd, reduceCtorEq, reduceToNat]; exact ⟨(Nat.sub_zero _).symm, rfl, rfl⟩⟩ ?_
  rintro m env h2 ⟨j, b, rfl, hj, e0, e3, e7, e8, e9, rfl, hbm, hlo⟩
  by_cases hlt : j < P.conns.length
  · obtain ⟨kb, rfl, kb0, kb1, hkb⟩ := lst_rowV hL (by omega)
    have hd : P.conns.drop j = P.conns[j] :: P.conns.drop (j + 1) := List.drop_eq_getElem_cons hlt
    rw [hd, longR] at hlo
    have hmem : P.conns[j] ∈ P.conns := List.getElem_mem hlt
    have c1 : (ptrs P.conns)[j]? = some (.ptr P.conns[j].blk 0) := by unfold ptrs; rw [List.getElem?_map, List.getElem?_eq_getElem hlt]; rfl
    have hkb' : h2.get kb = some (.cells (ptrs P.conns) 68 true) := hkb
    have g1 := r1.conn _ hmem
    unfold CN.cells at g1
    have hwj : IntKind.i64.wrap ((j : Int) + 1) = ((j + 1 : Nat) : Int) := by rw [i64_in _ (by omega)]; omega
    have nxt : ∀ (env' : Env) (b' : Option CN), env' 0 = .ptr D.b 0 → env' 3 = cnV b' → env' 7 = .slice kb 0 P.conns.length P.conns.length → env' 8 = .int .i64 P.conns.length → env' 9 = .int .i64 (j + 1 : Nat) → (∀ c, b' = some c → c ∈ P.conns) → longR (P.conns.drop (j + 1)) b' = longF P → ∃ m', m' < P.conns.length - j ∧ LgI D P h2 (.slice kb 0 P.conns.length P.conns.length) m' env' h2 := fun env' b' q0 q3 q7 q8 q9 q q' => ⟨P.conns.length - (j + 1), by omega, j + 1, b', rfl, hlt, q0, q3, q7, q8, q9, rfl, q, q'⟩
    by_cases hs : P.conns[j].st = 4
    · cases b with
      | none =>
        have e3' : env 3 = .nilptr := e3
        rw [if_pos (show betterP P.conns[j] none from hs)] at hlo
        simp +contextual (disch := first | simp only [fq]; done | omega | simp only [Knx]; omega) only [fV, reduceLE, reduceLT, reduceLeDiff, ↓reduceIte, reduceEqDiff, reduceAdd, reduceCtorEq, reduceToNat, Tryz.f60, e0, e3', e7, e8, e9, hlt, hkb', c1, g1, hs]
        refine draw_by [] (by kernel_rfl) ?_
        simp +contextual (disch := first | simp only [fq]; done | omega | simp only [Knx]; omega) only [fV, reduceLE, reduceLT, reduceLeDiff, ↓reduceIte, reduceEqDiff, reduceAdd, reduceCtorEq, reduceToNat, Tryz.f60, e0, e3', e7, e8, e9, hlt, hkb', c1, g1, hs]
        refine ⟨fun p hp => by (cases hp), nxt _ (some P.conns[j]) (e0) (by simp +contextual (disch := first | simp only [fq]; done | omega | simp only [Knx]; omega) only [fV, reduceLE, reduceLT, reduceLeDiff, ↓reduceIte, reduceEqDiff, reduceAdd, reduceCtorEq, reduceToNat]; rfl) (e7) (e8) (by simp +contextual (disch := first | simp only [fq]; done | omega | simp only [Knx]; omega) only [fV, reduceLE, reduceLT, reduceLeDiff, ↓reduceIte, reduceEqDiff, reduceAdd, reduceCtorEq, reduceToNat, e9, hwj]) (fun c q => by cases q; exact hmem) hlo⟩
      | some bc =>
        have e3' : env 3 = .ptr bc.blk 0 := e3
        have g2 := r1.conn _ (hbm bc rfl)
        unfold CN.cells at g2
        by_cases hlt2 : P.conns[j].since < bc.since
        · rw [if_pos (show betterP P.conns[j] (some bc) from ⟨hs, hlt2⟩)] at hlo
          simp +contextual (disch := first | simp only [fq]; done | omega | simp only [Knx]; omega) only [fV, reduceLE, reduceLT, reduceLeDiff, ↓reduceIte, reduceEqDiff, reduceAdd, reduceCtorEq, reduceToNat, Tryz.f60, e0, e3', e7, e8, e9, hlt, hkb', c1, g1, g2, hs, hlt2]
          refine draw_by [] (by kernel_rfl) ?_
          simp +contextual (disch := first | simp only [fq]; done | omega | simp only [Knx]; omega) only [fV, reduceLE, reduceLT, reduceLeDiff, ↓reduceIte, reduceEqDiff, reduceAdd, reduceCtorEq, reduceToNat, Tryz.f60, e0, e3', e7, e8, e9, hlt, hkb', c1, g1, g2, hs, hlt2]
          refine ⟨fun p hp => by (cases hp), nxt _ (some P.conns[j]) (e0) (by simp +contextual (disch := first | simp only [fq]; done | omega | simp only [Knx]; omega) only [fV, reduceLE, reduceLT, reduceLeDiff, ↓reduceIte, reduceEqDiff, reduceAdd, reduceCtorEq, reduceToNat]; rfl) (e7) (e8) (by simp +contextual (disch := first | simp only [fq]; done | omega | simp only [Knx]; omega) only [fV, reduceLE, reduceLT, reduceLeDiff, ↓reduceIte, reduceEqDiff, reduceAdd, reduceCtorEq, reduceToNat, e9, hwj]) (fun c q => by cases q; exact hmem) hlo⟩
        · rw [if_neg (show ¬ betterP P.conns[j] (some bc) from fun q => hlt2 q.2)] at hlo
          simp +contextual (disch := first | simp only [fq]; done | omega | simp only [Knx]; omega) only [fV, reduceLE, reduceLT, reduceLeDiff, ↓reduceIte, reduceEqDiff, reduceAdd, reduceCtorEq, reduceToNat, Tryz.f60, e0, e3', e7, e8, e9, hlt, hkb', c1, g1, g2, hs, hlt2]
          refine draw_by [] (by kernel_rfl) ?_
          simp +contextual (disch := first | simp only [fq]; done | omega | simp only [Knx]; omega) only [fV, reduceLE, reduceLT, reduceLeDiff, ↓reduceIte, reduceEqDiff, reduceAdd, reduceCtorEq, reduceToNat, Tryz.f60, e0, e3', e7, e8, e9, hlt, hkb', c1, g1, g2, hs, hlt2]
          refine ⟨fun p hp => by (cases hp), nxt _ (some bc) (e0) (by simp +contextual (disch := first | simp only [fq]; done | omega | simp only [Knx]; omega) only [fV, reduceLE, reduceLT, reduceLeDiff, ↓reduceIte, reduceEqDiff, reduceAdd, reduceCtorEq, reduceToNat, e3']; rfl) (e7) (e8) (by simp +contextual (disch := first | simp only [fq]; done | omega | simp only [Knx]; omega) only [fV, reduceLE, reduceLT, reduceLeDiff, ↓reduceIte, reduceEqDiff, reduceAdd, reduceCtorEq, reduceToNat, e9, hwj]) hbm hlo⟩
    · rw [if_neg (show ¬ betterP P.conns[j] b from fun q => by cases b with | none => exact hs q | some bc => exact hs q.1)] at hlo
      simp +contextual (disch := first | simp only [fq]; done | omega | simp only [Knx]; omega) only [fV, reduceLE, reduceLT, reduceLeDiff, ↓reduceIte, reduceEqDiff, reduceAdd, reduceCtorEq, reduceToNat, Tryz.f60, e0, e3, e7, e8, e9, hlt, hkb', c1, g1, hs]
      refine draw_by [] (by kernel_rfl) ?_
      simp +contextual (disch := first | simp only [fq]; done | omega | simp only [Knx]; omega) only [fV, reduceLE, reduceLT, reduceLeDiff, ↓reduceIte, reduceEqDiff, reduceAdd, reduceCtorEq, reduceToNat, Tryz.f60, e0, e3, e7, e8, e9, hlt, hkb', c1, g1, hs]
      refine ⟨fun p hp => by (cases hp), nxt _ b (e0) (e3) (e7) (e8) (by simp +contextual (disch := first | simp only [fq]; done | omega | simp only [Knx]; omega) only [fV, reduceLE, reduceLT, reduceLeDiff, ↓reduceIte, reduceEqDiff, reduceAdd, reduceCtorEq, reduceToNat, e9, hwj]) hbm hlo⟩
  · have hje : j = P.conns.length := by omega
    subst hje
    rw [List.drop_length] at hlo
    simp +contextual (disch := first | simp only [fq]; done | omega | simp only [Knx]; omega) only [fV, reduceLE, reduceLT, reduceLeDiff, ↓reduceIte, reduceEqDiff, reduceAdd, reduceCtorEq, reduceToNat, Tryz.f60, e0, e3, e7, e8, e9, hlt]
    exact ⟨hx1, by rw [← hlo]; rfl⟩
theorem chosen_spec {D : PD} {P : PS} {h : H} (r : PR D P h) (cl : Int) : Pure S.cfg 78 [.ptr D.b 0, .int .i64 cl] h fun v _ => v = cnV (choseF P cl) := by
  refine into Tryz.f78 _ Tryz.func78 (hS.ownP _ (by decide)) rfl rfl (by kernel_rfl) (by kernel_rfl) ?_
  simp +contextual (disch := first | simp only [fq]; done | omega | simp only [Knx]; omega) only [fV, reduceLE, reduceLT, reduceLeDiff, ↓reduceIte, reduceEqDiff, reduceAdd, reduceCtorEq, reduceToNat, Tryz.f78]
  refine callF_pure (sorted_spec hS r) ?_
  intro lv h1 hx1 hL
  have hlen := lst_lenV (e := 68) hL
  have hf := r.few
  have r1 := r.ext hx1
  simp +contextual (disch := first | simp only [fq]; done | omega | simp only [Knx]; omega) only [fV, reduceLE, reduceLT, reduceLeDiff, ↓reduceIte, reduceEqDiff, reduceAdd, reduceCtorEq, reduceToNat, Tryz.f78, hlen]
  refine run_loop (ChI D P cl h1 lv) P.conns.length ⟨0, by simp +contextual (disch := first | simp only [fq]; done | omega | simp only [Knx]; omega) only [fV, reduceLE, reduceLT, reduceLeDiff, ↓reduceIte, reduceEqDiff, reduceAdd, reduceCtorEq, reduceToNat]; exact (Nat.sub_zero _).symm⟩ ?_
  rintro m env h2 ⟨j, rfl, hj, e0, e1, e8, e9, e10, rfl, hch⟩
  by_cases hlt : j < P.conns.length
  · obtain ⟨kb, rfl, kb0, kb1, hkb⟩ := lst_rowV hL (by omega)
    have hd : P.conns.drop j = P.conns[j] :: P.conns.drop (j + 1) := List.drop_eq_getElem_cons hlt
    rw [hd, choseR] at hch
    have hmem : P.conns[j] ∈ P.conns := List.getElem_mem hlt
    have c1 : (ptrs P.conns)[j]? = some (.ptr P.conns[j].blk 0) := by unfold ptrs; rw [List.getElem?_map, List.getElem?_eq_getElem hlt]; rfl
    have hkb' : h2.get kb = some (.cells (ptrs P.conns) 68 true) := hkb
    have g1 := r1.conn _ hmem
    unfold CN.cells at g1
    have hwj : IntKind.i64.wrap ((j : Int) + 1) = ((j + 1 : Nat) : Int) := by rw [i64_in _ (by omega)]; omega
    have nxt : ∀ (env' : Env), env' 0 = .ptr D.b 0 → env' 1 = .int .i64 cl → env' 8 = .slice kb 0 P.conns.length P.conns.length → env' 9 = .int .i64 P.conns.length → env' 10 = .int .i64 (j + 1 : Nat) → choseR cl (P.conns.drop (j + 1)) = choseR cl P.conns → ∃ m', m' < P.conns.length - j ∧ ChI D P cl h2 (.slice kb 0 P.conns.length P.conns.length) m' env' h2 := fun env' q0 q1 q8 q9 q10 q' => ⟨P.conns.length - (j + 1), by omega, j + 1, rfl, hlt, q0, q1, q8, q9, q10, rfl, q'⟩
    by_cases hs : P.conns[j].st = 4
    · by_cases hc : P.conns[j].cl = cl
      · rw [if_pos ⟨hs, hc⟩] at hch
        simp +contextual (disch := first | simp only [fq]; done | omega | simp only [Knx]; omega) only [fV, reduceLE, reduceLT, reduceLeDiff, ↓reduceIte, reduceEqDiff, reduceAdd, reduceCtorEq, reduceToNat, Tryz.f78, e0, e1, e8, e9, e10, hlt, hkb', c1, g1, hs, hc]
        refine ⟨hx1, ?_⟩
        unfold choseF
        rw [← hch]
        rfl
      · rw [if_neg (fun q => hc q.2)] at hch
        simp +contextual (disch := first | simp only [fq]; done | omega | simp only [Knx]; omega) only [fV, reduceLE, reduceLT, reduceLeDiff, ↓reduceIte, reduceEqDiff, reduceAdd, reduceCtorEq, reduceToNat, Tryz.f78, e0, e1, e8, e9, e10, hlt, hkb', c1, g1, hs, hc]
        exact nxt _ (e0) (e1) (e8) (e9) (by simp +contextual (disch := first | simp only [fq]; done | omega | simp only [Knx]; omega) only [fV, reduceLE, reduceLT, reduceLeDiff, ↓reduceIte, reduceEqDiff, reduceAdd, reduceCtorEq, reduceToNat, e10, hwj]) hch
    · rw [if_neg (fun q => hs q.1)] at hch
      simp +contextual (disch := first | simp only [fq]; done | omega | simp only [Knx]; omega) only [fV, reduceLE, reduceLT, reduceLeDiff, ↓reduceIte, reduceEqDiff, reduceAdd, reduceCtorEq, reduceToNat, Tryz.f78, e0, e1, e8, e9, e10, hlt, hkb', c1, g1, hs]
      exact nxt _ (e0) (e1) (e8) (e9) (by simp +contextual (disch := first | simp only [fq]; done | omega | simp only [Knx]; omega) only [fV, reduceLE, reduceLT, reduceLeDiff, ↓reduceIte, reduceEqDiff, reduceAdd, reduceCtorEq, reduceToNat, e10, hwj]) hch
  · have hje : j = P.conns.length := by omega
    subst hje
    rw [List.drop_length] at hch
    simp +contextual (disch := first | simp only [fq]; done | omega | simp only [Knx]; omega) only [fV, reduceLE, reduceLT, reduceLeDiff, ↓reduceIte, reduceEqDiff, reduceAdd, reduceCtorEq, reduceToNat, Tryz.f78, e0, e1, e8, e9, e10, hlt]
    refine callF_pure (longest_spec hS r1) ?_
    rintro v h3 hx3 rfl
    simp +contextual (disch := first | simp only [fq]; done | omega | simp only [Knx]; omega) only [fV, reduceLE, reduceLT, reduceLeDiff, ↓reduceIte, reduceEqDiff, reduceAdd, reduceCtorEq, reduceToNat, Tryz.f78]
    refine ⟨hx1.trans hx3, ?_⟩
    unfold choseF
    rw [← hch]
    rfl
end
noncomputable section
structure PC where
  num : Int
  st : Int
  cl : Int
  since : Int
def CN.pc (c : CN) : PC := ⟨c.num, c.st, c.cl, c.since⟩
structure PL where
  lim : Int
  wait : Int
  keep : Int
  now : Int
  last : Int
  conns : List PC
  wts : List WT
  paused : Prop
  closed : Prop
  moves : List MV
def PS.pl (P : PS) : PL := ⟨P.lim, P.wait, P.keep, P.now, P.last, P.conns.map CN.pc, P.wts, P.paused, P.closed, P.moves⟩
def betterC (c : PC) : Option PC → Prop
  | none => c.st = 4
  | some b => c.st = 4 ∧ c.since < b.since
noncomputable instance (c : PC) (o : Option PC) : Decidable (betterC c o) := Classical.propDecidable _
def longC : List PC → Option PC → Option PC
  | [], b => b
  | c :: l, b => longC l (if betterC c b then some c else b)
def choseC (cl : Int) : List PC → Option PC
  | [] => none
  | c :: l => if c.st = 4 ∧ c.cl = cl then some c else choseC cl l
def chosenC (l : List PC) (cl : Int) : Option PC := match choseC cl l with
  | some c => some c
  | none => longC l none
theorem better_pc (c : CN) (b : Option CN) : betterP c b ↔ betterC c.pc (b.map CN.pc) := by cases b <;> exact Iff.rfl
theorem long_pc : ∀ (l : List CN) (b : Option CN), (longR l b).map CN.pc = longC (l.map CN.pc) (b.map CN.pc)
  | [], b => rfl
  | c :: l, b => by
    rw [List.map_cons, longR, longC, long_pc l]
    congr 1
    by_cases h : betterP c b
    · rw [if_pos h, if_pos ((better_pc c b).1 h)]; rfl
    · rw [if_neg h, if_neg (fun q => h ((better_pc c b).2 q))]
theorem chose_pc (cl : Int) : ∀ l : List CN, (choseR cl l).map CN.pc = choseC cl (l.map CN.pc)
  | [] => rfl
  | c :: l => by
    rw [List.map_cons, choseR, choseC]
    by_cases h : c.st = 4 ∧ c.cl = cl
    · rw [if_pos h]; exact (if_pos (show c.pc.st = 4 ∧ c.pc.cl = cl from h)).symm
    · rw [if_neg h, chose_pc cl l]; exact (if_neg (show ¬ (c.pc.st = 4 ∧ c.pc.cl = cl) from h)).symm
theorem chosen_pc (P : PS) (cl : Int) : (choseF P cl).map CN.pc = chosenC P.pl.conns cl := by
  have h := chose_pc cl P.conns
  unfold choseF chosenC PS.pl
  simp only
  cases hc : choseR cl P.conns with
  | some c => rw [hc] at h; rw [← h]; rfl
  | none => rw [hc] at h; rw [← h]; exact long_pc P.conns none
theorem long_mem : ∀ (l : List CN) (b : Option CN) (c : CN), longR l b = some c → c ∈ l ∨ b = some c
  | [], b, c, h => .inr h
  | x :: l, b, c, h => by
    rw [longR] at h
    rcases long_mem l _ c h with q | q
    · exact .inl (.tail _ q)
    · split at q
      · cases q; exact .inl (.head _)
      · exact .inr q
theorem chose_mem (cl : Int) : ∀ (l : List CN) (c : CN), choseR cl l = some c → c ∈ l
  | x :: l, c, h => by
    rw [choseR] at h
    split at h
    · cases h; exact .head _
    · exact .tail _ (chose_mem cl l c h)
theorem chosen_mem {P : PS} {cl : Int} {c : CN} (h : choseF P cl = some c) : c ∈ P.conns := by
  unfold choseF at h
  cases hc : choseR cl P.conns with
  | some x => rw [hc] at h; cases h; exact chose_mem cl _ _ hc
  | none =>
    rw [hc] at h
    rcases long_mem _ _ _ h with q | q
    · exact q
    · cases q
def serve1 (p : PL) : Option PL := match p.wts with
  | [] => none
  | w :: ws => match chosenC p.conns w.cl with
    | some c => some { p with conns := p.conns.map (fun x => if x.num = c.num then ⟨c.num, 2, w.cl, 0⟩ else x), moves := p.moves ++ [⟨2, c.num, w.cl⟩], wts := ws }
    | none => if (p.conns.length : Int) < p.lim then some { p with last := p.last + 1, conns := p.conns ++ [⟨p.last + 1, 1, w.cl, 0⟩], moves := p.moves ++ [⟨1, p.last + 1, w.cl⟩], wts := ws } else none
def serveR : Nat → PL → PL
  | 0, p => p
  | f + 1, p => match serve1 p with
    | some q => serveR f q
    | none => p
noncomputable instance (P : Prop) : Decidable P := Classical.propDecidable P
def serveF (p : PL) : PL := if p.paused ∨ p.closed then p else serveR p.wts.length p
def setC (l : List CN) (n : Int) (c' : PC) : List CN := l.map fun x => if x.num = n then { x with st := c'.st, cl := c'.cl, since := c'.since } else x
theorem setC_num (l : List CN) (n : Int) (c' : PC) : (setC l n c').map CN.num = l.map CN.num := by
  unfold setC
  rw [List.map_map]
  refine List.map_congr_left fun x _ => ?_
  show CN.num (if x.num = n then _ else x) = _
  split <;> rfl
theorem setC_blk (l : List CN) (n : Int) (c' : PC) : (setC l n c').map CN.blk = l.map CN.blk := by
  unfold setC
  rw [List.map_map]
  refine List.map_congr_left fun x _ => ?_
  show CN.blk (if x.num = n then _ else x) = _
  split <;> rfl
theorem setC_born (l : List CN) (n : Int) (c' : PC) : (setC l n c').map CN.born = l.map CN.born := by
  unfold setC
  rw [List.map_map]
  refine List.map_congr_left fun x _ => ?_
  show CN.born (if x.num = n then _ else x) = _
  split <;> rfl
theorem setC_ie (l : List CN) (n : Int) (c' : PC) : centries (setC l n c') = centries l := by
  unfold setC centries
  rw [List.map_map]
  refine List.map_congr_left fun x _ => ?_
  show (CN.ie (if x.num = n then _ else x)).me = _
  split <;> rfl
theorem setC_mem {l : List CN} {n : Int} {c' : PC} {c : CN} (h : c ∈ setC l n c') : ∃ x ∈ l, c.blk = x.blk ∧ c.num = x.num ∧ c.born = x.born ∧ ((x.num = n ∧ c.st = c'.st ∧ c.cl = c'.cl ∧ c.since = c'.since) ∨ (x.num ≠ n ∧ c = x)) := by
  obtain ⟨x, hx, rfl⟩ := List.mem_map.1 h
  refine ⟨x, hx, ?_⟩
  by_cases e : x.num = n
  · rw [if_pos e]; exact ⟨rfl, rfl, rfl, .inl ⟨e, rfl, rfl, rfl⟩⟩
  · rw [if_neg e]; exact ⟨rfl, rfl, rfl, .inr ⟨e, rfl⟩⟩
theorem nodup_blk {l : List CN} (h : (l.map CN.blk).Nodup) {a b : CN} (ha : a ∈ l) (hb : b ∈ l) (e : a.blk = b.blk) : a = b := by
  induction l with
  | nil => cases ha
  | cons x l ih =>
    rw [List.map_cons, List.nodup_cons] at h
    rcases List.mem_cons.1 ha with q1 | q1 <;> rcases List.mem_cons.1 hb with q2 | q2
    · rw [q1, q2]
    · subst q1; exact absurd (e ▸ List.mem_map_of_mem q2) h.1
    · subst q2; exact absurd (e ▸ List.mem_map_of_mem q1) h.1
    · exact ih h.2 q1 q2
theorem rise_num {l : List CN} (h : (l.map CN.num).Pairwise (· < ·)) {a b : CN} (ha : a ∈ l) (hb : b ∈ l) (e : a.num = b.num) : a = b := by
  induction l with
  | nil => cases ha
  | cons x l ih =>
    rw [List.map_cons, List.pairwise_cons] at h
    rcases List.mem_cons.1 ha with q1 | q1 <;> rcases List.mem_cons.1 hb with q2 | q2
    · rw [q1, q2]
    · subst q1; have := h.1 _ (List.mem_map_of_mem q2); omega
    · subst q2; have := h.1 _ (List.mem_map_of_mem q1); omega
    · exact ih h.2 q1 q2
theorem Stp.setc {D : PD} {P : PS} {h : H} (r : PR D P h) {c : CN} (hc : c ∈ P.conns) (c' : PC) (hn : c'.num = c.num) : Stp D P h D { P with conns := setC P.conns c.num c' } (h.put c.blk (.cells [.int .i64 c'.num, .int .i64 c'.st, .int .i64 c'.cl, .int .i64 c'.since] 65 false)) where
  pr := {
    pool := by rw [put_ne (Ne.symm (r.cb c hc).1)]; exact r.pool
    map := by rw [put_ne (Ne.symm (r.cb c hc).2), setC_ie]; exact r.map
    conn := fun x hx => by
      obtain ⟨y, hy, e1, e2, e3, hh⟩ := setC_mem hx
      rcases hh with ⟨en, s1, s2, s3⟩ | ⟨en, rfl⟩
      · have : y = c := rise_num r.rise hy hc en
        subst this
        rw [e1, put_eq rfl]
        unfold CN.cells
        rw [e2, s1, s2, s3, hn]
      · rw [put_ne (fun q => en (by rw [nodup_blk r.cc hy hc q]))]
        exact r.conn _ hy
    wts := r.wts.put fun k o n m q => Ne.symm ((r.wb k o n m q).2.2.1 c hc)
    mvs := Lst.put' r.mvs fun k o n m q => Ne.symm ((r.mvb k o n m q).2.2 c hc)
    bmb := r.bmb
    cb := fun x hx => by obtain ⟨y, hy, e1, _⟩ := setC_mem hx; rw [e1]; exact r.cb y hy
    cc := by show ((setC P.conns c.num c').map CN.blk).Nodup; rw [setC_blk]; exact r.cc
    wb := fun k o n m q => by
      obtain ⟨w1, w2, w3, w4⟩ := r.wb k o n m q
      exact ⟨w1, w2, fun x hx => by obtain ⟨y, hy, e1, _⟩ := setC_mem hx; rw [e1]; exact w3 y hy, w4⟩
    mvb := fun k o n m q => by
      obtain ⟨w1, w2, w3⟩ := r.mvb k o n m q
      exact ⟨w1, w2, fun x hx => by obtain ⟨y, hy, e1, _⟩ := setC_mem hx; rw [e1]; exact w3 y hy⟩
    lt := ⟨r.lt.1, r.lt.2.1, fun x hx => by obtain ⟨y, hy, e1, _⟩ := setC_mem hx; rw [e1]; exact r.lt.2.2 y hy⟩
    stamps := fun x hx => by obtain ⟨y, hy, _, _, e3, _⟩ := setC_mem hx; rw [e3]; exact r.stamps y hy
    apart := by show ((setC P.conns c.num c').map CN.born).Nodup; rw [setC_born]; exact r.apart
    rise := by show ((setC P.conns c.num c').map CN.num).Pairwise _; rw [setC_num]; exact r.rise
    few := by show (setC P.conns c.num c').length ≤ _; unfold setC; rw [List.length_map]; exact r.few
    wf := fun x hx => by obtain ⟨y, hy, _, e2, _⟩ := setC_mem hx; rw [e2]; exact r.wf y hy }
  nx := Nat.le_refl _
  same := fun k hk ho => put_ne fun q => ho (.inr (.inr (.inl ⟨c, hc, q.symm⟩)))
  own := fun k q => by
    rcases q with q | q | ⟨x, hx, q⟩ | q
    · exact .inl (.inl q)
    · exact .inl (.inr (.inl q))
    · obtain ⟨y, hy, e1, _⟩ := setC_mem hx
      exact .inl (.inr (.inr (.inl ⟨y, hy, by rw [← e1]; exact q⟩)))
    · exact .inl (.inr (.inr (.inr q)))
  b := rfl
end
noncomputable section
theorem Stp.addc {D : PD} {P : PS} {h : H} (r : PR D P h) (n cl : Int) (hn : ∀ c ∈ P.conns, c.num < n) (hw : (Lit.int .i64 n).wf = true) (hf : P.conns.length < 1000) :
    Stp D P h { D with ck := D.ck + 1 } { P with conns := P.conns ++ [⟨h.nx, n, 1, cl, 0, D.ck⟩] } ((h.push (.cells [.int .i64 n, .int .i64 1, .int .i64 cl, .int .i64 0] 65 false)).put D.mb (.map (centries P.conns ++ [⟨.int .i64 n, .ptr h.nx 0, D.ck⟩]) (D.ck + 1))) where
  pr := {
    pool := by rw [put_ne r.bmb, push_ne (by have := r.lt.1; omega)]; exact r.pool
    map := by
      rw [put_eq rfl]
      unfold centries
      rw [List.map_append]
      rfl
    conn := fun c hc => by
      rcases List.mem_append.1 hc with hc | hc
      · rw [put_ne (r.cb c hc).2, push_ne (by have := r.lt.2.2 c hc; omega)]; exact r.conn c hc
      · rw [List.mem_singleton.1 hc, put_ne (by have := r.lt.2.1; show h.nx ≠ D.mb; omega), push_eq rfl]; rfl
    wts := Wts.put (r.wts.ext (Nat.le_succ _) fun b o n m q => push_ne (by have := r.wts.lt q; omega)) fun k o n m q => (r.wb k o n m q).2.1
    mvs := Lst.put' (r.mvs.ext ((Ext.refl h).push _)) fun k o n m q => (r.mvb k o n m q).2.1
    bmb := r.bmb
    cb := fun c hc => by
      rcases List.mem_append.1 hc with hc | hc
      · exact r.cb c hc
      · rw [List.mem_singleton.1 hc]; have := r.lt; exact ⟨by show h.nx ≠ D.b; omega, by show h.nx ≠ D.mb; omega⟩
    cc := by
      show ((P.conns ++ [_]).map CN.blk).Nodup
      rw [List.map_append, List.nodup_append]
      refine ⟨r.cc, by simp, fun a ha b hb => ?_⟩
      obtain ⟨c, hc, rfl⟩ := List.mem_map.1 ha
      rw [List.map_singleton, List.mem_singleton] at hb
      rw [hb]
      have := r.lt.2.2 c hc
      show c.blk ≠ h.nx
      omega
    wb := fun k o n m q => by
      obtain ⟨w1, w2, w3, w4⟩ := r.wb k o n m q
      refine ⟨w1, w2, fun c hc => ?_, w4⟩
      rcases List.mem_append.1 hc with hc | hc
      · exact w3 c hc
      · rw [List.mem_singleton.1 hc]; have := r.wts.lt q; show h.nx ≠ k; omega
    mvb := fun k o n m q => by
      obtain ⟨w1, w2, w3⟩ := r.mvb k o n m q
      refine ⟨w1, w2, fun c hc => ?_⟩
      rcases List.mem_append.1 hc with hc | hc
      · exact w3 c hc
      · rw [List.mem_singleton.1 hc]; have := Lst.lt r.mvs q; show h.nx ≠ k; omega
    lt := ⟨Nat.lt_succ_of_lt r.lt.1, Nat.lt_succ_of_lt r.lt.2.1, fun c hc => by
      rcases List.mem_append.1 hc with hc | hc
      · exact Nat.lt_succ_of_lt (r.lt.2.2 c hc)
      · rw [List.mem_singleton.1 hc]; exact Nat.lt_succ_self _⟩
    stamps := fun c hc => by
      rcases List.mem_append.1 hc with hc | hc
      · exact Nat.lt_succ_of_lt (r.stamps c hc)
      · rw [List.mem_singleton.1 hc]; exact Nat.lt_succ_self _
    apart := by
      show ((P.conns ++ [_]).map CN.born).Nodup
      rw [List.map_append, List.nodup_append]
      refine ⟨r.apart, by simp, fun a ha b hb => ?_⟩
      obtain ⟨c, hc, rfl⟩ := List.mem_map.1 ha
      rw [List.map_singleton, List.mem_singleton] at hb
      rw [hb]
      have := r.stamps c hc
      show c.born ≠ D.ck
      omega
    rise := by
      show ((P.conns ++ [_]).map CN.num).Pairwise _
      rw [List.map_append, List.pairwise_append]
      refine ⟨r.rise, by simp, fun a ha b hb => ?_⟩
      obtain ⟨c, hc, rfl⟩ := List.mem_map.1 ha
      rw [List.map_singleton, List.mem_singleton] at hb
      rw [hb]
      exact hn c hc
    few := by show (P.conns ++ [_]).length ≤ _; rw [List.length_append]; simp only [List.length_cons, List.length_nil]; omega
    wf := fun c hc => by
      rcases List.mem_append.1 hc with hc | hc
      · exact r.wf c hc
      · rw [List.mem_singleton.1 hc]; exact hw }
  nx := Nat.le_succ _
  same := fun k hk ho => by rw [put_ne (fun q => ho (.inr (.inl q))), push_ne (by omega)]
  own := fun k q => by
    rcases q with q | q | ⟨x, hx, q⟩ | q
    · exact .inl (.inl q)
    · exact .inl (.inr (.inl q))
    · rcases List.mem_append.1 hx with hx | hx
      · exact .inl (.inr (.inr (.inl ⟨x, hx, q⟩)))
      · rw [List.mem_singleton.1 hx] at q; exact .inr (Nat.le_of_eq q)
    · exact .inl (.inr (.inr (.inr q)))
  b := rfl
theorem Wts.opened {h : H} {v : V} {ws : List WT} (hw : Wts h v ws) (h0 : 0 < ws.length) : ∃ b o m c fl, v = .slice b o ws.length m ∧ ws.length ≤ m ∧ b < h.nx ∧ h.get b = some (.cells c 70 fl) ∧ ∀ i (hi : i < ws.length), o + i * 2 + 2 ≤ c.length ∧ (c.drop (o + i * 2)).take 2 = ws[i].cells := by
  rcases hw with ⟨rfl, rfl⟩ | ⟨b, o, m, c, fl, rfl, hb, hg, hc, hm⟩
  · cases h0
  · exact ⟨b, o, m, c, fl, rfl, hm.1, hb, hg, hc⟩
theorem Wts.len {h : H} {v : V} {ws : List WT} (hw : Wts h v ws) : lenO (some (.slice 70)) v = some (.int .i64 ws.length) := by
  rcases hw with ⟨rfl, rfl⟩ | ⟨b, o, m, c, fl, rfl, _⟩ <;> rfl
theorem Wts.cell {h : H} {v : V} {ws : List WT} (hw : Wts h v ws) : v.isCell = true ∧ v.cells = [v] := by
  rcases hw with ⟨rfl, _⟩ | ⟨b, o, m, c, fl, rfl, _⟩ <;> exact ⟨rfl, rfl⟩
theorem Wts.tail {h : H} {b o m : Nat} {w : WT} {ws : List WT} (hw : Wts h (.slice b o (w :: ws).length m) (w :: ws)) : Wts h (.slice b (o + 1 * 2) ((w :: ws).length - 1) (m - 1)) ws := by
  rcases hw with ⟨q, _⟩ | ⟨b', o', m', c, fl, q, hb, hg, hc, hm⟩
  · cases q
  · cases q
    have h00 := (hc 0 (Nat.succ_pos _)).1
    have hm1 := hm.1
    simp only [List.length_cons] at hm1
    refine .inr ⟨b, o + 1 * 2, m - 1, c, fl, rfl, hb, hg, fun i hi => ?_, by omega, by omega⟩
    have h1 := hc (i + 1) (by simp only [List.length_cons]; omega)
    have e1 : o + 1 * 2 + i * 2 = o + (i + 1) * 2 := by omega
    rw [e1]
    exact h1
theorem wcell_get {c : List V} {k : Nat} {w : WT} (h : (c.drop k).take 2 = w.cells) : c[k]? = some (.int .i64 w.cl) ∧ c[k + 1]? = some (.int .i64 w.til) := by
  have h0 := congrArg (fun l : List V => l[0]?) h
  have h1 := congrArg (fun l : List V => l[1]?) h
  simp only [List.getElem?_take, List.getElem?_drop, WT.cells] at h0 h1
  exact ⟨h0, h1⟩
structure Bds (T : Int) (P : PS) : Prop where
  lim : P.lim ≤ 64
  num : ∀ c ∈ P.conns, 1 ≤ c.num ∧ c.num ≤ P.last
  pos : 0 ≤ P.last
  top : P.last + P.wts.length ≤ T
  tt : T ≤ 1099511627776
  mvs : P.moves.length + P.wts.length ≤ 900000
def SvI (T : Int) (D0 : PD) (P0 : PS) (h0 : H) (m : Nat) (env : Env) (h' : H) : Prop :=
  ∃ (D : PD) (P : PS), m = P.wts.length ∧ env 0 = .ptr D0.b 0 ∧ Stp D0 P0 h0 D P h' ∧ Bds T P ∧ (P.paused ↔ P0.paused) ∧ (P.closed ↔ P0.closed) ∧ serveR P.wts.length P.pl = serveR P0.wts.length P0.pl ∧ (P0.paused ∨ P0.closed → P.pl = P0.pl)
theorem run_blk_cut {c : Cfg} {Ok : Nat → Prop} {k : List Kt} {Q : Ex → Env → H → Prop} {env : Env} {h : H} {a b : Code} {i : Nat} (R : Env → H → Prop) (h1 : run c Ok (.blk i :: .lp R :: k) a env h Q) (h2 : ∀ env' h', R env' h' → run c Ok k b env' h' Q) : run c Ok (.blk i :: .seq b :: k) a env h Q := by
  rw [← run_block]
  refine run_cut R ?_ h2
  rw [run_block]
  exact h1
def SvR (T : Int) (D0 : PD) (P0 : PS) (h0 : H) (D1 : PD) (P1 : PS) (w : WT) (ws : List WT) (env : Env) (h' : H) : Prop :=
  env 0 = .ptr D1.b 0 ∧ ∃ (D : PD) (P : PS), Stp D0 P0 h0 D P h' ∧ D.b = D1.b ∧ P.wts = w :: ws ∧ (P.paused ↔ P0.paused) ∧ (P.closed ↔ P0.closed) ∧ Bds T { P with wts := ws } ∧ serve1 P1.pl = some { P.pl with wts := ws }
theorem neq_cn (o : Option CN) : binV Tryz.prog .neq 68 (constO (.tmp 35) || constO (.const (Value.pointer none))) (cnV o) .nilptr = some (bo (o ≠ none)) := by
  cases o with
  | none =>
    have e : binV Tryz.prog .neq 68 (constO (.tmp 35) || constO (.const (Value.pointer none))) .nilptr .nilptr = some (.bool false) := by kernel_rfl
    show binV _ _ _ _ .nilptr _ = _
    rw [e]; unfold bo; simp
  | some c =>
    have e : binV Tryz.prog .neq 68 (constO (.tmp 35) || constO (.const (Value.pointer none))) (.ptr c.blk 0) .nilptr = some (.bool true) := by kernel_rfl
    show binV _ _ _ _ (.ptr c.blk 0) _ = _
    rw [e]; unfold bo; simp
theorem serve1_give {p : PL} {w : WT} {ws : List WT} {c : PC} (h1 : p.wts = w :: ws) (h2 : chosenC p.conns w.cl = some c) : serve1 p = some { p with conns := p.conns.map (fun x => if x.num = c.num then ⟨c.num, 2, w.cl, 0⟩ else x), moves := p.moves ++ [⟨2, c.num, w.cl⟩], wts := ws } := by
  unfold serve1
  simp only [h1, h2]
theorem serve1_open {p : PL} {w : WT} {ws : List WT} (h1 : p.wts = w :: ws) (h2 : chosenC p.conns w.cl = none) (h3 : (p.conns.length : Int) < p.lim) : serve1 p = some { p with last := p.last + 1, conns := p.conns ++ [⟨p.last + 1, 1, w.cl, 0⟩], moves := p.moves ++ [⟨1, p.last + 1, w.cl⟩], wts := ws } := by
  unfold serve1
  simp only [h1, h2, if_pos h3]
theorem serve1_none {p : PL} {w : WT} {ws : List WT} (h1 : p.wts = w :: ws) (h2 : chosenC p.conns w.cl = none) (h3 : ¬ (p.conns.length : Int) < p.lim) : serve1 p = none := by
  unfold serve1
  simp only [h1, h2, if_neg h3]
theorem wf_i64 {n : Int} (h1 : -9223372036854775808 ≤ n) (h2 : n ≤ 9223372036854775807) : (Lit.int .i64 n).wf = true := by
  show (decide (IntKind.i64.min ≤ n) && decide (n ≤ IntKind.i64.max)) = true
  rw [Bool.and_eq_true, decide_eq_true_eq, decide_eq_true_eq]
  exact ⟨h1, h2⟩
theorem cnV_some (c : CN) : cnV (some c) = .ptr c.blk 0 := rfl
variable {S : Set0} (hS : StdP S)
include hS
theorem serve_spec {D : PD} {P : PS} {h : H} {T : Int} (r : PR D P h) (B : Bds T P) : callW S.cfg (owns D P) 51 [.ptr D.b 0] h fun _ h' => ∃ D' P', Stp D P h D' P' h' ∧ Bds T P' ∧ P'.pl = serveF P.pl := by
  refine into Tryz.f51 _ Tryz.func51 (hS.ownP _ (by decide)) rfl rfl (by kernel_rfl) (by kernel_rfl) ?_
  simp +contextual (disch := first | simp only [fq]; done | omega | simp only [Knx]; omega) only [fV, reduceLE, reduceLT, reduceLeDiff, ↓reduceIte, reduceEqDiff, reduceAdd, reduceCtorEq, reduceToNat, Tryz.f51]
  refine run_loop (SvI T D P h) P.wts.length ⟨D, P, by simp +contextual (disch := first | simp only [fq]; done | omega | simp only [Knx]; omega) only [fV, reduceLE, reduceLT, reduceLeDiff, ↓reduceIte, reduceEqDiff, reduceAdd, reduceCtorEq, reduceToNat]; exact ⟨Stp.refl r, B⟩⟩ ?_
  rintro m env h1 ⟨D1, P1, rfl, e0, st, B1, hpa, hcl, hsr, hst⟩
  have r1 := st.pr
  have hb := st.b
  have hp := r1.pool
  unfold pcells at hp
  rw [← hb] at e0
  have hwl := r1.wts.len
  by_cases hq : P1.paused
  · have e : serveF P.pl = P.pl := if_pos (.inl (hpa.1 hq))
    simp +contextual (disch := first | simp only [fq]; done | omega | simp only [Knx]; omega) only [fV, reduceLE, reduceLT, reduceLeDiff, ↓reduceIte, reduceEqDiff, reduceAdd, reduceCtorEq, reduceToNat, Tryz.f51, e0, hp, hq]
    exact ⟨D1, P1, st, B1, by rw [e, hst (.inl (hpa.1 hq))]⟩
  by_cases hc : P1.closed
  · have e : serveF P.pl = P.pl := if_pos (.inr (hcl.1 hc))
    simp +contextual (disch := first | simp only [fq]; done | omega | simp only [Knx]; omega) only [fV, reduceLE, reduceLT, reduceLeDiff, ↓reduceIte, reduceEqDiff, reduceAdd, reduceCtorEq, reduceToNat, Tryz.f51, e0, hp, hq, hc]
    exact ⟨D1, P1, st, B1, by rw [e, hst (.inr (hcl.1 hc))]⟩
  have hsf : serveF P.pl = serveR P.wts.length P.pl := if_neg (fun q => q.elim (fun q => hq (hpa.2 q)) (fun q => hc (hcl.2 q)))
  cases hws : P1.wts with
  | nil =>
    have hnl : ¬ 0 < P1.wts.length := by rw [hws]; exact Nat.lt_irrefl 0
    rw [hws] at hsr
    simp +contextual (disch := first | simp only [fq]; done | omega | simp only [Knx]; omega) only [fV, reduceLE, reduceLT, reduceLeDiff, ↓reduceIte, reduceEqDiff, reduceAdd, reduceCtorEq, reduceToNat, Tryz.f51, e0, hp, hq, hc, hwl, hnl]
    exact ⟨D1, P1, st, B1, by rw [hsf, ← hsr]; rfl⟩
  | cons w ws =>
    have hlw : 0 < P1.wts.length := by rw [hws]; exact Nat.succ_pos _
    obtain ⟨wb, wo, wm, wc, wfl, hwv, hwm, hwn, hwg, hwc⟩ := r1.wts.opened hlw
    obtain ⟨x0, x1⟩ := hwc 0 hlw
    have hw0 : P1.wts[0] = w := by simp [hws]
    rw [hw0, Nat.zero_mul, Nat.add_zero] at x1
    obtain ⟨y0, y1⟩ := wcell_get x1
    have hp2 := hp
    rw [hwv] at hp2
    simp +contextual (disch := first | simp only [fq]; done | omega | simp only [Knx]; omega) only [fV, reduceLE, reduceLT, reduceLeDiff, ↓reduceIte, reduceEqDiff, reduceAdd, reduceCtorEq, reduceToNat, Tryz.f51, e0, hp2, hq, hc, hlw, hwg, y0]
    refine callF_pure (chosen_spec hS r1 w.cl) ?_
    rintro v h2 hx2 rfl
    have r2 := r1.ext hx2
    have st2 := st.trans (Stp.ext r1 hx2)
    have hown : ∀ {D2 : PD} {P2 : PS} {h2 : H}, Stp D P h D2 P2 h2 → ∀ k, owns D2 P2 k → fresh h.nx (owns D P) k := fun s k q => by rw [fresh_def]; exact (s.own k q).elim .inr .inl
    have hm1 := B1.mvs
    have ht1 := B1.top
    have htt := B1.tt
    rw [hws] at hm1 ht1
    simp only [List.length_cons] at hm1 ht1
    have hcp := chosen_pc P1 w.cl
    simp +contextual (disch := first | simp only [fq]; done | omega | simp only [Knx]; omega) only [wpyr, fW, reduceLE, reduceLT, reduceLeDiff, ↓reduceIte, reduceEqDiff, reduceAdd, reduceCtorEq, reduceToNat, Tryz.f51, e0, neq_cn]
    refine run_blk_cut (SvR T D P h D1 P1 w ws) ?_ ?_
    · cases hch : choseF P1 w.cl with
      | some c =>
        have hcm := chosen_mem hch
        have g := r2.conn c hcm
        unfold CN.cells at g
        have s3 := Stp.setc r2 hcm ⟨c.num, 2, w.cl, 0⟩ rfl
        have st3 := st2.trans s3
        have hsn : (some c ≠ (none : Option CN)) = True := by simp
        simp +contextual (disch := first | simp only [fq]; done | omega | simp only [Knx]; omega) only [fV, reduceLE, reduceLT, reduceLeDiff, ↓reduceIte, reduceEqDiff, reduceAdd, reduceCtorEq, reduceToNat, Tryz.f51, cnV_some, g, e0, hsn]
        refine ⟨.inr (st2.own _ (.inr (.inr (.inl ⟨c, hcm, rfl⟩)))).symm, ?_⟩
        refine callF_of (move_spec hS s3.pr 2 c.num w.cl (by show P1.moves.length ≤ _; omega)) (hown st3) ?_
        rintro v h4 ⟨mv, s4⟩
        simp +contextual (disch := first | simp only [fq]; done | omega | simp only [Knx]; omega) only [fV, reduceLE, reduceLT, reduceLeDiff, ↓reduceIte, reduceEqDiff, reduceAdd, reduceCtorEq, reduceToNat, Tryz.f51, e0]
        rw [hch] at hcp
        refine ⟨e0, _, _, st3.trans s4, rfl, hws, hpa, hcl, ?_, ?_⟩
        · refine ⟨B1.lim, fun x hx => ?_, B1.pos, by show P1.last + (ws.length : Int) ≤ _; omega, B1.tt, ?_⟩
          · obtain ⟨y, hy, _, e2, _⟩ := setC_mem hx
            rw [e2]
            exact B1.num y hy
          · show (P1.moves ++ [_]).length + ws.length ≤ _
            rw [List.length_append]
            simp only [List.length_cons, List.length_nil]
            omega
        · rw [serve1_give (show P1.pl.wts = w :: ws from hws) hcp.symm]
          congr 1
          unfold PS.pl
          simp only [PL.mk.injEq, true_and, and_true]
          refine ⟨?_, rfl⟩
          unfold setC
          rw [List.map_map, List.map_map]
          refine List.map_congr_left fun x _ => ?_
          by_cases en : x.num = c.num
          · have en' : x.pc.num = c.pc.num := en
            simp only [Function.comp, if_pos en, if_pos en']
            show PC.mk c.num 2 w.cl 0 = PC.mk x.num 2 w.cl 0
            rw [en]
          · have en' : ¬ x.pc.num = c.pc.num := en
            simp only [Function.comp, if_neg en, if_neg en']
      | none =>
        have hsn : ((none : Option CN) ≠ none) = False := by simp
        have hp3 := r2.pool
        unfold pcells at hp3
        refine cond_no (p := (none : Option CN) ≠ none) rfl (fun q => q rfl) ?_
        simp +contextual (disch := first | simp only [fq]; done | omega | simp only [Knx]; omega) only [wpyr, fW, reduceLE, reduceLT, reduceLeDiff, ↓reduceIte, reduceEqDiff, reduceAdd, reduceCtorEq, reduceToNat, Tryz.f51, e0]
        refine draw_by [] (by kernel_rfl) ?_
        simp +contextual (disch := first | simp only [fq]; done | omega | simp only [Knx]; omega) only [wpyr, fW, reduceLE, reduceLT, reduceLeDiff, ↓reduceIte, reduceEqDiff, reduceAdd, reduceCtorEq, reduceToNat, Tryz.f51, e0, hp3]
        refine len_map (a := 3) (b := 68) (r := D1.mb) (by kernel_rfl) rfl r2.map ?_
        have hcl2 : (centries P1.conns).length = P1.conns.length := List.length_map ..
        by_cases hroom : (P1.conns.length : Int) < P1.lim
        · have hwl1 : IntKind.i64.wrap (P1.last + 1) = P1.last + 1 := i64_in _ (by have := B1.pos; omega)
          simp +contextual (disch := first | simp only [fq]; done | omega | simp only [Knx]; omega) only [fV, reduceLE, reduceLT, reduceLeDiff, ↓reduceIte, reduceEqDiff, reduceAdd, reduceCtorEq, reduceToNat, Tryz.f51, e0, hp3, hcl2, hroom, hwl1]
          refine ⟨fun p hp => by (cases hp), .inr (st2.own _ (.inl rfl)).symm, ?_⟩
          obtain ⟨h3, hh3⟩ : ∃ h3, h3 = h2.put D1.b (.cells (pcells D1 { P1 with last := P1.last + 1 }) 55 false) := ⟨_, rfl⟩
          have s3 : Stp D1 P1 h2 D1 { P1 with last := P1.last + 1 } h3 := by
            rw [hh3]
            exact Stp.set r2 (Nat.le_refl _) (fun _ _ _ => rfl) rfl rfl rfl rfl r2.wts r2.mvs r2.wb (fun k o n m q => ⟨r2.mvb k o n m q, .inl ⟨o, n, m, q⟩⟩)
          unfold pcells at hh3
          simp only at hh3
          rw [← hh3]
          have hp4 := s3.pr.pool
          unfold pcells at hp4
          refine draw_by [(3, 14), (7, 14)] (by kernel_rfl) ?_
          simp +contextual (disch := first | simp only [fq]; done | omega | simp only [Knx]; omega) only [wpyr, fW, reduceLE, reduceLT, reduceLeDiff, ↓reduceIte, reduceEqDiff, reduceAdd, reduceCtorEq, reduceToNat, Tryz.f51, e0, hp4]
          have r3 := s3.pr
          have hx3A : Ext h3 (h3.push (Ob.cells [V.int IntKind.i64 (P1.last + 1), V.int IntKind.i64 1, V.int IntKind.i64 w.cl, V.int IntKind.i64 0] 65 false)) := (Ext.refl h3).push _
          have hpos := B1.pos
          refine update_new (d := .int .i64) (z := .nilptr) (r := D1.mb) (kv := .int .i64 (P1.last + 1)) (xv := .ptr h3.nx 0) (es := centries P1.conns) (clock := D1.ck) rfl rfl rfl (by kernel_rfl) rfl ((r3.ext hx3A).map) (find_no fun c hc => by have := (B1.num c hc).2; omega) (.inr (hown (st2.trans s3) _ (.inr (.inl rfl)))) ?_
          have s4 := Stp.addc r3 (P1.last + 1) w.cl (fun c hc => by have := (B1.num c hc).2; show c.num < _; omega) (wf_i64 (by omega) (by omega)) (by have := B1.lim; show P1.conns.length < 1000; omega)
          obtain ⟨h4, hh4⟩ : ∃ h4, h4 = ((h3.push (.cells [.int .i64 (P1.last + 1), .int .i64 1, .int .i64 w.cl, .int .i64 0] 65 false)).put D1.mb (.map (centries P1.conns ++ [⟨.int .i64 (P1.last + 1), .ptr h3.nx 0, D1.ck⟩]) (D1.ck + 1))) := ⟨_, rfl⟩
          have s4' := s4
          rw [show centries ({ P1 with last := P1.last + 1 } : PS).conns = centries P1.conns from rfl, ← hh4] at s4'
          have st4 := (st2.trans s3).trans s4'
          have hp5 := s4'.pr.pool
          unfold pcells at hp5
          rw [← hh4]
          have hb3 : D1.b < h3.nx := r3.lt.1
          simp +contextual (disch := first | simp only [fq]; done | omega | simp only [Knx]; omega) only [wpyr, fW, reduceLE, reduceLT, reduceLeDiff, ↓reduceIte, reduceEqDiff, reduceAdd, reduceCtorEq, reduceToNat, Tryz.f51, e0, hp5]
          refine ⟨fun p hp => ?_, ?_⟩
          · have hp : p = (3, 14) ∨ p = (7, 14) := by simpa using hp
            rcases hp with rfl | rfl
            · exact pair_one rfl rfl (apart_blk fun x hx y hy => by
                rw [List.mem_singleton.1 (show x ∈ [_] from hx), List.mem_singleton.1 hy]
                show ¬ D1.b = h3.nx
                omega)
            · exact pair_one rfl rfl (apart_blk fun x hx y hy => by
                rw [List.mem_singleton.1 (show x ∈ [_] from hx), List.mem_singleton.1 hy]
                show ¬ D1.b = h3.nx
                omega)
          refine callF_of (move_spec hS s4'.pr 1 (P1.last + 1) w.cl (by show P1.moves.length ≤ _; omega)) (hown st4) ?_
          rintro v h5 ⟨mv, s5⟩
          simp +contextual (disch := first | simp only [fq]; done | omega | simp only [Knx]; omega) only [wpyr, fW, reduceLE, reduceLT, reduceLeDiff, ↓reduceIte, reduceEqDiff, reduceAdd, reduceCtorEq, reduceToNat, Tryz.f51, e0]
          rw [hch] at hcp
          refine ⟨e0, _, _, st4.trans s5, rfl, hws, hpa, hcl, ?_, ?_⟩
          · refine ⟨B1.lim, fun x hx => ?_, by show 0 ≤ P1.last + 1; omega, by show P1.last + 1 + (ws.length : Int) ≤ _; omega, B1.tt, ?_⟩
            · rcases List.mem_append.1 hx with hx | hx
              · have := B1.num x hx
                exact ⟨this.1, by show x.num ≤ P1.last + 1; omega⟩
              · rw [List.mem_singleton.1 hx]
                exact ⟨by show 1 ≤ P1.last + 1; omega, Int.le_refl _⟩
            · show (P1.moves ++ [_]).length + ws.length ≤ _
              rw [List.length_append]
              simp only [List.length_cons, List.length_nil]
              omega
          · rw [serve1_open (show P1.pl.wts = w :: ws from hws) hcp.symm (by show ((P1.conns.map CN.pc).length : Int) < _; rw [List.length_map]; exact hroom)]
            congr 1
            unfold PS.pl
            simp only [PL.mk.injEq, true_and, and_true, List.map_append]
            rfl
        · have hs1 : serve1 P1.pl = none := serve1_none (show P1.pl.wts = w :: ws from hws) (by rw [← hcp, hch]; rfl) (by show ¬ ((P1.conns.map CN.pc).length : Int) < _; rw [List.length_map]; exact hroom)
          simp +contextual (disch := first | simp only [fq]; done | omega | simp only [Knx]; omega) only [fV, reduceLE, reduceLT, reduceLeDiff, ↓reduceIte, reduceEqDiff, reduceAdd, reduceCtorEq, reduceToNat, Tryz.f51, e0, hp3, hcl2, hroom]
          refine ⟨fun p hp => by (cases hp), D1, P1, st2, B1, ?_⟩
          rw [hsf, ← hsr, hws]
          show P1.pl = (match serve1 P1.pl with | some q => serveR ws.length q | none => P1.pl)
          rw [hs1]
    · rintro env' h3 ⟨e0', D4, P4, st4, eb4, ew4, q1, q2, B4, hse⟩
      have r4 := st4.pr
      have hp4 := r4.pool
      unfold pcells at hp4
      rw [← eb4] at e0'
      obtain ⟨vb, vo, vm, vc, vfl, hvv, hvm, hvn, hvg, _⟩ := r4.wts.opened (by rw [ew4]; exact Nat.succ_pos _)
      have hvl : P4.wts.length = ws.length + 1 := by rw [ew4]; rfl
      have hwt := r4.wts
      rw [hvv, ew4] at hwt
      have hwt2 := Wts.tail hwt
      have hp5 := hp4
      rw [hvv] at hp5
      simp +contextual (disch := first | simp only [fq]; done | omega | simp only [Knx]; omega) only [fV, reduceLE, reduceLT, reduceLeDiff, ↓reduceIte, reduceEqDiff, reduceAdd, reduceCtorEq, reduceToNat, Tryz.f51, e0', hp5]
      refine slice_row (e := 70) (sz := 2) (b := vb) (o := vo) (n := P4.wts.length) (m := vm) (l := 1) (hh := P4.wts.length) (mm := vm) (by kernel_rfl) (by kernel_rfl) rfl (by rw [hvg]; rfl) (fun _ => rfl) (by simp +contextual (disch := first | simp only [fq]; done | omega | simp only [Knx]; omega) only [fV, reduceLE, reduceLT, reduceLeDiff, ↓reduceIte, reduceEqDiff, reduceAdd, reduceCtorEq, reduceToNat]; exact bounds_lo (a := 1) (by omega) hvm) hvm ?_
      simp +contextual (disch := first | simp only [fq]; done | omega | simp only [Knx]; omega) only [fV, reduceLE, reduceLT, reduceLeDiff, ↓reduceIte, reduceEqDiff, reduceAdd, reduceCtorEq, reduceToNat, Tryz.f51, e0', hp5]
      refine ⟨.inr (st4.own _ (.inl rfl)).symm, ws.length, by omega, ?_⟩
      rw [ew4] at hvv
      have s5 := Stp.set (h4 := h3) (D' := { D4 with wv := .slice vb (vo + 1 * 2) ((w :: ws).length - 1) (vm - 1) }) (P' := { P4 with wts := ws }) r4 (Nat.le_refl _) (fun _ _ _ => rfl) rfl rfl rfl rfl hwt2 r4.mvs (fun k o n m q => by cases q; exact r4.wb _ _ _ _ hvv) (fun k o n m q => ⟨r4.mvb k o n m q, .inl ⟨o, n, m, q⟩⟩) (fun k o n m q => by cases q; exact .inl ⟨_, _, _, hvv⟩)
      have s6 := st4.trans s5
      refine ⟨{ D4 with wv := .slice vb (vo + 1 * 2) ((w :: ws).length - 1) (vm - 1) }, { P4 with wts := ws }, rfl, by simp +contextual (disch := first | simp only [fq]; done | omega | simp only [Knx]; omega) only [fV, reduceLE, reduceLT, reduceLeDiff, ↓reduceIte, reduceEqDiff, reduceAdd, reduceCtorEq, reduceToNat, e0', eb4, hb], ?_, B4, q1, q2, ?_, fun q => ?_⟩
      · rw [hvl]
        exact s6
      · rw [← hsr, hws]
        show serveR ws.length { P4.pl with wts := ws } = (match serve1 P1.pl with | some q => serveR ws.length q | none => P1.pl)
        rw [hse]
      · exact absurd q (fun q => q.elim (fun q => hq (hpa.2 q)) (fun q => hc (hcl.2 q)))
end
noncomputable section
def hasP (cl : Int) (c : CN) : Prop := c.cl = cl ∧ (c.st = 1 ∨ c.st = 2)
variable {S : Set0} (hS : StdP S)
include hS
theorem between_spec (a b c : Int) (h : H) : Exact S.cfg 24 [.int .i64 a, .int .i64 b, .int .i64 c] h (bo (b ≤ a ∧ a ≤ c)) := by
  refine into Tryz.f24 _ Tryz.func24 (hS.ownP _ (by decide)) rfl rfl (by kernel_rfl) (by kernel_rfl) ?_
  by_cases h1 : b ≤ a
  · simp +contextual (disch := first | simp only [fq]; done | omega | simp only [Knx]; omega) only [fV, reduceLE, reduceLT, reduceLeDiff, ↓reduceIte, reduceEqDiff, reduceAdd, reduceCtorEq, reduceToNat, Tryz.f24, h1]
  · simp +contextual (disch := first | simp only [fq]; done | omega | simp only [Knx]; omega) only [fV, reduceLE, reduceLT, reduceLeDiff, ↓reduceIte, reduceEqDiff, reduceAdd, reduceCtorEq, reduceToNat, Tryz.f24, h1]
theorem has1_spec {D : PD} {P : PS} {h : H} (r : PR D P h) {c : CN} (hc : c ∈ P.conns) (k : Nat) (cl : Int) (hk : h.get k = some (.cells [.int .i64 cl] 3 false)) : Exact S.cfg 75 [.ptr c.blk 0, .ptr k 0] h (bo (hasP cl c)) := by
  refine into Tryz.f75 _ Tryz.func75 (hS.ownP _ (by decide)) rfl rfl (by kernel_rfl) (by kernel_rfl) ?_
  have g := r.conn c hc
  unfold CN.cells at g
  simp +contextual (disch := first | simp only [fq]; done | omega | simp only [Knx]; omega) only [wpyr, fW, reduceLE, reduceLT, reduceLeDiff, ↓reduceIte, reduceEqDiff, reduceAdd, reduceCtorEq, reduceToNat, Tryz.f75]
  refine draw_by [] (by kernel_rfl) ?_
  by_cases h1 : c.cl = cl
  · by_cases h2 : c.st = 1
    · simp +contextual (disch := first | simp only [fq]; done | omega | simp only [Knx]; omega) only [fV, reduceLE, reduceLT, reduceLeDiff, ↓reduceIte, reduceEqDiff, reduceAdd, reduceCtorEq, reduceToNat, Tryz.f75, g, hk, h1, h2]
      exact ⟨fun p hp => by (cases hp), congrArg bo (propext ⟨fun _ => ⟨h1, .inl h2⟩, fun _ => trivial⟩)⟩
    · simp +contextual (disch := first | simp only [fq]; done | omega | simp only [Knx]; omega) only [fV, reduceLE, reduceLT, reduceLeDiff, ↓reduceIte, reduceEqDiff, reduceAdd, reduceCtorEq, reduceToNat, Tryz.f75, g, hk, h1, h2]
      exact ⟨fun p hp => by (cases hp), congrArg bo (propext ⟨fun q => ⟨h1, .inr q⟩, fun q => q.2.elim (fun w => absurd w h2) id⟩)⟩
  · simp +contextual (disch := first | simp only [fq]; done | omega | simp only [Knx]; omega) only [fV, reduceLE, reduceLT, reduceLeDiff, ↓reduceIte, reduceEqDiff, reduceAdd, reduceCtorEq, reduceToNat, Tryz.f75, g, hk, h1]
    exact ⟨fun p hp => by (cases hp), congrArg bo (propext ⟨fun q => q.elim, fun q => h1 q.1⟩)⟩
def HxI (P : PS) (cl : Int) (k : Nat) (lv : V) (h1 : H) (m : Nat) (env : Env) (h' : H) : Prop :=
  ∃ (j : Nat), m = P.conns.length - j ∧ j ≤ P.conns.length ∧ env 0 = lv ∧ env 1 = .func 75 [] [.ptr k 0] ∧ env 7 = .int .i64 P.conns.length ∧ env 8 = .int .i64 j ∧ h' = h1 ∧ ∀ i (hi : i < P.conns.length), i < j → ¬ hasP cl P.conns[i]
theorem idx1_spec {D : PD} {P : PS} {h : H} (r : PR D P h) (k : Nat) (cl : Int) (hk : h.get k = some (.cells [.int .i64 cl] 3 false)) {n0 : Nat} {lv : V} (hL : Lst n0 h lv (ptrs P.conns) 68 1) : callW S.cfg nil1 83 [lv, .func 75 [] [.ptr k 0]] h fun v h' => h' = h ∧ ∃ i : Int, v = .int .i64 i ∧ (0 ≤ i ↔ ∃ c ∈ P.conns, hasP cl c) := by
  refine into Tryz.f83 _ Tryz.func83 (hS.ownP _ (by decide)) rfl rfl (by kernel_rfl) (by kernel_rfl) ?_
  have hlen := lst_lenV (e := 68) hL
  have hf := r.few
  simp +contextual (disch := first | simp only [fq]; done | omega | simp only [Knx]; omega) only [fV, reduceLE, reduceLT, reduceLeDiff, ↓reduceIte, reduceEqDiff, reduceAdd, reduceCtorEq, reduceToNat, Tryz.f83, hlen]
  refine run_loop (HxI P cl k lv h) P.conns.length ⟨0, by simp +contextual (disch := first | simp only [fq]; done | omega | simp only [Knx]; omega) only [fV, reduceLE, reduceLT, reduceLeDiff, ↓reduceIte, reduceEqDiff, reduceAdd, reduceCtorEq, reduceToNat]; exact ⟨(Nat.sub_zero _).symm, fun i hi q => absurd q (Nat.not_lt_zero _)⟩⟩ ?_
  rintro m env h2 ⟨j, rfl, hj, e0, e1, e7, e8, rfl, hno⟩
  by_cases hlt : j < P.conns.length
  · obtain ⟨kb, rfl, kb0, kb1, hkb⟩ := lst_rowV hL (by omega)
    have hkb' : h2.get kb = some (.cells (ptrs P.conns) 68 true) := hkb
    have hmem : P.conns[j] ∈ P.conns := List.getElem_mem hlt
    have c1 : (ptrs P.conns)[j]? = some (.ptr P.conns[j].blk 0) := by unfold ptrs; rw [List.getElem?_map, List.getElem?_eq_getElem hlt]; rfl
    have hwj : IntKind.i64.wrap ((j : Int) + 1) = ((j + 1 : Nat) : Int) := by rw [i64_in _ (by omega)]; omega
    simp +contextual (disch := first | simp only [fq]; done | omega | simp only [Knx]; omega) only [fV, reduceLE, reduceLT, reduceLeDiff, ↓reduceIte, reduceEqDiff, reduceAdd, reduceCtorEq, reduceToNat, Tryz.f83, e0, e1, e7, e8, hlt, hkb', c1]
    refine callF_exact (has1_spec hS r hmem k cl hk) ?_
    by_cases hP : hasP cl P.conns[j]
    · simp +contextual (disch := first | simp only [fq]; done | omega | simp only [Knx]; omega) only [fV, reduceLE, reduceLT, reduceLeDiff, ↓reduceIte, reduceEqDiff, reduceAdd, reduceCtorEq, reduceToNat, Tryz.f83, e0, e1, e7, e8, hlt, hP]
      exact ⟨(j : Int), rfl, fun _ => ⟨_, hmem, hP⟩, fun _ => by omega⟩
    · simp +contextual (disch := first | simp only [fq]; done | omega | simp only [Knx]; omega) only [fV, reduceLE, reduceLT, reduceLeDiff, ↓reduceIte, reduceEqDiff, reduceAdd, reduceCtorEq, reduceToNat, Tryz.f83, e0, e1, e7, e8, hlt, hP]
      refine ⟨P.conns.length - (j + 1), by omega, j + 1, rfl, hlt, e0, e1, e7, by simp +contextual (disch := first | simp only [fq]; done | omega | simp only [Knx]; omega) only [fV, reduceLE, reduceLT, reduceLeDiff, ↓reduceIte, reduceEqDiff, reduceAdd, reduceCtorEq, reduceToNat, e8, hwj], rfl, fun i hi q => ?_⟩
      by_cases e : i = j
      · subst e; exact hP
      · exact hno i hi (by omega)
  · have hje : j = P.conns.length := by omega
    simp +contextual (disch := first | simp only [fq]; done | omega | simp only [Knx]; omega) only [fV, reduceLE, reduceLT, reduceLeDiff, ↓reduceIte, reduceEqDiff, reduceAdd, reduceCtorEq, reduceToNat, Tryz.f83, e0, e1, e7, e8, hlt]
    refine ⟨-1, rfl, fun q => absurd q (by decide), fun ⟨c, hc, q⟩ => ?_⟩
    obtain ⟨i, hi, rfl⟩ := List.mem_iff_getElem.1 hc
    exact absurd q (hno i hi (by omega))
def hasF (P : PS) (cl : Int) : Prop := ∃ c ∈ P.conns, hasP cl c
theorem has_spec {D : PD} {P : PS} {h : H} (r : PR D P h) (cl : Int) : Pure S.cfg 49 [.ptr D.b 0, .int .i64 cl] h fun v _ => v = bo (hasF P cl) := by
  refine into Tryz.f49 _ Tryz.func49 (hS.ownP _ (by decide)) rfl rfl (by kernel_rfl) (by kernel_rfl) ?_
  simp +contextual (disch := first | simp only [fq]; done | omega | simp only [Knx]; omega) only [fV, reduceLE, reduceLT, reduceLeDiff, ↓reduceIte, reduceEqDiff, reduceAdd, reduceCtorEq, reduceToNat, Tryz.f49]
  obtain ⟨hA, hhA⟩ : ∃ hA, hA = h.push (Ob.cells [V.int IntKind.i64 cl] 3 false) := ⟨_, rfl⟩
  rw [← hhA]
  have hxA : Ext h hA := by rw [hhA]; exact (Ext.refl h).push _
  have hgA : hA.get h.nx = some (.cells [.int .i64 cl] 3 false) := by rw [hhA]; exact push_eq rfl
  have hnA : hA.nx = h.nx + 1 := by rw [hhA]; rfl
  clear hhA
  have rA := r.ext hxA
  refine callF_pure (sorted_spec hS rA) ?_
  intro lv h1 hx1 hL
  have r1 := rA.ext hx1
  have hk1 : h1.get h.nx = some (.cells [.int .i64 cl] 3 false) := by rw [hx1.2 _ (by omega)]; exact hgA
  simp +contextual (disch := first | simp only [fq]; done | omega | simp only [Knx]; omega) only [fV, reduceLE, reduceLT, reduceLeDiff, ↓reduceIte, reduceEqDiff, reduceAdd, reduceCtorEq, reduceToNat, Tryz.f49]
  refine callF_of (R := fun v h' => v = bo (hasF P cl) ∧ h' = h1) (Ok' := nil1) ?_ (fun _ q => q.elim) ?_
  · refine into Tryz.f74 _ Tryz.func74 (hS.ownP _ (by decide)) rfl rfl (by kernel_rfl) (by kernel_rfl) ?_
    simp +contextual (disch := first | simp only [fq]; done | omega | simp only [Knx]; omega) only [fV, reduceLE, reduceLT, reduceLeDiff, ↓reduceIte, reduceEqDiff, reduceAdd, reduceCtorEq, reduceToNat, Tryz.f74]
    refine callF_of (idx1_spec hS r1 h.nx cl hk1 hL) (fun _ q => q.elim) ?_
    rintro v h2 ⟨rfl, i, rfl, hi⟩
    simp +contextual (disch := first | simp only [fq]; done | omega | simp only [Knx]; omega) only [fV, reduceLE, reduceLT, reduceLeDiff, ↓reduceIte, reduceEqDiff, reduceAdd, reduceCtorEq, reduceToNat, Tryz.f74]
    exact congrArg bo (propext hi)
  · rintro v h2 ⟨rfl, rfl⟩
    simp +contextual (disch := first | simp only [fq]; done | omega | simp only [Knx]; omega) only [fV, reduceLE, reduceLT, reduceLeDiff, ↓reduceIte, reduceEqDiff, reduceAdd, reduceCtorEq, reduceToNat, Tryz.f49]
    exact hxA.trans hx1
end
noncomputable section
def WxI (ws : List WT) (fv : V) (q : WT → Prop) (lv : V) (h0 : H) (m : Nat) (env : Env) (h' : H) : Prop :=
  ∃ (j : Nat), m = ws.length - j ∧ j ≤ ws.length ∧ env 0 = lv ∧ env 1 = fv ∧ env 7 = .int .i64 ws.length ∧ env 8 = .int .i64 j ∧ Ext h0 h' ∧ ∀ i (hi : i < ws.length), i < j → ¬ q ws[i]
def waitsF (P : PS) (cl : Int) : Prop := ∃ w ∈ P.wts, w.cl = cl
variable {S : Set0} (hS : StdP S)
include hS
theorem waits1_spec (w : WT) (k : Nat) (cl : Int) (h : H) (hk : h.get k = some (.cells [.int .i64 cl] 3 false)) (hkn : k < h.nx) : Pure S.cfg 77 [.agg w.cells, .ptr k 0] h fun v _ => v = bo (w.cl = cl) := by
  refine into Tryz.f77 _ Tryz.func77 (hS.ownP _ (by decide)) rfl rfl (by kernel_rfl) (by kernel_rfl) ?_
  have hkn' : ¬ k = h.nx := by omega
  unfold WT.cells
  simp +contextual (disch := first | simp only [fq]; done | omega | simp only [Knx]; omega) only [fV, reduceLE, reduceLT, reduceLeDiff, ↓reduceIte, reduceEqDiff, reduceAdd, reduceCtorEq, reduceToNat, Tryz.f77, hk, hkn']
  exact (Ext.refl h).push _
theorem idx2_spec {h : H} {f : FuncId} {k : Nat} {q : WT → Prop} {lv : V} {ws : List WT} (hw : Wts h lv ws) (hl : ws.length ≤ 1000000) (hf : ∀ w ∈ ws, ∀ h1, Ext h h1 → Pure S.cfg f [.agg w.cells, .ptr k 0] h1 fun v _ => v = bo (q w)) : Pure S.cfg 79 [lv, .func f [] [.ptr k 0]] h fun v _ => ∃ i : Int, v = .int .i64 i ∧ ((i = -1 ∧ ∀ w ∈ ws, ¬ q w) ∨ ∃ j : Nat, ∃ hj : j < ws.length, i = j ∧ q ws[j] ∧ ∀ a (ha : a < ws.length), a < j → ¬ q ws[a]) := by
  refine into Tryz.f79 _ Tryz.func79 (hS.ownP _ (by decide)) rfl rfl (by kernel_rfl) (by kernel_rfl) ?_
  have hlen := hw.len
  simp +contextual (disch := first | simp only [fq]; done | omega | simp only [Knx]; omega) only [fV, reduceLE, reduceLT, reduceLeDiff, ↓reduceIte, reduceEqDiff, reduceAdd, reduceCtorEq, reduceToNat, Tryz.f79, hlen]
  refine run_loop (WxI ws (.func f [] [.ptr k 0]) q lv h) ws.length ⟨0, by simp +contextual (disch := first | simp only [fq]; done | omega | simp only [Knx]; omega) only [fV, reduceLE, reduceLT, reduceLeDiff, ↓reduceIte, reduceEqDiff, reduceAdd, reduceCtorEq, reduceToNat]; exact ⟨(Nat.sub_zero _).symm, Ext.refl _, fun i hi q => absurd q (Nat.not_lt_zero _)⟩⟩ ?_
  rintro m env h2 ⟨j, rfl, hj, e0, e1, e7, e8, hx2, hno⟩
  by_cases hlt : j < ws.length
  · obtain ⟨wb, wo, wm, wc, wfl, rfl, hwm, hwn, hwg, hwc⟩ := hw.opened (by omega)
    obtain ⟨x0, x1⟩ := hwc j hlt
    have hwg2 : h2.get wb = some (.cells wc 70 wfl) := by rw [hx2.2 _ hwn]; exact hwg
    have hwj : IntKind.i64.wrap ((j : Int) + 1) = ((j + 1 : Nat) : Int) := by rw [i64_in _ (by omega)]; omega
    simp +contextual (disch := first | simp only [fq]; done | omega | simp only [Knx]; omega) only [fV, reduceLE, reduceLT, reduceLeDiff, ↓reduceIte, reduceEqDiff, reduceAdd, reduceCtorEq, reduceToNat, Tryz.f79, e0, e1, e7, e8, hlt, hwg2, x0, x1]
    refine callF_pure (hf _ (List.getElem_mem hlt) _ hx2) ?_
    rintro v h3 hx3 rfl
    by_cases hP : q ws[j]
    · simp +contextual (disch := first | simp only [fq]; done | omega | simp only [Knx]; omega) only [fV, reduceLE, reduceLT, reduceLeDiff, ↓reduceIte, reduceEqDiff, reduceAdd, reduceCtorEq, reduceToNat, Tryz.f79, e0, e1, e7, e8, hlt, hP]
      exact ⟨hx2.trans hx3, _, rfl, .inr ⟨j, hlt, rfl, hP, hno⟩⟩
    · simp +contextual (disch := first | simp only [fq]; done | omega | simp only [Knx]; omega) only [fV, reduceLE, reduceLT, reduceLeDiff, ↓reduceIte, reduceEqDiff, reduceAdd, reduceCtorEq, reduceToNat, Tryz.f79, e0, e1, e7, e8, hlt, hP]
      refine ⟨ws.length - (j + 1), by omega, j + 1, rfl, hlt, e0, e1, e7, by simp +contextual (disch := first | simp only [fq]; done | omega | simp only [Knx]; omega) only [fV, reduceLE, reduceLT, reduceLeDiff, ↓reduceIte, reduceEqDiff, reduceAdd, reduceCtorEq, reduceToNat, e8, hwj], hx2.trans hx3, fun i hi w => ?_⟩
      by_cases e : i = j
      · subst e; exact hP
      · exact hno i hi (by omega)
  · simp +contextual (disch := first | simp only [fq]; done | omega | simp only [Knx]; omega) only [fV, reduceLE, reduceLT, reduceLeDiff, ↓reduceIte, reduceEqDiff, reduceAdd, reduceCtorEq, reduceToNat, Tryz.f79, e0, e1, e7, e8, hlt]
    refine ⟨hx2, _, rfl, .inl ⟨rfl, fun w hm => ?_⟩⟩
    obtain ⟨i, hi, rfl⟩ := List.mem_iff_getElem.1 hm
    exact hno i hi (by omega)
theorem waits_spec {D : PD} {P : PS} {h : H} (r : PR D P h) (cl : Int) (hl : P.wts.length ≤ 1000000) : Pure S.cfg 50 [.ptr D.b 0, .int .i64 cl] h fun v _ => v = bo (waitsF P cl) := by
  refine into Tryz.f50 _ Tryz.func50 (hS.ownP _ (by decide)) rfl rfl (by kernel_rfl) (by kernel_rfl) ?_
  have hp := r.pool
  unfold pcells at hp
  have hbn : ¬ D.b = h.nx := by have := r.lt.1; omega
  simp +contextual (disch := first | simp only [fq]; done | omega | simp only [Knx]; omega) only [fV, reduceLE, reduceLT, reduceLeDiff, ↓reduceIte, reduceEqDiff, reduceAdd, reduceCtorEq, reduceToNat, Tryz.f50, hp, hbn]
  obtain ⟨hA, hhA⟩ : ∃ hA, hA = h.push (Ob.cells [V.int IntKind.i64 cl] 3 false) := ⟨_, rfl⟩
  rw [← hhA]
  have hxA : Ext h hA := by rw [hhA]; exact (Ext.refl h).push _
  have hgA : hA.get h.nx = some (.cells [.int .i64 cl] 3 false) := by rw [hhA]; exact push_eq rfl
  have hnA : hA.nx = h.nx + 1 := by rw [hhA]; rfl
  clear hhA
  have rA := r.ext hxA
  refine callF_pure (R := fun v _ => v = bo (waitsF P cl)) ?_ ?_
  · refine into Tryz.f76 _ Tryz.func76 (hS.ownP _ (by decide)) rfl rfl (by kernel_rfl) (by kernel_rfl) ?_
    simp +contextual (disch := first | simp only [fq]; done | omega | simp only [Knx]; omega) only [fV, reduceLE, reduceLT, reduceLeDiff, ↓reduceIte, reduceEqDiff, reduceAdd, reduceCtorEq, reduceToNat, Tryz.f76]
    refine callF_pure (idx2_spec hS (k := h.nx) (f := 77) (q := fun w => w.cl = cl) rA.wts hl fun w hm h1 hx1 => waits1_spec hS w h.nx cl h1 (by rw [hx1.2 _ (by omega)]; exact hgA) (by have := hx1.1; omega)) ?_
    rintro v h2 hx2 ⟨i, rfl, hi⟩
    simp +contextual (disch := first | simp only [fq]; done | omega | simp only [Knx]; omega) only [fV, reduceLE, reduceLT, reduceLeDiff, ↓reduceIte, reduceEqDiff, reduceAdd, reduceCtorEq, reduceToNat, Tryz.f76]
    refine ⟨hx2, congrArg bo (propext ⟨fun q => ?_, fun ⟨w, hm, e⟩ => ?_⟩)⟩
    · rcases hi with ⟨rfl, _⟩ | ⟨j, hj, rfl, hq, _⟩
      · exact absurd q (by decide)
      · exact ⟨_, List.getElem_mem hj, hq⟩
    · rcases hi with ⟨rfl, hno⟩ | ⟨j, hj, rfl, hq, _⟩
      · exact absurd e (hno w hm)
      · omega
  · rintro v h2 hx2 rfl
    simp +contextual (disch := first | simp only [fq]; done | omega | simp only [Knx]; omega) only [fV, reduceLE, reduceLT, reduceLeDiff, ↓reduceIte, reduceEqDiff, reduceAdd, reduceCtorEq, reduceToNat, Tryz.f50]
    exact hxA.trans hx2
def findC (P : PS) (n : Int) : Option CN := P.conns.find? fun c => decide (c.num = n)
theorem find_spec {D : PD} {P : PS} {h : H} (r : PR D P h) (n st : Int) : Exact S.cfg 54 [.ptr D.b 0, .int .i64 n, .int .i64 st] h (match findC P n with
    | none => .tuple [.nilptr, .int .i64 281]
    | some c => if st ≠ 0 ∧ c.st ≠ st then .tuple [.nilptr, .int .i64 282] else .tuple [.ptr c.blk 0, .int .i64 0]) := by
  refine into Tryz.f54 _ Tryz.func54 (hS.ownP _ (by decide)) rfl rfl (by kernel_rfl) (by kernel_rfl) ?_
  have hp := r.pool
  unfold pcells at hp
  simp +contextual (disch := first | simp only [fq]; done | omega | simp only [Knx]; omega) only [fV, reduceLE, reduceLT, reduceLeDiff, ↓reduceIte, reduceEqDiff, reduceAdd, reduceCtorEq, reduceToNat, Tryz.f54]
  refine callF_exact (none_spec hS r) ?_
  cases hf : findC P n with
  | none =>
    have hno : ∀ c ∈ P.conns, c.num ≠ n := fun c hc e => by
      have := List.find?_eq_none.1 hf c hc
      simp [e] at this
    simp +contextual (disch := first | simp only [fq]; done | omega | simp only [Knx]; omega) only [fV, reduceLE, reduceLT, reduceLeDiff, ↓reduceIte, reduceEqDiff, reduceAdd, reduceCtorEq, reduceToNat, Tryz.f54, hp]
    refine lookup_by (d := .int .i64) (z := .nilptr) (r := D.mb) rfl rfl (by kernel_rfl) rfl r.map (find_no hno) ?_
    simp +contextual (disch := first | simp only [fq]; done | omega | simp only [Knx]; omega) only [fV, reduceLE, reduceLT, reduceLeDiff, ↓reduceIte, reduceEqDiff, reduceAdd, reduceCtorEq, reduceToNat, Tryz.f54, lk_no2]
  | some c =>
    have hc : c ∈ P.conns := List.mem_of_find?_eq_some hf
    have hcn : c.num = n := by have := List.find?_some hf; simpa using this
    obtain ⟨j, hj, e⟩ := List.mem_iff_getElem.1 hc
    have g := r.conn c hc
    unfold CN.cells at g
    have hfc := find_conn r.rise hj
    rw [e, hcn] at hfc
    simp +contextual (disch := first | simp only [fq]; done | omega | simp only [Knx]; omega) only [fV, reduceLE, reduceLT, reduceLeDiff, ↓reduceIte, reduceEqDiff, reduceAdd, reduceCtorEq, reduceToNat, Tryz.f54, hp]
    refine lookup_by (d := .int .i64) (z := .nilptr) (r := D.mb) rfl rfl (by kernel_rfl) rfl r.map hfc ?_
    by_cases h1 : st = 0
    · simp +contextual (disch := first | simp only [fq]; done | omega | simp only [Knx]; omega) only [fV, reduceLE, reduceLT, reduceLeDiff, ↓reduceIte, reduceEqDiff, reduceAdd, reduceCtorEq, reduceToNat, Tryz.f54, lk_hit2, h1]
      exact (if_neg (fun q => q.1 rfl)).symm
    by_cases h2 : c.st = st
    · simp +contextual (disch := first | simp only [fq]; done | omega | simp only [Knx]; omega) only [fV, reduceLE, reduceLT, reduceLeDiff, ↓reduceIte, reduceEqDiff, reduceAdd, reduceCtorEq, reduceToNat, Tryz.f54, lk_hit2, h1, h2, g]
      exact (if_neg (fun q => q.2 rfl)).symm
    · simp +contextual (disch := first | simp only [fq]; done | omega | simp only [Knx]; omega) only [fV, reduceLE, reduceLT, reduceLeDiff, ↓reduceIte, reduceEqDiff, reduceAdd, reduceCtorEq, reduceToNat, Tryz.f54, lk_hit2, h1, h2, g]
      exact (if_pos ⟨h1, h2⟩).symm
omit hS in
def delC (l : List CN) (n : Int) : List CN := l.filter fun c => decide (c.num ≠ n)
omit hS in
theorem delC_sub (l : List CN) (n : Int) : (delC l n).Sublist l := List.filter_sublist
omit hS in
theorem erase_del : ∀ {l : List CN}, (l.map CN.num).Pairwise (· < ·) → ∀ {j : Nat} (hj : j < l.length), l.eraseIdx j = delC l l[j].num
  | x :: l, h, 0, _ => by
    rw [List.map_cons, List.pairwise_cons] at h
    show l = delC (x :: l) x.num
    unfold delC
    rw [List.filter_cons, if_neg (by simp)]
    refine (List.filter_eq_self.2 fun c hc => ?_).symm
    have := h.1 _ (List.mem_map_of_mem hc)
    simp; omega
  | x :: l, h, j + 1, hj => by
    rw [List.map_cons, List.pairwise_cons] at h
    have hj' : j < l.length := by simpa using hj
    have ih := erase_del h.2 hj'
    have := h.1 _ (List.mem_map_of_mem (List.getElem_mem hj'))
    show x :: l.eraseIdx j = delC (x :: l) l[j].num
    unfold delC at ih ⊢
    rw [List.filter_cons, if_pos (by simp; omega), ← ih]
omit hS in
theorem Stp.delc {D : PD} {P : PS} {h : H} (r : PR D P h) (n : Int) : Stp D P h D { P with conns := delC P.conns n } (h.put D.mb (.map (centries (delC P.conns n)) D.ck)) where
  pr := {
    pool := by rw [put_ne r.bmb]; exact r.pool
    map := put_eq rfl
    conn := fun c hc => by
      have hc := (delC_sub _ _).subset hc
      rw [put_ne (r.cb c hc).2]; exact r.conn c hc
    wts := r.wts.put fun k o n m q => (r.wb k o n m q).2.1
    mvs := Lst.put' r.mvs fun k o n m q => (r.mvb k o n m q).2.1
    bmb := r.bmb
    cb := fun c hc => r.cb c ((delC_sub _ _).subset hc)
    cc := List.Nodup.sublist ((delC_sub _ _).map _) r.cc
    wb := fun k o n m q => by
      obtain ⟨w1, w2, w3, w4⟩ := r.wb k o n m q
      exact ⟨w1, w2, fun c hc => w3 c ((delC_sub _ _).subset hc), w4⟩
    mvb := fun k o n m q => by
      obtain ⟨w1, w2, w3⟩ := r.mvb k o n m q
      exact ⟨w1, w2, fun c hc => w3 c ((delC_sub _ _).subset hc)⟩
    lt := ⟨r.lt.1, r.lt.2.1, fun c hc => r.lt.2.2 c ((delC_sub _ _).subset hc)⟩
    stamps := fun c hc => r.stamps c ((delC_sub _ _).subset hc)
    apart := List.Nodup.sublist ((delC_sub _ _).map _) r.apart
    rise := List.Pairwise.sublist ((delC_sub _ _).map _) r.rise
    few := Nat.le_trans (delC_sub _ _).length_le r.few
    wf := fun c hc => r.wf c ((delC_sub _ _).subset hc) }
  nx := Nat.le_refl _
  same := fun k hk ho => put_ne fun q => ho (.inr (.inl q))
  own := fun k q => by
    rcases q with q | q | ⟨x, hx, q⟩ | q
    · exact .inl (.inl q)
    · exact .inl (.inr (.inl q))
    · exact .inl (.inr (.inr (.inl ⟨x, (delC_sub _ _).subset hx, q⟩)))
    · exact .inl (.inr (.inr (.inr q)))
  b := rfl
omit hS in
theorem erase_map : ∀ (l : List CN) (j : Nat), (l.map CN.ie).eraseIdx j = (l.eraseIdx j).map CN.ie
  | [], j => by simp
  | x :: l, 0 => rfl
  | x :: l, j + 1 => by
    show x.ie :: (l.map CN.ie).eraseIdx j = _
    rw [erase_map l j]
    rfl
omit hS in
theorem erase_cent {l : List CN} (h : (l.map CN.num).Pairwise (· < ·)) {j : Nat} (hj : j < l.length) : eraseE (centries l) j = centries (delC l l[j].num) := by
  rw [centries_ie, erase_int, centries_ie, ← erase_del h hj, erase_map]
theorem closes_spec {D : PD} {P : PS} {h : H} (r : PR D P h) {c : CN} (hc : c ∈ P.conns) (hm : P.moves.length ≤ 1000000) : callW S.cfg (owns D P) 55 [.ptr D.b 0, .ptr c.blk 0] h fun _ h' => ∃ D', Stp D P h D' { P with conns := delC P.conns c.num, moves := P.moves ++ [⟨6, c.num, 0⟩] } h' := by
  refine into Tryz.f55 _ Tryz.func55 (hS.ownP _ (by decide)) rfl rfl (by kernel_rfl) (by kernel_rfl) ?_
  have hp := r.pool
  unfold pcells at hp
  obtain ⟨j, hj, e⟩ := List.mem_iff_getElem.1 hc
  have g := r.conn c hc
  unfold CN.cells at g
  have hfc := find_conn r.rise hj
  rw [e] at hfc
  simp +contextual (disch := first | simp only [fq]; done | omega | simp only [Knx]; omega) only [wpyr, fW, reduceLE, reduceLT, reduceLeDiff, ↓reduceIte, reduceEqDiff, reduceAdd, reduceCtorEq, reduceToNat, Tryz.f55]
  refine draw_by [] (by kernel_rfl) ?_
  simp +contextual (disch := first | simp only [fq]; done | omega | simp only [Knx]; omega) only [wpyr, fW, reduceLE, reduceLT, reduceLeDiff, ↓reduceIte, reduceEqDiff, reduceAdd, reduceCtorEq, reduceToNat, Tryz.f55, hp, g]
  have hmi := r.map
  refine delete_by (a := 3) (b := 68) (d := .int .i64) (r := D.mb) (by kernel_rfl) (by kernel_rfl) rfl rfl rfl r.map hfc (.inr (by rw [fresh_def]; exact .inr (.inr (.inl rfl)))) ?_
  have s2 := Stp.delc r c.num
  rw [← e, ← erase_cent r.rise hj, e] at s2
  obtain ⟨h2, hh2⟩ : ∃ h2, h2 = h.put D.mb (.map (eraseE (centries P.conns) j) D.ck) := ⟨_, rfl⟩
  rw [← hh2] at s2 ⊢
  have g2 : h2.get c.blk = some (Ob.cells [V.int IntKind.i64 c.num, V.int IntKind.i64 c.st, V.int IntKind.i64 c.cl, V.int IntKind.i64 c.since] 65 false) := by rw [hh2, put_ne (r.cb c hc).2]; exact g
  simp +contextual (disch := first | simp only [fq]; done | omega | simp only [Knx]; omega) only [fV, reduceLE, reduceLT, reduceLeDiff, ↓reduceIte, reduceEqDiff, reduceAdd, reduceCtorEq, reduceToNat, Tryz.f55, g2]
  refine ⟨fun p hp => by (cases hp), ?_⟩
  refine callF_of (move_spec hS s2.pr 6 c.num 0 hm) (fun k q => by rw [fresh_def]; exact (s2.own k q).elim .inr .inl) ?_
  rintro v h3 ⟨mv, s3⟩
  simp +contextual (disch := first | simp only [fq]; done | omega | simp only [Knx]; omega) only [fV, reduceLE, reduceLT, reduceLeDiff, ↓reduceIte, reduceEqDiff, reduceAdd, reduceCtorEq, reduceToNat, Tryz.f55]
  exact ⟨_, s2.trans s3⟩
end
noncomputable section
abbrev Res := Int × List MV × PL
def PL.done (p : PL) : Res := (0, p.moves, { p with moves := [] })
def PL.get (p : PL) (n : Int) : Option PC := p.conns.find? fun c => decide (c.num = n)
def PL.del (p : PL) (n : Int) : PL := { p with conns := p.conns.filter fun c => decide (c.num ≠ n) }
def PL.set (p : PL) (n : Int) (c' : PC) : PL := { p with conns := p.conns.map fun x => if x.num = n then ⟨x.num, c'.st, c'.cl, c'.since⟩ else x }
def PL.mov (p : PL) (kd cn cl : Int) : PL := { p with moves := p.moves ++ [⟨kd, cn, cl⟩] }
def openedF (p : PL) (n : Int) (ok : Prop) : Res := match p.get n with
  | none => (281, [], p)
  | some c => if c.st ≠ 1 then (282, [], p) else (if ok then (p.set n ⟨n, 2, c.cl, c.since⟩).mov 2 n c.cl else serveF (p.del n)).done
def lostF (p : PL) (n : Int) : Res := match p.get n with
  | none => (281, [], p)
  | some _ => (serveF (p.del n)).done
def releaseF (p : PL) (n : Int) : Res := match p.get n with
  | none => (281, [], p)
  | some c => if c.st ≠ 2 then (282, [], p) else (if p.closed ∨ (p.conns.length : Int) > p.lim then serveF ((p.del n).mov 6 n 0) else (p.set n ⟨n, 3, c.cl, c.since⟩).mov 5 n 0).done
def resetF (p : PL) (n : Int) (ok : Prop) : Res := match p.get n with
  | none => (281, [], p)
  | some c => if c.st ≠ 3 then (282, [], p) else (serveF (if ok ∧ ¬ p.closed ∧ (p.conns.length : Int) ≤ p.lim then p.set n ⟨n, 4, c.cl, p.now⟩ else (p.del n).mov 6 n 0)).done
def pauseF (p : PL) (on : Prop) : Res := if p.closed then (9, [], p) else (serveF { p with paused := on }).done
def OpR (T : Int) (D : PD) (P : PS) (h : H) (r : Res) (v : V) (h' : H) : Prop :=
  ∃ (D' : PD) (P' : PS) (mv : V), v = .tuple [mv, .int .i64 r.1] ∧ Stp D P h D' P' h' ∧ P'.pl = r.2.2 ∧ P'.moves = [] ∧ Lst 0 h' mv (mcells r.2.1) 63 3 ∧ (∀ k o n m, mv = .slice k o n m → ¬ owns D' P' k) ∧ Bds T P'
theorem OpR.bad {T : Int} {D : PD} {P : PS} {h : H} (r : PR D P h) (hm : P.moves = []) (B : Bds T P) (e : Int) : OpR T D P h (e, [], P.pl) (.tuple [.nilslice, .int .i64 e]) h :=
  ⟨D, P, .nilslice, rfl, Stp.refl r, rfl, hm, .inl (.inl ⟨rfl, rfl⟩), fun k o n m q => (by cases q), B⟩
theorem get_pl (P : PS) (n : Int) : P.pl.get n = (findC P n).map CN.pc := by
  unfold PL.get findC PS.pl
  simp only
  rw [List.find?_map]
  rfl
theorem set_pl (P : PS) (n : Int) (c' : PC) : (({ P with conns := setC P.conns n c' } : PS)).pl = P.pl.set n c' := by
  unfold PS.pl PL.set setC
  simp only [List.map_map]
  congr 1
  refine List.map_congr_left fun x _ => ?_
  by_cases e : x.num = n
  · have e' : x.pc.num = n := e
    simp only [Function.comp, if_pos e, if_pos e']
    rfl
  · have e' : ¬ x.pc.num = n := e
    simp only [Function.comp, if_neg e, if_neg e']
theorem del_pl (P : PS) (n : Int) : (({ P with conns := delC P.conns n } : PS)).pl = P.pl.del n := by
  unfold PS.pl PL.del delC
  simp only [List.filter_map]
  rfl
theorem Bds.sub {T : Int} {P : PS} (B : Bds T P) (n : Int) : Bds T { P with conns := delC P.conns n } := ⟨B.lim, fun c hc => B.num c ((delC_sub _ _).subset hc), B.pos, B.top, B.tt, B.mvs⟩
theorem Bds.set {T : Int} {P : PS} (B : Bds T P) (n : Int) (c' : PC) : Bds T { P with conns := setC P.conns n c' } := ⟨B.lim, fun c hc => by obtain ⟨y, hy, _, e2, _⟩ := setC_mem hc; rw [e2]; exact B.num y hy, B.pos, B.top, B.tt, B.mvs⟩
variable {S : Set0} (hS : StdP S)
include hS
theorem told_end {T : Int} {D0 D : PD} {P0 P : PS} {h0 h : H} {Ok : Nat → Prop} (st : Stp D0 P0 h0 D P h) (B : Bds T P) (hO : ∀ k, owns D P k → Ok k) {K : V → H → Fp → Prop} (hK : ∀ v h' mv, v = .tuple [mv, .int .i64 0] → OpR T D0 P0 h0 P.pl.done v h' → K v h' (.cl h.nx h'.nx (owns D P))) : callF S.cfg Ok 53 [.ptr D.b 0] h K := by
  refine callF_of (told_spec hS st.pr) hO ?_
  rintro v h' ⟨rfl, s2, hsame⟩
  refine hK _ _ D.mv rfl ⟨_, _, D.mv, rfl, st.trans s2, rfl, rfl, ?_, ?_, ⟨B.lim, B.num, B.pos, B.top, B.tt, by have := B.mvs; show 0 + P.wts.length ≤ _; omega⟩⟩
  · have hl := st.pr.mvs
    rcases hl with (ha | ⟨k, n, h1, h2, h3, h4, h5, h6⟩) | ⟨h1, k, h2, h3, h4, h5⟩
    · exact .inl (.inl ha)
    · exact .inl (.inr ⟨k, n, h1, Nat.lt_of_lt_of_le h2 s2.nx, h3, h4, by rw [hsame k (st.pr.mvb _ _ _ _ h3).1]; exact h5, h6⟩)
    · exact .inr ⟨h1, k, h2, Nat.lt_of_lt_of_le h3 s2.nx, h4, by rw [hsame k (st.pr.mvb _ _ _ _ h4).1]; exact h5⟩
  · intro k o n m q w
    obtain ⟨w1, w2, w3⟩ := st.pr.mvb k o n m q
    rcases w with w | w | ⟨c, hc, w⟩ | ⟨_, _, _, w⟩
    · exact w1 w
    · exact w2 w
    · exact w3 c hc w
    · cases w
theorem told_end2 {T : Int} {D0 D : PD} {P0 P : PS} {h0 h : H} {Ok : Nat → Prop} (st : Stp D0 P0 h0 D P h) (B : Bds T { P with moves := [] }) (hO : ∀ k, owns D P k → Ok k) {K : V → H → Fp → Prop} (hK : ∀ v h' mv, v = .tuple [mv, .int .i64 0] → OpR T D0 P0 h0 P.pl.done v h' → K v h' (.cl h.nx h'.nx (owns D P))) : callF S.cfg Ok 53 [.ptr D.b 0] h K := by
  refine callF_of (told_spec hS st.pr) hO ?_
  rintro v h' ⟨rfl, s2, hsame⟩
  refine hK _ _ D.mv rfl ⟨_, _, D.mv, rfl, st.trans s2, rfl, rfl, ?_, ?_, B⟩
  · have hl := st.pr.mvs
    rcases hl with (ha | ⟨k, n, h1, h2, h3, h4, h5, h6⟩) | ⟨h1, k, h2, h3, h4, h5⟩
    · exact .inl (.inl ha)
    · exact .inl (.inr ⟨k, n, h1, Nat.lt_of_lt_of_le h2 s2.nx, h3, h4, by rw [hsame k (st.pr.mvb _ _ _ _ h3).1]; exact h5, h6⟩)
    · exact .inr ⟨h1, k, h2, Nat.lt_of_lt_of_le h3 s2.nx, h4, by rw [hsame k (st.pr.mvb _ _ _ _ h4).1]; exact h5⟩
  · intro k o n m q w
    obtain ⟨w1, w2, w3⟩ := st.pr.mvb k o n m q
    rcases w with w | w | ⟨c, hc, w⟩ | ⟨_, _, _, w⟩
    · exact w1 w
    · exact w2 w
    · exact w3 c hc w
    · cases w
theorem find_gone {D : PD} {P : PS} {h : H} (r : PR D P h) {n : Int} (st : Int) (hf : findC P n = none) : Exact S.cfg 54 [.ptr D.b 0, .int .i64 n, .int .i64 st] h (.tuple [.nilptr, .int .i64 281]) := by
  have := find_spec hS r n st
  rw [hf] at this
  exact this
theorem find_bad {D : PD} {P : PS} {h : H} (r : PR D P h) {n : Int} {st : Int} {c : CN} (hf : findC P n = some c) (hs : st ≠ 0 ∧ c.st ≠ st) : Exact S.cfg 54 [.ptr D.b 0, .int .i64 n, .int .i64 st] h (.tuple [.nilptr, .int .i64 282]) := by
  have := find_spec hS r n st
  rw [hf] at this
  simp only [if_pos hs] at this
  exact this
theorem find_ok {D : PD} {P : PS} {h : H} (r : PR D P h) {n : Int} {st : Int} {c : CN} (hf : findC P n = some c) (hs : ¬ (st ≠ 0 ∧ c.st ≠ st)) : Exact S.cfg 54 [.ptr D.b 0, .int .i64 n, .int .i64 st] h (.tuple [.ptr c.blk 0, .int .i64 0]) := by
  have := find_spec hS r n st
  rw [hf] at this
  simp only [if_neg hs] at this
  exact this
omit hS in
theorem findC_mem {P : PS} {n : Int} {c : CN} (hf : findC P n = some c) : c ∈ P.conns ∧ c.num = n := ⟨List.mem_of_find?_eq_some hf, by have := List.find?_some hf; simpa using this⟩
theorem del_conn {D : PD} {P : PS} {h : H} (r : PR D P h) {c : CN} (hc : c ∈ P.conns) {Ok : Nat → Prop} {env : Env} {K : V → H → Fp → Prop} {x y : Operand} {t2 : TypeId} (hx : evalE env x = .map D.mb) (hy : evalE env y = .int .i64 c.num) (hO : h.nx ≤ D.mb ∨ Ok D.mb) (hK : ∀ h', Stp D P h D { P with conns := delC P.conns c.num } h' → (∀ k, k ≠ D.mb → h'.get k = h.get k) → K undefV h' (.lg [.wrd D.mb, .rdd D.mb, .rdd D.mb])) : opW S.cfg Ok (.call ⟨.builtin .delete, #[x, y], #[53, t2]⟩) env h K := by
  obtain ⟨j, hj, e⟩ := List.mem_iff_getElem.1 hc
  have hfc := find_conn r.rise hj
  rw [e] at hfc
  have s2 := Stp.delc r c.num
  rw [← e, ← erase_cent r.rise hj, e] at s2
  exact delete_by (a := 3) (b := 68) (d := .int .i64) (r := D.mb) (by kernel_rfl) (by kernel_rfl) hx hy rfl r.map hfc hO (hK _ s2 fun k hk => put_ne hk)
theorem lost_spec {T : Int} {D : PD} {P : PS} {h : H} (r : PR D P h) (hm : P.moves = []) (B : Bds T P) (n : Int) : callW S.cfg (owns D P) 29 [.ptr D.b 0, .int .i64 n] h (OpR T D P h (lostF P.pl n)) := by
  refine into Tryz.f29 _ Tryz.func29 (hS.ownP _ (by decide)) rfl rfl (by kernel_rfl) (by kernel_rfl) ?_
  have hg := get_pl P n
  simp +contextual (disch := first | simp only [fq]; done | omega | simp only [Knx]; omega) only [fV, reduceLE, reduceLT, reduceLeDiff, ↓reduceIte, reduceEqDiff, reduceAdd, reduceCtorEq, reduceToNat, Tryz.f29]
  unfold lostF
  cases hf : findC P n with
  | none =>
    rw [hf] at hg
    rw [hg]
    refine callF_exact (find_gone hS r 0 hf) ?_
    simp +contextual (disch := first | simp only [fq]; done | omega | simp only [Knx]; omega) only [fV, reduceLE, reduceLT, reduceLeDiff, ↓reduceIte, reduceEqDiff, reduceAdd, reduceCtorEq, reduceToNat, Tryz.f29, Int.reduceEq]
    exact OpR.bad r hm B 281
  | some c =>
    rw [hf] at hg
    rw [hg]
    obtain ⟨hc, hcn⟩ := findC_mem hf
    refine callF_exact (find_ok hS r (st := 0) hf (fun q => q.1 rfl)) ?_
    have hp := r.pool
    unfold pcells at hp
    simp +contextual (disch := first | simp only [fq]; done | omega | simp only [Knx]; omega) only [fV, reduceLE, reduceLT, reduceLeDiff, ↓reduceIte, reduceEqDiff, reduceAdd, reduceCtorEq, reduceToNat, Tryz.f29, hp, Int.reduceEq]
    refine del_conn hS r hc rfl (by simp +contextual (disch := first | simp only [fq]; done | omega | simp only [Knx]; omega) only [fV, reduceLE, reduceLT, reduceLeDiff, ↓reduceIte, reduceEqDiff, reduceAdd, reduceCtorEq, reduceToNat, hcn]) (.inr (by rw [fresh_def]; exact .inr (.inr (.inl rfl)))) ?_
    intro h1 s1 _
    simp +contextual (disch := first | simp only [fq]; done | omega | simp only [Knx]; omega) only [fV, reduceLE, reduceLT, reduceLeDiff, ↓reduceIte, reduceEqDiff, reduceAdd, reduceCtorEq, reduceToNat, Tryz.f29]
    refine callF_of (serve_spec hS s1.pr (B.sub _)) (fun k q => by rw [fresh_def]; exact (s1.own k q).elim .inr .inl) ?_
    rintro v h2 ⟨D2, P2, s2, B2, e2⟩
    have s12 := s1.trans s2
    have eb := s12.b
    simp +contextual (disch := first | simp only [fq]; done | omega | simp only [Knx]; omega) only [fV, reduceLE, reduceLT, reduceLeDiff, ↓reduceIte, reduceEqDiff, reduceAdd, reduceCtorEq, reduceToNat, Tryz.f29]
    rw [← eb]
    refine told_end hS s12 B2 (fun k q => by rw [fresh_def]; exact (s12.own k q).elim .inr .inl) ?_
    rintro v3 h3 mv rfl hR
    simp +contextual (disch := first | simp only [fq]; done | omega | simp only [Knx]; omega) only [fV, reduceLE, reduceLT, reduceLeDiff, ↓reduceIte, reduceEqDiff, reduceAdd, reduceCtorEq, reduceToNat, Tryz.f29]
    rw [e2, del_pl, hcn] at hR
    exact hR
omit hS in
theorem mov_pl (P : PS) (kd cn cl : Int) : (({ P with moves := P.moves ++ [⟨kd, cn, cl⟩] } : PS)).pl = P.pl.mov kd cn cl := rfl
omit hS in
theorem Bds.mov {T : Int} {P : PS} (B : Bds T P) (hm : P.moves = []) (hw : P.wts.length ≤ 800000) (kd cn cl : Int) : Bds T { P with moves := P.moves ++ [⟨kd, cn, cl⟩] } := ⟨B.lim, B.num, B.pos, B.top, B.tt, by rw [hm]; show 1 + P.wts.length ≤ _; omega⟩
theorem opened_spec {T : Int} {D : PD} {P : PS} {h : H} (r : PR D P h) (hm : P.moves = []) (B : Bds T P) (hw : P.wts.length ≤ 800000) (n : Int) (ok : Prop) : callW S.cfg (owns D P) 22 [.ptr D.b 0, .int .i64 n, bo ok] h (OpR T D P h (openedF P.pl n ok)) := by
  refine into Tryz.f22 _ Tryz.func22 (hS.ownP _ (by decide)) rfl rfl (by kernel_rfl) (by kernel_rfl) ?_
  have hg := get_pl P n
  simp +contextual (disch := first | simp only [fq]; done | omega | simp only [Knx]; omega) only [fV, reduceLE, reduceLT, reduceLeDiff, ↓reduceIte, reduceEqDiff, reduceAdd, reduceCtorEq, reduceToNat, Tryz.f22]
  unfold openedF
  cases hf : findC P n with
  | none =>
    rw [hf] at hg
    rw [hg]
    refine callF_exact (find_gone hS r 1 hf) ?_
    simp +contextual (disch := first | simp only [fq]; done | omega | simp only [Knx]; omega) only [fV, reduceLE, reduceLT, reduceLeDiff, ↓reduceIte, reduceEqDiff, reduceAdd, reduceCtorEq, reduceToNat, Tryz.f22, Int.reduceEq]
    exact OpR.bad r hm B 281
  | some c =>
    rw [hf] at hg
    rw [hg]
    obtain ⟨hc, hcn⟩ := findC_mem hf
    have hp := r.pool
    unfold pcells at hp
    have g := r.conn c hc
    unfold CN.cells at g
    by_cases hst : c.st = 1
    · refine callF_exact (find_ok hS r (st := 1) hf (fun q => q.2 hst)) ?_
      have e1 : (match Option.map CN.pc (some c) with
        | none => ((281, [], P.pl) : Res)
        | some c => if c.st ≠ 1 then (282, [], P.pl) else (if ok then (P.pl.set n ⟨n, 2, c.cl, c.since⟩).mov 2 n c.cl else serveF (P.pl.del n)).done) = (if ok then (P.pl.set n ⟨n, 2, c.cl, c.since⟩).mov 2 n c.cl else serveF (P.pl.del n)).done := if_neg (fun q => q hst)
      rw [e1]
      by_cases ho : ok
      · rw [if_pos ho]
        have s1 := Stp.setc r hc ⟨c.num, 2, c.cl, c.since⟩ rfl
        simp +contextual (disch := first | simp only [fq]; done | omega | simp only [Knx]; omega) only [fV, reduceLE, reduceLT, reduceLeDiff, ↓reduceIte, reduceEqDiff, reduceAdd, reduceCtorEq, reduceToNat, Tryz.f22, hp, g, ho, Int.reduceEq]
        refine ⟨.inr (.inr (.inr (.inr (.inl ⟨c, hc, rfl⟩)))), ?_⟩
        refine callF_of (move_spec hS s1.pr 2 n c.cl (by show P.moves.length ≤ _; rw [hm]; exact Nat.zero_le _)) (fun k q => by rw [fresh_def]; exact (s1.own k q).elim .inr .inl) ?_
        rintro v h2 ⟨mv, s2⟩
        have s12 := s1.trans s2
        have eb := s12.b
        simp +contextual (disch := first | simp only [fq]; done | omega | simp only [Knx]; omega) only [fV, reduceLE, reduceLT, reduceLeDiff, ↓reduceIte, reduceEqDiff, reduceAdd, reduceCtorEq, reduceToNat, Tryz.f22]
        refine told_end hS s12 ((B.set _ _).mov hm hw _ _ _) (fun k q => by rw [fresh_def]; exact (s12.own k q).elim .inr .inl) ?_
        rintro v3 h3 mv3 rfl hR
        simp +contextual (disch := first | simp only [fq]; done | omega | simp only [Knx]; omega) only [fV, reduceLE, reduceLT, reduceLeDiff, ↓reduceIte, reduceEqDiff, reduceAdd, reduceCtorEq, reduceToNat, Tryz.f22]
        have e2 := set_pl P c.num ⟨c.num, 2, c.cl, c.since⟩
        rw [hcn] at e2
        rw [mov_pl, hcn, e2] at hR
        exact hR
      · rw [if_neg ho]
        simp +contextual (disch := first | simp only [fq]; done | omega | simp only [Knx]; omega) only [fV, reduceLE, reduceLT, reduceLeDiff, ↓reduceIte, reduceEqDiff, reduceAdd, reduceCtorEq, reduceToNat, Tryz.f22, hp, g, ho, Int.reduceEq]
        refine del_conn hS r hc rfl (by simp +contextual (disch := first | simp only [fq]; done | omega | simp only [Knx]; omega) only [fV, reduceLE, reduceLT, reduceLeDiff, ↓reduceIte, reduceEqDiff, reduceAdd, reduceCtorEq, reduceToNat, hcn]) (.inr (by rw [fresh_def]; exact .inr (.inr (.inl rfl)))) ?_
        intro h1 s1 _
        simp +contextual (disch := first | simp only [fq]; done | omega | simp only [Knx]; omega) only [fV, reduceLE, reduceLT, reduceLeDiff, ↓reduceIte, reduceEqDiff, reduceAdd, reduceCtorEq, reduceToNat, Tryz.f22]
        refine callF_of (serve_spec hS s1.pr (B.sub _)) (fun k q => by rw [fresh_def]; exact (s1.own k q).elim .inr .inl) ?_
        rintro v h2 ⟨D2, P2, s2, B2, e2⟩
        have s12 := s1.trans s2
        have eb := s12.b
        simp +contextual (disch := first | simp only [fq]; done | omega | simp only [Knx]; omega) only [fV, reduceLE, reduceLT, reduceLeDiff, ↓reduceIte, reduceEqDiff, reduceAdd, reduceCtorEq, reduceToNat, Tryz.f22]
        rw [← eb]
        refine told_end hS s12 B2 (fun k q => by rw [fresh_def]; exact (s12.own k q).elim .inr .inl) ?_
        rintro v3 h3 mv rfl hR
        simp +contextual (disch := first | simp only [fq]; done | omega | simp only [Knx]; omega) only [fV, reduceLE, reduceLT, reduceLeDiff, ↓reduceIte, reduceEqDiff, reduceAdd, reduceCtorEq, reduceToNat, Tryz.f22]
        rw [e2, del_pl, hcn] at hR
        exact hR
    · refine callF_exact (find_bad hS r (st := 1) hf ⟨by decide, hst⟩) ?_
      have e1 : (match Option.map CN.pc (some c) with
        | none => ((281, [], P.pl) : Res)
        | some c => if c.st ≠ 1 then (282, [], P.pl) else (if ok then (P.pl.set n ⟨n, 2, c.cl, c.since⟩).mov 2 n c.cl else serveF (P.pl.del n)).done) = (282, [], P.pl) := if_pos hst
      rw [e1]
      simp +contextual (disch := first | simp only [fq]; done | omega | simp only [Knx]; omega) only [fV, reduceLE, reduceLT, reduceLeDiff, ↓reduceIte, reduceEqDiff, reduceAdd, reduceCtorEq, reduceToNat, Tryz.f22, Int.reduceEq]
      exact OpR.bad r hm B 282
end
end Go.Proofs.YtbebdlmldogcmaaGreat
