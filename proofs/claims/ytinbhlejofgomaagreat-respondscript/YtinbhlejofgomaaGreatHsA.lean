/-
  Several texts of one walk, joined.
-/
import Derived.Test.YtinbhlejofgomaaGreatGsA
import Derived.Test.YtinbhlejofgomaaGreatCsA
set_option linter.unusedSimpArgs false
set_option linter.unusedVariables false
set_option linter.unusedSectionVars false
set_option linter.defProp false
set_option maxRecDepth 20000
set_option maxHeartbeats 2000000
namespace Go.Proofs.YtinbhlejofgomaaGreat
open Go.Proofs Go.Lx Go.Wx Go.IntWalk
noncomputable section
def colV (l : List CO) : List V := l.flatMap CO.cells
theorem colV_len : ∀ l : List CO, (colV l).length = l.length * 10
 | [] => rfl
 | x :: l => by
   have := colV_len l
   unfold colV at this ⊢
   rw [List.flatMap_cons, List.length_append, this]
   show 10 + l.length * 10 = (l.length + 1) * 10
   omega
theorem colV_app (l : List CO) (x : CO) : colV (l ++ [x]) = colV l ++ x.cells := by simp [colV]
theorem nfc : V.nilfunc.cells = [V.nilfunc] := rfl
theorem nfi : V.nilfunc.isCell = true := rfl
structure RS where
 c : Int
 k : Int
 fl : Int
 nx : Option FuncId
 may : Prop
 wants : Prop
 left : Int
 cols : List CO
 told : List CO
 thn : Int
 second : Prop
 st : Int
 bin : Prop
structure RX where
 x1 : List Nat
 x2 : Int
 x3 : Int
 x5 : Int
 x6 : Int
 x7 : V
def fnV (r : Nat) : Option FuncId → V
 | none => .nilfunc
 | some f => .func f [.ptr r 0] []
def rsC (X : RX) (r : Nat) (s : RS) (cv tv : V) : List V := [.int .u32 s.c, .int .u8 s.k, .str X.x1, .int .u32 X.x2, .int .u16 X.x3, .int .u8 s.fl, .int .u32 X.x5, .int .u16 X.x6, X.x7, fnV r s.nx, bo s.may, bo s.wants, .int .i64 s.left, cv, tv, .int .i64 s.thn, bo s.second, .int .u16 s.st, bo s.bin, bo True]
def Sep (cv tv : V) : Prop := ∀ b o n m, tv = .slice b o n m → Off cv b
structure RR (X : RX) (n0 r : Nat) (s : RS) (cv tv : V) (h : H) : Prop where
 get : h.get r = some (.cells (rsC X r s cv tv) 71 false)
 told : Lst n0 h tv (colV s.told) 67 10
 tn : s.told = [] → tv = .nilslice
 toff : Off tv r
 coff : Off cv r
 ccell : cv.cells = [cv] ∧ cv.isCell = true
 lt : n0 ≤ r ∧ r < h.nx
 x7 : X.x7.cells = [X.x7] ∧ X.x7.isCell = true
def RCs (s : RS) (cv : V) (h : H) : Prop := RW 67 10 s.cols.length h cv (colV s.cols)
theorem Lst.but {n0 e sz r : Nat} {h h' : H} {v : V} {cells : List V} (a : Lst n0 h v cells e sz) (ho : Off v r) (b : But r h h') : Lst n0 h' v cells e sz := by
 rcases a with a | ⟨h1, k, h2, h3, rfl, h5⟩
 ·rcases a with ⟨rfl, rfl⟩ | ⟨k, n, h1, h2, rfl, h3, h4, h5⟩
  ·exact .inl (.inl ⟨rfl, rfl⟩)
  ·exact .inl (.inr ⟨k, n, h1, Nat.lt_of_lt_of_le h2 b.1, rfl, h3, by rw [b.2 k h2 fun e => ho 0 n n (by rw [← e])]; exact h4, h5⟩)
 ·exact .inr ⟨h1, k, h2, Nat.lt_of_lt_of_le h3 b.1, rfl, by rw [b.2 k h3 fun e => ho 0 0 0 (by rw [← e])]; exact h5⟩
theorem RCs.but {s : RS} {cv : V} {h h' : H} {r : Nat} (a : RCs s cv h) (ho : Off cv r) (b : But r h h') : RCs s cv h' := RW.keep a b.1 fun k hk ⟨o, n, m, q⟩ => b.2 k hk fun e => ho o n m (by rw [← e]; exact q)
theorem RR.ext {X : RX} {n0 r : Nat} {s : RS} {cv tv : V} {h h' : H} (a : RR X n0 r s cv tv h) (x : Ext h h') : RR X n0 r s cv tv h' := ⟨by rw [x.2 _ a.lt.2]; exact a.get, a.told.ext x, a.tn, a.toff, a.coff, a.ccell, ⟨a.lt.1, Nat.lt_of_lt_of_le a.lt.2 x.1⟩, a.x7⟩
theorem RR.put {X : RX} {n0 r : Nat} {s s' : RS} {cv tv : V} {h : H} (a : RR X n0 r s cv tv h) (ht : s'.told = s.told) : RR X n0 r s' cv tv (h.put r (.cells (rsC X r s' cv tv) 71 false)) := ⟨put_eq rfl, by rw [ht]; exact Lst.but a.told a.toff ((But.refl r h).put _), by rw [ht]; exact a.tn, a.toff, a.coff, a.ccell, a.lt, a.x7⟩
def RS.await (s : RS) (f : FuncId) (m : Prop) : RS := { s with nx := some f, may := m }
def RS.fin (s : RS) : RS := { s with nx := none, may := False }
def RP (X : RX) (n0 r : Nat) (s : RS) (cv tv : V) (h h' : H) : Prop := RR X n0 r s cv tv h' ∧ But r h h'
theorem RP.trans {X : RX} {n0 r : Nat} {s s' : RS} {cv tv : V} {h h1 h2 : H} (a : RP X n0 r s cv tv h h1) (b : RP X n0 r s' cv tv h1 h2) : RP X n0 r s' cv tv h h2 := ⟨b.1, a.2.trans b.2⟩
theorem RP.ext {X : RX} {n0 r : Nat} {s : RS} {cv tv : V} {h h1 h2 : H} (a : RP X n0 r s cv tv h h1) (b : Ext h1 h2) : RP X n0 r s cv tv h h2 := ⟨a.1.ext b, a.2.trans (But.of_ext b)⟩
theorem RP.pre {X : RX} {n0 r : Nat} {s : RS} {cv tv : V} {h h1 h2 : H} (a : Ext h h1) (b : RP X n0 r s cv tv h1 h2) : RP X n0 r s cv tv h h2 := ⟨b.1, (But.of_ext a).trans b.2⟩
def RS.ends (s : RS) (st : Int) (more : Prop) : RS := @ite _ (more ∧ ¬ iAnd .u16 st 8 = 0) (Classical.propDecidable _) (s.await 37 True) s.fin
variable {S : Set0} (hS : StdR S)
include hS
theorem await_spec {X : RX} {n0 r : Nat} {s : RS} {cv tv : V} {h : H} (a : RR X n0 r s cv tv h) (f : FuncId) (m : Prop) : callW S.cfg (· = r) 33 [.ptr r 0, .func f [.ptr r 0] [], bo m] h fun v h' => v = .tuple [] ∧ RP X n0 r (s.await f m) cv tv h h' := by
 refine into Tryz.f33 _ Tryz.func33 (hS.ownR _ (by decide)) rfl rfl (by kernel_rfl) (by kernel_rfl) ?_
 have g := a.get
 unfold rsC at g
 have lt := a.lt.2
 refine ww1 (cj @Tryz.f33.eq_1 g) ?_
 exact ⟨(a.put (s' := { s with nx := some f }) rfl).put (s' := s.await f m) rfl, ((But.refl r h).put _).put _⟩
theorem fin_spec {X : RX} {n0 r : Nat} {s : RS} {cv tv : V} {h : H} (a : RR X n0 r s cv tv h) : callW S.cfg (· = r) 47 [.ptr r 0] h fun v h' => v = .tuple [] ∧ RP X n0 r s.fin cv tv h h' := by
 refine into Tryz.f47 _ Tryz.func47 (hS.ownR _ (by decide)) rfl rfl (by kernel_rfl) (by kernel_rfl) ?_
 have g := a.get
 unfold rsC at g
 have lt := a.lt.2
 refine ww1 (cj @Tryz.f47.eq_1 <| cj g <| cj nfc nfi) ?_
 exact ⟨(a.put (s' := { s with nx := none }) rfl).put (s' := s.fin) rfl, ((But.refl r h).put _).put _⟩
theorem ends_spec {X : RX} {n0 r : Nat} {s : RS} {cv tv : V} {h : H} (a : RR X n0 r s cv tv h) (st : Int) (more : Prop) : callW S.cfg (· = r) 68 [.ptr r 0, .int .u16 st, bo more] h fun v h' => v = bo (¬ (more ∧ ¬ iAnd .u16 st 8 = 0)) ∧ RP X n0 r (s.ends st more) cv tv h h' := by
 refine into Tryz.f68 _ Tryz.func68 (hS.ownR _ (by decide)) rfl rfl (by kernel_rfl) (by kernel_rfl) ?_
 have okr : ∀ k, k = r → fresh h.nx (· = r) k := fun k hk => by rw [fresh_def]; exact .inr hk
 unfold RS.ends
 by_cases hm : more ∧ ¬ iAnd .u16 st 8 = 0
 ·have hm1 := eq_true hm.1
  have hm2 := hm.2
  rw [if_pos hm]
  refine ww1 (cj @Tryz.f68.eq_1 <| cj hm1 hm2) ?_
  refine callF_of (await_spec hS a 37 True) okr ?_
  rintro _ h1 ⟨rfl, p1⟩
  refine ww1 (cj @Tryz.f68.eq_1 <| cj hm1 hm2) ?_
  exact p1
 ·rw [if_neg hm]
  by_cases hm1 : more
  ·have hm2 : iAnd .u16 st 8 = 0 := Classical.byContradiction fun q => hm ⟨hm1, q⟩
   have hm1' := eq_true hm1
   refine ww1 (cj @Tryz.f68.eq_1 <| cj hm1' hm2) ?_
   refine callF_of (fin_spec hS a) okr ?_
   rintro _ h1 ⟨rfl, p1⟩
   refine ww1 (cj @Tryz.f68.eq_1 <| cj hm1' hm2) ?_
   exact p1
  ·refine ww1 (cj @Tryz.f68.eq_1 hm1) ?_
   refine callF_of (fin_spec hS a) okr ?_
   rintro _ h1 ⟨rfl, p1⟩
   refine ww1 (cj @Tryz.f68.eq_1 hm1) ?_
   exact p1
theorem none_spec {X : RX} {n0 r : Nat} {s : RS} {cv tv : V} {h : H} (a : RR X n0 r s cv tv h) : Exact S.cfg 45 [.ptr r 0] h (bo False) := by
 refine into Tryz.f45 _ Tryz.func45 (hS.ownR _ (by decide)) rfl rfl (by kernel_rfl) (by kernel_rfl) ?_
 have g := a.get
 unfold rsC at g
 exact wv1 (cj @Tryz.f45.eq_1 g)
theorem old_spec {X : RX} {n0 r : Nat} {s : RS} {cv tv : V} {h : H} (a : RR X n0 r s cv tv h) : Exact S.cfg 105 [.ptr r 0] h (bo (iAnd .u32 s.c 16777216 = 0)) := by
 refine into Tryz.f105 _ Tryz.func105 (hS.ownR _ (by decide)) rfl rfl (by kernel_rfl) (by kernel_rfl) ?_
 have g := a.get
 unfold rsC at g
 exact wv1 (cj @Tryz.f105.eq_1 g)
end
noncomputable section
structure PT where
 k : Int
 last : Prop
 ok : OkV
 ec : Int
 es : List Nat
 et : List Nat
 fw : Int
 fs : Int
 p1 : Int
 p2 : Int
 p3 : Int
 p4 : Int
def PT.z : PT := ⟨0, False, OkV.z, 0, [], [], 0, 0, 0, 0, 0, 0⟩
def PT.cells (p : PT) (y : V) : List V := [.int .i64 p.k, bo p.last, .int .u64 p.ok.a, .int .u64 p.ok.i, .int .u16 p.ok.s, .int .u16 p.ok.w, .str p.ok.t, y, .int .u16 p.ec, .str p.es, .str p.et, .int .u16 p.fw, .int .u16 p.fs, .int .u32 p.p1, .int .u16 p.p2, .int .u16 p.p3, .int .u16 p.p4]
def PR (h h' : H) (w : V) (p : PT) (e : Int) : Prop := ∃ y, w = .tuple [.agg (p.cells y), .int .i64 e] ∧ BS 5 h' y p.ok.k ∧ ∀ k, k < h.nx → Off y k
theorem PR.nil {h h' : H} {w : V} {p : PT} {e : Int} (hw : w = .tuple [.agg (p.cells .nilslice), .int .i64 e]) (hk : p.ok.k = []) : PR h h' w p e := ⟨.nilslice, hw, by rw [hk]; exact BS.nil _ _, fun k _ o n m q => by cases q⟩
theorem _root_.Go.Wx.But.put_new {r k : Nat} {a b : H} (x : But r a b) (hk : a.nx ≤ k) (o : Ob) : But r a (b.put k o) := ⟨x.1, fun j hj hr => by rw [put_ne (by omega), x.2 j hj hr]⟩
theorem _root_.Go.Wx.Lst.put_off {n0 e sz k : Nat} {h : H} {v : V} {cells : List V} {ob : Ob} (ha : Lst n0 h v cells e sz) (hk : Off v k) : Lst n0 (h.put k ob) v cells e sz := by
 rcases ha with ha | ⟨h1, b, h2, h3, rfl, h5⟩
 ·rcases ha with ⟨rfl, rfl⟩ | ⟨b, n, h1, h2, rfl, h3, h4, h5⟩
  ·exact .inl (.inl ⟨rfl, rfl⟩)
  ·exact .inl (.inr ⟨b, n, h1, h2, rfl, h3, by rw [put_ne (fun e => hk 0 n n (by rw [e]))]; exact h4, h5⟩)
 ·exact .inr ⟨h1, b, h2, h3, rfl, by rw [put_ne (fun e => hk 0 0 0 (by rw [e]))]; exact h5⟩
theorem _root_.Go.Wx.Lst.off_new {n0 e sz k : Nat} {h : H} {v : V} {cells : List V} (ha : Lst n0 h v cells e sz) (hk : h.nx ≤ k) : Off v k := by
 intro o n m q
 subst q
 rcases ha with (⟨q, _⟩ | ⟨b, n, _, h2, q, _⟩) | ⟨_, b, _, h3, q, _⟩
 ·cases q
 ·cases q; omega
 ·cases q; omega
theorem RP.put_new {X : RX} {n0 r k : Nat} {s s' : RS} {cv tv : V} {h h2 : H} (a : RR X n0 r s cv tv h) (p : RP X n0 r s' cv tv h h2) (hk : h.nx ≤ k) (ob : Ob) : RP X n0 r s' cv tv h (h2.put k ob) := by
 have lt := a.lt.2
 exact ⟨⟨by rw [put_ne (by omega)]; exact p.1.get, p.1.told.put_off (a.told.off_new hk), p.1.tn, p.1.toff, p.1.coff, p.1.ccell, p.1.lt, p.1.x7⟩, p.2.put_new hk ob⟩
theorem RP.same {X : RX} {n0 r : Nat} {s : RS} {cv tv : V} {h h' : H} (a : RR X n0 r s cv tv h) (x : Ext h h') : RP X n0 r s cv tv h h' := ⟨a.ext x, But.of_ext x⟩
abbrev zPT : List V := [.int .i64 0, bo False, .int .u64 0, .int .u64 0, .int .u16 0, .int .u16 0, .str [], .nilslice, .int .u16 0, .str [], .str [], .int .u16 0, .int .u16 0, .int .u32 0, .int .u16 0, .int .u16 0, .int .u16 0]
def errS (s : RS) (l : List Nat) : RS × PT × Int := if (errF l).2.2.2 ≠ 0 then (s, PT.z, 5) else (s.fin, { PT.z with k := 2, last := True, ec := (errF l).1, es := (errF l).2.1, et := (errF l).2.2.1 }, 0)
def doneS (s : RS) (l : List Nat) (k : Int) (more : Prop) : RS × PT × Int := if okeF l s.c ≠ 0 then (s, PT.z, 5) else (({ s with st := (okV l s.c).s } : RS).ends (okV l s.c).s more, { PT.z with k := k, last := ¬ (more ∧ ¬ iAnd .u16 (okV l s.c).s 8 = 0), ok := okV l s.c }, 0)
def firstF (l : List Nat) (c : Int) : Int := @ite _ (l.length = 0) (Classical.propDecidable _) 0 (@ite _ (byI l 0 = 0) (Classical.propDecidable _) 1 (@ite _ (byI l 0 = 255) (Classical.propDecidable _) 2 (@ite _ (byI l 0 = 251 ∧ hasP c 128) (Classical.propDecidable _) 4 0)))
def okS1 (s : RS) (l : List Nat) (more : Prop) : RS × PT × Int := if firstF l s.c = 1 then doneS s l 1 more else errS s l
variable {S : Set0} (hS : StdR S)
include hS
theorem err_spec {X : RX} {n0 r : Nat} {s : RS} {cv tv v : V} {l : List Nat} {h : H} (a : RR X n0 r s cv tv h) (b : BS 5 h v l) (hl : l.length < 2 ^ 28) : callW S.cfg (· = r) 40 [.ptr r 0, v] h fun w h' => PR h h' w (errS s l).2.1 (errS s l).2.2 ∧ RP X n0 r (errS s l).1 cv tv h h' := by
 refine into Tryz.f40 _ Tryz.func40 (hS.ownR _ (by decide)) rfl rfl (by kernel_rfl) (by kernel_rfl) ?_
 have okr : ∀ k, k = r → fresh h.nx (· = r) k := fun k hk => by rw [fresh_def]; exact .inr hk
 have lt := a.lt.2
 refine ww1 @Tryz.f40.eq_1 ?_
 refine callF_pure (readerr_spec hS (b.ext ((Ext.refl h).push _)) hl) ?_
 rintro _ h1 hx1 rfl
 have n1 := hx1.1
 simp only [push_nx] at n1
 have g1 : h1.get h.nx = some (.cells zPT 53 false) := by rw [hx1.2 _ (by simp only [push_nx]; omega)]; exact push_eq rfl
 have hx : Ext h h1 := ((Ext.refl h).push _).trans hx1
 unfold errS
 by_cases he : (errF l).2.2.2 = 0
 case neg =>
  rw [if_pos he]
  refine ww1 (cj he g1) ?_
  exact ⟨.inr (.inl (by omega)), PR.nil rfl rfl, RP.same a (((hx.push _).put (by omega) _).put (Nat.le_refl _) _)⟩
 rw [if_neg (fun q => q he)]
 have he' := eq_true he
 refine ww1 (cj he' g1) ?_
 generalize hhB : H.put (H.push h1 _) _ _ = hB
 have hxB : Ext h1 hB := by rw [← hhB]; exact ((Ext.refl h1).push _).put (Nat.le_refl _) _
 have gB : hB.get h1.nx = some (.cells [.int .u16 (errF l).1, .str (errF l).2.1, .str (errF l).2.2.1] 47 false) := by rw [← hhB]; exact put_eq rfl
 have nB : hB.nx = h1.nx + 1 := by rw [← hhB]; rfl
 clear hhB
 refine ⟨.inr (.inl (by omega)), callF_of (fin_spec hS (a.ext (hx.trans hxB))) okr ?_⟩
 rintro _ h3 ⟨rfl, p3⟩
 have n3 := p3.2.1
 have g3 : h3.get h1.nx = some (.cells [.int .u16 (errF l).1, .str (errF l).2.1, .str (errF l).2.2.1] 47 false) := by rw [p3.2.2 _ (by omega) (by omega)]; exact gB
 have g3z : h3.get h.nx = some (.cells zPT 53 false) := by rw [p3.2.2 _ (by omega) (by omega), hxB.2 _ (by omega)]; exact g1
 refine ww1 (cj g3 g3z) ?_
 exact ⟨PR.nil rfl rfl, RP.put_new a (RP.pre (hx.trans hxB) p3) (Nat.le_refl _) _⟩
theorem done_spec {X : RX} {n0 r : Nat} {s : RS} {cv tv v : V} {l : List Nat} {h : H} (a : RR X n0 r s cv tv h) (b : BS 5 h v l) (hl : l.length < 2 ^ 28) (k : Int) (more : Prop) : callW S.cfg (· = r) 59 [.ptr r 0, v, .int .i64 k, bo more] h fun w h' => PR h h' w (doneS s l k more).2.1 (doneS s l k more).2.2 ∧ RP X n0 r (doneS s l k more).1 cv tv h h' := by
 refine into Tryz.f59 _ Tryz.func59 (hS.ownR _ (by decide)) rfl rfl (by kernel_rfl) (by kernel_rfl) ?_
 have okr : ∀ k, k = r → fresh h.nx (· = r) k := fun k hk => by rw [fresh_def]; exact .inr hk
 have lt := a.lt.2
 have g := (a.ext ((Ext.refl h).push (.cells zPT 53 false))).get
 unfold rsC at g
 refine ww1 (cj @Tryz.f59.eq_1 g) ?_
 refine callF_pure (readok_spec hS.toStdB (b.ext ((Ext.refl h).push _)) hl s.c) ?_
 rintro _ h1 hx1 ⟨y, rfl, by1, yo⟩
 have n1 := hx1.1
 simp only [push_nx] at n1 yo
 have g1 : h1.get h.nx = some (.cells zPT 53 false) := by rw [hx1.2 _ (by simp only [push_nx]; omega)]; exact push_eq rfl
 have hx : Ext h h1 := ((Ext.refl h).push _).trans hx1
 obtain ⟨yc1, yc2⟩ := by1.cell
 unfold doneS
 generalize okV l s.c = o at *
 unfold OkV.cells
 by_cases he : okeF l s.c = 0
 case neg =>
  rw [if_pos he]
  refine ww1 (cj he <| cj g1 <| cj yc1 yc2) ?_
  exact ⟨.inr (.inl (by omega)), PR.nil rfl rfl, RP.same a (((hx.push _).put (by omega) _).put (Nat.le_refl _) _)⟩
 rw [if_neg (fun q => q he)]
 have he' := eq_true he
 have gr := (a.ext hx).get
 unfold rsC at gr
 refine ww1 (cj he' <| cj g1 <| cj gr <| cj yc1 yc2) ?_
 generalize hhB : H.put (H.push h1 _) h1.nx _ = hB
 have hxB : Ext h1 hB := by rw [← hhB]; exact ((Ext.refl h1).push _).put (Nat.le_refl _) _
 have gB : hB.get h1.nx = some (.cells (o.cells y) 45 false) := by rw [← hhB]; exact put_eq rfl
 have nB : hB.nx = h1.nx + 1 := by rw [← hhB]; rfl
 clear hhB
 have aB := a.ext (hx.trans hxB)
 have pB : RP X n0 r { s with st := o.s } cv tv hB (hB.put r (.cells (rsC X r { s with st := o.s } cv tv) 71 false)) := ⟨aB.put rfl, (But.refl r hB).put _⟩
 refine ⟨.inr (.inl (by omega)), callF_of (ends_spec hS pB.1 o.s more) okr ?_⟩
 rintro _ h3 ⟨rfl, p3⟩
 have p3 := pB.trans p3
 have n3 := p3.2.1
 have g3 : h3.get h1.nx = some (.cells (o.cells y) 45 false) := by rw [p3.2.2 _ (by omega) (by omega)]; exact gB
 have g3z : h3.get h.nx = some (.cells zPT 53 false) := by rw [p3.2.2 _ (by omega) (by omega), hxB.2 _ (by omega)]; exact g1
 unfold OkV.cells at g3
 refine ww1 (cj g3 <| cj g3z <| cj yc1 yc2) ?_
 have by3 : BS 5 h3 y o.k := (by1.ext hxB).keep n3 fun j hj ⟨o', n, m, q⟩ => p3.2.2 j hj fun e => yo r (by omega) o' n m (by rw [← e]; exact q)
 exact ⟨⟨y, rfl, by3.put (yo _ (by omega)), fun k hk => yo k (by omega)⟩, RP.put_new a (RP.pre (hx.trans hxB) p3) (Nat.le_refl _) _⟩
end
noncomputable section
def eofS (s : RS) (l : List Nat) : RS × (Int × Int) × Int := if (eofF l).2.2 ≠ 0 then (s, (0, 0), 5) else ({ s with st := (eofF l).2.1 }, ((eofF l).1, (eofF l).2.1), 0)
def eofOrOkS (s : RS) (l : List Nat) : RS × PT × Int := if (eofF l).2.2 ≠ 0 then okS1 s l False else (({ s with st := (eofF l).2.1 } : RS).fin, { PT.z with k := 6, last := True, fw := (eofF l).1, fs := (eofF l).2.1 }, 0)
def textS (s : RS) (l : List Nat) : RS × PT × Int := if l.length = 0 then (s, PT.z, 5) else if byI l 0 = 255 then errS s l else (s.fin, { PT.z with k := 10, last := True }, 0)
theorem PR.on {h h0 h1 h2 : H} {w : V} {p : PT} {e : Int} (a : PR h1 h2 w p e) (hn : h.nx ≤ h1.nx) : ∃ y, w = .tuple [.agg (p.cells y), .int .i64 e] ∧ BS 5 h2 y p.ok.k ∧ (y.cells = [y] ∧ y.isCell = true) ∧ ∀ k, k < h1.nx → Off y k := by
 obtain ⟨y, hw, hb, ho⟩ := a
 exact ⟨y, hw, hb, hb.cell, ho⟩
variable {S : Set0} (hS : StdR S)
include hS
theorem ffirst {v : V} {l : List Nat} {h : H} (a : BS 5 h v l) (c : Int) : Exact S.cfg 58 [v, .int .u32 c] h (.int .i64 (firstF l c)) := first_spec hS.toStdB a c
theorem ok_spec {X : RX} {n0 r : Nat} {s : RS} {cv tv v : V} {l : List Nat} {h : H} (a : RR X n0 r s cv tv h) (b : BS 5 h v l) (hl : l.length < 2 ^ 28) : callW S.cfg (· = r) 34 [.ptr r 0, v] h fun w h' => PR h h' w (okS1 s l False).2.1 (okS1 s l False).2.2 ∧ RP X n0 r (okS1 s l False).1 cv tv h h' := by
 refine into Tryz.f34 _ Tryz.func34 (hS.ownR _ (by decide)) rfl rfl (by kernel_rfl) (by kernel_rfl) ?_
 have okr : ∀ k, k = r → fresh h.nx (· = r) k := fun k hk => by rw [fresh_def]; exact .inr hk
 have lt := a.lt.2
 have hxA : Ext h (h.push (.cells zPT 53 false)) := (Ext.refl h).push _
 have aA := a.ext hxA
 have g := aA.get
 unfold rsC at g
 refine ww1 (cj @Tryz.f34.eq_1 g) ?_
 have gz : (h.push (.cells zPT 53 false)).get h.nx = some (.cells zPT 53 false) := push_eq rfl
 have nA : (h.push (.cells zPT 53 false)).nx = h.nx + 1 := rfl
 generalize h.push (.cells zPT 53 false) = hA at *
 refine callF_exact (ffirst hS (b.ext hxA) s.c) ?_
 unfold okS1
 by_cases h1 : firstF l s.c = 1
 ·rw [if_pos h1]
  have h1' := eq_true h1
  refine ww1 h1' ?_
  refine callF_of (done_spec hS aA (b.ext hxA) hl 1 False) okr ?_
  rintro _ h3 ⟨pr, p3⟩
  obtain ⟨y, rfl, by3, ⟨yc1, yc2⟩, yo⟩ := pr.on (h := h) (h0 := h) (by omega)
  have gz3 : h3.get h.nx = some (.cells zPT 53 false) := by rw [p3.2.2 _ (by omega) (by omega)]; exact gz
  have n3 := p3.2.1
  unfold PT.cells
  refine ww1 (cj gz3 <| cj yc1 yc2) ?_
  exact ⟨⟨y, rfl, by3.put (yo _ (by omega)), fun k hk => yo k (by omega)⟩, RP.put_new a (RP.pre hxA p3) (Nat.le_refl _) _⟩
 ·rw [if_neg h1]
  refine ww1 h1 ?_
  refine callF_of (err_spec hS aA (b.ext hxA) hl) okr ?_
  rintro _ h3 ⟨pr, p3⟩
  obtain ⟨y, rfl, by3, ⟨yc1, yc2⟩, yo⟩ := pr.on (h := h) (h0 := h) (by omega)
  have gz3 : h3.get h.nx = some (.cells zPT 53 false) := by rw [p3.2.2 _ (by omega) (by omega)]; exact gz
  have n3 := p3.2.1
  unfold PT.cells
  refine ww1 (cj gz3 <| cj yc1 yc2) ?_
  exact ⟨⟨y, rfl, by3.put (yo _ (by omega)), fun k hk => yo k (by omega)⟩, RP.put_new a (RP.pre hxA p3) (Nat.le_refl _) _⟩
theorem filed_spec {X : RX} {n0 r : Nat} {s : RS} {cv tv v : V} {l : List Nat} {h : H} (a : RR X n0 r s cv tv h) (b : BS 5 h v l) (hl : l.length < 2 ^ 28) : callW S.cfg (· = r) 62 [.ptr r 0, v] h fun w h' => PR h h' w (okS1 s l True).2.1 (okS1 s l True).2.2 ∧ RP X n0 r (okS1 s l True).1 cv tv h h' := by
 refine into Tryz.f62 _ Tryz.func62 (hS.ownR _ (by decide)) rfl rfl (by kernel_rfl) (by kernel_rfl) ?_
 have okr : ∀ k, k = r → fresh h.nx (· = r) k := fun k hk => by rw [fresh_def]; exact .inr hk
 have lt := a.lt.2
 have hxA : Ext h (h.push (.cells zPT 53 false)) := (Ext.refl h).push _
 have aA := a.ext hxA
 have g := aA.get
 unfold rsC at g
 refine ww1 (cj @Tryz.f62.eq_1 g) ?_
 have gz : (h.push (.cells zPT 53 false)).get h.nx = some (.cells zPT 53 false) := push_eq rfl
 have nA : (h.push (.cells zPT 53 false)).nx = h.nx + 1 := rfl
 generalize h.push (.cells zPT 53 false) = hA at *
 refine callF_exact (ffirst hS (b.ext hxA) s.c) ?_
 unfold okS1
 by_cases h1 : firstF l s.c = 1
 ·rw [if_pos h1]
  have h1' := eq_true h1
  refine ww1 h1' ?_
  refine callF_of (done_spec hS aA (b.ext hxA) hl 1 True) okr ?_
  rintro _ h3 ⟨pr, p3⟩
  obtain ⟨y, rfl, by3, ⟨yc1, yc2⟩, yo⟩ := pr.on (h := h) (h0 := h) (by omega)
  have gz3 : h3.get h.nx = some (.cells zPT 53 false) := by rw [p3.2.2 _ (by omega) (by omega)]; exact gz
  have n3 := p3.2.1
  unfold PT.cells
  refine ww1 (cj gz3 <| cj yc1 yc2) ?_
  exact ⟨⟨y, rfl, by3.put (yo _ (by omega)), fun k hk => yo k (by omega)⟩, RP.put_new a (RP.pre hxA p3) (Nat.le_refl _) _⟩
 ·rw [if_neg h1]
  refine ww1 h1 ?_
  refine callF_of (err_spec hS aA (b.ext hxA) hl) okr ?_
  rintro _ h3 ⟨pr, p3⟩
  obtain ⟨y, rfl, by3, ⟨yc1, yc2⟩, yo⟩ := pr.on (h := h) (h0 := h) (by omega)
  have gz3 : h3.get h.nx = some (.cells zPT 53 false) := by rw [p3.2.2 _ (by omega) (by omega)]; exact gz
  have n3 := p3.2.1
  unfold PT.cells
  refine ww1 (cj gz3 <| cj yc1 yc2) ?_
  exact ⟨⟨y, rfl, by3.put (yo _ (by omega)), fun k hk => yo k (by omega)⟩, RP.put_new a (RP.pre hxA p3) (Nat.le_refl _) _⟩
theorem eof_spec {X : RX} {n0 r : Nat} {s : RS} {cv tv v : V} {l : List Nat} {h : H} (a : RR X n0 r s cv tv h) (b : BS 5 h v l) (hl : l.length < 2 ^ 28) : callW S.cfg (· = r) 60 [.ptr r 0, v] h fun w h' => w = .tuple [.agg [.int .u16 (eofS s l).2.1.1, .int .u16 (eofS s l).2.1.2], .int .i64 (eofS s l).2.2] ∧ RP X n0 r (eofS s l).1 cv tv h h' := by
 refine into Tryz.f60 _ Tryz.func60 (hS.ownR _ (by decide)) rfl rfl (by kernel_rfl) (by kernel_rfl) ?_
 have okr : ∀ k, k = r → fresh h.nx (· = r) k := fun k hk => by rw [fresh_def]; exact .inr hk
 have lt := a.lt.2
 refine ww1 @Tryz.f60.eq_1 ?_
 have hxA : Ext h (h.push (.cells [.int .u16 0, .int .u16 0] 49 false)) := (Ext.refl h).push _
 refine callF_pure (readeof_spec hS.toStdG (b.ext hxA) hl) ?_
 rintro _ h1 hx1 rfl
 have n1 := hx1.1
 simp only [push_nx] at n1
 have g1 : h1.get h.nx = some (.cells [.int .u16 0, .int .u16 0] 49 false) := by rw [hx1.2 _ (by simp only [push_nx]; omega)]; exact push_eq rfl
 have hx : Ext h h1 := hxA.trans hx1
 unfold eofS
 by_cases he : (eofF l).2.2 = 0
 case neg =>
  rw [if_pos he]
  refine ww1 (cj he g1) ?_
  exact ⟨.inr (.inl (by omega)), RP.same a (((hx.push _).put (by omega) _).put (Nat.le_refl _) _)⟩
 rw [if_neg (fun q => q he)]
 have he' := eq_true he
 have gr := (a.ext hx).get
 unfold rsC at gr
 refine ww1 (cj he' <| cj g1 gr) ?_
 generalize hhB : H.put (H.push h1 _) h1.nx _ = hB
 have hxB : Ext h1 hB := by rw [← hhB]; exact ((Ext.refl h1).push _).put (Nat.le_refl _) _
 clear hhB
 have aB := a.ext (hx.trans hxB)
 have pB : RP X n0 r { s with st := (eofF l).2.1 } cv tv hB (hB.put r (.cells (rsC X r { s with st := (eofF l).2.1 } cv tv) 71 false)) := ⟨aB.put rfl, (But.refl r hB).put _⟩
 exact ⟨.inr (.inl (by omega)), RP.put_new a (RP.pre (hx.trans hxB) pB) (Nat.le_refl _) _⟩
theorem eofOrOk_spec {X : RX} {n0 r : Nat} {s : RS} {cv tv v : V} {l : List Nat} {h : H} (a : RR X n0 r s cv tv h) (b : BS 5 h v l) (hl : l.length < 2 ^ 28) (ob : Off v r) : callW S.cfg (· = r) 35 [.ptr r 0, v] h fun w h' => PR h h' w (eofOrOkS s l).2.1 (eofOrOkS s l).2.2 ∧ RP X n0 r (eofOrOkS s l).1 cv tv h h' := by
 refine into Tryz.f35 _ Tryz.func35 (hS.ownR _ (by decide)) rfl rfl (by kernel_rfl) (by kernel_rfl) ?_
 have okr : ∀ k, k = r → fresh h.nx (· = r) k := fun k hk => by rw [fresh_def]; exact .inr hk
 have lt := a.lt.2
 have hxA : Ext h (h.push (.cells zPT 53 false)) := (Ext.refl h).push _
 have aA := a.ext hxA
 refine ww1 @Tryz.f35.eq_1 ?_
 have gz : (h.push (.cells zPT 53 false)).get h.nx = some (.cells zPT 53 false) := push_eq rfl
 have nA : (h.push (.cells zPT 53 false)).nx = h.nx + 1 := rfl
 generalize h.push (.cells zPT 53 false) = hA at *
 refine callF_of (eof_spec hS aA (b.ext hxA) hl) okr ?_
 rintro _ h1 ⟨rfl, p1⟩
 have n1 := p1.2.1
 have gz1 : h1.get h.nx = some (.cells zPT 53 false) := by rw [p1.2.2 _ (by omega) (by omega)]; exact gz
 have b1 : BS 5 h1 v l := (b.ext hxA).keep n1 fun j hj ⟨o', n, m, q⟩ => p1.2.2 j hj fun e => ob o' n m (by rw [← e]; exact q)
 unfold eofOrOkS eofS at *
 by_cases he : (eofF l).2.2 = 0
 case neg =>
  rw [if_pos he] at p1 ⊢
  rw [if_pos he]
  refine ww1 (cj gz1 n50) ?_
  generalize hhB : H.put (H.push h1 _) h1.nx _ = hB
  have hxB : Ext h1 hB := by rw [← hhB]; exact ((Ext.refl h1).push _).put (Nat.le_refl _) _
  have nB : hB.nx = h1.nx + 1 := by rw [← hhB]; rfl
  clear hhB
  refine ⟨.inr (.inl (by omega)), callF_of (ok_spec hS (p1.1.ext hxB) (b1.ext hxB) hl) okr ?_⟩
  rintro _ h3 ⟨pr, p3⟩
  obtain ⟨y, rfl, by3, ⟨yc1, yc2⟩, yo⟩ := pr.on (h := h) (h0 := h) (by omega)
  have gz3 : h3.get h.nx = some (.cells zPT 53 false) := by rw [p3.2.2 _ (by omega) (by omega), hxB.2 _ (by omega)]; exact gz1
  have n3 := p3.2.1
  unfold PT.cells
  refine ww1 (cj gz3 <| cj yc1 yc2) ?_
  exact ⟨⟨y, rfl, by3.put (yo _ (by omega)), fun k hk => yo k (by omega)⟩, RP.put_new a (RP.pre hxA ((p1.ext hxB).trans p3)) (Nat.le_refl _) _⟩
 rw [if_neg (fun q => q he)] at p1 ⊢
 rw [if_neg (fun q => q he)]
 refine ww1 gz1 ?_
 generalize hhB : H.put (H.push h1 _) h1.nx _ = hB
 have hxB : Ext h1 hB := by rw [← hhB]; exact ((Ext.refl h1).push _).put (Nat.le_refl _) _
 have gB : hB.get h1.nx = some (.cells [.int .u16 (eofF l).1, .int .u16 (eofF l).2.1] 49 false) := by rw [← hhB]; exact put_eq rfl
 have nB : hB.nx = h1.nx + 1 := by rw [← hhB]; rfl
 clear hhB
 refine ⟨.inr (.inl (by omega)), callF_of (fin_spec hS (p1.1.ext hxB)) okr ?_⟩
 rintro _ h3 ⟨rfl, p3⟩
 have n3 := p3.2.1
 have g3 : h3.get h1.nx = some (.cells [.int .u16 (eofF l).1, .int .u16 (eofF l).2.1] 49 false) := by rw [p3.2.2 _ (by omega) (by omega)]; exact gB
 have gz3 : h3.get h.nx = some (.cells zPT 53 false) := by rw [p3.2.2 _ (by omega) (by omega), hxB.2 _ (by omega)]; exact gz1
 refine ww1 (cj g3 gz3) ?_
 exact ⟨PR.nil rfl rfl, RP.put_new a (RP.pre hxA ((p1.ext hxB).trans p3)) (Nat.le_refl _) _⟩
theorem text_spec {X : RX} {n0 r : Nat} {s : RS} {cv tv v : V} {l : List Nat} {h : H} (a : RR X n0 r s cv tv h) (b : BS 5 h v l) (hl : l.length < 2 ^ 28) : callW S.cfg (· = r) 36 [.ptr r 0, v] h fun w h' => PR h h' w (textS s l).2.1 (textS s l).2.2 ∧ RP X n0 r (textS s l).1 cv tv h h' := by
 refine into Tryz.f36 _ Tryz.func36 (hS.ownR _ (by decide)) rfl rfl (by kernel_rfl) (by kernel_rfl) ?_
 have okr : ∀ k, k = r → fresh h.nx (· = r) k := fun k hk => by rw [fresh_def]; exact .inr hk
 have lt := a.lt.2
 have hxA : Ext h (h.push (.cells zPT 53 false)) := (Ext.refl h).push _
 have aA := a.ext hxA
 have a1 := b.len 5
 unfold textS
 by_cases h0 : l.length = 0
 ·rw [if_pos h0]
  refine ww1 (cj @Tryz.f36.eq_1 <| cj a1 h0) ?_
  exact ⟨PR.nil rfl rfl, RP.put_new a (RP.same a hxA) (Nat.le_refl _) _⟩
 rw [if_neg h0]
 obtain ⟨bb, o, m, hv, _, _⟩ := b.at (i := 0) (by omega)
 obtain ⟨_, hbb, hrd⟩ := BS.rd (hv ▸ b)
 have hr := hrd 0 (by omega)
 rw [Nat.add_zero] at hr
 have hl0 : 0 < l.length := by omega
 subst hv
 by_cases h5 : byI l 0 = 255
 ·rw [if_pos h5]
  have h5' := eq_true h5
  refine ww1 (cj @Tryz.f36.eq_1 <| cj a1 <| cj h0 <| cj hl0 <| cj hr h5') ?_
  have gz : (h.push (.cells zPT 53 false)).get h.nx = some (.cells zPT 53 false) := push_eq rfl
  have nA : (h.push (.cells zPT 53 false)).nx = h.nx + 1 := rfl
  generalize h.push (.cells zPT 53 false) = hA at *
  refine callF_of (err_spec hS aA (b.ext hxA) hl) okr ?_
  rintro _ h3 ⟨pr, p3⟩
  obtain ⟨y, rfl, by3, ⟨yc1, yc2⟩, yo⟩ := pr.on (h := h) (h0 := h) (by omega)
  have gz3 : h3.get h.nx = some (.cells zPT 53 false) := by rw [p3.2.2 _ (by omega) (by omega)]; exact gz
  have n3 := p3.2.1
  unfold PT.cells
  refine ww1 (cj @Tryz.f36.eq_1 <| cj gz3 <| cj yc1 yc2) ?_
  exact ⟨⟨y, rfl, by3.put (yo _ (by omega)), fun k hk => yo k (by omega)⟩, RP.put_new a (RP.pre hxA p3) (Nat.le_refl _) _⟩
 ·rw [if_neg h5]
  refine ww1 (cj @Tryz.f36.eq_1 <| cj a1 <| cj h0 <| cj hl0 <| cj hr h5) ?_
  have gz : (h.push (.cells zPT 53 false)).get h.nx = some (.cells zPT 53 false) := push_eq rfl
  have nA : (h.push (.cells zPT 53 false)).nx = h.nx + 1 := rfl
  generalize h.push (.cells zPT 53 false) = hA at *
  refine callF_of (fin_spec hS aA) okr ?_
  rintro _ h3 ⟨rfl, p3⟩
  have gz3 : h3.get h.nx = some (.cells zPT 53 false) := by rw [p3.2.2 _ (by omega) (by omega)]; exact gz
  have n3 := p3.2.1
  refine ww1 (cj @Tryz.f36.eq_1 gz3) ?_
  exact ⟨PR.nil rfl rfl, RP.put_new a (RP.pre hxA p3) (Nat.le_refl _) _⟩
end
noncomputable section
structure RF (X : RX) (n0 r : Nat) (s : RS) (cv tv : V) (h : H) : Prop where
 rr : RR X n0 r s cv tv h
 cs : RCs s cv h
 sep : (cv = tv ∧ s.cols = s.told) ∨ Sep cv tv
def Stp0 (n0 : Nat) (h h' : H) : Prop := h.nx ≤ h'.nx ∧ ∀ k, k < n0 → h'.get k = h.get k
theorem Stp0.trans {n0 : Nat} {a b c : H} (x : Stp0 n0 a b) (y : Stp0 n0 b c) : Stp0 n0 a c := ⟨Nat.le_trans x.1 y.1, fun k hk => by rw [y.2 k hk, x.2 k hk]⟩
theorem Stp0.ext {n0 : Nat} {a b : H} (x : Ext a b) (hn : n0 ≤ a.nx) : Stp0 n0 a b := ⟨x.1, fun k hk => x.2 k (by omega)⟩
theorem Stp0.but {n0 r : Nat} {a b : H} (x : But r a b) (hn : n0 ≤ a.nx) (hr : n0 ≤ r) : Stp0 n0 a b := ⟨x.1, fun k hk => x.2 k (by omega) (by omega)⟩
structure Fr (r : Nat) (cv tv : V) (h : H) (cv' tv' : V) (h' : H) : Prop where
 get : ∀ k, k < h.nx → k ≠ r → Off tv k → h'.get k = h.get k
 off : ∀ k, k < h.nx → Off tv k → Off cv k → Off tv' k ∧ Off cv' k
theorem Fr.but {r : Nat} {cv tv : V} {h h' : H} (b : But r h h') : Fr r cv tv h cv tv h' := ⟨fun k hk hr _ => b.2 k hk hr, fun k _ x y => ⟨x, y⟩⟩
def SF (X : RX) (n0 r : Nat) (cv tv : V) (h : H) (q : RS × PT × Int) (w : V) (h' : H) : Prop := ∃ cv' tv', PR h h' w q.2.1 q.2.2 ∧ RF X n0 r q.1 cv' tv' h' ∧ Stp0 n0 h h' ∧ Fr r cv tv h cv' tv' h'
theorem RF.step {X : RX} {n0 r : Nat} {s s' : RS} {cv tv : V} {h h' : H} (a : RF X n0 r s cv tv h) (p : RP X n0 r s' cv tv h h') (hc : s'.cols = s.cols) (ht : s'.told = s.told) : RF X n0 r s' cv tv h' :=
 ⟨p.1, by unfold RCs; rw [hc]; exact RCs.but (s := s) a.cs a.rr.coff p.2, by rw [hc, ht]; exact a.sep⟩
theorem RF.sf {X : RX} {n0 r : Nat} {s : RS} {cv tv : V} {h h' : H} {q : RS × PT × Int} {w : V} (a : RF X n0 r s cv tv h) (p : PR h h' w q.2.1 q.2.2) (rp : RP X n0 r q.1 cv tv h h') (hc : q.1.cols = s.cols) (ht : q.1.told = s.told) : SF X n0 r cv tv h q w h' :=
 ⟨cv, tv, p, a.step rp hc ht, Stp0.but rp.2 (by have := a.rr.lt; omega) a.rr.lt.1, Fr.but rp.2⟩
theorem errS_ct (s : RS) (l : List Nat) : (errS s l).1.cols = s.cols ∧ (errS s l).1.told = s.told := by
 unfold errS; split <;> exact ⟨rfl, rfl⟩
theorem ends_ct (s : RS) (st : Int) (m : Prop) : (s.ends st m).cols = s.cols ∧ (s.ends st m).told = s.told := by
 unfold RS.ends; split <;> exact ⟨rfl, rfl⟩
theorem doneS_ct (s : RS) (l : List Nat) (k : Int) (m : Prop) : (doneS s l k m).1.cols = s.cols ∧ (doneS s l k m).1.told = s.told := by
 unfold doneS; split
 ·exact ⟨rfl, rfl⟩
 ·exact ends_ct _ _ _
theorem okS1_ct (s : RS) (l : List Nat) (m : Prop) : (okS1 s l m).1.cols = s.cols ∧ (okS1 s l m).1.told = s.told := by
 unfold okS1; split
 ·exact doneS_ct _ _ _ _
 ·exact errS_ct _ _
theorem eofS_ct (s : RS) (l : List Nat) : (eofS s l).1.cols = s.cols ∧ (eofS s l).1.told = s.told := by
 unfold eofS; split <;> exact ⟨rfl, rfl⟩
theorem eofOrOkS_ct (s : RS) (l : List Nat) : (eofOrOkS s l).1.cols = s.cols ∧ (eofOrOkS s l).1.told = s.told := by
 unfold eofOrOkS; split
 ·exact okS1_ct _ _ _
 ·exact ⟨rfl, rfl⟩
theorem textS_ct (s : RS) (l : List Nat) : (textS s l).1.cols = s.cols ∧ (textS s l).1.told = s.told := by
 unfold textS; split
 ·exact ⟨rfl, rfl⟩
 ·split
  ·exact errS_ct _ _
  ·exact ⟨rfl, rfl⟩
theorem lst_nil (n0 : Nat) (h : H) (e sz : Nat) : Lst n0 h .nilslice [] e sz := .inl (.inl ⟨rfl, rfl⟩)
theorem off_nil (k : Nat) : Off .nilslice k := fun o n m q => by cases q
theorem off_or {tv tv' : V} {k : Nat} (ht : tv' = tv ∨ tv' = .nilslice) (x : Off tv k) : Off tv' k := by
 rcases ht with rfl | rfl
 ·exact x
 ·exact off_nil _
theorem sep_nil (cv : V) : Sep cv .nilslice := fun b o n m q => by cases q
theorem RR.nilT {X : RX} {n0 r : Nat} {s s' : RS} {cv tv : V} {h : H} (a : RR X n0 r s cv tv h) (ht : s'.told = []) : RR X n0 r s' cv .nilslice (h.put r (.cells (rsC X r s' cv .nilslice) 71 false)) := ⟨put_eq rfl, by rw [ht]; exact lst_nil _ _ _ _, fun _ => rfl, off_nil _, a.coff, a.ccell, a.lt, a.x7⟩
theorem RR.nilTC {X : RX} {n0 r : Nat} {s s' : RS} {cv tv : V} {h : H} (a : RR X n0 r s cv tv h) (ht : s'.told = []) : RR X n0 r s' .nilslice .nilslice (h.put r (.cells (rsC X r s' .nilslice .nilslice) 71 false)) := ⟨put_eq rfl, by rw [ht]; exact lst_nil _ _ _ _, fun _ => rfl, off_nil _, off_nil _, ⟨rfl, rfl⟩, a.lt, a.x7⟩
theorem rcs_nil {s : RS} {h : H} (hc : s.cols = []) : RCs s .nilslice h := by
 unfold RCs
 rw [hc]
 exact ⟨rfl, .inl ⟨rfl, rfl⟩⟩
theorem RF.put_off {X : RX} {n0 r k : Nat} {s : RS} {cv tv : V} {h : H} (a : RF X n0 r s cv tv h) (hk : ¬ r = k) (ot : Off tv k) (oc : Off cv k) (ob : Ob) : RF X n0 r s cv tv (h.put k ob) :=
 ⟨⟨by rw [put_ne hk]; exact a.rr.get, a.rr.told.put_off ot, a.rr.tn, a.rr.toff, a.rr.coff, a.rr.ccell, a.rr.lt, a.rr.x7⟩, RW.keep a.cs (Nat.le_refl _) fun j hj ⟨o, n, m, q⟩ => put_ne fun e => oc o n m (by rw [← e]; exact q), a.sep⟩
theorem k21 : ((2 : Int) = 1) = False := by decide
theorem k41 : ((4 : Int) = 1) = False := by decide
theorem k42 : ((4 : Int) = 2) = False := by decide
def firstS (s : RS) (l : List Nat) : RS × PT × Int :=
 if firstF l s.c = 1 then doneS s l 1 True else
 if firstF l s.c = 2 then errS s l else
 if firstF l s.c = 4 then (if fileE l ≠ 0 then (s, PT.z, 5) else (({ s with wants := True } : RS).await 62 True, { PT.z with k := 3 }, 0)) else
 if (countF l).2 ≠ 0 then (s, PT.z, 5) else (({ s with left := (countF l).1, told := [], cols := [] } : RS).await 64 False, { PT.z with k := 4 }, 0)
variable {S : Set0} (hS : StdR S)
include hS
theorem first_sf {X : RX} {n0 r : Nat} {s : RS} {cv tv v : V} {l : List Nat} {h : H} (a : RF X n0 r s cv tv h) (b : BS 5 h v l) (hl : l.length < 2 ^ 28) : callW S.cfg (· = r) 37 [.ptr r 0, v] h fun w h' => SF X n0 r cv tv h (firstS s l) w h' := by
 refine into Tryz.f37 _ Tryz.func37 (hS.ownR _ (by decide)) rfl rfl (by kernel_rfl) (by kernel_rfl) ?_
 have okr : ∀ k, k = r → fresh h.nx (· = r) k := fun k hk => by rw [fresh_def]; exact .inr hk
 have lt := a.rr.lt.2
 have hxA : Ext h (h.push (.cells zPT 53 false)) := (Ext.refl h).push _
 have aA := a.rr.ext hxA
 have g := aA.get
 unfold rsC at g
 refine ww1 (cj @Tryz.f37.eq_1 g) ?_
 have gz : (h.push (.cells zPT 53 false)).get h.nx = some (.cells zPT 53 false) := push_eq rfl
 have nA : (h.push (.cells zPT 53 false)).nx = h.nx + 1 := rfl
 generalize h.push (.cells zPT 53 false) = hA at *
 refine callF_exact (ffirst hS (b.ext hxA) s.c) ?_
 unfold firstS
 by_cases h1 : firstF l s.c = 1
 ·rw [if_pos h1]
  have h1' := eq_true h1
  refine ww1 h1' ?_
  refine callF_of (done_spec hS aA (b.ext hxA) hl 1 True) okr ?_
  rintro _ h3 ⟨pr, p3⟩
  obtain ⟨y, rfl, by3, ⟨yc1, yc2⟩, yo⟩ := pr.on (h := h) (h0 := h) (by omega)
  have gz3 : h3.get h.nx = some (.cells zPT 53 false) := by rw [p3.2.2 _ (by omega) (by omega)]; exact gz
  have n3 := p3.2.1
  have ct := doneS_ct s l 1 True
  unfold PT.cells
  refine ww1 (cj gz3 <| cj yc1 yc2) ?_
  exact a.sf ⟨y, rfl, by3.put (yo _ (by omega)), fun k hk => yo k (by omega)⟩ (RP.put_new a.rr (RP.pre hxA p3) (Nat.le_refl _) _) ct.1 ct.2
 rw [if_neg h1]
 by_cases h2 : firstF l s.c = 2
 ·rw [if_pos h2]
  refine ww1 (cj h2 k21) ?_
  refine callF_of (err_spec hS aA (b.ext hxA) hl) okr ?_
  rintro _ h3 ⟨pr, p3⟩
  obtain ⟨y, rfl, by3, ⟨yc1, yc2⟩, yo⟩ := pr.on (h := h) (h0 := h) (by omega)
  have gz3 : h3.get h.nx = some (.cells zPT 53 false) := by rw [p3.2.2 _ (by omega) (by omega)]; exact gz
  have n3 := p3.2.1
  have ct := errS_ct s l
  unfold PT.cells
  refine ww1 (cj gz3 <| cj yc1 yc2) ?_
  exact a.sf ⟨y, rfl, by3.put (yo _ (by omega)), fun k hk => yo k (by omega)⟩ (RP.put_new a.rr (RP.pre hxA p3) (Nat.le_refl _) _) ct.1 ct.2
 rw [if_neg h2]
 by_cases h4 : firstF l s.c = 4
 ·rw [if_pos h4]
  refine ww1 (cj h4 <| cj k41 k42) ?_
  refine callF_pure (readfile_spec hS (b.ext hxA) hl) ?_
  rintro _ h3 hx3 ⟨t, rfl⟩
  have n3 := hx3.1
  have gz3 : h3.get h.nx = some (.cells zPT 53 false) := by rw [hx3.2 _ (by omega)]; exact gz
  by_cases he : fileE l = 0
  case neg =>
   rw [if_pos he]
   refine ww1 (cj he gz3) ?_
   exact a.sf (PR.nil rfl rfl) (RP.put_new a.rr (RP.same a.rr (hxA.trans hx3)) (Nat.le_refl _) _) rfl rfl
  rw [if_neg (fun q => q he)]
  have he' := eq_true he
  have a3 := aA.ext hx3
  have g3 := a3.get
  unfold rsC at g3
  refine ww1 (cj he' <| cj gz3 g3) ?_
  have p3 : RP X n0 r { s with wants := True } cv tv h3 (h3.put r (.cells (rsC X r { s with wants := True } cv tv) 71 false)) := ⟨a3.put rfl, (But.refl r h3).put _⟩
  refine callF_of (await_spec hS p3.1 62 True) okr ?_
  rintro _ h5 ⟨rfl, p5⟩
  have p5 := p3.trans p5
  have n5 := p5.2.1
  have gz5 : h5.get h.nx = some (.cells zPT 53 false) := by rw [p5.2.2 _ (by omega) (by omega)]; exact gz3
  refine ww1 gz5 ?_
  exact a.sf (PR.nil rfl rfl) (RP.put_new a.rr (RP.pre (hxA.trans hx3) p5) (Nat.le_refl _) _) rfl rfl
 rw [if_neg h4]
 refine ww1 (cj h1 <| cj h2 h4) ?_
 refine callF_pure (count_spec hS (b.ext hxA) hl) ?_
 rintro _ h3 hx3 rfl
 have n3 := hx3.1
 have gz3 : h3.get h.nx = some (.cells zPT 53 false) := by rw [hx3.2 _ (by omega)]; exact gz
 by_cases he : (countF l).2 = 0
 case neg =>
  rw [if_pos he]
  refine ww1 (cj he gz3) ?_
  exact a.sf (PR.nil rfl rfl) (RP.put_new a.rr (RP.same a.rr (hxA.trans hx3)) (Nat.le_refl _) _) rfl rfl
 rw [if_neg (fun q => q he)]
 have he' := eq_true he
 have g3 := (aA.ext hx3).get
 unfold rsC at g3
 refine ww1 (cj he' <| cj gz3 g3) ?_
 have a3 := aA.ext hx3
 have a4 : RR X n0 r { s with left := (countF l).1 } cv tv (h3.put r (.cells (rsC X r { s with left := (countF l).1 } cv tv) 71 false)) := a3.put rfl
 have a5 := a4.nilT (s' := { s with left := (countF l).1, told := [] }) rfl
 have a6 := a5.nilTC (s' := { s with left := (countF l).1, told := [], cols := [] }) rfl
 have b6 := (((But.refl r h3).put (.cells (rsC X r { s with left := (countF l).1 } cv tv) 71 false)).put (.cells (rsC X r { s with left := (countF l).1, told := [] } cv .nilslice) 71 false)).put (.cells (rsC X r { s with left := (countF l).1, told := [], cols := [] } .nilslice .nilslice) 71 false)
 refine callF_of (await_spec hS a6 64 False) okr ?_
 rintro _ h5 ⟨rfl, p5⟩
 have b5 := b6.trans p5.2
 have n5 := b5.1
 have gz5 : h5.get h.nx = some (.cells zPT 53 false) := by rw [b5.2 _ (by omega) (by omega)]; exact gz3
 refine ww1 gz5 ?_
 exact ⟨.nilslice, .nilslice, PR.nil rfl rfl, RF.put_off (k := h.nx) ⟨p5.1, rcs_nil rfl, .inr (sep_nil _)⟩ (by omega) (off_nil _) (off_nil _) _, Stp0.but (((But.of_ext (hxA.trans hx3)).trans b5).put_new (Nat.le_refl _) _) (by have := a.rr.lt; omega) a.rr.lt.1, ⟨fun k hk hr _ => (((But.of_ext (hxA.trans hx3)).trans b5).put_new (Nat.le_refl _) _).2 k hk hr, fun k _ _ _ => ⟨off_nil _, off_nil _⟩⟩⟩
end
noncomputable section
def furA (s : RS) : RS := @ite _ (s.left = 0 ∧ ¬ s.second) (Classical.propDecidable _) { s with second := True, left := s.thn } s
def furtherS (s : RS) : RS × Prop := if (furA s).left = 0 then ((furA s).fin, True) else (({ furA s with told := [] } : RS).await 109 False, False)
def afterS (s : RS) : RS × Prop := @ite _ s.second (Classical.propDecidable _) (s.fin, True) (furtherS s)
def defEndS (s : RS) (l : List Nat) : RS × PT × Int := if (eofF l).2.2 ≠ 0 then (s, PT.z, 5) else ((afterS { s with st := (eofF l).2.1 }).1, { PT.z with k := 6, last := (afterS { s with st := (eofF l).2.1 }).2, fw := (eofF l).1, fs := (eofF l).2.1 }, 0)
def colEndS (s : RS) (l : List Nat) : RS × PT × Int := if (eofF l).2.2 ≠ 0 then (s, PT.z, 5) else
 (@ite _ (s.k = 23 ∧ s.fl = 1 ∧ ¬ iAnd .u16 (eofF l).2.1 64 = 0) (Classical.propDecidable _) ({ s with st := (eofF l).2.1 } : RS).fin (({ s with st := (eofF l).2.1 } : RS).await 39 True), { PT.z with k := 6, last := s.k = 23 ∧ s.fl = 1 ∧ ¬ iAnd .u16 (eofF l).2.1 64 = 0, fw := (eofF l).1, fs := (eofF l).2.1 }, 0)
def prepS (s : RS) (l : List Nat) : RS × PT × Int := if l.length = 0 ∨ ¬ byI l 0 = 0 then errS s l else if (prepF l).2.2.2.2 ≠ 0 then (s, PT.z, 5) else
 ((furtherS { s with left := (prepF l).2.2.1, thn := (prepF l).2.1 }).1, { PT.z with k := 9, last := (furtherS { s with left := (prepF l).2.2.1, thn := (prepF l).2.1 }).2, p1 := (prepF l).1, p2 := (prepF l).2.1, p3 := (prepF l).2.2.1, p4 := (prepF l).2.2.2.1 }, 0)
theorem furA_ct (s : RS) : (furA s).cols = s.cols ∧ (furA s).told = s.told := by unfold furA; split <;> exact ⟨rfl, rfl⟩
theorem SF.fin {X : RX} {n0 r : Nat} {s s' : RS} {cv tv tv' w : V} {h h2 : H} {ob : Ob} {p : PT} {e : Int} (a : RF X n0 r s cv tv h) (f : RF X n0 r s' cv tv' h2) (b : But r h h2) (ht : tv' = tv ∨ tv' = .nilslice) (pr : PR h (h2.put h.nx ob) w p e) : SF X n0 r cv tv h (s', p, e) w (h2.put h.nx ob) := by
 have lt := a.rr.lt
 have ot : Off tv' h.nx := by
  rcases ht with rfl | rfl
  ·exact a.rr.told.off_new (Nat.le_refl _)
  ·exact off_nil _
 exact ⟨cv, tv', pr, f.put_off (by omega) ot (RW.off a.cs (Nat.le_refl _)) ob, Stp0.but (b.put_new (Nat.le_refl _) ob) (by omega) lt.1, ⟨fun k hk hr _ => (b.put_new (Nat.le_refl _) ob).2 k hk hr, fun k _ x y => ⟨off_or ht x, y⟩⟩⟩
theorem cl_rd {n0 n1 r k o m : Nat} (h1 : k < n0) (h2 : ¬ k = r) : fpApart (.cl n0 n1 (· = r)) (.lg [.rd k o m]) := fun e he => .inr (by
 rw [List.mem_singleton.1 he]
 exact ⟨rfl, h1, h2⟩)
variable {S : Set0} (hS : StdR S)
include hS
theorem further_spec {X : RX} {n0 r : Nat} {s : RS} {cv tv : V} {h : H} (a : RF X n0 r s cv tv h) : callW S.cfg (· = r) 66 [.ptr r 0] h fun w h' => w = bo (furtherS s).2 ∧ ∃ tv', RF X n0 r (furtherS s).1 cv tv' h' ∧ But r h h' ∧ (tv' = tv ∨ tv' = .nilslice) := by
 refine into Tryz.f66 _ Tryz.func66 (hS.ownR _ (by decide)) rfl rfl (by kernel_rfl) (by kernel_rfl) ?_
 have okr : ∀ k, k = r → fresh h.nx (· = r) k := fun k hk => by rw [fresh_def]; exact .inr hk
 have lt := a.rr.lt.2
 have g := a.rr.get
 unfold rsC at g
 refine wr1 (cj @Tryz.f66.eq_1 g) ?_
 refine run_cut (fun env' h' => env' 0 = .ptr r 0 ∧ RP X n0 r (furA s) cv tv h h') ?_ ?_
 ·by_cases hc : s.left = 0 ∧ ¬ s.second
  ·have ha : furA s = { s with second := True, left := s.thn } := by unfold furA; rw [if_pos hc]
   rw [ha]
   have hl := eq_true hc.1
   have hs := hc.2
   refine ww1 (cj g <| cj hs hl) ?_
   exact ⟨(a.rr.put (s' := { s with second := True }) rfl).put (s' := { s with second := True, left := s.thn }) rfl, ((But.refl r h).put _).put _⟩
  ·have ha : furA s = s := by unfold furA; rw [if_neg hc]
   rw [ha]
   by_cases hl : s.left = 0
   ·have hs : s.second := Classical.byContradiction fun q => hc ⟨hl, q⟩
    refine ww1 (cj g <| cj hs hl) ?_
    exact RP.same a.rr (Ext.refl h)
   ·refine ww1 (cj g hl) ?_
    exact RP.same a.rr (Ext.refl h)
 rintro env1 h1 ⟨e0, p1⟩
 have n1 := p1.2.1
 have g1 := p1.1.get
 unfold rsC at g1
 have ct := furA_ct s
 unfold furtherS
 generalize furA s = s1 at *
 by_cases hz : s1.left = 0
 ·rw [if_pos hz]
  have hz' := eq_true hz
  refine ww1 (cj g1 <| cj e0 hz') ?_
  refine callF_of (fin_spec hS p1.1) okr ?_
  rintro _ h2 ⟨rfl, p2⟩
  refine ww0 ?_
  exact ⟨tv, a.step (p1.trans p2) ct.1 ct.2, (p1.trans p2).2, .inl rfl⟩
 ·rw [if_neg hz]
  refine ww1 (cj g1 <| cj e0 hz) ?_
  have a2 := p1.1.nilT (s' := { s1 with told := [] }) rfl
  refine callF_of (await_spec hS a2 109 False) okr ?_
  rintro _ h2 ⟨rfl, p2⟩
  refine ww0 ?_
  have b2 : But r h h2 := (p1.2.put _).trans p2.2
  exact ⟨.nilslice, ⟨p2.1, by show RCs _ cv h2; unfold RCs; show RW 67 10 s1.cols.length h2 cv (colV s1.cols); rw [ct.1]; exact RCs.but (s := s) a.cs a.rr.coff b2, .inr (sep_nil _)⟩, b2, .inr rfl⟩
theorem after_spec {X : RX} {n0 r : Nat} {s : RS} {cv tv : V} {h : H} (a : RF X n0 r s cv tv h) : callW S.cfg (· = r) 145 [.ptr r 0] h fun w h' => w = bo (afterS s).2 ∧ ∃ tv', RF X n0 r (afterS s).1 cv tv' h' ∧ But r h h' ∧ (tv' = tv ∨ tv' = .nilslice) := by
 refine into Tryz.f145 _ Tryz.func145 (hS.ownR _ (by decide)) rfl rfl (by kernel_rfl) (by kernel_rfl) ?_
 have okr : ∀ k, k = r → fresh h.nx (· = r) k := fun k hk => by rw [fresh_def]; exact .inr hk
 have g := a.rr.get
 unfold rsC at g
 unfold afterS
 by_cases hs : s.second
 ·rw [if_pos hs]
  refine ww1 (cj @Tryz.f145.eq_1 <| cj g hs) ?_
  refine callF_of (fin_spec hS a.rr) okr ?_
  rintro _ h2 ⟨rfl, p2⟩
  refine ww1 @Tryz.f145.eq_1 ?_
  exact ⟨tv, a.step p2 rfl rfl, p2.2, .inl rfl⟩
 ·rw [if_neg hs]
  refine ww1 (cj @Tryz.f145.eq_1 <| cj g hs) ?_
  refine callF_of (further_spec hS a) okr ?_
  rintro _ h2 ⟨rfl, q⟩
  refine ww1 @Tryz.f145.eq_1 ?_
  exact q
theorem defEnd_sf {X : RX} {n0 r : Nat} {s : RS} {cv tv v : V} {l : List Nat} {h : H} (a : RF X n0 r s cv tv h) (b : BS 5 h v l) (hl : l.length < 2 ^ 28) : callW S.cfg (· = r) 144 [.ptr r 0, v] h fun w h' => SF X n0 r cv tv h (defEndS s l) w h' := by
 refine into Tryz.f144 _ Tryz.func144 (hS.ownR _ (by decide)) rfl rfl (by kernel_rfl) (by kernel_rfl) ?_
 have okr : ∀ k, k = r → fresh h.nx (· = r) k := fun k hk => by rw [fresh_def]; exact .inr hk
 have lt := a.rr.lt.2
 have hxA : Ext h (h.push (.cells zPT 53 false)) := (Ext.refl h).push _
 refine ww1 @Tryz.f144.eq_1 ?_
 have gz : (h.push (.cells zPT 53 false)).get h.nx = some (.cells zPT 53 false) := push_eq rfl
 have nA : (h.push (.cells zPT 53 false)).nx = h.nx + 1 := rfl
 generalize h.push (.cells zPT 53 false) = hA at *
 have aA : RF X n0 r s cv tv hA := a.step (RP.same a.rr hxA) rfl rfl
 refine callF_of (eof_spec hS aA.rr (b.ext hxA) hl) okr ?_
 rintro _ h1 ⟨rfl, p1⟩
 have n1 := p1.2.1
 have gz1 : h1.get h.nx = some (.cells zPT 53 false) := by rw [p1.2.2 _ (by omega) (by omega)]; exact gz
 unfold defEndS
 have ct := eofS_ct s l
 unfold eofS at p1 ct ⊢
 by_cases he : (eofF l).2.2 = 0
 case neg =>
  rw [if_pos he] at p1 ct ⊢
  rw [if_pos he]
  refine ww1 (cj gz1 n50) ?_
  exact ⟨.inr (.inl (by omega)), a.sf (PR.nil rfl rfl) (RP.put_new a.rr (RP.pre hxA (p1.ext (((Ext.refl h1).push _).put (Nat.le_refl _) _))) (Nat.le_refl _) _) rfl rfl⟩
 rw [if_neg (fun q => q he)] at p1 ct ⊢
 rw [if_neg (fun q => q he)]
 refine ww1 gz1 ?_
 generalize hhB : H.put (H.push h1 _) h1.nx _ = hB
 have hxB : Ext h1 hB := by rw [← hhB]; exact ((Ext.refl h1).push _).put (Nat.le_refl _) _
 have gB : hB.get h1.nx = some (.cells [.int .u16 (eofF l).1, .int .u16 (eofF l).2.1] 49 false) := by rw [← hhB]; exact put_eq rfl
 have nB : hB.nx = h1.nx + 1 := by rw [← hhB]; rfl
 clear hhB
 refine ⟨.inr (.inl (by omega)), draw_by [(1, 2)] (by kernel_rfl) ?_⟩
 refine ww0 ?_
 have aB : RF X n0 r { s with st := (eofF l).2.1 } cv tv hB := aA.step (p1.ext hxB) rfl rfl
 refine callF_of (after_spec hS aB) okr ?_
 rintro _ h3 ⟨rfl, tv', f3, b3, ht⟩
 have n3 := b3.1
 have g3 : h3.get h1.nx = some (.cells [.int .u16 (eofF l).1, .int .u16 (eofF l).2.1] 49 false) := by rw [b3.2 _ (by omega) (by omega)]; exact gB
 have gz3 : h3.get h.nx = some (.cells zPT 53 false) := by rw [b3.2 _ (by omega) (by omega), hxB.2 _ (by omega)]; exact gz1
 refine ww1 (cj g3 gz3) ?_
 have bh := (But.of_ext hxA).trans ((p1.2.trans (But.of_ext hxB)).trans b3)
 refine ⟨fun p hp => ?_, SF.fin a f3 bh ht (PR.nil rfl rfl)⟩
 rw [List.mem_singleton.1 hp]
 exact pair_one rfl rfl (cl_rd (by omega) (by omega))
theorem colEnd_sf {X : RX} {n0 r : Nat} {s : RS} {cv tv v : V} {l : List Nat} {h : H} (a : RF X n0 r s cv tv h) (b : BS 5 h v l) (hl : l.length < 2 ^ 28) : callW S.cfg (· = r) 106 [.ptr r 0, v] h fun w h' => SF X n0 r cv tv h (colEndS s l) w h' := by
 refine into Tryz.f106 _ Tryz.func106 (hS.ownR _ (by decide)) rfl rfl (by kernel_rfl) (by kernel_rfl) ?_
 have okr : ∀ k, k = r → fresh h.nx (· = r) k := fun k hk => by rw [fresh_def]; exact .inr hk
 have lt := a.rr.lt.2
 have hxA : Ext h (h.push (.cells zPT 53 false)) := (Ext.refl h).push _
 refine ww1 @Tryz.f106.eq_1 ?_
 have gz : (h.push (.cells zPT 53 false)).get h.nx = some (.cells zPT 53 false) := push_eq rfl
 have nA : (h.push (.cells zPT 53 false)).nx = h.nx + 1 := rfl
 generalize h.push (.cells zPT 53 false) = hA at *
 have aA : RF X n0 r s cv tv hA := a.step (RP.same a.rr hxA) rfl rfl
 refine callF_of (eof_spec hS aA.rr (b.ext hxA) hl) okr ?_
 rintro _ h1 ⟨rfl, p1⟩
 have n1 := p1.2.1
 have gz1 : h1.get h.nx = some (.cells zPT 53 false) := by rw [p1.2.2 _ (by omega) (by omega)]; exact gz
 have ct := eofS_ct s l
 unfold eofS at p1 ct ⊢
 by_cases he : (eofF l).2.2 = 0
 case neg =>
  rw [if_pos he] at p1 ct ⊢
  rw [show colEndS s l = (s, PT.z, 5) from if_pos he]
  refine ww1 (cj gz1 n50) ?_
  exact ⟨.inr (.inl (by omega)), a.sf (PR.nil rfl rfl) (RP.put_new a.rr (RP.pre hxA (p1.ext (((Ext.refl h1).push _).put (Nat.le_refl _) _))) (Nat.le_refl _) _) rfl rfl⟩
 rw [if_neg (fun q => q he)] at p1 ct ⊢
 have q1 : colEndS s l = (@ite _ (s.k = 23 ∧ s.fl = 1 ∧ ¬ iAnd .u16 (eofF l).2.1 64 = 0) (Classical.propDecidable _) ({ s with st := (eofF l).2.1 } : RS).fin (({ s with st := (eofF l).2.1 } : RS).await 39 True), { PT.z with k := 6, last := s.k = 23 ∧ s.fl = 1 ∧ ¬ iAnd .u16 (eofF l).2.1 64 = 0, fw := (eofF l).1, fs := (eofF l).2.1 }, 0) := if_neg (fun q => q he)
 rw [q1]
 have g1 := p1.1.get
 unfold rsC at g1
 generalize hhB : H.put (H.push h1 (.cells [.int .u16 0, .int .u16 0] 49 false)) h1.nx (.cells [.int .u16 (eofF l).1, .int .u16 (eofF l).2.1] 49 false) = hB
 have hxB : Ext h1 hB := by rw [← hhB]; exact ((Ext.refl h1).push _).put (Nat.le_refl _) _
 have gB : hB.get h1.nx = some (.cells [.int .u16 (eofF l).1, .int .u16 (eofF l).2.1] 49 false) := by rw [← hhB]; exact put_eq rfl
 have nB : hB.nx = h1.nx + 1 := by rw [← hhB]; rfl
 have aB : RF X n0 r { s with st := (eofF l).2.1 } cv tv hB := aA.step (p1.ext hxB) rfl rfl
 have bB := (But.of_ext hxA).trans (p1.2.trans (But.of_ext hxB))
 have gr := aB.rr.get
 unfold rsC at gr
 by_cases hk : s.k = 23 ∧ s.fl = 1 ∧ ¬ iAnd .u16 (eofF l).2.1 64 = 0
 ·rw [if_pos hk]
  have hw : bo (s.k = 23 ∧ s.fl = 1 ∧ ¬ iAnd .u16 (eofF l).2.1 64 = 0) = bo True := by simp only [eq_true hk]
  have hk1 := eq_true hk.1
  have hk2 := eq_true hk.2.1
  have hk3 := hk.2.2
  refine ww1 (cj gz1 <| cj hhB <| cj gB <| cj gr <| cj hk1 <| cj hk2 hk3) ?_
  refine ⟨.inr (.inl (by omega)), callF_of (fin_spec hS aB.rr) okr ?_⟩
  rintro _ h3 ⟨rfl, p3⟩
  have n3 := p3.2.1
  have g3 : h3.get h1.nx = some (.cells [.int .u16 (eofF l).1, .int .u16 (eofF l).2.1] 49 false) := by rw [p3.2.2 _ (by omega) (by omega)]; exact gB
  have gz3 : h3.get h.nx = some (.cells zPT 53 false) := by rw [p3.2.2 _ (by omega) (by omega), ← hhB, put_ne (by omega), push_ne (by omega)]; exact gz1
  refine ww1 (cj g3 gz3) ?_
  exact SF.fin a (aB.step p3 rfl rfl) (bB.trans p3.2) (.inl rfl) (PR.nil (by unfold PT.cells; simp only [hw]; rfl) rfl)
 ·rw [if_neg hk]
  have fin : ∀ h3, RP X n0 r (({ s with st := (eofF l).2.1 } : RS).await 39 True) cv tv hB h3 → h3.get h1.nx = some (.cells [.int .u16 (eofF l).1, .int .u16 (eofF l).2.1] 49 false) ∧ h3.get h.nx = some (.cells zPT 53 false) ∧ hB.nx ≤ h3.nx := fun h3 p3 => ⟨by rw [p3.2.2 _ (by omega) (by omega)]; exact gB, by rw [p3.2.2 _ (by omega) (by omega), ← hhB, put_ne (by omega), push_ne (by omega)]; exact gz1, p3.2.1⟩
  have hw : bo (s.k = 23 ∧ s.fl = 1 ∧ ¬ iAnd .u16 (eofF l).2.1 64 = 0) = bo False := by simp only [eq_false hk]
  by_cases hk1 : s.k = 23
  ·by_cases hk2 : s.fl = 1
   ·have hk3 : iAnd .u16 (eofF l).2.1 64 = 0 := Classical.byContradiction fun q => hk ⟨hk1, hk2, q⟩
    have hk1' := eq_true hk1
    have hk2' := eq_true hk2
    refine ww1 (cj gz1 <| cj hhB <| cj gB <| cj gr <| cj hk1' <| cj hk2' hk3) ?_
    refine ⟨.inr (.inl (by omega)), callF_of (await_spec hS aB.rr 39 True) okr ?_⟩
    rintro _ h3 ⟨rfl, p3⟩
    obtain ⟨g3, gz3, n3⟩ := fin h3 p3
    refine ww1 (cj g3 gz3) ?_
    exact SF.fin a (aB.step p3 rfl rfl) (bB.trans p3.2) (.inl rfl) (PR.nil (by unfold PT.cells; simp only [hw]; rfl) rfl)
   ·have hk1' := eq_true hk1
    refine ww1 (cj gz1 <| cj hhB <| cj gB <| cj gr <| cj hk1' hk2) ?_
    refine ⟨.inr (.inl (by omega)), callF_of (await_spec hS aB.rr 39 True) okr ?_⟩
    rintro _ h3 ⟨rfl, p3⟩
    obtain ⟨g3, gz3, n3⟩ := fin h3 p3
    refine ww1 (cj g3 gz3) ?_
    exact SF.fin a (aB.step p3 rfl rfl) (bB.trans p3.2) (.inl rfl) (PR.nil (by unfold PT.cells; simp only [hw]; rfl) rfl)
  ·refine ww1 (cj gz1 <| cj hhB <| cj gB <| cj gr hk1) ?_
   refine ⟨.inr (.inl (by omega)), callF_of (await_spec hS aB.rr 39 True) okr ?_⟩
   rintro _ h3 ⟨rfl, p3⟩
   obtain ⟨g3, gz3, n3⟩ := fin h3 p3
   refine ww1 (cj g3 gz3) ?_
   exact SF.fin a (aB.step p3 rfl rfl) (bB.trans p3.2) (.inl rfl) (PR.nil (by unfold PT.cells; simp only [hw]; rfl) rfl)
end
noncomputable section
theorem rd_wr {j k o m o' m' : Nat} (h : j ≠ k) : fpApart (.lg [.rd j o m]) (.lg [.wr k o' m']) := wr_apart fun x hx => by rw [List.mem_singleton.1 hx]; exact h
theorem ap28' : apI Tryz.prog 28 = some (67, 10, 96) := ap28
def oneS (s : RS) (l : List Nat) : RS × Int := if (colF l).2 ≠ 0 then (s, 5) else ({ s with told := s.told ++ [(colF l).1], left := s.left - 1 }, 0)
variable {S : Set0} (hS : StdR S)
include hS
theorem prep_sf {X : RX} {n0 r : Nat} {s : RS} {cv tv v : V} {l : List Nat} {h : H} (a : RF X n0 r s cv tv h) (b : BS 5 h v l) (hl : l.length < 2 ^ 28) : callW S.cfg (· = r) 38 [.ptr r 0, v] h fun w h' => SF X n0 r cv tv h (prepS s l) w h' := by
 refine into Tryz.f38 _ Tryz.func38 (hS.ownR _ (by decide)) rfl rfl (by kernel_rfl) (by kernel_rfl) ?_
 have okr : ∀ k, k = r → fresh h.nx (· = r) k := fun k hk => by rw [fresh_def]; exact .inr hk
 have lt := a.rr.lt.2
 have hxA : Ext h (h.push (.cells zPT 53 false)) := (Ext.refl h).push _
 have a1 := b.len 5
 have aA : RF X n0 r s cv tv (h.push (.cells zPT 53 false)) := a.step (RP.same a.rr hxA) rfl rfl
 have gz : (h.push (.cells zPT 53 false)).get h.nx = some (.cells zPT 53 false) := push_eq rfl
 have nA : (h.push (.cells zPT 53 false)).nx = h.nx + 1 := rfl
 have ct := errS_ct s l
 by_cases h0 : l.length = 0
 ·rw [show prepS s l = errS s l from if_pos (.inl h0)]
  refine ww1 (cj @Tryz.f38.eq_1 <| cj a1 h0) ?_
  generalize h.push (.cells zPT 53 false) = hA at *
  refine callF_of (err_spec hS aA.rr (b.ext hxA) hl) okr ?_
  rintro _ h3 ⟨pr, p3⟩
  obtain ⟨y, rfl, by3, ⟨yc1, yc2⟩, yo⟩ := pr.on (h := h) (h0 := h) (by omega)
  have gz3 : h3.get h.nx = some (.cells zPT 53 false) := by rw [p3.2.2 _ (by omega) (by omega)]; exact gz
  have n3 := p3.2.1
  unfold PT.cells
  refine ww1 (cj @Tryz.f38.eq_1 <| cj gz3 <| cj yc1 yc2) ?_
  exact a.sf ⟨y, rfl, by3.put (yo _ (by omega)), fun k hk => yo k (by omega)⟩ (RP.put_new a.rr (RP.pre hxA p3) (Nat.le_refl _) _) ct.1 ct.2
 obtain ⟨bb, o, m, hv, _, _⟩ := b.at (i := 0) (by omega)
 obtain ⟨_, hbb, hrd⟩ := BS.rd (hv ▸ b)
 have hr := hrd 0 (by omega)
 rw [Nat.add_zero] at hr
 have hl0 : 0 < l.length := by omega
 subst hv
 by_cases hz : byI l 0 = 0
 case neg =>
  rw [show prepS s l = errS s l from if_pos (.inr hz)]
  refine ww1 (cj @Tryz.f38.eq_1 <| cj a1 <| cj h0 <| cj hl0 <| cj hr hz) ?_
  generalize h.push (.cells zPT 53 false) = hA at *
  refine callF_of (err_spec hS aA.rr (b.ext hxA) hl) okr ?_
  rintro _ h3 ⟨pr, p3⟩
  obtain ⟨y, rfl, by3, ⟨yc1, yc2⟩, yo⟩ := pr.on (h := h) (h0 := h) (by omega)
  have gz3 : h3.get h.nx = some (.cells zPT 53 false) := by rw [p3.2.2 _ (by omega) (by omega)]; exact gz
  have n3 := p3.2.1
  unfold PT.cells
  refine ww1 (cj @Tryz.f38.eq_1 <| cj gz3 <| cj yc1 yc2) ?_
  exact a.sf ⟨y, rfl, by3.put (yo _ (by omega)), fun k hk => yo k (by omega)⟩ (RP.put_new a.rr (RP.pre hxA p3) (Nat.le_refl _) _) ct.1 ct.2
 have hne : ¬ (l.length = 0 ∨ ¬ byI l 0 = 0) := fun q => q.elim h0 fun q => q hz
 have hz' := eq_true hz
 refine ww1 (cj @Tryz.f38.eq_1 <| cj a1 <| cj h0 <| cj hl0 <| cj hr hz') ?_
 generalize h.push (.cells zPT 53 false) = hA at *
 refine callF_pure (readprep_spec hS.toStdG (b.ext hxA) hl) ?_
 rintro _ h1 hx1 rfl
 have n1 := hx1.1
 have gz1 : h1.get h.nx = some (.cells zPT 53 false) := by rw [hx1.2 _ (by omega)]; exact gz
 by_cases he : (prepF l).2.2.2.2 = 0
 case neg =>
  rw [show prepS s l = (s, PT.z, 5) by unfold prepS; rw [if_neg hne, if_pos he]]
  refine ww1 (cj he gz1) ?_
  exact ⟨.inr (.inl (by omega)), a.sf (PR.nil rfl rfl) (RP.put_new a.rr (RP.pre hxA (RP.same aA.rr (hx1.trans (((Ext.refl h1).push _).put (Nat.le_refl _) _)))) (Nat.le_refl _) _) rfl rfl⟩
 have q1 : prepS s l = ((furtherS { s with left := (prepF l).2.2.1, thn := (prepF l).2.1 }).1, { PT.z with k := 9, last := (furtherS { s with left := (prepF l).2.2.1, thn := (prepF l).2.1 }).2, p1 := (prepF l).1, p2 := (prepF l).2.1, p3 := (prepF l).2.2.1, p4 := (prepF l).2.2.2.1 }, 0) := by unfold prepS; rw [if_neg hne, if_neg (fun q => q he)]
 rw [q1]
 clear q1
 have hin := prepF_in l
 have w1 : IntKind.i64.wrap (prepF l).2.2.1 = (prepF l).2.2.1 := i64_in _ (by omega)
 have w2 : IntKind.i64.wrap (prepF l).2.1 = (prepF l).2.1 := i64_in _ (by omega)
 have he' := eq_true he
 generalize hhB : H.put (H.push h1 (.cells [.int .u32 0, .int .u16 0, .int .u16 0, .int .u16 0] 51 false)) h1.nx (.cells [.int .u32 (prepF l).1, .int .u16 (prepF l).2.1, .int .u16 (prepF l).2.2.1, .int .u16 (prepF l).2.2.2.1] 51 false) = hB
 have hxB : Ext h1 hB := by rw [← hhB]; exact ((Ext.refl h1).push _).put (Nat.le_refl _) _
 have gB : hB.get h1.nx = some (.cells [.int .u32 (prepF l).1, .int .u16 (prepF l).2.1, .int .u16 (prepF l).2.2.1, .int .u16 (prepF l).2.2.2.1] 51 false) := by rw [← hhB]; exact put_eq rfl
 have nB : hB.nx = h1.nx + 1 := by rw [← hhB]; rfl
 have gzB : hB.get h.nx = some (.cells zPT 53 false) := by rw [hxB.2 _ (by omega)]; exact gz1
 have aB : RF X n0 r s cv tv hB := aA.step (RP.same aA.rr (hx1.trans hxB)) rfl rfl
 have gr := aB.rr.get
 unfold rsC at gr
 refine ww1 (cj gz1 <| cj hhB he') ?_
 refine ⟨.inr (.inl (by omega)), draw_by [(6, 10)] (by kernel_rfl) ?_⟩
 refine ww1 (cj gB <| cj gr <| cj w1 w2) ?_
 refine ⟨fun p hp => ?_, ?_⟩
 ·rw [List.mem_singleton.1 hp]
  exact pair_one rfl rfl (rd_wr (by omega))
 refine draw_by [(1, 2)] (by kernel_rfl) ?_
 refine ww0 ?_
 have p5 := (aB.rr.put (s' := { s with left := (prepF l).2.2.1 }) rfl).put (s' := { s with left := (prepF l).2.2.1, thn := (prepF l).2.1 }) rfl
 have b5 := ((But.refl r hB).put (.cells (rsC X r { s with left := (prepF l).2.2.1 } cv tv) 71 false)).put (.cells (rsC X r { s with left := (prepF l).2.2.1, thn := (prepF l).2.1 } cv tv) 71 false)
 refine callF_of (further_spec hS (aB.step ⟨p5, b5⟩ rfl rfl)) okr ?_
 rintro _ h3 ⟨rfl, tv', f3, b3, ht⟩
 have b6 := b5.trans b3
 have n3 := b6.1
 have g3 : h3.get h1.nx = some (.cells [.int .u32 (prepF l).1, .int .u16 (prepF l).2.1, .int .u16 (prepF l).2.2.1, .int .u16 (prepF l).2.2.2.1] 51 false) := by rw [b6.2 _ (by omega) (by omega)]; exact gB
 have gz3 : h3.get h.nx = some (.cells zPT 53 false) := by rw [b6.2 _ (by omega) (by omega)]; exact gzB
 refine ww1 (cj g3 gz3) ?_
 have bh := (But.of_ext ((hxA.trans hx1).trans hxB)).trans b6
 refine ⟨fun p hp => ?_, SF.fin a f3 bh ht (PR.nil rfl rfl)⟩
 rw [List.mem_singleton.1 hp]
 exact pair_one rfl rfl (cl_rd (by show h1.nx < hB.nx; omega) (by omega))
theorem one_spec {X : RX} {n0 r : Nat} {s : RS} {cv tv v : V} {l : List Nat} {h : H} (a : RR X n0 r s cv tv h) (b : BS 5 h v l) (hl : l.length < 2 ^ 28) (hL : 1 ≤ s.left ∧ s.left ≤ 65536) (hT : s.told.length ≤ 65536) : callW S.cfg (fun k => n0 ≤ k) 104 [.ptr r 0, v] h fun w h' => w = .int .i64 (oneS s l).2 ∧ ∃ tv', RR X n0 r (oneS s l).1 cv tv' h' ∧ (Sep cv tv → RCs s cv h → RCs s cv h' ∧ Sep cv tv') ∧ h.nx ≤ h'.nx ∧ (∀ k, k < h.nx → k ≠ r → Off tv k → h'.get k = h.get k) ∧ (∀ k, k < h.nx → Off tv k → Off tv' k) ∧ ((oneS s l).2 ≠ 0 → tv' = tv ∧ Ext h h') := by
 refine into Tryz.f104 _ Tryz.func104 (hS.ownR _ (by decide)) rfl rfl (by kernel_rfl) (by kernel_rfl) ?_
 have lt := a.lt
 refine ww1 @Tryz.f104.eq_1 ?_
 refine callF_pure (colread_spec hS b hl) ?_
 rintro _ h1 hx1 rfl
 have n1 := hx1.1
 unfold oneS
 by_cases he : (colF l).2 = 0
 case neg =>
  rw [if_pos he]
  unfold CO.cells
  refine ww1 he ?_
  have hx2 : Ext h ((h1.push (.cells CO.zero.cells 67 false)).put h1.nx (.cells (colF l).1.cells 67 false)) := (hx1.push _).put (by omega) _
  exact ⟨.inr (.inl (by omega)), tv, a.ext hx2, fun q1 q2 => ⟨RW.ext q2 hx2, q1⟩, hx2.1, fun k hk _ _ => hx1.2 k hk, fun k _ q => q, fun _ => ⟨rfl, hx2⟩⟩
 rw [if_neg (fun q => q he)]
 have he' := eq_true he
 generalize (colF l).1 = x at *
 unfold CO.cells
 generalize hhB : H.put (H.push h1 (.cells CO.zero.cells 67 false)) h1.nx (.cells x.cells 67 false) = hB
 have hxB : Ext h1 hB := by rw [← hhB]; exact ((Ext.refl h1).push _).put (Nat.le_refl _) _
 have gB : hB.get h1.nx = some (.cells x.cells 67 false) := by rw [← hhB]; exact put_eq rfl
 have nB : hB.nx = h1.nx + 1 := by rw [← hhB]; rfl
 unfold CO.cells CO.zero at hhB
 unfold CO.cells at gB
 have aB := a.ext (hx1.trans hxB)
 have gr := aB.get
 unfold rsC at gr
 refine ww1 (cj he' hhB) ?_
 refine ⟨.inr (.inl (by omega)), draw_by [(4, 6)] (by kernel_rfl) ?_⟩
 refine ww1 (cj gr gB) ?_
 generalize hhC : H.push hB _ = hC
 have hxC : Ext hB hC := by rw [← hhC]; exact (Ext.refl hB).push _
 have nC : hC.nx = hB.nx + 1 := by rw [← hhC]; rfl
 have gC : hC.get hB.nx = some (.cells x.cells 67 false) := by rw [← hhC]; exact push_eq rfl
 clear hhC hhB
 have aC := aB.ext hxC
 refine append_fresh (n0 := n0) (sv := tv) (b2 := hB.nx) (o2 := 0) (n := 1) (m := 1) (cells := colV s.told) (new := x.cells) ?_ ?_ ap28' ⟨.slice 67, by kernel_rfl, rfl⟩ aC.told (by decide) (by rw [gC]; exact rdC_all rfl) rfl rfl ?_ (by decide) (fun k hk => by
  rw [fresh_def]
  obtain ⟨o, n, m, q⟩ := hk
  exact .inr (Classical.byContradiction fun u => a.told.off k (by omega) o n m q)) (by omega) ?_
 ·exact wv0
 ·exact wv0
 ·rw [colV_len]; show _ + 10 ≤ _; omega
 intro v2 h2 L2 hl2 n2 hk2 hL2
 have rn : ∀ o n m, tv ≠ .slice r o n m := fun o n m q => a.toff o n m q
 have g2 : h2.get r = some (.cells (rsC X r s cv tv) 71 false) := by rw [hk2 r (by omega) rn]; exact aC.get
 unfold rsC at g2
 obtain ⟨d1, d2⟩ := hl2.cell
 have wl : IntKind.i64.wrap (s.left - 1) = s.left - 1 := i64_in _ (by omega)
 have t2 : Lst n0 h2 v2 (colV (s.told ++ [x])) 67 10 := by rw [colV_app]; exact .inl (hl2.mono (by omega))
 have off2 : ∀ k, k < hC.nx → Off v2 k := fun k hk o n m q => by have := hl2.blk q; omega
 have a2 : RR X n0 r { s with told := s.told ++ [x] } cv v2 (h2.put r (.cells (rsC X r { s with told := s.told ++ [x] } cv v2) 71 false)) := ⟨put_eq rfl, t2.put_off (off2 r (by omega)), fun q => by simp at q, off2 r (by omega), a.coff, a.ccell, ⟨lt.1, by show r < h2.nx; omega⟩, a.x7⟩
 refine ww1 (cj g2 <| cj d1 <| cj d2 wl) ?_
 have fr : ∀ k, k < h.nx → k ≠ r → Off tv k → h2.get k = h.get k := fun k hk hr q => by rw [hk2 k (by omega) q, hxC.2 k (by omega), hxB.2 k (by omega), hx1.2 k hk]
 refine ⟨.inr (.inr lt.1), fun p hp => ?_, .inr (.inr lt.1), v2, a2.put (s' := { s with told := s.told ++ [x], left := s.left - 1 }) rfl, fun q1 q2 => ⟨?_, fun b' o n m q o' n' m' q' => ?_⟩, by omega, fr, fun k hk _ => off2 k (by omega), fun q => absurd rfl q⟩
 ·rw [List.mem_singleton.1 hp]
  exact pair_one rfl rfl (apart_blk fun y hy z hz q => by
   rw [List.mem_singleton.1 hy, List.mem_singleton.1 hz] at q
   have q : r = hB.nx := q
   omega)
 ·exact RW.keep q2 (by show h.nx ≤ h2.nx; omega) fun k hk ⟨o, n, m, q⟩ => by
   have kr : k ≠ r := fun e => a.coff o n m (by rw [← e]; exact q)
   rw [put_ne kr, put_ne kr]
   exact fr k hk kr fun o' n' m' q' => q1 k o' n' m' q' o n m q
 ·have := hl2.blk q
  have hb := RW.blk q2 q'
  omega
end
noncomputable section
def colN (s : RS) : RS := if s.left = 0 then (if iAnd .u32 s.c 16777216 = 0 then s.await 106 False else s.await 39 True) else s
def colNS (s : RS) (l : List Nat) : RS × PT × Int := if (oneS s l).2 ≠ 0 then ((oneS s l).1, PT.z, (oneS s l).2) else (colN { (oneS s l).1 with cols := (oneS s l).1.told }, { PT.z with k := 5 }, 0)
def defN (s : RS) : RS × Prop := if s.left = 0 then (if iAnd .u32 s.c 16777216 = 0 then (s.await 144 False, False) else afterS s) else (s, False)
def defNS (s : RS) (l : List Nat) : RS × PT × Int := if (oneS s l).2 ≠ 0 then ((oneS s l).1, PT.z, (oneS s l).2) else ((defN (oneS s l).1).1, { PT.z with k := 5, last := (defN (oneS s l).1).2 }, 0)
theorem rw_of_lst {n0 e sz n : Nat} {h : H} {v : V} {cells : List V} (a : Lst n0 h v cells e sz) (hsz : 0 < sz) (hn : cells.length = n * sz) : RW e sz n h v cells := by
 rcases a with a | ⟨rfl, b, h2, h3, rfl, h5⟩
 ·exact RW.of_acc' a hsz hn
 ·have : n = 0 := by
   rcases Nat.eq_zero_or_pos n with q | q
   ·exact q
   ·have := Nat.mul_pos q hsz; simp at hn; omega
  subst this
  exact ⟨hn, .inr ⟨b, 0, 0, rfl, h3, Nat.le_refl _, by rw [h5, Nat.zero_mul]; exact rdC_all rfl, fun kc e' fl q hf => by rw [h5] at q; cases q; cases hf⟩⟩
theorem oneS_cols (s : RS) (l : List Nat) : (oneS s l).1.cols = s.cols := by unfold oneS; split <;> rfl
variable {S : Set0} (hS : StdR S)
include hS
theorem col_sf {X : RX} {n0 r : Nat} {s : RS} {cv tv v : V} {l : List Nat} {h : H} (a : RF X n0 r s cv tv h) (b : BS 5 h v l) (hl : l.length < 2 ^ 28) (hL : 1 ≤ s.left ∧ s.left ≤ 65536) (hT : s.told.length ≤ 65536) : callW S.cfg (fun k => n0 ≤ k) 64 [.ptr r 0, v] h fun w h' => SF X n0 r cv tv h (colNS s l) w h' := by
 refine into Tryz.f64 _ Tryz.func64 (hS.ownR _ (by decide)) rfl rfl (by kernel_rfl) (by kernel_rfl) ?_
 have okr : ∀ k, k = r → fresh h.nx (fun k => n0 ≤ k) k := fun k hk => by rw [fresh_def]; exact .inr (by rw [hk]; exact a.rr.lt.1)
 have okn : ∀ k, n0 ≤ k → fresh h.nx (fun k => n0 ≤ k) k := fun k hk => by rw [fresh_def]; exact .inr hk
 have lt := a.rr.lt
 have hxA : Ext h (h.push (.cells zPT 53 false)) := (Ext.refl h).push _
 refine ww1 @Tryz.f64.eq_1 ?_
 have gz : (h.push (.cells zPT 53 false)).get h.nx = some (.cells zPT 53 false) := push_eq rfl
 have nA : (h.push (.cells zPT 53 false)).nx = h.nx + 1 := rfl
 generalize h.push (.cells zPT 53 false) = hA at *
 have aA : RF X n0 r s cv tv hA := a.step (RP.same a.rr hxA) rfl rfl
 have otv : Off tv h.nx := a.rr.told.off_new (Nat.le_refl _)
 have ocv : Off cv h.nx := RW.off a.cs (Nat.le_refl _)
 refine callF_of (one_spec hS aA.rr (b.ext hxA) hl hL hT) okn ?_
 rintro _ h1 ⟨rfl, tv', r1, cs1, n1, fr1, of1, er1⟩
 have gz1 : h1.get h.nx = some (.cells zPT 53 false) := by rw [fr1 _ (by omega) (by omega) otv]; exact gz
 have st1 : Stp0 n0 h h1 := ⟨by omega, fun k hk => by rw [fr1 k (by omega) (by omega) (a.rr.told.off k hk), hxA.2 k (by omega)]⟩
 have otv' : Off tv' h.nx := of1 _ (by omega) otv
 unfold colNS
 by_cases he : (oneS s l).2 = 0
 case neg =>
  rw [if_pos he]
  have hcs : (oneS s l).1 = s := by
   unfold oneS at he ⊢
   split
   ·rfl
   ·rename_i q; rw [if_neg q] at he; exact absurd rfl he
  obtain ⟨rfl, hx1⟩ := er1 he
  rw [hcs]
  refine ww1 (cj he gz1) ?_
  exact a.sf (PR.nil rfl rfl) (RP.put_new a.rr (RP.same a.rr (hxA.trans hx1)) (Nat.le_refl _) _) rfl rfl
 rw [if_neg (fun q => q he)]
 have he' := eq_true he
 have hcs := oneS_cols s l
 generalize (oneS s l).1 = s1 at *
 have g1 := r1.get
 unfold rsC at g1
 obtain ⟨d1, d2⟩ := lst_form r1.told
 refine wr1 (cj he' <| cj gz1 <| cj g1 <| cj d1 d2) ?_
 refine cond_no (p := ¬ (oneS s l).2 = 0) (by exact wv1 he') (fun q => q he) ?_
 have r2 : RR X n0 r { s1 with cols := s1.told } tv' tv' (h1.put r (.cells (rsC X r { s1 with cols := s1.told } tv' tv') 71 false)) := ⟨put_eq rfl, r1.told.put_off r1.toff, r1.tn, r1.toff, r1.toff, lst_form r1.told, r1.lt, r1.x7⟩
 have f2 : RF X n0 r { s1 with cols := s1.told } tv' tv' (h1.put r (.cells (rsC X r { s1 with cols := s1.told } tv' tv') 71 false)) := ⟨r2, rw_of_lst r2.told (by decide) (colV_len _), .inl ⟨rfl, rfl⟩⟩
 have b2 : But r h1 (h1.put r (.cells (rsC X r { s1 with cols := s1.told } tv' tv') 71 false)) := (But.refl r h1).put _
 refine wr1 (cj he' <| cj gz1 <| cj g1 <| cj d1 d2) ?_
 refine ⟨.inr (.inr lt.1), ?_⟩
 obtain ⟨h2, hh2⟩ : ∃ h2, h2 = h1.put r (.cells (rsC X r { s1 with cols := s1.told } tv' tv') 71 false) := ⟨_, rfl⟩
 rw [← hh2] at f2 b2
 unfold rsC at hh2
 dsimp only at hh2
 rw [← hh2]
 clear hh2 r2
 generalize hs2 : ({ s1 with cols := s1.told } : RS) = s2 at *
 have hl2 : s1.left = s2.left := by rw [← hs2]
 have n2 := b2.1
 have g2 := f2.rr.get
 unfold rsC at g2
 rw [hl2]
 refine run_cut (fun env' h' => env' 0 = .ptr r 0 ∧ env' 4 = .ptr h.nx 0 ∧ RF X n0 r (colN s2) tv' tv' h' ∧ But r h1 h') ?_ ?_
 ·unfold colN
  by_cases hz : s2.left = 0
  ·rw [if_pos hz]
   have hz' := eq_true hz
   refine ww1 hz' ?_
   refine callF_exact (old_spec hS f2.rr) ?_
   by_cases ho : iAnd .u32 s2.c 16777216 = 0
   ·rw [if_pos ho]
    have ho' := eq_true ho
    refine ww1 ho' ?_
    refine callF_of (await_spec hS f2.rr 106 False) okr ?_
    rintro _ h3 ⟨rfl, p3⟩
    refine ww0 ?_
    exact ⟨f2.step p3 rfl rfl, b2.trans p3.2⟩
   ·rw [if_neg ho]
    refine ww1 ho ?_
    refine callF_of (await_spec hS f2.rr 39 True) okr ?_
    rintro _ h3 ⟨rfl, p3⟩
    refine ww0 ?_
    exact ⟨f2.step p3 rfl rfl, b2.trans p3.2⟩
  ·rw [if_neg hz]
   refine ww1 hz ?_
   exact ⟨f2, b2⟩
 rintro env3 h3 ⟨e0, e4, f3, b3⟩
 have n3 := b3.1
 have gz3 : h3.get h.nx = some (.cells zPT 53 false) := by rw [b3.2 _ (by omega) (by omega)]; exact gz1
 refine ww1 (cj e0 <| cj e4 gz3) ?_
 exact ⟨tv', tv', PR.nil rfl rfl, f3.put_off (by omega) otv' otv' _, ⟨by show _ ≤ h3.nx; omega, fun k hk => by rw [put_ne (by omega), b3.2 k (by omega) (by omega)]; exact st1.2 k hk⟩, ⟨fun k hk hr ho => by rw [put_ne (by omega), b3.2 k (by omega) hr, fr1 k (by omega) hr ho, hxA.2 k hk], fun k hk x _ => ⟨of1 k (by omega) x, of1 k (by omega) x⟩⟩⟩
theorem def_sf {X : RX} {n0 r : Nat} {s : RS} {cv tv v : V} {l : List Nat} {h : H} (a : RF X n0 r s cv tv h) (b : BS 5 h v l) (hl : l.length < 2 ^ 28) (hL : 1 ≤ s.left ∧ s.left ≤ 65536) (hT : s.told.length ≤ 65536) (hsep : Sep cv tv) : callW S.cfg (fun k => n0 ≤ k) 109 [.ptr r 0, v] h fun w h' => SF X n0 r cv tv h (defNS s l) w h' := by
 refine into Tryz.f109 _ Tryz.func109 (hS.ownR _ (by decide)) rfl rfl (by kernel_rfl) (by kernel_rfl) ?_
 have okr : ∀ k, k = r → fresh h.nx (fun k => n0 ≤ k) k := fun k hk => by rw [fresh_def]; exact .inr (by rw [hk]; exact a.rr.lt.1)
 have okn : ∀ k, n0 ≤ k → fresh h.nx (fun k => n0 ≤ k) k := fun k hk => by rw [fresh_def]; exact .inr hk
 have lt := a.rr.lt
 have hxA : Ext h (h.push (.cells zPT 53 false)) := (Ext.refl h).push _
 refine ww1 @Tryz.f109.eq_1 ?_
 have gz : (h.push (.cells zPT 53 false)).get h.nx = some (.cells zPT 53 false) := push_eq rfl
 have nA : (h.push (.cells zPT 53 false)).nx = h.nx + 1 := rfl
 generalize h.push (.cells zPT 53 false) = hA at *
 have aA : RF X n0 r s cv tv hA := a.step (RP.same a.rr hxA) rfl rfl
 have otv : Off tv h.nx := a.rr.told.off_new (Nat.le_refl _)
 have ocv : Off cv h.nx := RW.off a.cs (Nat.le_refl _)
 refine callF_of (one_spec hS aA.rr (b.ext hxA) hl hL hT) okn ?_
 rintro _ h1 ⟨rfl, tv', r1, cs1, n1, fr1, of1, er1⟩
 have gz1 : h1.get h.nx = some (.cells zPT 53 false) := by rw [fr1 _ (by omega) (by omega) otv]; exact gz
 have st1 : Stp0 n0 h h1 := ⟨by omega, fun k hk => by rw [fr1 k (by omega) (by omega) (a.rr.told.off k hk), hxA.2 k (by omega)]⟩
 have otv' : Off tv' h.nx := of1 _ (by omega) otv
 have c2 := cs1 hsep aA.cs
 unfold defNS
 by_cases he : (oneS s l).2 = 0
 case neg =>
  rw [if_pos he]
  have hcs : (oneS s l).1 = s := by
   unfold oneS at he ⊢
   split
   ·rfl
   ·rename_i q; rw [if_neg q] at he; exact absurd rfl he
  obtain ⟨rfl, hx1⟩ := er1 he
  rw [hcs]
  refine ww1 (cj he gz1) ?_
  exact a.sf (PR.nil rfl rfl) (RP.put_new a.rr (RP.same a.rr (hxA.trans hx1)) (Nat.le_refl _) _) rfl rfl
 rw [if_neg (fun q => q he)]
 have he' := eq_true he
 have hcs := oneS_cols s l
 have f2 : RF X n0 r (oneS s l).1 cv tv' h1 := ⟨r1, by unfold RCs; rw [hcs]; exact c2.1, .inr c2.2⟩
 generalize (oneS s l).1 = s2 at *
 have g2 := f2.rr.get
 unfold rsC at g2
 refine wr1 (cj he' <| cj gz1 g2) ?_
 refine cond_no (p := ¬ (oneS s l).2 = 0) (by exact wv1 he') (fun q => q he) ?_
 refine wr1 (cj he' <| cj gz1 g2) ?_
 refine run_cut (fun env' h' => env' 0 = .ptr r 0 ∧ env' 4 = .ptr h.nx 0 ∧ env' 7 = bo (defN s2).2 ∧ But r h1 h' ∧ ∃ tv2, RF X n0 r (defN s2).1 cv tv2 h' ∧ (tv2 = tv' ∨ tv2 = .nilslice)) ?_ ?_
 ·unfold defN
  by_cases hz : s2.left = 0
  ·rw [if_pos hz]
   have hz' := eq_true hz
   refine ww1 hz' ?_
   refine callF_exact (old_spec hS f2.rr) ?_
   by_cases ho : iAnd .u32 s2.c 16777216 = 0
   ·rw [if_pos ho]
    have ho' := eq_true ho
    refine ww1 ho' ?_
    refine callF_of (await_spec hS f2.rr 144 False) okr ?_
    rintro _ h3 ⟨rfl, p3⟩
    refine ww0 ?_
    exact ⟨p3.2, tv', f2.step p3 rfl rfl, .inl rfl⟩
   ·rw [if_neg ho]
    refine ww1 ho ?_
    refine callF_of (after_spec hS f2) okr ?_
    rintro _ h3 ⟨rfl, tv2, f3, b3, ht⟩
    refine ww0 ?_
    exact ⟨b3, tv2, f3, ht⟩
  ·rw [if_neg hz]
   refine ww1 hz ?_
   exact ⟨But.refl _ _, tv', f2, .inl rfl⟩
 rintro env3 h3 ⟨e0, e4, e7, b3, tv2, f3, ht⟩
 have n3 := b3.1
 have gz3 : h3.get h.nx = some (.cells zPT 53 false) := by rw [b3.2 _ (by omega) (by omega)]; exact gz1
 refine ww1 (cj e0 <| cj e4 <| cj e7 gz3) ?_
 have ot2 : Off tv2 h.nx := by
  rcases ht with rfl | rfl
  ·exact otv'
  ·exact off_nil _
 exact ⟨cv, tv2, PR.nil rfl rfl, f3.put_off (by omega) ot2 ocv _, ⟨by show _ ≤ h3.nx; omega, fun k hk => by rw [put_ne (by omega), b3.2 k (by omega) (by omega)]; exact st1.2 k hk⟩, ⟨fun k hk hr ho => by rw [put_ne (by omega), b3.2 k (by omega) hr, fr1 k (by omega) hr ho, hxA.2 k hk], fun k hk x y => ⟨off_or ht (of1 k (by omega) x), y⟩⟩⟩
end
noncomputable section
theorem k12 : ((1 : Int) = 2) = False := by decide
theorem k31 : ((3 : Int) = 1) = False := by decide
theorem k32 : ((3 : Int) = 2) = False := by decide
def colTy (x : CO) : Int × Bool := (x.t, @decide (¬ iAnd .u16 x.f 32 = 0) (Classical.propDecidable _))
def rowE (s : RS) (l : List Nat) : Int := @ite _ s.bin (Classical.propDecidable _) (rbE l (s.cols.map colTy)) (rtE s.cols.length l)
def rowS (s : RS) (l : List Nat) : RS × PT × Int :=
 if lastF l s.c = 2 then errS s l else
 if lastF l s.c = 1 then doneS s l 8 (¬ s.k = 28) else
 if lastF l s.c = 3 then (if (eofF l).2.2 ≠ 0 then (s, PT.z, 5) else (({ s with st := (eofF l).2.1 } : RS).ends (eofF l).2.1 (¬ s.k = 28), { PT.z with k := 8, last := ¬ ((¬ s.k = 28) ∧ ¬ iAnd .u16 (eofF l).2.1 8 = 0), fw := (eofF l).1, fs := (eofF l).2.1 }, 0)) else
 if rowE s l ≠ 0 then (s, PT.z, 5) else (s, { PT.z with k := 7 }, 0)
theorem tyC_set : ∀ (l : List (Int × Bool)) (i : Nat) (t : Int) (b : Bool), i < l.length → listPut (tyC l) (i * 2) [.int .u8 t, .bool b] = tyC (l.set i (t, b))
 | x :: l, 0, t, b, _ => by
   rw [Nat.zero_mul, listPut_at0 _ _ (by rw [tyC_len, List.length_cons]; show 2 ≤ _; omega)]
   rfl
 | x :: l, i + 1, t, b, h => by
   have ih := tyC_set l i t b (by simpa using h)
   have e : tyC (x :: l) = [.int .u8 x.1, .bool x.2] ++ tyC l := rfl
   rw [e, show (i + 1) * 2 = i * 2 + 1 + 1 by omega]
   show V.int .u8 x.1 :: V.bool x.2 :: listPut (tyC l) (i * 2) _ = _
   rw [ih]
   rfl
theorem rep_ty : ∀ n, rep [V.int .u8 0, V.bool false] n = tyC (List.replicate n (0, false))
 | 0 => rfl
 | n + 1 => by unfold rep; rw [rep_ty n]; rfl
variable {S : Set0}
theorem mk_types {Ok : Nat → Prop} {env : Env} {h : H} {K : V → H → Fp → Prop} {x : Operand} {n : Nat} (hn : n ≤ 4096) (hx : evalE env x = .int .i64 n) (hK : K (.slice h.nx 0 n n) (h.push (.cells (tyC (List.replicate n (0, false))) 108 false)) (.lg [.wrd h.nx])) : opW S.cfg Ok (.makeSlice 95 x x) env h K := by
 rw [opW_makeSlice, hx]
 have hz : zeroT Tryz.prog 108 = some (.agg [.int .u8 0, .bool false]) := by kernel_rfl
 have hb : (Tryz.prog.info? 108).map (·.bytes) = some 2 := by kernel_rfl
 have e : opMakeSlice S.cfg.P 95 (.int .i64 (n : Nat)) (.int .i64 (n : Nat)) = (Lx.bnd (Lx.alloc (.cells (tyC (List.replicate n (0, false))) 108 false)) fun k => Lx.ret (.slice k 0 n n)) := by
  show opMakeSlice Tryz.prog 95 (.int .i64 (.ofNat n)) (.int .i64 (.ofNat n)) = _
  unfold opMakeSlice
  rw [Tryz.underlying95]
  simp only [sz108, hz, hb]
  have hr : roomy n 2 = true := by
   unfold roomy
   simp only [Bool.and_eq_true]
   exact ⟨ble_iff.2 (by omega), rfl⟩
  rw [← rep_ty]
  simp only [ble_iff.2 (Nat.le_refl n), hr, Bool.true_and]
  rfl
 rw [e, goL_alloc, goL_ret]
 refine ⟨?_, hK⟩
 rw [LogOk_cons_wrd]
 exact ⟨.inl (Nat.le_refl _), LogOk_nil⟩
theorem colV_at : ∀ (ts : List CO) (i : Nat) (hi : i < ts.length), ((colV ts).drop (i * 10)).take 10 = ts[i].cells
 | t :: ts, 0, _ => rfl
 | t :: ts, i + 1, hi => by
   have h := colV_at ts i (by simpa using hi)
   have e : colV (t :: ts) = t.cells ++ colV ts := rfl
   rw [e, show (i + 1) * 10 = 10 + i * 10 by omega, ← List.drop_drop]
   exact h
variable (hS : StdR S)
include hS
theorem typed_spec {v : V} {cs : List CO} {h : H} (a : RW 67 10 cs.length h v (colV cs)) (hn : cs.length ≤ 4096) : Pure S.cfg 70 [v] h fun w h' => RW 108 2 (cs.map colTy).length h' w (tyC (cs.map colTy)) := by
 refine into Tryz.f70 _ Tryz.func70 (hS.ownR _ (by decide)) rfl rfl (by kernel_rfl) (by kernel_rfl) ?_
 have a1 := a.len 67
 refine ww1 (cj @Tryz.f70.eq_1 a1) ?_
 refine mk_types hn (by exact wv0) ?_
 refine ww1 a1 ?_
 generalize hhA : H.push h _ = hA
 have hxA : Ext h hA := by rw [← hhA]; exact (Ext.refl h).push _
 have nA : hA.nx = h.nx + 1 := by rw [← hhA]; rfl
 have gA : hA.get h.nx = some (.cells (tyC (List.replicate cs.length (0, false))) 108 false) := by rw [← hhA]; exact push_eq rfl
 clear hhA
 refine run_loop (fun k env h' => ∃ i : Nat, k = cs.length - i ∧ i ≤ cs.length ∧ env 3 = .slice h.nx 0 cs.length cs.length ∧ env 9 = v ∧ env 10 = .int .i64 cs.length ∧ env 11 = .int .i64 i ∧ Ext h h' ∧ h.nx < h'.nx ∧ ∃ l : List (Int × Bool), l.length = cs.length ∧ h'.get h.nx = some (.cells (tyC l) 108 false) ∧ ∀ j (hj : j < cs.length) (hl : j < l.length), j < i → l[j] = colTy cs[j]) cs.length ⟨0, ?_⟩ ?_
 ·refine ww0 ?_
  exact ⟨(Nat.sub_zero _).symm, hxA, by omega, _, by rw [List.length_replicate], gA, fun j _ _ q => by omega⟩
 rintro k env h' ⟨i, rfl, hi, e3, e9, e10, e11, hx, hnx, l, hl, gl, hlj⟩
 by_cases hin : i < cs.length
 ·have hin' : (i : Int) < cs.length := by omega
  obtain ⟨b, o, m, hv⟩ := a.at (by omega)
  obtain ⟨_, hb, _, hr⟩ := RW.rd (hv ▸ a)
  have hr1 := hr (i * 10) 10 (by rw [colV_len]; omega)
  rw [colV_at cs i hin] at hr1
  have hr2 : rdV (some (10, true)) (h'.get b) (o + i * 10) = some (.agg cs[i].cells) := by rw [hx.2 b hb]; exact hr1
  unfold CO.cells at hr2
  have q : ¬ h.nx = h'.nx := by omega
  have hil : i < l.length := by omega
  have hp := tyC_set l i (colTy cs[i]).1 (colTy cs[i]).2 hil
  refine ww1 (cj e3 <| cj e9 <| cj e10 <| cj e11 <| cj hin <| cj hin' <| cj hv <| cj hr2 <| cj gl q) ?_
  have hx2 : ∀ o1 o2 o3, Ext h (((h'.push o1).put h'.nx o2).put h.nx o3) := fun o1 o2 o3 => ((hx.push o1).put hx.1 o2).put (Nat.le_refl _) o3
  refine ⟨.inr (by omega), by rw [tyC_len]; omega, cs.length - (i + 1), by omega, i + 1, rfl, by omega, rfl, hx2 _ _ _, by omega, l.set i (colTy cs[i]), by rw [List.length_set, hl], by rw [← hp]; rfl, fun j hj hl' hji => ?_⟩
  rw [List.getElem_set]
  split
  ·rename_i e; subst e; rfl
  ·exact hlj j hj (by rw [List.length_set] at hl'; exact hl') (by omega)
 obtain rfl : i = cs.length := by omega
 have hll : l = cs.map colTy := List.ext_getElem (by rw [List.length_map, hl]) fun j h1 h2 => by
  rw [List.getElem_map]
  exact hlj j (by omega) h1 (by omega)
 subst hll
 refine ww1 (cj e3 <| cj e9 <| cj e10 <| cj e11 hin) ?_
 refine ⟨hx, by rw [tyC_len], .inr ⟨h.nx, 0, cs.length, by rw [List.length_map], hnx, by rw [List.length_map]; exact Nat.le_refl _, by rw [gl]; exact rdC_all (tyC_len _), fun kc e' fl q hf => by rw [gl] at q; cases q; cases hf⟩⟩
theorem row_sf {X : RX} {n0 r : Nat} {s : RS} {cv tv v : V} {l : List Nat} {h : H} (a : RF X n0 r s cv tv h) (b : BS 5 h v l) (hl : l.length < 2 ^ 28) (hn : s.cols.length ≤ 4096) (hok : ∀ x ∈ s.cols, x.Ok) : callW S.cfg (· = r) 39 [.ptr r 0, v] h fun w h' => SF X n0 r cv tv h (rowS s l) w h' := by
 refine into Tryz.f39 _ Tryz.func39 (hS.ownR _ (by decide)) rfl rfl (by kernel_rfl) (by kernel_rfl) ?_
 have okr : ∀ k, k = r → fresh h.nx (· = r) k := fun k hk => by rw [fresh_def]; exact .inr hk
 have lt := a.rr.lt.2
 have hxA : Ext h (h.push (.cells zPT 53 false)) := (Ext.refl h).push _
 have aA : RF X n0 r s cv tv (h.push (.cells zPT 53 false)) := a.step (RP.same a.rr hxA) rfl rfl
 have g := aA.rr.get
 unfold rsC at g
 refine ww1 (cj @Tryz.f39.eq_1 g) ?_
 have gz : (h.push (.cells zPT 53 false)).get h.nx = some (.cells zPT 53 false) := push_eq rfl
 have nA : (h.push (.cells zPT 53 false)).nx = h.nx + 1 := rfl
 generalize h.push (.cells zPT 53 false) = hA at *
 refine callF_exact (last_spec hS (b.ext hxA) s.c) ?_
 unfold rowS
 by_cases h2 : lastF l s.c = 2
 ·rw [if_pos h2]
  refine ww1 h2 ?_
  refine callF_of (err_spec hS aA.rr (b.ext hxA) hl) okr ?_
  rintro _ h3 ⟨pr, p3⟩
  obtain ⟨y, rfl, by3, ⟨yc1, yc2⟩, yo⟩ := pr.on (h := h) (h0 := h) (by omega)
  have gz3 : h3.get h.nx = some (.cells zPT 53 false) := by rw [p3.2.2 _ (by omega) (by omega)]; exact gz
  have n3 := p3.2.1
  have ct := errS_ct s l
  unfold PT.cells
  refine ww1 (cj gz3 <| cj yc1 yc2) ?_
  exact a.sf ⟨y, rfl, by3.put (yo _ (by omega)), fun k hk => yo k (by omega)⟩ (RP.put_new a.rr (RP.pre hxA p3) (Nat.le_refl _) _) ct.1 ct.2
 rw [if_neg h2]
 by_cases h1 : lastF l s.c = 1
 ·rw [if_pos h1]
  refine ww1 (cj h1 k12) ?_
  refine callF_of (done_spec hS aA.rr (b.ext hxA) hl 8 (¬ s.k = 28)) okr ?_
  rintro _ h3 ⟨pr, p3⟩
  obtain ⟨y, rfl, by3, ⟨yc1, yc2⟩, yo⟩ := pr.on (h := h) (h0 := h) (by omega)
  have gz3 : h3.get h.nx = some (.cells zPT 53 false) := by rw [p3.2.2 _ (by omega) (by omega)]; exact gz
  have n3 := p3.2.1
  have ct := doneS_ct s l 8 (¬ s.k = 28)
  unfold PT.cells
  refine ww1 (cj gz3 <| cj yc1 yc2) ?_
  exact a.sf ⟨y, rfl, by3.put (yo _ (by omega)), fun k hk => yo k (by omega)⟩ (RP.put_new a.rr (RP.pre hxA p3) (Nat.le_refl _) _) ct.1 ct.2
 rw [if_neg h1]
 by_cases h3 : lastF l s.c = 3
 ·rw [if_pos h3]
  refine ww1 (cj h3 <| cj k31 k32) ?_
  refine callF_of (eof_spec hS aA.rr (b.ext hxA) hl) okr ?_
  rintro _ h1 ⟨rfl, p1⟩
  have n1 := p1.2.1
  have gz1 : h1.get h.nx = some (.cells zPT 53 false) := by rw [p1.2.2 _ (by omega) (by omega)]; exact gz
  unfold eofS at p1 ⊢
  by_cases he : (eofF l).2.2 = 0
  case neg =>
   rw [if_pos he] at p1
   rw [if_pos he, if_pos he]
   refine ww1 (cj gz1 n50) ?_
   exact ⟨.inr (.inl (by omega)), a.sf (PR.nil rfl rfl) (RP.put_new a.rr (RP.pre hxA (p1.ext (((Ext.refl h1).push _).put (Nat.le_refl _) _))) (Nat.le_refl _) _) rfl rfl⟩
  rw [if_neg (fun q => q he)] at p1
  rw [if_neg (fun q => q he), if_neg (fun q => q he)]
  refine ww1 gz1 ?_
  generalize hhB : H.put (H.push h1 _) h1.nx _ = hB
  have hxB : Ext h1 hB := by rw [← hhB]; exact ((Ext.refl h1).push _).put (Nat.le_refl _) _
  have gB : hB.get h1.nx = some (.cells [.int .u16 (eofF l).1, .int .u16 (eofF l).2.1] 49 false) := by rw [← hhB]; exact put_eq rfl
  have nB : hB.nx = h1.nx + 1 := by rw [← hhB]; rfl
  clear hhB
  refine ⟨.inr (.inl (by omega)), draw_by [(4, 5)] (by kernel_rfl) ?_⟩
  refine ww1 gB ?_
  have aB : RF X n0 r { s with st := (eofF l).2.1 } cv tv hB := aA.step (p1.ext hxB) rfl rfl
  refine callF_of (ends_spec hS aB.rr _ _) okr ?_
  rintro _ h3 ⟨rfl, p3⟩
  have n3 := p3.2.1
  have g3 : h3.get h1.nx = some (.cells [.int .u16 (eofF l).1, .int .u16 (eofF l).2.1] 49 false) := by rw [p3.2.2 _ (by omega) (by omega)]; exact gB
  have gz3 : h3.get h.nx = some (.cells zPT 53 false) := by rw [p3.2.2 _ (by omega) (by omega), hxB.2 _ (by omega)]; exact gz1
  have ct := ends_ct { s with st := (eofF l).2.1 } (eofF l).2.1 (¬ s.k = 28)
  refine ww1 (cj g3 gz3) ?_
  have bh := (But.of_ext hxA).trans ((p1.2.trans (But.of_ext hxB)).trans p3.2)
  refine ⟨fun p hp => ?_, SF.fin a (aB.step p3 ct.1 ct.2) bh (.inl rfl) (PR.nil rfl rfl)⟩
  rw [List.mem_singleton.1 hp]
  exact pair_one rfl rfl (cl_rd (by omega) (by omega))
 rw [if_neg h3]
 refine ww1 (cj g <| cj h1 <| cj h2 h3) ?_
 have hty : ∀ t ∈ s.cols.map colTy, 0 ≤ t.1 ∧ t.1 < 256 := fun t ht => by
  obtain ⟨x, hx, rfl⟩ := List.mem_map.1 ht
  exact hok x hx
 refine ⟨fun hbin => ?_, fun hbin => ?_⟩
 ·have q : rowE s l = rbE l (s.cols.map colTy) := if_pos hbin
  rw [q]
  refine callF_pure (typed_spec hS aA.cs hn) ?_
  rintro w4 h4 hx4 rt4
  have n4 := hx4.1
  obtain ⟨d1, d2⟩ := rt4.cell
  refine ww0 ?_
  refine callF_pure (rbin_spec hS ((b.ext hxA).ext hx4) hl rt4 (by rw [List.length_map]; exact hn) hty) ?_
  rintro _ h5 hx5 ⟨rv, rc1, rc2, rfl⟩
  have n5 := hx5.1
  have gz5 : h5.get h.nx = some (.cells zPT 53 false) := by rw [hx5.2 _ (by omega), hx4.2 _ (by omega)]; exact gz
  by_cases he : rbE l (s.cols.map colTy) = 0
  ·rw [if_neg (fun q => q he)]
   have he' := eq_true he
   refine ww1 (cj he' gz5) ?_
   exact a.sf (PR.nil rfl rfl) (RP.put_new a.rr (RP.same a.rr ((hxA.trans hx4).trans hx5)) (Nat.le_refl _) _) rfl rfl
  ·rw [if_pos he]
   refine ww1 (cj he gz5) ?_
   exact a.sf (PR.nil rfl rfl) (RP.put_new a.rr (RP.same a.rr ((hxA.trans hx4).trans hx5)) (Nat.le_refl _) _) rfl rfl
 ·have q : rowE s l = rtE s.cols.length l := if_neg hbin
  rw [q]
  have t1 := RW.len aA.cs 67
  refine ww1 (cj g t1) ?_
  refine callF_pure (rtext_spec hS (b.ext hxA) hl _ hn) ?_
  rintro _ h5 hx5 ⟨rv, rc1, rc2, rfl⟩
  have n5 := hx5.1
  have gz5 : h5.get h.nx = some (.cells zPT 53 false) := by rw [hx5.2 _ (by omega)]; exact gz
  by_cases he : rtE s.cols.length l = 0
  ·rw [if_neg (fun q => q he)]
   have he' := eq_true he
   refine ww1 (cj he' gz5) ?_
   exact a.sf (PR.nil rfl rfl) (RP.put_new a.rr (RP.same a.rr (hxA.trans hx5)) (Nat.le_refl _) _) rfl rfl
  ·rw [if_pos he]
   refine ww1 (cj he gz5) ?_
   exact a.sf (PR.nil rfl rfl) (RP.put_new a.rr (RP.same a.rr (hxA.trans hx5)) (Nat.le_refl _) _) rfl rfl
end
noncomputable section
theorem nf_none (t : Nat) : binV Tryz.prog .eql 69 (constO (.tmp t) || constO (.const Value.nilFunc)) .nilfunc .nilfunc = some (bo True) := by
 rw [show bo True = .bool true by simp [bo]]
 rfl
theorem nf_some (t f r : Nat) : binV Tryz.prog .eql 69 (constO (.tmp t) || constO (.const Value.nilFunc)) (.func f [.ptr r 0] []) .nilfunc = some (bo False) := by
 rw [show bo False = .bool false by simp [bo]]
 rfl
def nextS (s : RS) (l : List Nat) : RS × PT × Int :=
 if s.nx = some 34 then okS1 s l False else if s.nx = some 35 then eofOrOkS s l else if s.nx = some 36 then textS s l else
 if s.nx = some 37 then firstS s l else if s.nx = some 38 then prepS s l else if s.nx = some 39 then rowS s l else
 if s.nx = some 40 then errS s l else if s.nx = some 62 then okS1 s l True else if s.nx = some 64 then colNS s l else
 if s.nx = some 106 then colEndS s l else if s.nx = some 109 then defNS s l else defEndS s l
def feedS (s : RS) (l : List Nat) : RS × PT × Int := if s.nx = none then (s, PT.z, 9) else @ite _ s.wants (Classical.propDecidable _) (s, PT.z, 6) (if (nextS s l).2.2 ≠ 0 then ((nextS s l).1.fin, PT.z, (nextS s l).2.2) else ((nextS s l).1, (nextS s l).2.1, 0))
structure RI (s : RS) : Prop where
 nx : ∀ f, s.nx = some f → f ∈ [34, 35, 36, 37, 38, 39, 40, 62, 64, 106, 109, 144]
 l55 : s.nx = some 64 → 1 ≤ s.left ∧ s.told.length + s.left ≤ 4096
 l77 : s.nx = some 109 → 1 ≤ s.left ∧ s.told.length + s.left ≤ 65536
 c37 : s.nx = some 39 ∨ s.nx = some 106 → s.cols.length ≤ 4096
 c0 : s.nx = some 38 ∨ s.nx = some 109 ∨ s.nx = some 144 → s.cols = []
 ok : (∀ x ∈ s.cols, x.Ok) ∧ ∀ x ∈ s.told, x.Ok
 thn : 0 ≤ s.thn ∧ s.thn ≤ 65535
 lf : 0 ≤ s.left ∧ s.left ≤ 65535
 may : s.may ↔ ∃ f, s.nx = some f ∧ f ∈ [34, 35, 36, 37, 38, 39, 40, 62]
theorem SF.top {X : RX} {n0 r : Nat} {s s' : RS} {cv tv cv' tv' w : V} {h hA h2 : H} {ob : Ob} {p : PT} {e : Int} (a : RF X n0 r s cv tv h) (hx : Ext h hA) (nA : hA.nx = h.nx + 1) (f : RF X n0 r s' cv' tv' h2) (st : Stp0 n0 hA h2) (fr : Fr r cv tv hA cv' tv' h2) (pr : PR h (h2.put h.nx ob) w p e) : SF X n0 r cv tv h (s', p, e) w (h2.put h.nx ob) := by
 have lt := a.rr.lt
 have st1 := st.1
 obtain ⟨ot1, oc1⟩ := fr.off h.nx (by omega) (a.rr.told.off_new (Nat.le_refl _)) (RW.off a.cs (Nat.le_refl _))
 exact ⟨cv', tv', pr, f.put_off (by omega) ot1 oc1 ob, ⟨by show _ ≤ h2.nx; omega, fun k hk => by rw [put_ne (by omega), st.2 k hk, hx.2 k (by omega)]⟩, ⟨fun k hk hr ho => by rw [put_ne (by omega), fr.get k (by omega) hr ho, hx.2 k hk], fun k hk x z => fr.off k (by omega) x z⟩⟩
theorem Fr.trans_but {r : Nat} {cv tv cv' tv' : V} {h h1 h2 : H} (a : Fr r cv tv h cv' tv' h1) (b : But r h1 h2) (hn : h.nx ≤ h1.nx) : Fr r cv tv h cv' tv' h2 := ⟨fun k hk hr ho => by rw [b.2 k (by omega) hr, a.get k hk hr ho], a.off⟩
variable {S : Set0} (hS : StdR S)
include hS
theorem next_spec {X : RX} {n0 r f : Nat} {s : RS} {cv tv v : V} {l : List Nat} {h : H} (a : RF X n0 r s cv tv h) (i : RI s) (b : BS 5 h v l) (hl : l.length < 2 ^ 28) (ob : Off v r) (hf : s.nx = some f) : callW S.cfg (fun k => n0 ≤ k) f [.ptr r 0, v] h fun w h' => SF X n0 r cv tv h (nextS s l) w h' := by
 have okr : ∀ k, k = r → n0 ≤ k := fun k hk => by rw [hk]; exact a.rr.lt.1
 have hm := i.nx f hf
 simp only [List.mem_cons, List.not_mem_nil, or_false] at hm
 rcases hm with rfl | rfl | rfl | rfl | rfl | rfl | rfl | rfl | rfl | rfl | rfl | rfl
 ·rw [show nextS s l = okS1 s l False by unfold nextS; rw [hf]; rfl]
  exact callW_mono (ok_spec hS a.rr b hl) okr fun w h' q => a.sf q.1 q.2 (okS1_ct _ _ _).1 (okS1_ct _ _ _).2
 ·rw [show nextS s l = eofOrOkS s l by unfold nextS; rw [hf]; rfl]
  exact callW_mono (eofOrOk_spec hS a.rr b hl ob) okr fun w h' q => a.sf q.1 q.2 (eofOrOkS_ct _ _).1 (eofOrOkS_ct _ _).2
 ·rw [show nextS s l = textS s l by unfold nextS; rw [hf]; rfl]
  exact callW_mono (text_spec hS a.rr b hl) okr fun w h' q => a.sf q.1 q.2 (textS_ct _ _).1 (textS_ct _ _).2
 ·rw [show nextS s l = firstS s l by unfold nextS; rw [hf]; rfl]
  exact callW_mono (first_sf hS a b hl) okr fun w h' q => q
 ·rw [show nextS s l = prepS s l by unfold nextS; rw [hf]; rfl]
  exact callW_mono (prep_sf hS a b hl) okr fun w h' q => q
 ·rw [show nextS s l = rowS s l by unfold nextS; rw [hf]; rfl]
  exact callW_mono (row_sf hS a b hl (i.c37 (.inl hf)) i.ok.1) okr fun w h' q => q
 ·rw [show nextS s l = errS s l by unfold nextS; rw [hf]; rfl]
  exact callW_mono (err_spec hS a.rr b hl) okr fun w h' q => a.sf q.1 q.2 (errS_ct _ _).1 (errS_ct _ _).2
 ·rw [show nextS s l = okS1 s l True by unfold nextS; rw [hf]; rfl]
  exact callW_mono (filed_spec hS a.rr b hl) okr fun w h' q => a.sf q.1 q.2 (okS1_ct _ _ _).1 (okS1_ct _ _ _).2
 ·rw [show nextS s l = colNS s l by unfold nextS; rw [hf]; rfl]
  have q := i.l55 hf
  exact col_sf hS a b hl (by omega) (by omega)
 ·rw [show nextS s l = colEndS s l by unfold nextS; rw [hf]; rfl]
  exact callW_mono (colEnd_sf hS a b hl) okr fun w h' q => q
 ·rw [show nextS s l = defNS s l by unfold nextS; rw [hf]; rfl]
  have q := i.l77 hf
  refine def_sf hS a b hl (by omega) (by omega) ?_
  rcases a.sep with ⟨e1, e2⟩ | e
  ·rw [a.rr.tn (by rw [← e2]; exact i.c0 (.inr (.inl hf)))]
   exact sep_nil _
  ·exact e
 ·rw [show nextS s l = defEndS s l by unfold nextS; rw [hf]; rfl]
  exact callW_mono (defEnd_sf hS a b hl) okr fun w h' q => q
theorem feed_spec {X : RX} {n0 r : Nat} {s : RS} {cv tv v : V} {l : List Nat} {h : H} (a : RF X n0 r s cv tv h) (i : RI s) (b : BS 5 h v l) (hl : l.length < 2 ^ 28) (ob : Off v r) : callW S.cfg (fun k => n0 ≤ k) 12 [.ptr r 0, v] h fun w h' => SF X n0 r cv tv h (feedS s l) w h' := by
 refine into Tryz.f12 _ Tryz.func12 (hS.ownR _ (by decide)) rfl rfl (by kernel_rfl) (by kernel_rfl) ?_
 have okr : ∀ k, k = r → fresh h.nx (fun k => n0 ≤ k) k := fun k hk => by rw [fresh_def]; exact .inr (by rw [hk]; exact a.rr.lt.1)
 have okn : ∀ k, n0 ≤ k → fresh h.nx (fun k => n0 ≤ k) k := fun k hk => by rw [fresh_def]; exact .inr hk
 have lt := a.rr.lt
 have hxA : Ext h (h.push (.cells zPT 53 false)) := (Ext.refl h).push _
 refine ww1 @Tryz.f12.eq_1 ?_
 have gz : (h.push (.cells zPT 53 false)).get h.nx = some (.cells zPT 53 false) := push_eq rfl
 have nA : (h.push (.cells zPT 53 false)).nx = h.nx + 1 := rfl
 generalize h.push (.cells zPT 53 false) = hA at *
 have aA : RF X n0 r s cv tv hA := a.step (RP.same a.rr hxA) rfl rfl
 have g := aA.rr.get
 unfold rsC at g
 refine callF_exact (none_spec hS aA.rr) ?_
 cases hf : s.nx with
 | none =>
   rw [show feedS s l = (s, PT.z, 9) from if_pos hf]
   rw [hf] at g
   unfold fnV at g
   refine ww1 (cj g <| cj gz nf_none) ?_
   exact a.sf (PR.nil rfl rfl) (RP.put_new a.rr (RP.same a.rr hxA) (Nat.le_refl _) _) rfl rfl
 | some f =>
   rw [hf] at g
   unfold fnV at g
   have hne : ¬ s.nx = none := by rw [hf]; exact fun q => by cases q
   by_cases hw : s.wants
   ·rw [show feedS s l = (s, PT.z, 6) by unfold feedS; rw [if_neg hne, if_pos hw]]
    have hw' := eq_true hw
    refine ww1 (cj g <| cj gz <| cj hw' nf_some) ?_
    exact a.sf (PR.nil rfl rfl) (RP.put_new a.rr (RP.same a.rr hxA) (Nat.le_refl _) _) rfl rfl
   ·have q1 : feedS s l = (if (nextS s l).2.2 ≠ 0 then ((nextS s l).1.fin, PT.z, (nextS s l).2.2) else ((nextS s l).1, (nextS s l).2.1, 0)) := by unfold feedS; rw [if_neg hne, if_neg hw]
    rw [q1]
    refine ww1 (cj g <| cj gz <| cj hw nf_some) ?_
    refine callF_of (next_spec hS aA i (b.ext hxA) hl ob hf) okn ?_
    rintro _ h1 ⟨cv1, tv1, pr, f1, st1, fr1⟩
    have n1 := st1.1
    obtain ⟨y, rfl, by1, ⟨yc1, yc2⟩, yo⟩ := pr.on (h := h) (h0 := h) (by omega)
    have otv : Off tv h.nx := a.rr.told.off_new (Nat.le_refl _)
    have ocv : Off cv h.nx := RW.off a.cs (Nat.le_refl _)
    have gz1 : h1.get h.nx = some (.cells zPT 53 false) := by rw [fr1.get _ (by omega) (by omega) otv]; exact gz
    obtain ⟨ot1, oc1⟩ := fr1.off h.nx (by omega) otv ocv
    generalize nextS s l = q at *
    obtain ⟨s1, p, e⟩ := q
    simp only at f1 by1
    have yr : Off y r := yo r (by omega)
    have hb3 : ∀ {h3 : H}, But r h1 h3 → BS 5 h3 y p.ok.k := fun {h3} b3 => by1.keep b3.1 fun j hj ⟨o', n, m, q⟩ => b3.2 j hj fun e => yr o' n m (by rw [← e]; exact q)
    by_cases he : e = 0
    ·rw [if_neg (fun q => q he)]
     subst he
     unfold PT.cells
     refine ww1 (cj gz1 <| cj yc1 yc2) ?_
     have hxB : ∀ o1 o2, Ext h1 ((h1.push o1).put h1.nx o2) := fun o1 o2 => ((Ext.refl h1).push o1).put (Nat.le_refl _) o2
     have bB := fun o1 o2 => But.of_ext (r := r) (hxB o1 o2)
     exact ⟨.inr (.inl (by omega)), SF.top a hxA nA (f1.step (RP.same f1.rr (hxB _ _)) rfl rfl) (st1.trans (Stp0.but (bB _ _) (by omega) lt.1)) (fr1.trans_but (bB _ _) n1) ⟨y, rfl, (hb3 (bB _ _)).put (yo _ (by omega)), fun k hk => yo k (by omega)⟩⟩
    ·rw [if_pos he]
     unfold PT.cells
     refine ww1 (cj he <| cj gz1 <| cj yc1 yc2) ?_
     generalize hhB : H.put (H.push h1 _) h1.nx _ = hB
     have hxB : Ext h1 hB := by rw [← hhB]; exact ((Ext.refl h1).push _).put (Nat.le_refl _) _
     have nB : hB.nx = h1.nx + 1 := by rw [← hhB]; rfl
     clear hhB
     have fB := f1.step (RP.same f1.rr hxB) rfl rfl
     refine ⟨.inr (.inl (by omega)), callF_of (fin_spec hS fB.rr) okr ?_⟩
     rintro _ h3 ⟨rfl, p3⟩
     have b3 := (But.of_ext hxB).trans p3.2
     have n3 := b3.1
     have gz3 : h3.get h.nx = some (.cells zPT 53 false) := by rw [b3.2 _ (by omega) (by omega)]; exact gz1
     refine ww1 gz3 ?_
     exact SF.top a hxA nA (fB.step p3 rfl rfl) (st1.trans (Stp0.but b3 (by omega) lt.1)) (fr1.trans_but b3 n1) (PR.nil rfl rfl)
end
end Go.Proofs.YtinbhlejofgomaaGreat
