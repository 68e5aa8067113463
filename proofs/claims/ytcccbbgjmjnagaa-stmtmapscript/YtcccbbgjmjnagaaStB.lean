/-
  Several texts of one walk, joined.
-/
import Derived.Test.YtcccbbgjmjnagaaStA
import Derived.Test.YtcccbbgjmjnagaaRows
import Derived.Test.YtcccbbgjmjnagaaLyR
import Derived.Test.YtcccbbgjmjnagaaLyU
import Derived.Test.YtcccbbgjmjnagaaLyG
set_option linter.unusedSimpArgs false
set_option linter.unusedVariables false
set_option linter.unusedSectionVars false
set_option linter.defProp false
set_option maxRecDepth 10000
set_option maxHeartbeats 1000000
namespace Go.Proofs.Ytcccbbgjmjnagaa
open Go.Proofs Go.Lx Go.Wx Go.IntWalk
noncomputable section
structure RD where
  b : Nat
  lv : V
def rcells (D : RD) (p : PL) : List V := [bo True, D.lv, .int .u32 p.last]
def rowns (D : RD) (k : Nat) : Prop := k = D.b ∨ ∃ o n m, D.lv = .slice k o n m
structure RR (D : RD) (p : PL) (h : H) : Prop where
  obj : h.get D.b = some (.cells (rcells D p) 65 false)
  row : Lst 0 h D.lv (stc p.l) 31 8
  lt : D.b < h.nx
  few : p.l.length ≤ 1000
structure RStp (D : RD) (h : H) (D1 : RD) (p1 : PL) (h1 : H) : Prop where
  rr : RR D1 p1 h1
  nx : h.nx ≤ h1.nx
  same : ∀ k, k < h.nx → ¬ rowns D k → h1.get k = h.get k
  own : ∀ k, rowns D1 k → rowns D k ∨ h.nx ≤ k
  b : D1.b = D.b
theorem RStp.refl {D : RD} {p : PL} {h : H} (r : RR D p h) : RStp D h D p h := ⟨r, Nat.le_refl _, fun _ _ _ => rfl, fun _ q => .inl q, rfl⟩
theorem RR.keep {D : RD} {p : PL} {h h' : H} (r : RR D p h) (hn : h.nx ≤ h'.nx) (hk : ∀ k, rowns D k → h'.get k = h.get k) : RR D p h' where
  obj := by rw [hk _ (.inl rfl)]; exact r.obj
  row := Lst.keep r.row hn fun k o n m q => hk k (.inr ⟨o, n, m, q⟩)
  lt := Nat.lt_of_lt_of_le r.lt hn
  few := r.few
theorem rowns_lt {D : RD} {p : PL} {h : H} (r : RR D p h) {k : Nat} (q : rowns D k) : k < h.nx := by
  rcases q with rfl | ⟨o, n, m, q⟩
  · exact r.lt
  · exact (Lst.lt r.row q).2.1
theorem RR.ext {D : RD} {p : PL} {h h' : H} (r : RR D p h) (hx : Ext h h') : RR D p h' := r.keep hx.1 fun k q => hx.2 k (rowns_lt r q)
theorem RStp.ext {D : RD} {p : PL} {h h' : H} (r : RR D p h) (hx : Ext h h') : RStp D h D p h' := ⟨r.ext hx, hx.1, fun k hk _ => hx.2 k hk, fun _ q => .inl q, rfl⟩
theorem RR.ne {D : RD} {p : PL} {h : H} (r : RR D p h) {k o n m : Nat} (q : D.lv = .slice k o n m) : k ≠ D.b := fun e => by
  obtain ⟨_, _, fl, g⟩ := Lst.lt r.row q
  rw [e, r.obj] at g
  simp at g
theorem RR.len {D : RD} {p : PL} {h : H} (r : RR D p h) : lenO (some (.slice 31)) D.lv = some (.int .i64 p.l.length) := lst_len8 r.row
theorem stc_set : ∀ (l : List ST) (j : Nat) (hj : j < l.length) (f : Nat) (hf : f < 8) (s : ST) (v : V), s.cells = l[j].cells.set f v → (stc l).set (j * 8 + f) v = stc (l.set j s)
  | [], j, hj, _, _, _, _, _ => by cases hj
  | w :: l, 0, hj, f, hf, s, v, hs => by
    show (w.cells ++ stc l).set (0 * 8 + f) v = s.cells ++ stc l
    rw [List.set_append_left _ _ (by show 0 * 8 + f < 8; omega), hs, Nat.zero_mul, Nat.zero_add]
    rfl
  | w :: l, j + 1, hj, f, hf, s, v, hs => by
    show (w.cells ++ stc l).set ((j + 1) * 8 + f) v = w.cells ++ stc (l.set j s)
    rw [List.set_append_right _ _ (by show 8 ≤ (j + 1) * 8 + f; omega), ← stc_set l j (by simpa using hj) f hf s v hs]
    congr 2
    show (j + 1) * 8 + f - 8 = _
    omega
theorem stc_put {l : List ST} {j f : Nat} (hj : j < l.length) (hf : f < 8) {s : ST} {v : V} (hs : s.cells = l[j].cells.set f v) : listPut (stc l) (j * 8 + f) [v] = stc (l.set j s) := by
  rw [put_one, stc_set l j hj f hf s v hs]
theorem RStp.setj {D : RD} {p : PL} {h h' : H} (r : RR D p h) {kb : Nat} (hlv : D.lv = .slice kb 0 p.l.length p.l.length) {l : List ST} (hl : l.length = p.l.length) (h0 : 0 < l.length) (hn : h'.nx = h.nx) (hk : h'.get kb = some (.cells (stc l) 31 true)) (ho : ∀ k, k ≠ kb → h'.get k = h.get k) : RStp D h D { p with l := l } h' where
  rr := {
    obj := by rw [ho _ (Ne.symm (r.ne hlv))]; exact r.obj
    row := .inl (.inr ⟨kb, l.length, Nat.zero_le _, by rw [hn]; exact (Lst.lt r.row hlv).2.1, by rw [hlv, hl], h0, hk, stc_len l⟩)
    lt := by rw [hn]; exact r.lt
    few := by rw [show ({ p with l := l } : PL).l.length = l.length from rfl, hl]; exact r.few }
  nx := Nat.le_of_eq hn.symm
  same := fun k _ q => ho k fun e => q (.inr ⟨0, p.l.length, p.l.length, by rw [e]; exact hlv⟩)
  own := fun _ q => .inl q
  b := rfl
theorem RR.open {D : RD} {p : PL} {h : H} (r : RR D p h) (h0 : 0 < p.l.length) : ∃ kb, D.lv = .slice kb 0 p.l.length p.l.length ∧ kb < h.nx ∧ h.get kb = some (.cells (stc p.l) 31 true) := by
  obtain ⟨b, h1, _, h2, h3⟩ := lst_row8 r.row h0
  exact ⟨b, h1, h2, h3⟩
def PlI (D : RD) (p : PL) (id : Int) (h0 : H) (m : Nat) (env : Env) (h' : H) : Prop := ∃ j : Nat, m = p.l.length - j ∧ j ≤ p.l.length ∧ env 0 = .ptr D.b 0 ∧ env 1 = .int .u32 id ∧ env 6 = .int .i64 j ∧ h' = h0 ∧ ∀ i (hi : i < p.l.length), i < j → p.l[i].id ≠ id
variable {S : Set0} (hS : StdP S)
include hS
theorem rnone_spec {D : RD} {p : PL} {h : H} (r : RR D p h) : Exact S.cfg 44 [.ptr D.b 0] h (bo False) := by
  refine into Try.f44 _ Try.func44 (hS.ownP _ (by decide)) rfl rfl (by kernel_rfl) (by kernel_rfl) ?_
  have hp := r.obj
  unfold rcells at hp
  simp +contextual (disch := first | (simp only [facts, clsL, clsS, clsC, isPtrD]; done) | omega | (simp only [push_nx, put_nx, del_nx]; omega) | (refine Nat.le_antisymm ?_ ?_ <;> simp only [push_nx, put_nx, del_nx] <;> omega) | fail) only [wpy, facts, wpb, cst, wpk, wpl, forall_const, implies_true, false_implies, Int.reduceLE, Int.reduceLT, Nat.reduceLeDiff, UInt8.reduceToNat, ↓reduceIte, Nat.reduceEqDiff, Nat.reduceAdd, reduceCtorEq, Int.reduceToNat, clsL, clsS, clsC, Try.f44, hp]
theorem rpins_spec (s : ST) (h : H) : Pure S.cfg 45 [.agg s.cells] h fun v _ => v = bo s.pins := by
  refine into Try.f45 _ Try.func45 (hS.ownP _ (by decide)) rfl rfl (by kernel_rfl) (by kernel_rfl) ?_
  unfold ST.pins ST.cells
  by_cases hl : s.long
  · simp +contextual (disch := first | (simp only [facts, clsL, clsS, clsC, isPtrD]; done) | omega | (simp only [push_nx, put_nx, del_nx]; omega) | (refine Nat.le_antisymm ?_ ?_ <;> simp only [push_nx, put_nx, del_nx] <;> omega) | fail) only [wpy, facts, wpb, cst, wpk, wpl, forall_const, implies_true, false_implies, Int.reduceLE, Int.reduceLT, Nat.reduceLeDiff, UInt8.reduceToNat, ↓reduceIte, Nat.reduceEqDiff, Nat.reduceAdd, reduceCtorEq, Int.reduceToNat, clsL, clsS, clsC, Try.f45, hl, true_or]
    exact (Ext.refl h).push _
  · simp +contextual (disch := first | (simp only [facts, clsL, clsS, clsC, isPtrD]; done) | omega | (simp only [push_nx, put_nx, del_nx]; omega) | (refine Nat.le_antisymm ?_ ?_ <;> simp only [push_nx, put_nx, del_nx] <;> omega) | fail) only [wpy, facts, wpb, cst, wpk, wpl, forall_const, implies_true, false_implies, Int.reduceLE, Int.reduceLT, Nat.reduceLeDiff, UInt8.reduceToNat, ↓reduceIte, Nat.reduceEqDiff, Nat.reduceAdd, reduceCtorEq, Int.reduceToNat, clsL, clsS, clsC, Try.f45, hl, false_or]
    exact (Ext.refl h).push _
theorem place_spec {D : RD} {p : PL} {h : H} (r : RR D p h) (id : Int) : callW S.cfg nil1 47 [.ptr D.b 0, .int .u32 id] h fun v h' => h' = h ∧ ((∃ j, ∃ hj : j < p.l.length, v = .tuple [.int .i64 j, .int .i64 0] ∧ p.l[j].id = id ∧ ∀ i (hi : i < p.l.length), i < j → p.l[i].id ≠ id) ∨ (v = .tuple [.int .i64 0, .int .i64 250] ∧ ∀ s ∈ p.l, s.id ≠ id)) := by
  refine into Try.f47 _ Try.func47 (hS.ownP _ (by decide)) rfl rfl (by kernel_rfl) (by kernel_rfl) ?_
  have hp := r.obj
  unfold rcells at hp
  have hlen := r.len
  have hf := r.few
  simp +contextual (disch := first | (simp only [facts, clsL, clsS, clsC, isPtrD]; done) | omega | (simp only [push_nx, put_nx, del_nx]; omega) | (refine Nat.le_antisymm ?_ ?_ <;> simp only [push_nx, put_nx, del_nx] <;> omega) | fail) only [wpy, facts, wpb, cst, wpk, wpl, forall_const, implies_true, false_implies, Int.reduceLE, Int.reduceLT, Nat.reduceLeDiff, UInt8.reduceToNat, ↓reduceIte, Nat.reduceEqDiff, Nat.reduceAdd, reduceCtorEq, Int.reduceToNat, clsL, clsS, clsC, Try.f47]
  refine callF_exact (rnone_spec hS r) ?_
  simp +contextual (disch := first | (simp only [facts, clsL, clsS, clsC, isPtrD]; done) | omega | (simp only [push_nx, put_nx, del_nx]; omega) | (refine Nat.le_antisymm ?_ ?_ <;> simp only [push_nx, put_nx, del_nx] <;> omega) | fail) only [wpy, facts, wpb, cst, wpk, wpl, forall_const, implies_true, false_implies, Int.reduceLE, Int.reduceLT, Nat.reduceLeDiff, UInt8.reduceToNat, ↓reduceIte, Nat.reduceEqDiff, Nat.reduceAdd, reduceCtorEq, Int.reduceToNat, clsL, clsS, clsC, Try.f47]
  refine run_loop (PlI D p id h) p.l.length ⟨0, by simp +contextual (disch := first | (simp only [facts, clsL, clsS, clsC, isPtrD]; done) | omega | (simp only [push_nx, put_nx, del_nx]; omega) | (refine Nat.le_antisymm ?_ ?_ <;> simp only [push_nx, put_nx, del_nx] <;> omega) | fail) only [wpy, facts, wpb, cst, wpk, wpl, forall_const, implies_true, false_implies, Int.reduceLE, Int.reduceLT, Nat.reduceLeDiff, UInt8.reduceToNat, ↓reduceIte, Nat.reduceEqDiff, Nat.reduceAdd, reduceCtorEq, Int.reduceToNat, clsL, clsS, clsC]; exact ⟨(Nat.sub_zero _).symm, fun i hi q => absurd q (Nat.not_lt_zero _)⟩⟩ ?_
  rintro m env h2 ⟨j, rfl, hj, e0, e1, e6, rfl, hno⟩
  by_cases hlt : j < p.l.length
  · obtain ⟨kb, hlv, kb1, hkb⟩ := r.open (by omega)
    rw [hlv] at hp hlen
    obtain ⟨y0, y1, y4, y5, y6, y7⟩ := eight_at (stc_at hlt)
    have x0 : j * 8 + 8 ≤ (stc p.l).length := by rw [stc_len]; omega
    have hwj : IntKind.i64.wrap ((j : Int) + 1) = ((j + 1 : Nat) : Int) := by rw [i64_in _ (by omega)]; omega
    by_cases hid : p.l[j].id = id
    · simp +contextual (disch := first | (simp only [facts, clsL, clsS, clsC, isPtrD]; done) | omega | (simp only [push_nx, put_nx, del_nx]; omega) | (refine Nat.le_antisymm ?_ ?_ <;> simp only [push_nx, put_nx, del_nx] <;> omega) | fail) only [wpy, facts, wpb, cst, wpk, wpl, forall_const, implies_true, false_implies, Int.reduceLE, Int.reduceLT, Nat.reduceLeDiff, UInt8.reduceToNat, ↓reduceIte, Nat.reduceEqDiff, Nat.reduceAdd, reduceCtorEq, Int.reduceToNat, clsL, clsS, clsC, Try.f47, e0, e1, e6, hp, hlen, hlt, hkb, y0, hid]
      exact .inl ⟨j, hlt, rfl, hid, hno⟩
    · simp +contextual (disch := first | (simp only [facts, clsL, clsS, clsC, isPtrD]; done) | omega | (simp only [push_nx, put_nx, del_nx]; omega) | (refine Nat.le_antisymm ?_ ?_ <;> simp only [push_nx, put_nx, del_nx] <;> omega) | fail) only [wpy, facts, wpb, cst, wpk, wpl, forall_const, implies_true, false_implies, Int.reduceLE, Int.reduceLT, Nat.reduceLeDiff, UInt8.reduceToNat, ↓reduceIte, Nat.reduceEqDiff, Nat.reduceAdd, reduceCtorEq, Int.reduceToNat, clsL, clsS, clsC, Try.f47, e0, e1, e6, hp, hlen, hlt, hkb, y0, hid]
      refine ⟨p.l.length - (j + 1), by omega, j + 1, rfl, hlt, by simp +contextual (disch := first | (simp only [facts, clsL, clsS, clsC, isPtrD]; done) | omega | (simp only [push_nx, put_nx, del_nx]; omega) | (refine Nat.le_antisymm ?_ ?_ <;> simp only [push_nx, put_nx, del_nx] <;> omega) | fail) only [wpy, facts, wpb, cst, wpk, wpl, forall_const, implies_true, false_implies, Int.reduceLE, Int.reduceLT, Nat.reduceLeDiff, UInt8.reduceToNat, ↓reduceIte, Nat.reduceEqDiff, Nat.reduceAdd, reduceCtorEq, Int.reduceToNat, clsL, clsS, clsC, e0], by simp +contextual (disch := first | (simp only [facts, clsL, clsS, clsC, isPtrD]; done) | omega | (simp only [push_nx, put_nx, del_nx]; omega) | (refine Nat.le_antisymm ?_ ?_ <;> simp only [push_nx, put_nx, del_nx] <;> omega) | fail) only [wpy, facts, wpb, cst, wpk, wpl, forall_const, implies_true, false_implies, Int.reduceLE, Int.reduceLT, Nat.reduceLeDiff, UInt8.reduceToNat, ↓reduceIte, Nat.reduceEqDiff, Nat.reduceAdd, reduceCtorEq, Int.reduceToNat, clsL, clsS, clsC, e1], by simp +contextual (disch := first | (simp only [facts, clsL, clsS, clsC, isPtrD]; done) | omega | (simp only [push_nx, put_nx, del_nx]; omega) | (refine Nat.le_antisymm ?_ ?_ <;> simp only [push_nx, put_nx, del_nx] <;> omega) | fail) only [wpy, facts, wpb, cst, wpk, wpl, forall_const, implies_true, false_implies, Int.reduceLE, Int.reduceLT, Nat.reduceLeDiff, UInt8.reduceToNat, ↓reduceIte, Nat.reduceEqDiff, Nat.reduceAdd, reduceCtorEq, Int.reduceToNat, clsL, clsS, clsC, e6, hwj], rfl, fun i hi w => ?_⟩
      by_cases e : i = j
      · subst e; exact hid
      · exact hno i hi (by omega)
  · simp +contextual (disch := first | (simp only [facts, clsL, clsS, clsC, isPtrD]; done) | omega | (simp only [push_nx, put_nx, del_nx]; omega) | (refine Nat.le_antisymm ?_ ?_ <;> simp only [push_nx, put_nx, del_nx] <;> omega) | fail) only [wpy, facts, wpb, cst, wpk, wpl, forall_const, implies_true, false_implies, Int.reduceLE, Int.reduceLT, Nat.reduceLeDiff, UInt8.reduceToNat, ↓reduceIte, Nat.reduceEqDiff, Nat.reduceAdd, reduceCtorEq, Int.reduceToNat, clsL, clsS, clsC, Try.f47, e0, e1, e6, hp, hlen, hlt]
    refine .inr fun s hs => ?_
    obtain ⟨i, hi, rfl⟩ := List.mem_iff_getElem.1 hs
    exact hno i hi (by omega)
theorem place_hit {D : RD} {p : PL} {h : H} (r : RR D p h) (hr : (p.l.map ST.id).Pairwise (· < ·)) {j : Nat} (hj : j < p.l.length) {id : Int} (hid : p.l[j].id = id) : Exact S.cfg 47 [.ptr D.b 0, .int .u32 id] h (.tuple [.int .i64 j, .int .i64 0]) := by
  refine callW_mono (place_spec hS r id) (fun _ q => q) ?_
  rintro v h' ⟨rfl, ⟨j', hj', rfl, hid', hno⟩ | ⟨rfl, hno⟩⟩
  · have hp := List.pairwise_iff_getElem.1 hr
    have e : j' = j := by
      rcases Nat.lt_trichotomy j' j with q | q | q
      · have := hp j' j (by rw [List.length_map]; exact hj') (by rw [List.length_map]; exact hj) q
        rw [List.getElem_map, List.getElem_map] at this
        omega
      · exact q
      · have := hp j j' (by rw [List.length_map]; exact hj) (by rw [List.length_map]; exact hj') q
        rw [List.getElem_map, List.getElem_map] at this
        omega
    rw [e]
    exact ⟨rfl, rfl⟩
  · exact (hno _ (List.getElem_mem hj) hid).elim
theorem place_miss {D : RD} {p : PL} {h : H} (r : RR D p h) {id : Int} (hn : ∀ s ∈ p.l, s.id ≠ id) : Exact S.cfg 47 [.ptr D.b 0, .int .u32 id] h (.tuple [.int .i64 0, .int .i64 250]) := by
  refine callW_mono (place_spec hS r id) (fun _ q => q) ?_
  rintro v h' ⟨rfl, ⟨j', hj', rfl, hid', hno⟩ | ⟨rfl, hno⟩⟩
  · exact (hn _ (List.getElem_mem hj') hid').elim
  · exact ⟨rfl, rfl⟩
theorem rget_hit {D : RD} {p : PL} {h : H} (r : RR D p h) (hr : (p.l.map ST.id).Pairwise (· < ·)) {j : Nat} (hj : j < p.l.length) {id : Int} (hid : p.l[j].id = id) : Pure S.cfg 34 [.ptr D.b 0, .int .u32 id] h fun v _ => v = .tuple [.agg p.l[j].cells, .int .i64 0] := by
  refine into Try.f34 _ Try.func34 (hS.ownP _ (by decide)) rfl rfl (by kernel_rfl) (by kernel_rfl) ?_
  simp +contextual (disch := first | (simp only [facts, clsL, clsS, clsC, isPtrD]; done) | omega | (simp only [push_nx, put_nx, del_nx]; omega) | (refine Nat.le_antisymm ?_ ?_ <;> simp only [push_nx, put_nx, del_nx] <;> omega) | fail) only [wpy, facts, wpb, cst, wpk, wpl, forall_const, implies_true, false_implies, Int.reduceLE, Int.reduceLT, Nat.reduceLeDiff, UInt8.reduceToNat, ↓reduceIte, Nat.reduceEqDiff, Nat.reduceAdd, reduceCtorEq, Int.reduceToNat, clsL, clsS, clsC, Try.f34]
  generalize hhA : H.push h _ = hA
  have hxA : Ext h hA := by rw [← hhA]; exact (Ext.refl h).push _
  have hgA : hA.get h.nx = some (.cells [.int .u32 0, .str [], .int .u16 0, .int .u16 0, .int .i64 0, .int .u32 0, bo False, bo False] 31 false) := by rw [← hhA]; exact push_eq rfl
  clear hhA
  have rA := r.ext hxA
  have hp := rA.obj
  unfold rcells at hp
  obtain ⟨kb, hlv, kb1, hkb⟩ := rA.open (by omega)
  rw [hlv] at hp
  have x0 : j * 8 + 8 ≤ (stc p.l).length := by rw [stc_len]; omega
  have x1 := stc_at hj
  unfold ST.cells at x1
  refine callF_exact (place_hit hS rA hr hj hid) ?_
  simp +contextual (disch := first | (simp only [facts, clsL, clsS, clsC, isPtrD]; done) | omega | (simp only [push_nx, put_nx, del_nx]; omega) | (refine Nat.le_antisymm ?_ ?_ <;> simp only [push_nx, put_nx, del_nx] <;> omega) | fail) only [wpy, facts, wpb, cst, wpk, wpl, forall_const, implies_true, false_implies, Int.reduceLE, Int.reduceLT, Nat.reduceLeDiff, UInt8.reduceToNat, ↓reduceIte, Nat.reduceEqDiff, Nat.reduceAdd, reduceCtorEq, Int.reduceToNat, clsL, clsS, clsC, Try.f34, hp, hkb, x0, x1, hgA, hj]
  exact ⟨hxA.put (Nat.le_refl _) _, rfl⟩
theorem rget_miss {D : RD} {p : PL} {h : H} (r : RR D p h) {id : Int} (hn : ∀ s ∈ p.l, s.id ≠ id) : Pure S.cfg 34 [.ptr D.b 0, .int .u32 id] h fun v _ => v = .tuple [.agg z8, .int .i64 250] := by
  refine into Try.f34 _ Try.func34 (hS.ownP _ (by decide)) rfl rfl (by kernel_rfl) (by kernel_rfl) ?_
  simp +contextual (disch := first | (simp only [facts, clsL, clsS, clsC, isPtrD]; done) | omega | (simp only [push_nx, put_nx, del_nx]; omega) | (refine Nat.le_antisymm ?_ ?_ <;> simp only [push_nx, put_nx, del_nx] <;> omega) | fail) only [wpy, facts, wpb, cst, wpk, wpl, forall_const, implies_true, false_implies, Int.reduceLE, Int.reduceLT, Nat.reduceLeDiff, UInt8.reduceToNat, ↓reduceIte, Nat.reduceEqDiff, Nat.reduceAdd, reduceCtorEq, Int.reduceToNat, clsL, clsS, clsC, Try.f34]
  generalize hhA : H.push h _ = hA
  have hxA : Ext h hA := by rw [← hhA]; exact (Ext.refl h).push _
  have hgA : hA.get h.nx = some (.cells [.int .u32 0, .str [], .int .u16 0, .int .u16 0, .int .i64 0, .int .u32 0, bo False, bo False] 31 false) := by rw [← hhA]; exact push_eq rfl
  clear hhA
  refine callF_exact (place_miss hS (r.ext hxA) hn) ?_
  simp +contextual (disch := first | (simp only [facts, clsL, clsS, clsC, isPtrD]; done) | omega | (simp only [push_nx, put_nx, del_nx]; omega) | (refine Nat.le_antisymm ?_ ?_ <;> simp only [push_nx, put_nx, del_nx] <;> omega) | fail) only [wpy, facts, wpb, cst, wpk, wpl, forall_const, implies_true, false_implies, Int.reduceLE, Int.reduceLT, Nat.reduceLeDiff, UInt8.reduceToNat, ↓reduceIte, Nat.reduceEqDiff, Nat.reduceAdd, reduceCtorEq, Int.reduceToNat, clsL, clsS, clsC, Try.f34, hgA, n250]
  exact ⟨hxA.put (Nat.le_refl _) _, rfl⟩
theorem ron_hit {D : RD} {p : PL} {h : H} (r : RR D p h) (hr : (p.l.map ST.id).Pairwise (· < ·)) {j : Nat} (hj : j < p.l.length) {id : Int} (hid : p.l[j].id = id) (conn : Int) : Pure S.cfg 35 [.ptr D.b 0, .int .u32 id, .int .i64 conn] h fun v _ => v = onS p.l[j] conn := by
  refine into Try.f35 _ Try.func35 (hS.ownP _ (by decide)) rfl rfl (by kernel_rfl) (by kernel_rfl) ?_
  have hp := r.obj
  unfold rcells at hp
  obtain ⟨kb, hlv, kb1, hkb⟩ := r.open (by omega)
  rw [hlv] at hp
  have x0 : j * 8 + 8 ≤ (stc p.l).length := by rw [stc_len]; omega
  have x1 := stc_at hj
  obtain ⟨y0, y1, y4, y5, y6, y7⟩ := eight_at x1
  simp +contextual (disch := first | (simp only [facts, clsL, clsS, clsC, isPtrD]; done) | omega | (simp only [push_nx, put_nx, del_nx]; omega) | (refine Nat.le_antisymm ?_ ?_ <;> simp only [push_nx, put_nx, del_nx] <;> omega) | fail) only [wpy, facts, wpb, cst, wpk, wpl, forall_const, implies_true, false_implies, Int.reduceLE, Int.reduceLT, Nat.reduceLeDiff, UInt8.reduceToNat, ↓reduceIte, Nat.reduceEqDiff, Nat.reduceAdd, reduceCtorEq, Int.reduceToNat, clsL, clsS, clsC, Try.f35]
  refine callF_exact (place_hit hS r hr hj hid) ?_
  unfold onS
  by_cases hc : conn < 1
  · simp +contextual (disch := first | (simp only [facts, clsL, clsS, clsC, isPtrD]; done) | omega | (simp only [push_nx, put_nx, del_nx]; omega) | (refine Nat.le_antisymm ?_ ?_ <;> simp only [push_nx, put_nx, del_nx] <;> omega) | fail) only [wpy, facts, wpb, cst, wpk, wpl, forall_const, implies_true, false_implies, Int.reduceLE, Int.reduceLT, Nat.reduceLeDiff, UInt8.reduceToNat, ↓reduceIte, Nat.reduceEqDiff, Nat.reduceAdd, reduceCtorEq, Int.reduceToNat, clsL, clsS, clsC, Try.f35, hc]
    exact Ext.refl h
  · simp +contextual (disch := first | (simp only [facts, clsL, clsS, clsC, isPtrD]; done) | omega | (simp only [push_nx, put_nx, del_nx]; omega) | (refine Nat.le_antisymm ?_ ?_ <;> simp only [push_nx, put_nx, del_nx] <;> omega) | fail) only [wpy, facts, wpb, cst, wpk, wpl, forall_const, implies_true, false_implies, Int.reduceLE, Int.reduceLT, Nat.reduceLeDiff, UInt8.reduceToNat, ↓reduceIte, Nat.reduceEqDiff, Nat.reduceAdd, reduceCtorEq, Int.reduceToNat, clsL, clsS, clsC, Try.f35, hc, hp, hkb, x0, x1, hj]
    refine callF_pure (rpins_spec hS p.l[j] h) ?_
    rintro v h1 hx1 rfl
    have r1 := r.ext hx1
    have hp1 := r1.obj
    unfold rcells at hp1
    rw [hlv] at hp1
    have hkb1 : h1.get kb = some (.cells (stc p.l) 31 true) := by rw [hx1.2 _ kb1]; exact hkb
    by_cases hz : p.l[j].pins
    · by_cases hq : p.l[j].conn = conn
      · simp +contextual (disch := first | (simp only [facts, clsL, clsS, clsC, isPtrD]; done) | omega | (simp only [push_nx, put_nx, del_nx]; omega) | (refine Nat.le_antisymm ?_ ?_ <;> simp only [push_nx, put_nx, del_nx] <;> omega) | fail) only [wpy, facts, wpb, cst, wpk, wpl, forall_const, implies_true, false_implies, Int.reduceLE, Int.reduceLT, Nat.reduceLeDiff, UInt8.reduceToNat, ↓reduceIte, Nat.reduceEqDiff, Nat.reduceAdd, reduceCtorEq, Int.reduceToNat, clsL, clsS, clsC, Try.f35, hc, hp1, hkb1, x0, hj, hz, hq, y4, y5]
        exact hx1
      · simp +contextual (disch := first | (simp only [facts, clsL, clsS, clsC, isPtrD]; done) | omega | (simp only [push_nx, put_nx, del_nx]; omega) | (refine Nat.le_antisymm ?_ ?_ <;> simp only [push_nx, put_nx, del_nx] <;> omega) | fail) only [wpy, facts, wpb, cst, wpk, wpl, forall_const, implies_true, false_implies, Int.reduceLE, Int.reduceLT, Nat.reduceLeDiff, UInt8.reduceToNat, ↓reduceIte, Nat.reduceEqDiff, Nat.reduceAdd, reduceCtorEq, Int.reduceToNat, clsL, clsS, clsC, Try.f35, hc, hp1, hkb1, x0, hj, hz, hq, y4, y5]
        exact hx1
    · by_cases hq : p.l[j].conn = conn
      · simp +contextual (disch := first | (simp only [facts, clsL, clsS, clsC, isPtrD]; done) | omega | (simp only [push_nx, put_nx, del_nx]; omega) | (refine Nat.le_antisymm ?_ ?_ <;> simp only [push_nx, put_nx, del_nx] <;> omega) | fail) only [wpy, facts, wpb, cst, wpk, wpl, forall_const, implies_true, false_implies, Int.reduceLE, Int.reduceLT, Nat.reduceLeDiff, UInt8.reduceToNat, ↓reduceIte, Nat.reduceEqDiff, Nat.reduceAdd, reduceCtorEq, Int.reduceToNat, clsL, clsS, clsC, Try.f35, hc, hp1, hkb1, x0, hj, hz, hq, y4, y5]
        exact hx1
      · simp +contextual (disch := first | (simp only [facts, clsL, clsS, clsC, isPtrD]; done) | omega | (simp only [push_nx, put_nx, del_nx]; omega) | (refine Nat.le_antisymm ?_ ?_ <;> simp only [push_nx, put_nx, del_nx] <;> omega) | fail) only [wpy, facts, wpb, cst, wpk, wpl, forall_const, implies_true, false_implies, Int.reduceLE, Int.reduceLT, Nat.reduceLeDiff, UInt8.reduceToNat, ↓reduceIte, Nat.reduceEqDiff, Nat.reduceAdd, reduceCtorEq, Int.reduceToNat, clsL, clsS, clsC, Try.f35, hc, hp1, hkb1, x0, hj, hz, hq, y4, y5]
        exact hx1
theorem ron_miss {D : RD} {p : PL} {h : H} (r : RR D p h) {id : Int} (hn : ∀ s ∈ p.l, s.id ≠ id) (conn : Int) : Exact S.cfg 35 [.ptr D.b 0, .int .u32 id, .int .i64 conn] h (.tuple [.int .u32 0, bo False, .int .i64 250]) := by
  refine into Try.f35 _ Try.func35 (hS.ownP _ (by decide)) rfl rfl (by kernel_rfl) (by kernel_rfl) ?_
  simp +contextual (disch := first | (simp only [facts, clsL, clsS, clsC, isPtrD]; done) | omega | (simp only [push_nx, put_nx, del_nx]; omega) | (refine Nat.le_antisymm ?_ ?_ <;> simp only [push_nx, put_nx, del_nx] <;> omega) | fail) only [wpy, facts, wpb, cst, wpk, wpl, forall_const, implies_true, false_implies, Int.reduceLE, Int.reduceLT, Nat.reduceLeDiff, UInt8.reduceToNat, ↓reduceIte, Nat.reduceEqDiff, Nat.reduceAdd, reduceCtorEq, Int.reduceToNat, clsL, clsS, clsC, Try.f35]
  refine callF_exact (place_miss hS r hn) ?_
  simp +contextual (disch := first | (simp only [facts, clsL, clsS, clsC, isPtrD]; done) | omega | (simp only [push_nx, put_nx, del_nx]; omega) | (refine Nat.le_antisymm ?_ ?_ <;> simp only [push_nx, put_nx, del_nx] <;> omega) | fail) only [wpy, facts, wpb, cst, wpk, wpl, forall_const, implies_true, false_implies, Int.reduceLE, Int.reduceLT, Nat.reduceLeDiff, UInt8.reduceToNat, ↓reduceIte, Nat.reduceEqDiff, Nat.reduceAdd, reduceCtorEq, Int.reduceToNat, clsL, clsS, clsC, Try.f35, n250]
end
noncomputable section
theorem rset_self (p : PL) {j : Nat} (hj : j < p.l.length) : ({ p with l := p.l.set j p.l[j] } : PL) = p := by rw [List.set_getElem_self]
theorem RStp.trans {D D1 D2 : RD} {p1 p2 : PL} {h h1 h2 : H} (a : RStp D h D1 p1 h1) (b : RStp D1 h1 D2 p2 h2) : RStp D h D2 p2 h2 where
  rr := b.rr
  nx := Nat.le_trans a.nx b.nx
  same := fun k hk ho => by
    rw [b.same k (Nat.lt_of_lt_of_le hk a.nx) (fun q => (a.own k q).elim ho (by omega)), a.same k hk ho]
  own := fun k q => (b.own k q).elim (a.own k) fun q => .inr (Nat.le_trans a.nx q)
  b := b.b.trans a.b
theorem RStp.cell {D : RD} {p : PL} {h : H} (r : RR D p h) {kb : Nat} (hlv : D.lv = .slice kb 0 p.l.length p.l.length) {j f : Nat} (hj : j < p.l.length) (hf : f < 8) {s : ST} {v : V} (hs : s.cells = p.l[j].cells.set f v) : RStp D h D { p with l := p.l.set j s } (h.put kb (.cells (listPut (stc p.l) (j * 8 + f) [v]) 31 true)) :=
  RStp.setj r hlv (List.length_set ..) (by rw [List.length_set]; omega) rfl (by rw [put_eq rfl, stc_put hj hf hs]) fun k hk => put_ne hk
theorem put_two {l : List ST} {j : Nat} (hj : j < l.length) (conn back : Int) : listPut (listPut (stc l) (j * 8 + 4) [.int .i64 conn]) (j * 8 + 5) [.int .u32 back] = stc (l.set j { l[j] with conn := conn, back := back }) := by
  rw [stc_put (s := { l[j] with conn := conn }) hj (by decide) rfl]
  have hj2 : j < (l.set j { l[j] with conn := conn }).length := by rw [List.length_set]; exact hj
  rw [stc_put (s := { l[j] with conn := conn, back := back }) hj2 (by decide) (by rw [List.getElem_set_self]; rfl), List.set_set]
variable {S : Set0} (hS : StdP S)
include hS
theorem rbind_hit {D : RD} {p : PL} {h : H} (r : RR D p h) (hr : (p.l.map ST.id).Pairwise (· < ·)) {j : Nat} (hj : j < p.l.length) {id : Int} (hid : p.l[j].id = id) (conn back : Int) : callW S.cfg (rowns D) 36 [.ptr D.b 0, .int .u32 id, .int .i64 conn, .int .u32 back] h fun v h' => v = .int .i64 (bindE p.l[j] conn back) ∧ RStp D h D { p with l := p.l.set j (bindS p.l[j] conn back) } h' := by
  refine into Try.f36 _ Try.func36 (hS.ownP _ (by decide)) rfl rfl (by kernel_rfl) (by kernel_rfl) ?_
  have hp := r.obj
  unfold rcells at hp
  obtain ⟨kb, hlv, kb1, hkb⟩ := r.open (by omega)
  have hown : rowns D kb := .inr ⟨_, _, _, hlv⟩
  rw [hlv] at hp
  have x0 : j * 8 + 8 ≤ (stc p.l).length := by rw [stc_len]; omega
  have x1 := stc_at hj
  obtain ⟨y0, y1, y4, y5, y6, y7⟩ := eight_at x1
  simp +contextual (disch := first | (simp only [facts, clsL, clsS, clsC, isPtrD]; done) | omega | (simp only [push_nx, put_nx, del_nx]; omega) | (refine Nat.le_antisymm ?_ ?_ <;> simp only [push_nx, put_nx, del_nx] <;> omega) | fail) only [wpy, facts, wpb, cst, wpk, wpl, forall_const, implies_true, false_implies, Int.reduceLE, Int.reduceLT, Nat.reduceLeDiff, UInt8.reduceToNat, ↓reduceIte, Nat.reduceEqDiff, Nat.reduceAdd, reduceCtorEq, Int.reduceToNat, clsL, clsS, clsC, Try.f36]
  refine callF_exact (place_hit hS r hr hj hid) ?_
  by_cases hc : conn < 1
  · have e1 : bindE p.l[j] conn back = 2 := by unfold bindE; rw [if_pos (.inl hc)]
    have e2 : bindS p.l[j] conn back = p.l[j] := by unfold bindS; rw [e1, if_neg (by decide)]
    rw [e1, e2, rset_self p hj]
    simp +contextual (disch := first | (simp only [facts, clsL, clsS, clsC, isPtrD]; done) | omega | (simp only [push_nx, put_nx, del_nx]; omega) | (refine Nat.le_antisymm ?_ ?_ <;> simp only [push_nx, put_nx, del_nx] <;> omega) | fail) only [wpy, facts, wpb, cst, wpk, wpl, forall_const, implies_true, false_implies, Int.reduceLE, Int.reduceLT, Nat.reduceLeDiff, UInt8.reduceToNat, ↓reduceIte, Nat.reduceEqDiff, Nat.reduceAdd, reduceCtorEq, Int.reduceToNat, clsL, clsS, clsC, Try.f36, hc]
    exact RStp.refl r
  by_cases hb : back = 0
  · have e1 : bindE p.l[j] conn back = 2 := by unfold bindE; rw [if_pos (.inr hb)]
    have e2 : bindS p.l[j] conn back = p.l[j] := by unfold bindS; rw [e1, if_neg (by decide)]
    rw [e1, e2, rset_self p hj]
    simp +contextual (disch := first | (simp only [facts, clsL, clsS, clsC, isPtrD]; done) | omega | (simp only [push_nx, put_nx, del_nx]; omega) | (refine Nat.le_antisymm ?_ ?_ <;> simp only [push_nx, put_nx, del_nx] <;> omega) | fail) only [wpy, facts, wpb, cst, wpk, wpl, forall_const, implies_true, false_implies, Int.reduceLE, Int.reduceLT, Nat.reduceLeDiff, UInt8.reduceToNat, ↓reduceIte, Nat.reduceEqDiff, Nat.reduceAdd, reduceCtorEq, Int.reduceToNat, clsL, clsS, clsC, Try.f36, hc, hb]
    exact RStp.refl r
  simp +contextual (disch := first | (simp only [facts, clsL, clsS, clsC, isPtrD]; done) | omega | (simp only [push_nx, put_nx, del_nx]; omega) | (refine Nat.le_antisymm ?_ ?_ <;> simp only [push_nx, put_nx, del_nx] <;> omega) | fail) only [wpy, facts, wpb, cst, wpk, wpl, forall_const, implies_true, false_implies, Int.reduceLE, Int.reduceLT, Nat.reduceLeDiff, UInt8.reduceToNat, ↓reduceIte, Nat.reduceEqDiff, Nat.reduceAdd, reduceCtorEq, Int.reduceToNat, clsL, clsS, clsC, Try.f36, hc, hb, hp, hkb, x0, x1, hj]
  refine callF_pure (rpins_spec hS p.l[j] h) ?_
  rintro v h1 hx1 rfl
  have r1 := r.ext hx1
  have hp1 := r1.obj
  unfold rcells at hp1
  rw [hlv] at hp1
  have hkb1 : h1.get kb = some (.cells (stc p.l) 31 true) := by rw [hx1.2 _ kb1]; exact hkb
  by_cases hz : p.l[j].pins
  · have e1 : bindE p.l[j] conn back = 252 := by unfold bindE; rw [if_neg (by rintro (q | q); exact hc q; exact hb q), if_pos hz]
    have e2 : bindS p.l[j] conn back = p.l[j] := by unfold bindS; rw [e1, if_neg (by decide)]
    rw [e1, e2, rset_self p hj]
    simp +contextual (disch := first | (simp only [facts, clsL, clsS, clsC, isPtrD]; done) | omega | (simp only [push_nx, put_nx, del_nx]; omega) | (refine Nat.le_antisymm ?_ ?_ <;> simp only [push_nx, put_nx, del_nx] <;> omega) | fail) only [wpy, facts, wpb, cst, wpk, wpl, forall_const, implies_true, false_implies, Int.reduceLE, Int.reduceLT, Nat.reduceLeDiff, UInt8.reduceToNat, ↓reduceIte, Nat.reduceEqDiff, Nat.reduceAdd, reduceCtorEq, Int.reduceToNat, clsL, clsS, clsC, Try.f36, hz]
    exact RStp.ext r hx1
  · have e1 : bindE p.l[j] conn back = 0 := by unfold bindE; rw [if_neg (by rintro (q | q); exact hc q; exact hb q), if_neg hz]
    have e2 : bindS p.l[j] conn back = { p.l[j] with conn := conn, back := back } := by unfold bindS; rw [e1, if_pos rfl]
    rw [e1, e2]
    simp +contextual (disch := first | (simp only [facts, clsL, clsS, clsC, isPtrD]; done) | omega | (simp only [push_nx, put_nx, del_nx]; omega) | (refine Nat.le_antisymm ?_ ?_ <;> simp only [push_nx, put_nx, del_nx] <;> omega) | fail) only [wpy, facts, wpb, cst, wpk, wpl, forall_const, implies_true, false_implies, Int.reduceLE, Int.reduceLT, Nat.reduceLeDiff, UInt8.reduceToNat, ↓reduceIte, Nat.reduceEqDiff, Nat.reduceAdd, reduceCtorEq, Int.reduceToNat, clsL, clsS, clsC, Try.f36, hz]
    refine draw_by [] (by kernel_rfl) ?_
    simp +contextual (disch := first | (simp only [facts, clsL, clsS, clsC, isPtrD]; done) | omega | (simp only [push_nx, put_nx, del_nx]; omega) | (refine Nat.le_antisymm ?_ ?_ <;> simp only [push_nx, put_nx, del_nx] <;> omega) | fail) only [wpy, facts, wpb, cst, wpk, wpl, forall_const, implies_true, false_implies, Int.reduceLE, Int.reduceLT, Nat.reduceLeDiff, UInt8.reduceToNat, ↓reduceIte, Nat.reduceEqDiff, Nat.reduceAdd, reduceCtorEq, Int.reduceToNat, clsL, clsS, clsC, Try.f36, hp1, hkb1, x0, hj, hc]
    have l1 : (listPut (stc p.l) (j * 8 + 4) [.int .i64 conn]).length = (stc p.l).length := by rw [put_one, List.length_set]
    refine ⟨⟨by omega, .inr (.inr hown)⟩, ⟨by omega, .inr (.inr hown)⟩, fun p hp => (by cases hp), (RStp.ext r hx1).trans (RStp.setj r1 hlv (List.length_set ..) (by rw [List.length_set]; omega) rfl (by rw [put_eq rfl, put_two hj]) fun k hk => by rw [put_ne hk, put_ne hk])⟩
theorem rbind_miss {D : RD} {p : PL} {h : H} (r : RR D p h) {id : Int} (hn : ∀ s ∈ p.l, s.id ≠ id) (conn back : Int) : Exact S.cfg 36 [.ptr D.b 0, .int .u32 id, .int .i64 conn, .int .u32 back] h (.int .i64 250) := by
  refine into Try.f36 _ Try.func36 (hS.ownP _ (by decide)) rfl rfl (by kernel_rfl) (by kernel_rfl) ?_
  simp +contextual (disch := first | (simp only [facts, clsL, clsS, clsC, isPtrD]; done) | omega | (simp only [push_nx, put_nx, del_nx]; omega) | (refine Nat.le_antisymm ?_ ?_ <;> simp only [push_nx, put_nx, del_nx] <;> omega) | fail) only [wpy, facts, wpb, cst, wpk, wpl, forall_const, implies_true, false_implies, Int.reduceLE, Int.reduceLT, Nat.reduceLeDiff, UInt8.reduceToNat, ↓reduceIte, Nat.reduceEqDiff, Nat.reduceAdd, reduceCtorEq, Int.reduceToNat, clsL, clsS, clsC, Try.f36]
  refine callF_exact (place_miss hS r hn) ?_
  simp +contextual (disch := first | (simp only [facts, clsL, clsS, clsC, isPtrD]; done) | omega | (simp only [push_nx, put_nx, del_nx]; omega) | (refine Nat.le_antisymm ?_ ?_ <;> simp only [push_nx, put_nx, del_nx] <;> omega) | fail) only [wpy, facts, wpb, cst, wpk, wpl, forall_const, implies_true, false_implies, Int.reduceLE, Int.reduceLT, Nat.reduceLeDiff, UInt8.reduceToNat, ↓reduceIte, Nat.reduceEqDiff, Nat.reduceAdd, reduceCtorEq, Int.reduceToNat, clsL, clsS, clsC, Try.f36, n250]
theorem rlong_hit {D : RD} {p : PL} {h : H} (r : RR D p h) (hr : (p.l.map ST.id).Pairwise (· < ·)) {j : Nat} (hj : j < p.l.length) {id : Int} (hid : p.l[j].id = id) (on : Prop) : callW S.cfg (rowns D) 37 [.ptr D.b 0, .int .u32 id, bo on] h fun v h' => v = .int .i64 (holdE p.l[j] on) ∧ RStp D h D { p with l := p.l.set j (longS p.l[j] on) } h' := by
  refine into Try.f37 _ Try.func37 (hS.ownP _ (by decide)) rfl rfl (by kernel_rfl) (by kernel_rfl) ?_
  have hp := r.obj
  unfold rcells at hp
  obtain ⟨kb, hlv, kb1, hkb⟩ := r.open (by omega)
  have hown : rowns D kb := .inr ⟨_, _, _, hlv⟩
  rw [hlv] at hp
  have x0 : j * 8 + 8 ≤ (stc p.l).length := by rw [stc_len]; omega
  obtain ⟨y0, y1, y4, y5, y6, y7⟩ := eight_at (stc_at hj)
  simp +contextual (disch := first | (simp only [facts, clsL, clsS, clsC, isPtrD]; done) | omega | (simp only [push_nx, put_nx, del_nx]; omega) | (refine Nat.le_antisymm ?_ ?_ <;> simp only [push_nx, put_nx, del_nx] <;> omega) | fail) only [wpy, facts, wpb, cst, wpk, wpl, forall_const, implies_true, false_implies, Int.reduceLE, Int.reduceLT, Nat.reduceLeDiff, UInt8.reduceToNat, ↓reduceIte, Nat.reduceEqDiff, Nat.reduceAdd, reduceCtorEq, Int.reduceToNat, clsL, clsS, clsC, Try.f37]
  refine callF_exact (place_hit hS r hr hj hid) ?_
  by_cases ho : on
  · by_cases hz : p.l[j].conn = 0
    · have e1 : holdE p.l[j] on = 2 := by unfold holdE; rw [if_pos ⟨ho, hz⟩]
      have e2 : longS p.l[j] on = p.l[j] := by unfold longS; rw [e1, if_neg (by decide)]
      rw [e1, e2, rset_self p hj]
      simp +contextual (disch := first | (simp only [facts, clsL, clsS, clsC, isPtrD]; done) | omega | (simp only [push_nx, put_nx, del_nx]; omega) | (refine Nat.le_antisymm ?_ ?_ <;> simp only [push_nx, put_nx, del_nx] <;> omega) | fail) only [wpy, facts, wpb, cst, wpk, wpl, forall_const, implies_true, false_implies, Int.reduceLE, Int.reduceLT, Nat.reduceLeDiff, UInt8.reduceToNat, ↓reduceIte, Nat.reduceEqDiff, Nat.reduceAdd, reduceCtorEq, Int.reduceToNat, clsL, clsS, clsC, Try.f37, ho, hz, hp, hkb, y4, hj, n002]
      exact RStp.refl r
    · have e1 : holdE p.l[j] on = 0 := by unfold holdE; rw [if_neg fun q => hz q.2]
      have e2 : longS p.l[j] on = { p.l[j] with long := on } := by unfold longS; rw [e1, if_pos rfl]
      rw [e1, e2]
      simp +contextual (disch := first | (simp only [facts, clsL, clsS, clsC, isPtrD]; done) | omega | (simp only [push_nx, put_nx, del_nx]; omega) | (refine Nat.le_antisymm ?_ ?_ <;> simp only [push_nx, put_nx, del_nx] <;> omega) | fail) only [wpy, facts, wpb, cst, wpk, wpl, forall_const, implies_true, false_implies, Int.reduceLE, Int.reduceLT, Nat.reduceLeDiff, UInt8.reduceToNat, ↓reduceIte, Nat.reduceEqDiff, Nat.reduceAdd, reduceCtorEq, Int.reduceToNat, clsL, clsS, clsC, Try.f37, ho, hz, hp, hkb, y4, hj, x0]
      exact ⟨⟨by omega, .inr (.inr hown)⟩, RStp.cell (s := { p.l[j] with long := True }) r hlv hj (by decide) rfl⟩
  · have e1 : holdE p.l[j] on = 0 := by unfold holdE; rw [if_neg fun q => ho q.1]
    have e2 : longS p.l[j] on = { p.l[j] with long := on } := by unfold longS; rw [e1, if_pos rfl]
    rw [e1, e2]
    simp +contextual (disch := first | (simp only [facts, clsL, clsS, clsC, isPtrD]; done) | omega | (simp only [push_nx, put_nx, del_nx]; omega) | (refine Nat.le_antisymm ?_ ?_ <;> simp only [push_nx, put_nx, del_nx] <;> omega) | fail) only [wpy, facts, wpb, cst, wpk, wpl, forall_const, implies_true, false_implies, Int.reduceLE, Int.reduceLT, Nat.reduceLeDiff, UInt8.reduceToNat, ↓reduceIte, Nat.reduceEqDiff, Nat.reduceAdd, reduceCtorEq, Int.reduceToNat, clsL, clsS, clsC, Try.f37, ho, hp, hkb, y4, hj, x0]
    exact ⟨⟨by omega, .inr (.inr hown)⟩, RStp.cell (s := { p.l[j] with long := False }) r hlv hj (by decide) rfl⟩
theorem rlong_miss {D : RD} {p : PL} {h : H} (r : RR D p h) {id : Int} (hn : ∀ s ∈ p.l, s.id ≠ id) (on : Prop) : Exact S.cfg 37 [.ptr D.b 0, .int .u32 id, bo on] h (.int .i64 250) := by
  refine into Try.f37 _ Try.func37 (hS.ownP _ (by decide)) rfl rfl (by kernel_rfl) (by kernel_rfl) ?_
  simp +contextual (disch := first | (simp only [facts, clsL, clsS, clsC, isPtrD]; done) | omega | (simp only [push_nx, put_nx, del_nx]; omega) | (refine Nat.le_antisymm ?_ ?_ <;> simp only [push_nx, put_nx, del_nx] <;> omega) | fail) only [wpy, facts, wpb, cst, wpk, wpl, forall_const, implies_true, false_implies, Int.reduceLE, Int.reduceLT, Nat.reduceLeDiff, UInt8.reduceToNat, ↓reduceIte, Nat.reduceEqDiff, Nat.reduceAdd, reduceCtorEq, Int.reduceToNat, clsL, clsS, clsC, Try.f37]
  refine callF_exact (place_miss hS r hn) ?_
  by_cases ho : on
  · simp +contextual (disch := first | (simp only [facts, clsL, clsS, clsC, isPtrD]; done) | omega | (simp only [push_nx, put_nx, del_nx]; omega) | (refine Nat.le_antisymm ?_ ?_ <;> simp only [push_nx, put_nx, del_nx] <;> omega) | fail) only [wpy, facts, wpb, cst, wpk, wpl, forall_const, implies_true, false_implies, Int.reduceLE, Int.reduceLT, Nat.reduceLeDiff, UInt8.reduceToNat, ↓reduceIte, Nat.reduceEqDiff, Nat.reduceAdd, reduceCtorEq, Int.reduceToNat, clsL, clsS, clsC, Try.f37, n250, ho]
  · simp +contextual (disch := first | (simp only [facts, clsL, clsS, clsC, isPtrD]; done) | omega | (simp only [push_nx, put_nx, del_nx]; omega) | (refine Nat.le_antisymm ?_ ?_ <;> simp only [push_nx, put_nx, del_nx] <;> omega) | fail) only [wpy, facts, wpb, cst, wpk, wpl, forall_const, implies_true, false_implies, Int.reduceLE, Int.reduceLT, Nat.reduceLeDiff, UInt8.reduceToNat, ↓reduceIte, Nat.reduceEqDiff, Nat.reduceAdd, reduceCtorEq, Int.reduceToNat, clsL, clsS, clsC, Try.f37, n250, ho]
theorem rcursor_hit {D : RD} {p : PL} {h : H} (r : RR D p h) (hr : (p.l.map ST.id).Pairwise (· < ·)) {j : Nat} (hj : j < p.l.length) {id : Int} (hid : p.l[j].id = id) (on : Prop) : callW S.cfg (rowns D) 38 [.ptr D.b 0, .int .u32 id, bo on] h fun v h' => v = .int .i64 (holdE p.l[j] on) ∧ RStp D h D { p with l := p.l.set j (curS p.l[j] on) } h' := by
  refine into Try.f38 _ Try.func38 (hS.ownP _ (by decide)) rfl rfl (by kernel_rfl) (by kernel_rfl) ?_
  have hp := r.obj
  unfold rcells at hp
  obtain ⟨kb, hlv, kb1, hkb⟩ := r.open (by omega)
  have hown : rowns D kb := .inr ⟨_, _, _, hlv⟩
  rw [hlv] at hp
  have x0 : j * 8 + 8 ≤ (stc p.l).length := by rw [stc_len]; omega
  obtain ⟨y0, y1, y4, y5, y6, y7⟩ := eight_at (stc_at hj)
  simp +contextual (disch := first | (simp only [facts, clsL, clsS, clsC, isPtrD]; done) | omega | (simp only [push_nx, put_nx, del_nx]; omega) | (refine Nat.le_antisymm ?_ ?_ <;> simp only [push_nx, put_nx, del_nx] <;> omega) | fail) only [wpy, facts, wpb, cst, wpk, wpl, forall_const, implies_true, false_implies, Int.reduceLE, Int.reduceLT, Nat.reduceLeDiff, UInt8.reduceToNat, ↓reduceIte, Nat.reduceEqDiff, Nat.reduceAdd, reduceCtorEq, Int.reduceToNat, clsL, clsS, clsC, Try.f38]
  refine callF_exact (place_hit hS r hr hj hid) ?_
  by_cases ho : on
  · by_cases hz : p.l[j].conn = 0
    · have e1 : holdE p.l[j] on = 2 := by unfold holdE; rw [if_pos ⟨ho, hz⟩]
      have e2 : curS p.l[j] on = p.l[j] := by unfold curS; rw [e1, if_neg (by decide)]
      rw [e1, e2, rset_self p hj]
      simp +contextual (disch := first | (simp only [facts, clsL, clsS, clsC, isPtrD]; done) | omega | (simp only [push_nx, put_nx, del_nx]; omega) | (refine Nat.le_antisymm ?_ ?_ <;> simp only [push_nx, put_nx, del_nx] <;> omega) | fail) only [wpy, facts, wpb, cst, wpk, wpl, forall_const, implies_true, false_implies, Int.reduceLE, Int.reduceLT, Nat.reduceLeDiff, UInt8.reduceToNat, ↓reduceIte, Nat.reduceEqDiff, Nat.reduceAdd, reduceCtorEq, Int.reduceToNat, clsL, clsS, clsC, Try.f38, ho, hz, hp, hkb, y4, hj, n002]
      exact RStp.refl r
    · have e1 : holdE p.l[j] on = 0 := by unfold holdE; rw [if_neg fun q => hz q.2]
      have e2 : curS p.l[j] on = { p.l[j] with cur := on } := by unfold curS; rw [e1, if_pos rfl]
      rw [e1, e2]
      simp +contextual (disch := first | (simp only [facts, clsL, clsS, clsC, isPtrD]; done) | omega | (simp only [push_nx, put_nx, del_nx]; omega) | (refine Nat.le_antisymm ?_ ?_ <;> simp only [push_nx, put_nx, del_nx] <;> omega) | fail) only [wpy, facts, wpb, cst, wpk, wpl, forall_const, implies_true, false_implies, Int.reduceLE, Int.reduceLT, Nat.reduceLeDiff, UInt8.reduceToNat, ↓reduceIte, Nat.reduceEqDiff, Nat.reduceAdd, reduceCtorEq, Int.reduceToNat, clsL, clsS, clsC, Try.f38, ho, hz, hp, hkb, y4, hj, x0]
      exact ⟨.inr (.inr hown), RStp.cell (s := { p.l[j] with cur := True }) r hlv hj (by decide) rfl⟩
  · have e1 : holdE p.l[j] on = 0 := by unfold holdE; rw [if_neg fun q => ho q.1]
    have e2 : curS p.l[j] on = { p.l[j] with cur := on } := by unfold curS; rw [e1, if_pos rfl]
    rw [e1, e2]
    simp +contextual (disch := first | (simp only [facts, clsL, clsS, clsC, isPtrD]; done) | omega | (simp only [push_nx, put_nx, del_nx]; omega) | (refine Nat.le_antisymm ?_ ?_ <;> simp only [push_nx, put_nx, del_nx] <;> omega) | fail) only [wpy, facts, wpb, cst, wpk, wpl, forall_const, implies_true, false_implies, Int.reduceLE, Int.reduceLT, Nat.reduceLeDiff, UInt8.reduceToNat, ↓reduceIte, Nat.reduceEqDiff, Nat.reduceAdd, reduceCtorEq, Int.reduceToNat, clsL, clsS, clsC, Try.f38, ho, hp, hkb, y4, hj, x0]
    exact ⟨.inr (.inr hown), RStp.cell (s := { p.l[j] with cur := False }) r hlv hj (by decide) rfl⟩
theorem rcursor_miss {D : RD} {p : PL} {h : H} (r : RR D p h) {id : Int} (hn : ∀ s ∈ p.l, s.id ≠ id) (on : Prop) : Exact S.cfg 38 [.ptr D.b 0, .int .u32 id, bo on] h (.int .i64 250) := by
  refine into Try.f38 _ Try.func38 (hS.ownP _ (by decide)) rfl rfl (by kernel_rfl) (by kernel_rfl) ?_
  simp +contextual (disch := first | (simp only [facts, clsL, clsS, clsC, isPtrD]; done) | omega | (simp only [push_nx, put_nx, del_nx]; omega) | (refine Nat.le_antisymm ?_ ?_ <;> simp only [push_nx, put_nx, del_nx] <;> omega) | fail) only [wpy, facts, wpb, cst, wpk, wpl, forall_const, implies_true, false_implies, Int.reduceLE, Int.reduceLT, Nat.reduceLeDiff, UInt8.reduceToNat, ↓reduceIte, Nat.reduceEqDiff, Nat.reduceAdd, reduceCtorEq, Int.reduceToNat, clsL, clsS, clsC, Try.f38]
  refine callF_exact (place_miss hS r hn) ?_
  by_cases ho : on
  · simp +contextual (disch := first | (simp only [facts, clsL, clsS, clsC, isPtrD]; done) | omega | (simp only [push_nx, put_nx, del_nx]; omega) | (refine Nat.le_antisymm ?_ ?_ <;> simp only [push_nx, put_nx, del_nx] <;> omega) | fail) only [wpy, facts, wpb, cst, wpk, wpl, forall_const, implies_true, false_implies, Int.reduceLE, Int.reduceLT, Nat.reduceLeDiff, UInt8.reduceToNat, ↓reduceIte, Nat.reduceEqDiff, Nat.reduceAdd, reduceCtorEq, Int.reduceToNat, clsL, clsS, clsC, Try.f38, n250, ho]
  · simp +contextual (disch := first | (simp only [facts, clsL, clsS, clsC, isPtrD]; done) | omega | (simp only [push_nx, put_nx, del_nx]; omega) | (refine Nat.le_antisymm ?_ ?_ <;> simp only [push_nx, put_nx, del_nx] <;> omega) | fail) only [wpy, facts, wpb, cst, wpk, wpl, forall_const, implies_true, false_implies, Int.reduceLE, Int.reduceLT, Nat.reduceLeDiff, UInt8.reduceToNat, ↓reduceIte, Nat.reduceEqDiff, Nat.reduceAdd, reduceCtorEq, Int.reduceToNat, clsL, clsS, clsC, Try.f38, n250, ho]
end
noncomputable section
theorem RStp.obj {D : RD} {p : PL} {h h4 : H} (r : RR D p h) {lv : V} {p' : PL} (hx : h.nx ≤ h4.nx) (hs : ∀ k, k < h.nx → ¬ rowns D k → h4.get k = h.get k) (hL : Lst 0 h4 lv (stc p'.l) 31 8) (hf : p'.l.length ≤ 1000) (hn : ∀ k o n m, lv = .slice k o n m → k ≠ D.b ∧ (rowns D k ∨ h.nx ≤ k)) :
    RStp D h ⟨D.b, lv⟩ p' (h4.put D.b (.cells (rcells ⟨D.b, lv⟩ p') 65 false)) where
  rr := {
    obj := put_eq rfl
    row := Lst.keep hL (Nat.le_refl _) fun k o n m q => put_ne (hn k o n m q).1
    lt := Nat.lt_of_lt_of_le r.lt hx
    few := hf }
  nx := hx
  same := fun k hk ho => by rw [put_ne fun e => ho (.inl e), hs k hk ho]
  own := fun k q => by
    rcases q with q | ⟨o, n, m, q⟩
    · exact .inl (.inl q)
    · exact (hn k o n m q).2
  b := rfl
open Classical in
def unbQ (conn : Int) (s : ST) : ST := if s.conn = conn ∧ conn ≠ 0 then unbS s else s
theorem lst_cell {n0 e sz : Nat} {h : H} {v : V} {cells : List V} (hl : Lst n0 h v cells e sz) : v.cells = [v] ∧ v.isCell = true := by
  rcases hl with ha | ⟨_, b, _, _, rfl, _⟩
  · exact ha.cell
  · exact ⟨rfl, rfl⟩
theorem row_src {n0 : Nat} {h : H} {v : V} {l : List ST} (hl : Lst n0 h v (stc l) 31 8) : Src h v (stc l) 8 := by
  rcases hl with (⟨h0, h1⟩ | ⟨b, n, _, hb, h3, _, h5, h6⟩) | ⟨h1, b, _, hb, h3, h5⟩
  · exact .inl ⟨h0, h1⟩
  · exact .inr ⟨b, 0, n, n, h3, hb, by rw [h5]; exact rdC_all h6, h6⟩
  · exact .inr ⟨b, 0, 0, 0, h3, hb, by rw [h5, h1]; rfl, by rw [h1]; rfl⟩
theorem row_acc {n0 : Nat} {h : H} {v : V} {l : List ST} (hl : Lst n0 h v (stc l) 31 8) (h0 : 0 < l.length) : Acc n0 h v (stc l) 31 8 := by
  rcases hl with ha | ⟨h1, _⟩
  · exact ha
  · have := stc_len l
    rw [h1] at this
    simp at this
    omega
theorem put_four {l : List ST} {j : Nat} (hj : j < l.length) : listPut (listPut (listPut (listPut (stc l) (j * 8 + 4) [.int .i64 0]) (j * 8 + 5) [.int .u32 0]) (j * 8 + 6) [bo False]) (j * 8 + 7) [bo False] = stc (l.set j (unbS l[j])) := by
  rw [put_two hj 0 0]
  have hj2 : ∀ s : ST, j < (l.set j s).length := fun s => by rw [List.length_set]; exact hj
  rw [stc_put (s := { l[j] with conn := 0, back := 0, long := False }) (hj2 _) (by decide) (by rw [List.getElem_set_self]; rfl), List.set_set,
    stc_put (s := unbS l[j]) (hj2 _) (by decide) (by rw [List.getElem_set_self]; rfl), List.set_set]
theorem unb_next (l : List ST) (conn : Int) {j : Nat} (hj : j < l.length) : ((l.take j).map (unbQ conn) ++ l.drop j).set j (unbQ conn l[j]) = (l.take (j + 1)).map (unbQ conn) ++ l.drop (j + 1) := by
  rw [List.drop_eq_getElem_cons hj, List.take_succ_eq_append_getElem hj, List.map_append, List.set_append_right _ _ (by rw [List.length_map, List.length_take]; omega)]
  have e : j - ((l.take j).map (unbQ conn)).length = 0 := by rw [List.length_map, List.length_take]; omega
  rw [e, List.set_cons_zero, List.append_assoc]
  rfl
theorem unb_at (l : List ST) (conn : Int) {j : Nat} (hj : j < l.length) (hj' : j < ((l.take j).map (unbQ conn) ++ l.drop j).length) : ((l.take j).map (unbQ conn) ++ l.drop j)[j] = l[j] := by
  rw [List.getElem_append_right (by rw [List.length_map, List.length_take]; omega), List.getElem_drop]
  congr 1
  rw [List.length_map, List.length_take]; omega
def RpI (D : RD) (p : PL) (h0 : H) (m : Nat) (env : Env) (h' : H) : Prop := ∃ j : Nat, m = p.l.length - j ∧ j ≤ p.l.length ∧ env 0 = .ptr D.b 0 ∧ env 3 = .int .i64 j ∧ Ext h0 h' ∧ ∀ i (hi : i < p.l.length), i < j → ¬ p.l[i].pins
def RuI (D : RD) (p : PL) (conn : Int) (h0 : H) (m : Nat) (env : Env) (h' : H) : Prop := ∃ j : Nat, m = p.l.length - j ∧ j ≤ p.l.length ∧ env 0 = .ptr D.b 0 ∧ env 1 = .int .i64 conn ∧ env 4 = .int .i64 j ∧ RStp D h0 D ⟨p.last, (p.l.take j).map (unbQ conn) ++ p.l.drop j⟩ h'
variable {S : Set0} (hS : StdP S)
include hS
theorem rnew_spec (h : H) : callW S.cfg nil1 23 [] h fun v h' => ∃ D, v = .ptr D.b 0 ∧ RR D ⟨0, []⟩ h' ∧ Ext h h' ∧ ∀ k, rowns D k → h.nx ≤ k := by
  refine into Try.f23 _ Try.func23 (hS.ownP _ (by decide)) rfl rfl (by kernel_rfl) (by kernel_rfl) ?_
  simp +contextual (disch := first | (simp only [facts, clsL, clsS, clsC, isPtrD]; done) | omega | (simp only [push_nx, put_nx, del_nx]; omega) | (refine Nat.le_antisymm ?_ ?_ <;> simp only [push_nx, put_nx, del_nx] <;> omega) | fail) only [wpy, facts, wpb, cst, wpk, wpl, forall_const, implies_true, false_implies, Int.reduceLE, Int.reduceLT, Nat.reduceLeDiff, UInt8.reduceToNat, ↓reduceIte, Nat.reduceEqDiff, Nat.reduceAdd, reduceCtorEq, Int.reduceToNat, clsL, clsS, clsC, Try.f23]
  refine ⟨⟨h.nx, .nilslice⟩, rfl, ⟨push_eq rfl, .inl (.inl ⟨rfl, rfl⟩), Nat.lt_succ_self _, Nat.zero_le _⟩, (Ext.refl h).push _, fun k q => ?_⟩
  rcases q with rfl | ⟨o, n, m, q⟩
  · exact Nat.le_refl _
  · cases q
theorem rclear_spec {D : RD} {p : PL} {h : H} (r : RR D p h) : callW S.cfg (rowns D) 41 [.ptr D.b 0] h fun _ h' => RStp D h ⟨D.b, .nilslice⟩ ⟨p.last, []⟩ h' := by
  refine into Try.f41 _ Try.func41 (hS.ownP _ (by decide)) rfl rfl (by kernel_rfl) (by kernel_rfl) ?_
  have hp := r.obj
  unfold rcells at hp
  simp +contextual (disch := first | (simp only [facts, clsL, clsS, clsC, isPtrD]; done) | omega | (simp only [push_nx, put_nx, del_nx]; omega) | (refine Nat.le_antisymm ?_ ?_ <;> simp only [push_nx, put_nx, del_nx] <;> omega) | fail) only [wpy, facts, wpb, cst, wpk, wpl, forall_const, implies_true, false_implies, Int.reduceLE, Int.reduceLT, Nat.reduceLeDiff, UInt8.reduceToNat, ↓reduceIte, Nat.reduceEqDiff, Nat.reduceAdd, reduceCtorEq, Int.reduceToNat, clsL, clsS, clsC, Try.f41]
  refine callF_exact (rnone_spec hS r) ?_
  simp +contextual (disch := first | (simp only [facts, clsL, clsS, clsC, isPtrD]; done) | omega | (simp only [push_nx, put_nx, del_nx]; omega) | (refine Nat.le_antisymm ?_ ?_ <;> simp only [push_nx, put_nx, del_nx] <;> omega) | fail) only [wpy, facts, wpb, cst, wpk, wpl, forall_const, implies_true, false_implies, Int.reduceLE, Int.reduceLT, Nat.reduceLeDiff, UInt8.reduceToNat, ↓reduceIte, Nat.reduceEqDiff, Nat.reduceAdd, reduceCtorEq, Int.reduceToNat, clsL, clsS, clsC, Try.f41, hp]
  exact ⟨.inr (.inr (.inl rfl)), RStp.obj (p' := ⟨p.last, []⟩) r (Nat.le_refl _) (fun _ _ _ => rfl) (.inl (.inl ⟨rfl, rfl⟩)) (Nat.zero_le _) fun k o n m q => by cases q⟩
theorem rall_spec {D : RD} {p : PL} {h : H} (r : RR D p h) : Pure S.cfg 27 [.ptr D.b 0] h fun v h' => Lst h.nx h' v (stc p.l) 31 8 := by
  refine into Try.f27 _ Try.func27 (hS.ownP _ (by decide)) rfl rfl (by kernel_rfl) (by kernel_rfl) ?_
  have hp := r.obj
  unfold rcells at hp
  simp +contextual (disch := first | (simp only [facts, clsL, clsS, clsC, isPtrD]; done) | omega | (simp only [push_nx, put_nx, del_nx]; omega) | (refine Nat.le_antisymm ?_ ?_ <;> simp only [push_nx, put_nx, del_nx] <;> omega) | fail) only [wpy, facts, wpb, cst, wpk, wpl, forall_const, implies_true, false_implies, Int.reduceLE, Int.reduceLT, Nat.reduceLeDiff, UInt8.reduceToNat, ↓reduceIte, Nat.reduceEqDiff, Nat.reduceAdd, reduceCtorEq, Int.reduceToNat, clsL, clsS, clsC, Try.f27]
  refine callF_exact (rnone_spec hS r) ?_
  have hpl := stc_len p.l
  have hf := r.few
  simp +contextual (disch := first | (simp only [facts, clsL, clsS, clsC, isPtrD]; done) | omega | (simp only [push_nx, put_nx, del_nx]; omega) | (refine Nat.le_antisymm ?_ ?_ <;> simp only [push_nx, put_nx, del_nx] <;> omega) | fail) only [wpy, facts, wpb, cst, wpk, wpl, forall_const, implies_true, false_implies, Int.reduceLE, Int.reduceLT, Nat.reduceLeDiff, UInt8.reduceToNat, ↓reduceIte, Nat.reduceEqDiff, Nat.reduceAdd, reduceCtorEq, Int.reduceToNat, clsL, clsS, clsC, Try.f27, hp]
  refine append_lst (n0 := h.nx) (sv := .nilslice) (xv := D.lv) (cells := []) (new := stc p.l) (by simp +contextual (disch := first | (simp only [facts, clsL, clsS, clsC, isPtrD]; done) | omega | (simp only [push_nx, put_nx, del_nx]; omega) | (refine Nat.le_antisymm ?_ ?_ <;> simp only [push_nx, put_nx, del_nx] <;> omega) | fail) only [wpy, facts, wpb, cst, wpk, wpl, forall_const, implies_true, false_implies, Int.reduceLE, Int.reduceLT, Nat.reduceLeDiff, UInt8.reduceToNat, ↓reduceIte, Nat.reduceEqDiff, Nat.reduceAdd, reduceCtorEq, Int.reduceToNat, clsL, clsS, clsC]) (by simp +contextual (disch := first | (simp only [facts, clsL, clsS, clsC, isPtrD]; done) | omega | (simp only [push_nx, put_nx, del_nx]; omega) | (refine Nat.le_antisymm ?_ ?_ <;> simp only [push_nx, put_nx, del_nx] <;> omega) | fail) only [wpy, facts, wpb, cst, wpk, wpl, forall_const, implies_true, false_implies, Int.reduceLE, Int.reduceLT, Nat.reduceLeDiff, UInt8.reduceToNat, ↓reduceIte, Nat.reduceEqDiff, Nat.reduceAdd, reduceCtorEq, Int.reduceToNat, clsL, clsS, clsC]) ap28 ⟨.slice 31, by kernel_rfl, rfl⟩ (.inl (.inl ⟨rfl, rfl⟩)) (row_src r.row) (stc_isCell _) (by simp only [List.length_nil]; omega) (by decide) (fun k hk => by rw [fresh_def]; exact .inl hk) (Nat.le_refl _) ?_
  intro v2 h2 L2 hl2 hn2 hk2 hf2 hL2
  simp +contextual (disch := first | (simp only [facts, clsL, clsS, clsC, isPtrD]; done) | omega | (simp only [push_nx, put_nx, del_nx]; omega) | (refine Nat.le_antisymm ?_ ?_ <;> simp only [push_nx, put_nx, del_nx] <;> omega) | fail) only [wpy, facts, wpb, cst, wpk, wpl, forall_const, implies_true, false_implies, Int.reduceLE, Int.reduceLT, Nat.reduceLeDiff, UInt8.reduceToNat, ↓reduceIte, Nat.reduceEqDiff, Nat.reduceAdd, reduceCtorEq, Int.reduceToNat, clsL, clsS, clsC, Try.f27]
  exact ⟨⟨hn2, hf2⟩, hl2⟩
theorem rclose_hit {D : RD} {p : PL} {h : H} (r : RR D p h) (hr : (p.l.map ST.id).Pairwise (· < ·)) {j : Nat} (hj : j < p.l.length) {id : Int} (hid : p.l[j].id = id) : callW S.cfg (rowns D) 39 [.ptr D.b 0, .int .u32 id] h fun v h' => v = .int .i64 0 ∧ ∃ lv, RStp D h ⟨D.b, lv⟩ ⟨p.last, p.l.eraseIdx j⟩ h' := by
  refine into Try.f39 _ Try.func39 (hS.ownP _ (by decide)) rfl rfl (by kernel_rfl) (by kernel_rfl) ?_
  have hp := r.obj
  unfold rcells at hp
  have hacc := row_acc r.row (by omega)
  have hf := r.few
  have hb1 := r.lt
  have hpl := stc_len p.l
  simp +contextual (disch := first | (simp only [facts, clsL, clsS, clsC, isPtrD]; done) | omega | (simp only [push_nx, put_nx, del_nx]; omega) | (refine Nat.le_antisymm ?_ ?_ <;> simp only [push_nx, put_nx, del_nx] <;> omega) | fail) only [wpy, facts, wpb, cst, wpk, wpl, forall_const, implies_true, false_implies, Int.reduceLE, Int.reduceLT, Nat.reduceLeDiff, UInt8.reduceToNat, ↓reduceIte, Nat.reduceEqDiff, Nat.reduceAdd, reduceCtorEq, Int.reduceToNat, clsL, clsS, clsC, Try.f39]
  refine callF_exact (place_hit hS r hr hj hid) ?_
  simp +contextual (disch := first | (simp only [facts, clsL, clsS, clsC, isPtrD]; done) | omega | (simp only [push_nx, put_nx, del_nx]; omega) | (refine Nat.le_antisymm ?_ ?_ <;> simp only [push_nx, put_nx, del_nx] <;> omega) | fail) only [wpy, facts, wpb, cst, wpk, wpl, forall_const, implies_true, false_implies, Int.reduceLE, Int.reduceLT, Nat.reduceLeDiff, UInt8.reduceToNat, ↓reduceIte, Nat.reduceEqDiff, Nat.reduceAdd, reduceCtorEq, Int.reduceToNat, clsL, clsS, clsC, Try.f39, hp]
  refine slice_take (e := 31) (sz := 8) (len := p.l.length) (k := j) (lv := D.lv) (by kernel_rfl) (by kernel_rfl) (by decide) (by simp +contextual (disch := first | (simp only [facts, clsL, clsS, clsC, isPtrD]; done) | omega | (simp only [push_nx, put_nx, del_nx]; omega) | (refine Nat.le_antisymm ?_ ?_ <;> simp only [push_nx, put_nx, del_nx] <;> omega) | fail) only [wpy, facts, wpb, cst, wpk, wpl, forall_const, implies_true, false_implies, Int.reduceLE, Int.reduceLT, Nat.reduceLeDiff, UInt8.reduceToNat, ↓reduceIte, Nat.reduceEqDiff, Nat.reduceAdd, reduceCtorEq, Int.reduceToNat, clsL, clsS, clsC]) (by simp +contextual (disch := first | (simp only [facts, clsL, clsS, clsC, isPtrD]; done) | omega | (simp only [push_nx, put_nx, del_nx]; omega) | (refine Nat.le_antisymm ?_ ?_ <;> simp only [push_nx, put_nx, del_nx] <;> omega) | fail) only [wpy, facts, wpb, cst, wpk, wpl, forall_const, implies_true, false_implies, Int.reduceLE, Int.reduceLT, Nat.reduceLeDiff, UInt8.reduceToNat, ↓reduceIte, Nat.reduceEqDiff, Nat.reduceAdd, reduceCtorEq, Int.reduceToNat, clsL, clsS, clsC]) hacc (stc_len _) (by omega) ?_
  intro v1 L1 hs1 hL1 hv1
  simp +contextual (disch := first | (simp only [facts, clsL, clsS, clsC, isPtrD]; done) | omega | (simp only [push_nx, put_nx, del_nx]; omega) | (refine Nat.le_antisymm ?_ ?_ <;> simp only [push_nx, put_nx, del_nx] <;> omega) | fail) only [wpy, facts, wpb, cst, wpk, wpl, forall_const, implies_true, false_implies, Int.reduceLE, Int.reduceLT, Nat.reduceLeDiff, UInt8.reduceToNat, ↓reduceIte, Nat.reduceEqDiff, Nat.reduceAdd, reduceCtorEq, Int.reduceToNat, clsL, clsS, clsC, Try.f39]
  refine append_lst (n0 := h.nx) (sv := .nilslice) (xv := v1) (cells := []) (new := (stc p.l).take (j * 8)) (by simp +contextual (disch := first | (simp only [facts, clsL, clsS, clsC, isPtrD]; done) | omega | (simp only [push_nx, put_nx, del_nx]; omega) | (refine Nat.le_antisymm ?_ ?_ <;> simp only [push_nx, put_nx, del_nx] <;> omega) | fail) only [wpy, facts, wpb, cst, wpk, wpl, forall_const, implies_true, false_implies, Int.reduceLE, Int.reduceLT, Nat.reduceLeDiff, UInt8.reduceToNat, ↓reduceIte, Nat.reduceEqDiff, Nat.reduceAdd, reduceCtorEq, Int.reduceToNat, clsL, clsS, clsC]) (by simp +contextual (disch := first | (simp only [facts, clsL, clsS, clsC, isPtrD]; done) | omega | (simp only [push_nx, put_nx, del_nx]; omega) | (refine Nat.le_antisymm ?_ ?_ <;> simp only [push_nx, put_nx, del_nx] <;> omega) | fail) only [wpy, facts, wpb, cst, wpk, wpl, forall_const, implies_true, false_implies, Int.reduceLE, Int.reduceLT, Nat.reduceLeDiff, UInt8.reduceToNat, ↓reduceIte, Nat.reduceEqDiff, Nat.reduceAdd, reduceCtorEq, Int.reduceToNat, clsL, clsS, clsC]) ap28 ⟨.slice 31, by kernel_rfl, rfl⟩ (.inl (.inl ⟨rfl, rfl⟩)) hs1 (by rw [stc_take]; exact stc_isCell _) (by rw [List.length_take]; simp only [List.length_nil]; omega) (by decide) (fun k hk => by rw [fresh_def]; exact .inl hk) (Nat.le_refl _) ?_
  intro v2 h2 L2 hl2 hn2 hk2 hf2 hL2
  have hp2 := (hf2 _ hb1).trans hp
  have hx2 : Ext h h2 := ⟨hn2, hf2⟩
  have hwi : IntKind.i64.wrap ((j : Int) + 1) = ((j + 1 : Nat) : Int) := by rw [i64_in _ (by omega)]; omega
  simp +contextual (disch := first | (simp only [facts, clsL, clsS, clsC, isPtrD]; done) | omega | (simp only [push_nx, put_nx, del_nx]; omega) | (refine Nat.le_antisymm ?_ ?_ <;> simp only [push_nx, put_nx, del_nx] <;> omega) | fail) only [wpy, facts, wpb, cst, wpk, wpl, forall_const, implies_true, false_implies, Int.reduceLE, Int.reduceLT, Nat.reduceLeDiff, UInt8.reduceToNat, ↓reduceIte, Nat.reduceEqDiff, Nat.reduceAdd, reduceCtorEq, Int.reduceToNat, clsL, clsS, clsC, Try.f39, hp2, hwi]
  refine slice_drop (e := 31) (sz := 8) (len := p.l.length) (k := j + 1) (lv := D.lv) (by kernel_rfl) (by kernel_rfl) (by decide) (by simp +contextual (disch := first | (simp only [facts, clsL, clsS, clsC, isPtrD]; done) | omega | (simp only [push_nx, put_nx, del_nx]; omega) | (refine Nat.le_antisymm ?_ ?_ <;> simp only [push_nx, put_nx, del_nx] <;> omega) | fail) only [wpy, facts, wpb, cst, wpk, wpl, forall_const, implies_true, false_implies, Int.reduceLE, Int.reduceLT, Nat.reduceLeDiff, UInt8.reduceToNat, ↓reduceIte, Nat.reduceEqDiff, Nat.reduceAdd, reduceCtorEq, Int.reduceToNat, clsL, clsS, clsC]) (by simp +contextual (disch := first | (simp only [facts, clsL, clsS, clsC, isPtrD]; done) | omega | (simp only [push_nx, put_nx, del_nx]; omega) | (refine Nat.le_antisymm ?_ ?_ <;> simp only [push_nx, put_nx, del_nx] <;> omega) | fail) only [wpy, facts, wpb, cst, wpk, wpl, forall_const, implies_true, false_implies, Int.reduceLE, Int.reduceLT, Nat.reduceLeDiff, UInt8.reduceToNat, ↓reduceIte, Nat.reduceEqDiff, Nat.reduceAdd, reduceCtorEq, Int.reduceToNat, clsL, clsS, clsC]) (hacc.ext hx2) (stc_len _) (by omega) ?_
  intro v3 L3 hs3 hL3 hv3
  simp +contextual (disch := first | (simp only [facts, clsL, clsS, clsC, isPtrD]; done) | omega | (simp only [push_nx, put_nx, del_nx]; omega) | (refine Nat.le_antisymm ?_ ?_ <;> simp only [push_nx, put_nx, del_nx] <;> omega) | fail) only [wpy, facts, wpb, cst, wpk, wpl, forall_const, implies_true, false_implies, Int.reduceLE, Int.reduceLT, Nat.reduceLeDiff, UInt8.reduceToNat, ↓reduceIte, Nat.reduceEqDiff, Nat.reduceAdd, reduceCtorEq, Int.reduceToNat, clsL, clsS, clsC, Try.f39]
  refine append_lst (n0 := h.nx) (sv := v2) (xv := v3) (cells := [] ++ (stc p.l).take (j * 8)) (new := (stc p.l).drop ((j + 1) * 8)) (by simp +contextual (disch := first | (simp only [facts, clsL, clsS, clsC, isPtrD]; done) | omega | (simp only [push_nx, put_nx, del_nx]; omega) | (refine Nat.le_antisymm ?_ ?_ <;> simp only [push_nx, put_nx, del_nx] <;> omega) | fail) only [wpy, facts, wpb, cst, wpk, wpl, forall_const, implies_true, false_implies, Int.reduceLE, Int.reduceLT, Nat.reduceLeDiff, UInt8.reduceToNat, ↓reduceIte, Nat.reduceEqDiff, Nat.reduceAdd, reduceCtorEq, Int.reduceToNat, clsL, clsS, clsC]) (by simp +contextual (disch := first | (simp only [facts, clsL, clsS, clsC, isPtrD]; done) | omega | (simp only [push_nx, put_nx, del_nx]; omega) | (refine Nat.le_antisymm ?_ ?_ <;> simp only [push_nx, put_nx, del_nx] <;> omega) | fail) only [wpy, facts, wpb, cst, wpk, wpl, forall_const, implies_true, false_implies, Int.reduceLE, Int.reduceLT, Nat.reduceLeDiff, UInt8.reduceToNat, ↓reduceIte, Nat.reduceEqDiff, Nat.reduceAdd, reduceCtorEq, Int.reduceToNat, clsL, clsS, clsC]) ap28 ⟨.slice 31, by kernel_rfl, rfl⟩ hl2 hs3 (by rw [stc_drop]; exact stc_isCell _) (by rw [List.length_append, List.length_take, List.length_drop]; simp only [List.length_nil]; omega) (by decide) (fun k hk => by rw [fresh_def]; exact .inl hk) hn2 ?_
  intro v4 h4 L4 hl4 hn4 hk4 hf4 hL4
  have hx4 : Ext h h4 := ⟨by omega, fun k hk => hf4 k hk ▸ hf2 k hk⟩
  have hp4 := (hx4.2 _ hb1).trans hp
  obtain ⟨c1, c2⟩ := lst_cell hl4
  simp +contextual (disch := first | (simp only [facts, clsL, clsS, clsC, isPtrD]; done) | omega | (simp only [push_nx, put_nx, del_nx]; omega) | (refine Nat.le_antisymm ?_ ?_ <;> simp only [push_nx, put_nx, del_nx] <;> omega) | fail) only [wpy, facts, wpb, cst, wpk, wpl, forall_const, implies_true, false_implies, Int.reduceLE, Int.reduceLT, Nat.reduceLeDiff, UInt8.reduceToNat, ↓reduceIte, Nat.reduceEqDiff, Nat.reduceAdd, reduceCtorEq, Int.reduceToNat, clsL, clsS, clsC, Try.f39, hp4, c1, c2]
  have e : ([] ++ (stc p.l).take (j * 8)) ++ (stc p.l).drop ((j + 1) * 8) = stc (p.l.eraseIdx j) := by
    rw [List.nil_append, stc_take, stc_drop, ← stc_app, List.eraseIdx_eq_take_drop_succ]
  rw [e] at hl4
  refine ⟨.inr (.inr (.inl rfl)), v4, ?_⟩
  exact RStp.obj (h4 := h4) (p' := ⟨p.last, p.l.eraseIdx j⟩) r hx4.1 (fun k hk _ => hx4.2 k hk) (Lst.mono' hl4 (Nat.zero_le _)) (Nat.le_trans (List.length_eraseIdx_le ..) hf) (fun k o n m q => by
    have := (Lst.lt hl4 q).1
    exact ⟨by omega, .inr this⟩)
theorem rclose_miss {D : RD} {p : PL} {h : H} (r : RR D p h) {id : Int} (hn : ∀ s ∈ p.l, s.id ≠ id) : Exact S.cfg 39 [.ptr D.b 0, .int .u32 id] h (.int .i64 250) := by
  refine into Try.f39 _ Try.func39 (hS.ownP _ (by decide)) rfl rfl (by kernel_rfl) (by kernel_rfl) ?_
  simp +contextual (disch := first | (simp only [facts, clsL, clsS, clsC, isPtrD]; done) | omega | (simp only [push_nx, put_nx, del_nx]; omega) | (refine Nat.le_antisymm ?_ ?_ <;> simp only [push_nx, put_nx, del_nx] <;> omega) | fail) only [wpy, facts, wpb, cst, wpk, wpl, forall_const, implies_true, false_implies, Int.reduceLE, Int.reduceLT, Nat.reduceLeDiff, UInt8.reduceToNat, ↓reduceIte, Nat.reduceEqDiff, Nat.reduceAdd, reduceCtorEq, Int.reduceToNat, clsL, clsS, clsC, Try.f39]
  refine callF_exact (place_miss hS r hn) ?_
  simp +contextual (disch := first | (simp only [facts, clsL, clsS, clsC, isPtrD]; done) | omega | (simp only [push_nx, put_nx, del_nx]; omega) | (refine Nat.le_antisymm ?_ ?_ <;> simp only [push_nx, put_nx, del_nx] <;> omega) | fail) only [wpy, facts, wpb, cst, wpk, wpl, forall_const, implies_true, false_implies, Int.reduceLE, Int.reduceLT, Nat.reduceLeDiff, UInt8.reduceToNat, ↓reduceIte, Nat.reduceEqDiff, Nat.reduceAdd, reduceCtorEq, Int.reduceToNat, clsL, clsS, clsC, Try.f39, n250]
theorem rallpins_spec {D : RD} {p : PL} {h : H} (r : RR D p h) : Pure S.cfg 28 [.ptr D.b 0] h fun v _ => v = bo p.pins := by
  refine into Try.f28 _ Try.func28 (hS.ownP _ (by decide)) rfl rfl (by kernel_rfl) (by kernel_rfl) ?_
  have hf := r.few
  simp +contextual (disch := first | (simp only [facts, clsL, clsS, clsC, isPtrD]; done) | omega | (simp only [push_nx, put_nx, del_nx]; omega) | (refine Nat.le_antisymm ?_ ?_ <;> simp only [push_nx, put_nx, del_nx] <;> omega) | fail) only [wpy, facts, wpb, cst, wpk, wpl, forall_const, implies_true, false_implies, Int.reduceLE, Int.reduceLT, Nat.reduceLeDiff, UInt8.reduceToNat, ↓reduceIte, Nat.reduceEqDiff, Nat.reduceAdd, reduceCtorEq, Int.reduceToNat, clsL, clsS, clsC, Try.f28]
  refine callF_exact (rnone_spec hS r) ?_
  simp +contextual (disch := first | (simp only [facts, clsL, clsS, clsC, isPtrD]; done) | omega | (simp only [push_nx, put_nx, del_nx]; omega) | (refine Nat.le_antisymm ?_ ?_ <;> simp only [push_nx, put_nx, del_nx] <;> omega) | fail) only [wpy, facts, wpb, cst, wpk, wpl, forall_const, implies_true, false_implies, Int.reduceLE, Int.reduceLT, Nat.reduceLeDiff, UInt8.reduceToNat, ↓reduceIte, Nat.reduceEqDiff, Nat.reduceAdd, reduceCtorEq, Int.reduceToNat, clsL, clsS, clsC, Try.f28]
  refine run_loop (RpI D p h) p.l.length ⟨0, by simp +contextual (disch := first | (simp only [facts, clsL, clsS, clsC, isPtrD]; done) | omega | (simp only [push_nx, put_nx, del_nx]; omega) | (refine Nat.le_antisymm ?_ ?_ <;> simp only [push_nx, put_nx, del_nx] <;> omega) | fail) only [wpy, facts, wpb, cst, wpk, wpl, forall_const, implies_true, false_implies, Int.reduceLE, Int.reduceLT, Nat.reduceLeDiff, UInt8.reduceToNat, ↓reduceIte, Nat.reduceEqDiff, Nat.reduceAdd, reduceCtorEq, Int.reduceToNat, clsL, clsS, clsC]; exact ⟨(Nat.sub_zero _).symm, Ext.refl _, fun i hi q => absurd q (Nat.not_lt_zero _)⟩⟩ ?_
  rintro m env h2 ⟨j, rfl, hj, e0, e3, hx2, hno⟩
  have r2 := r.ext hx2
  have hp := r2.obj
  unfold rcells at hp
  have hlen := r2.len
  by_cases hlt : j < p.l.length
  · obtain ⟨kb, hlv, kb1, hkb⟩ := r2.open (by omega)
    rw [hlv] at hp hlen
    have x1 := stc_at hlt
    have x0 : j * 8 + 8 ≤ (stc p.l).length := by rw [stc_len]; omega
    have hwj : IntKind.i64.wrap ((j : Int) + 1) = ((j + 1 : Nat) : Int) := by rw [i64_in _ (by omega)]; omega
    simp +contextual (disch := first | (simp only [facts, clsL, clsS, clsC, isPtrD]; done) | omega | (simp only [push_nx, put_nx, del_nx]; omega) | (refine Nat.le_antisymm ?_ ?_ <;> simp only [push_nx, put_nx, del_nx] <;> omega) | fail) only [wpy, facts, wpb, cst, wpk, wpl, forall_const, implies_true, false_implies, Int.reduceLE, Int.reduceLT, Nat.reduceLeDiff, UInt8.reduceToNat, ↓reduceIte, Nat.reduceEqDiff, Nat.reduceAdd, reduceCtorEq, Int.reduceToNat, clsL, clsS, clsC, Try.f28, e0, e3, hp, hlen, hlt, hkb, x0, x1]
    refine callF_pure (rpins_spec hS p.l[j] h2) ?_
    rintro v h3 hx3 rfl
    by_cases hz : p.l[j].pins
    · simp +contextual (disch := first | (simp only [facts, clsL, clsS, clsC, isPtrD]; done) | omega | (simp only [push_nx, put_nx, del_nx]; omega) | (refine Nat.le_antisymm ?_ ?_ <;> simp only [push_nx, put_nx, del_nx] <;> omega) | fail) only [wpy, facts, wpb, cst, wpk, wpl, forall_const, implies_true, false_implies, Int.reduceLE, Int.reduceLT, Nat.reduceLeDiff, UInt8.reduceToNat, ↓reduceIte, Nat.reduceEqDiff, Nat.reduceAdd, reduceCtorEq, Int.reduceToNat, clsL, clsS, clsC, Try.f28, e0, e3, hz]
      exact ⟨hx2.trans hx3, congrArg bo (propext ⟨fun _ => ⟨_, List.getElem_mem hlt, hz⟩, fun _ => trivial⟩)⟩
    · simp +contextual (disch := first | (simp only [facts, clsL, clsS, clsC, isPtrD]; done) | omega | (simp only [push_nx, put_nx, del_nx]; omega) | (refine Nat.le_antisymm ?_ ?_ <;> simp only [push_nx, put_nx, del_nx] <;> omega) | fail) only [wpy, facts, wpb, cst, wpk, wpl, forall_const, implies_true, false_implies, Int.reduceLE, Int.reduceLT, Nat.reduceLeDiff, UInt8.reduceToNat, ↓reduceIte, Nat.reduceEqDiff, Nat.reduceAdd, reduceCtorEq, Int.reduceToNat, clsL, clsS, clsC, Try.f28, e0, e3, hz]
      refine ⟨p.l.length - (j + 1), by omega, j + 1, rfl, hlt, by simp +contextual (disch := first | (simp only [facts, clsL, clsS, clsC, isPtrD]; done) | omega | (simp only [push_nx, put_nx, del_nx]; omega) | (refine Nat.le_antisymm ?_ ?_ <;> simp only [push_nx, put_nx, del_nx] <;> omega) | fail) only [wpy, facts, wpb, cst, wpk, wpl, forall_const, implies_true, false_implies, Int.reduceLE, Int.reduceLT, Nat.reduceLeDiff, UInt8.reduceToNat, ↓reduceIte, Nat.reduceEqDiff, Nat.reduceAdd, reduceCtorEq, Int.reduceToNat, clsL, clsS, clsC, e0], by simp +contextual (disch := first | (simp only [facts, clsL, clsS, clsC, isPtrD]; done) | omega | (simp only [push_nx, put_nx, del_nx]; omega) | (refine Nat.le_antisymm ?_ ?_ <;> simp only [push_nx, put_nx, del_nx] <;> omega) | fail) only [wpy, facts, wpb, cst, wpk, wpl, forall_const, implies_true, false_implies, Int.reduceLE, Int.reduceLT, Nat.reduceLeDiff, UInt8.reduceToNat, ↓reduceIte, Nat.reduceEqDiff, Nat.reduceAdd, reduceCtorEq, Int.reduceToNat, clsL, clsS, clsC, e3, hwj], hx2.trans hx3, fun i hi w => ?_⟩
      by_cases e : i = j
      · subst e; exact hz
      · exact hno i hi (by omega)
  · simp +contextual (disch := first | (simp only [facts, clsL, clsS, clsC, isPtrD]; done) | omega | (simp only [push_nx, put_nx, del_nx]; omega) | (refine Nat.le_antisymm ?_ ?_ <;> simp only [push_nx, put_nx, del_nx] <;> omega) | fail) only [wpy, facts, wpb, cst, wpk, wpl, forall_const, implies_true, false_implies, Int.reduceLE, Int.reduceLT, Nat.reduceLeDiff, UInt8.reduceToNat, ↓reduceIte, Nat.reduceEqDiff, Nat.reduceAdd, reduceCtorEq, Int.reduceToNat, clsL, clsS, clsC, Try.f28, e0, e3, hp, hlen, hlt]
    refine ⟨hx2, congrArg bo (propext ⟨fun q => q.elim, fun ⟨s, hs, q⟩ => ?_⟩)⟩
    obtain ⟨i, hi, rfl⟩ := List.mem_iff_getElem.1 hs
    exact hno i hi (by omega) q
theorem runbind_spec {D : RD} {p : PL} {h : H} (r : RR D p h) (conn : Int) : callW S.cfg (rowns D) 40 [.ptr D.b 0, .int .i64 conn] h fun _ h' => RStp D h D ⟨p.last, p.l.map (unbQ conn)⟩ h' := by
  refine into Try.f40 _ Try.func40 (hS.ownP _ (by decide)) rfl rfl (by kernel_rfl) (by kernel_rfl) ?_
  have hf := r.few
  simp +contextual (disch := first | (simp only [facts, clsL, clsS, clsC, isPtrD]; done) | omega | (simp only [push_nx, put_nx, del_nx]; omega) | (refine Nat.le_antisymm ?_ ?_ <;> simp only [push_nx, put_nx, del_nx] <;> omega) | fail) only [wpy, facts, wpb, cst, wpk, wpl, forall_const, implies_true, false_implies, Int.reduceLE, Int.reduceLT, Nat.reduceLeDiff, UInt8.reduceToNat, ↓reduceIte, Nat.reduceEqDiff, Nat.reduceAdd, reduceCtorEq, Int.reduceToNat, clsL, clsS, clsC, Try.f40]
  refine callF_exact (rnone_spec hS r) ?_
  simp +contextual (disch := first | (simp only [facts, clsL, clsS, clsC, isPtrD]; done) | omega | (simp only [push_nx, put_nx, del_nx]; omega) | (refine Nat.le_antisymm ?_ ?_ <;> simp only [push_nx, put_nx, del_nx] <;> omega) | fail) only [wpy, facts, wpb, cst, wpk, wpl, forall_const, implies_true, false_implies, Int.reduceLE, Int.reduceLT, Nat.reduceLeDiff, UInt8.reduceToNat, ↓reduceIte, Nat.reduceEqDiff, Nat.reduceAdd, reduceCtorEq, Int.reduceToNat, clsL, clsS, clsC, Try.f40]
  refine run_loop (RuI D p conn h) p.l.length ⟨0, (Nat.sub_zero _).symm, Nat.zero_le _, by simp +contextual (disch := first | (simp only [facts, clsL, clsS, clsC, isPtrD]; done) | omega | (simp only [push_nx, put_nx, del_nx]; omega) | (refine Nat.le_antisymm ?_ ?_ <;> simp only [push_nx, put_nx, del_nx] <;> omega) | fail) only [wpy, facts, wpb, cst, wpk, wpl, forall_const, implies_true, false_implies, Int.reduceLE, Int.reduceLT, Nat.reduceLeDiff, UInt8.reduceToNat, ↓reduceIte, Nat.reduceEqDiff, Nat.reduceAdd, reduceCtorEq, Int.reduceToNat, clsL, clsS, clsC], by simp +contextual (disch := first | (simp only [facts, clsL, clsS, clsC, isPtrD]; done) | omega | (simp only [push_nx, put_nx, del_nx]; omega) | (refine Nat.le_antisymm ?_ ?_ <;> simp only [push_nx, put_nx, del_nx] <;> omega) | fail) only [wpy, facts, wpb, cst, wpk, wpl, forall_const, implies_true, false_implies, Int.reduceLE, Int.reduceLT, Nat.reduceLeDiff, UInt8.reduceToNat, ↓reduceIte, Nat.reduceEqDiff, Nat.reduceAdd, reduceCtorEq, Int.reduceToNat, clsL, clsS, clsC], by simp +contextual (disch := first | (simp only [facts, clsL, clsS, clsC, isPtrD]; done) | omega | (simp only [push_nx, put_nx, del_nx]; omega) | (refine Nat.le_antisymm ?_ ?_ <;> simp only [push_nx, put_nx, del_nx] <;> omega) | fail) only [wpy, facts, wpb, cst, wpk, wpl, forall_const, implies_true, false_implies, Int.reduceLE, Int.reduceLT, Nat.reduceLeDiff, UInt8.reduceToNat, ↓reduceIte, Nat.reduceEqDiff, Nat.reduceAdd, reduceCtorEq, Int.reduceToNat, clsL, clsS, clsC], by simpa using RStp.refl r⟩ ?_
  rintro m env h2 ⟨j, rfl, hj, e0, e1, e4, st⟩
  have r2 := st.rr
  have hp := r2.obj
  unfold rcells at hp
  have hlen := r2.len
  have hlq : ((p.l.take j).map (unbQ conn) ++ p.l.drop j).length = p.l.length := by rw [List.length_append, List.length_map, List.length_take, List.length_drop]; omega
  by_cases hlt : j < p.l.length
  · have hat := unb_at p.l conn hlt (by rw [hlq]; exact hlt)
    have hnx := unb_next p.l conn hlt
    obtain ⟨l, hl⟩ : ∃ l, l = (p.l.take j).map (unbQ conn) ++ p.l.drop j := ⟨_, rfl⟩
    rw [← hl] at hnx hlq
    simp only [← hl] at hat st r2 hlen
    have hjl : j < l.length := by omega
    obtain ⟨kb, hlv, kb1, hkb⟩ := r2.open (by show 0 < l.length; omega)
    have hlv : D.lv = .slice kb 0 l.length l.length := hlv
    have hkb : h2.get kb = some (.cells (stc l) 31 true) := hkb
    have hown : rowns D kb := .inr ⟨_, _, _, hlv⟩
    rw [hlv] at hp hlen
    have hp : h2.get D.b = some (.cells [bo True, .slice kb 0 l.length l.length, .int .u32 p.last] 65 false) := hp
    have hlen : lenO (some (.slice 31)) (.slice kb 0 l.length l.length) = some (.int .i64 l.length) := hlen
    obtain ⟨y0, y1, y4, y5, y6, y7⟩ := eight_at (stc_at hjl)
    have x0 : j * 8 + 8 ≤ (stc l).length := by rw [stc_len]; omega
    have hwj : IntKind.i64.wrap ((j : Int) + 1) = ((j + 1 : Nat) : Int) := by rw [i64_in _ (by omega)]; omega
    have hnxt : st.rr.few = st.rr.few := rfl
    rw [hat] at y4
    by_cases hc : p.l[j].conn = conn ∧ conn ≠ 0
    · have e : unbQ conn p.l[j] = unbS l[j] := by unfold unbQ; rw [if_pos hc, hat]
      rw [e] at hnx
      simp +contextual (disch := first | (simp only [facts, clsL, clsS, clsC, isPtrD]; done) | omega | (simp only [push_nx, put_nx, del_nx]; omega) | (refine Nat.le_antisymm ?_ ?_ <;> simp only [push_nx, put_nx, del_nx] <;> omega) | fail) only [wpy, facts, wpb, cst, wpk, wpl, forall_const, implies_true, false_implies, Int.reduceLE, Int.reduceLT, Nat.reduceLeDiff, UInt8.reduceToNat, ↓reduceIte, Nat.reduceEqDiff, Nat.reduceAdd, reduceCtorEq, Int.reduceToNat, clsL, clsS, clsC, Try.f40, e0, e1, e4, hp, hlen, hjl, hkb, y4, hc]
      refine draw_by [] (by kernel_rfl) ?_
      simp +contextual (disch := first | (simp only [facts, clsL, clsS, clsC, isPtrD]; done) | omega | (simp only [push_nx, put_nx, del_nx]; omega) | (refine Nat.le_antisymm ?_ ?_ <;> simp only [push_nx, put_nx, del_nx] <;> omega) | fail) only [wpy, facts, wpb, cst, wpk, wpl, forall_const, implies_true, false_implies, Int.reduceLE, Int.reduceLT, Nat.reduceLeDiff, UInt8.reduceToNat, ↓reduceIte, Nat.reduceEqDiff, Nat.reduceAdd, reduceCtorEq, Int.reduceToNat, clsL, clsS, clsC, Try.f40, e0, e1, e4, hp, hjl, hkb, x0]
      have L1 : ∀ (a : List V) (k : Nat) (v : V), (listPut a k [v]).length = a.length := fun a k v => by rw [put_one, List.length_set]
      simp only [L1]
      have hset : RStp D h2 D ⟨p.last, l.set j (unbS l[j])⟩ _ := RStp.setj r2 hlv (List.length_set ..) (by rw [List.length_set]; omega) (h' := ((((h2.put kb (.cells (listPut (stc l) (j * 8 + 4) [.int .i64 0]) 31 true)).put kb (.cells (listPut (listPut (stc l) (j * 8 + 4) [.int .i64 0]) (j * 8 + 5) [.int .u32 0]) 31 true)).put kb (.cells (listPut (listPut (listPut (stc l) (j * 8 + 4) [.int .i64 0]) (j * 8 + 5) [.int .u32 0]) (j * 8 + 6) [bo False]) 31 true)).put kb (.cells (listPut (listPut (listPut (listPut (stc l) (j * 8 + 4) [.int .i64 0]) (j * 8 + 5) [.int .u32 0]) (j * 8 + 6) [bo False]) (j * 8 + 7) [bo False]) 31 true))) rfl (by rw [put_eq rfl, put_four hjl]) fun k hk => by rw [put_ne hk, put_ne hk, put_ne hk, put_ne hk]
      refine ⟨⟨by omega, .inr (.inr hown)⟩, ⟨by omega, .inr (.inr hown)⟩, ⟨by omega, .inr (.inr hown)⟩, ⟨by omega, .inr (.inr hown)⟩, fun p hp => (by cases hp), p.l.length - (j + 1), by omega, j + 1, rfl, hlt, by simp +contextual (disch := first | (simp only [facts, clsL, clsS, clsC, isPtrD]; done) | omega | (simp only [push_nx, put_nx, del_nx]; omega) | (refine Nat.le_antisymm ?_ ?_ <;> simp only [push_nx, put_nx, del_nx] <;> omega) | fail) only [wpy, facts, wpb, cst, wpk, wpl, forall_const, implies_true, false_implies, Int.reduceLE, Int.reduceLT, Nat.reduceLeDiff, UInt8.reduceToNat, ↓reduceIte, Nat.reduceEqDiff, Nat.reduceAdd, reduceCtorEq, Int.reduceToNat, clsL, clsS, clsC, e0], by simp +contextual (disch := first | (simp only [facts, clsL, clsS, clsC, isPtrD]; done) | omega | (simp only [push_nx, put_nx, del_nx]; omega) | (refine Nat.le_antisymm ?_ ?_ <;> simp only [push_nx, put_nx, del_nx] <;> omega) | fail) only [wpy, facts, wpb, cst, wpk, wpl, forall_const, implies_true, false_implies, Int.reduceLE, Int.reduceLT, Nat.reduceLeDiff, UInt8.reduceToNat, ↓reduceIte, Nat.reduceEqDiff, Nat.reduceAdd, reduceCtorEq, Int.reduceToNat, clsL, clsS, clsC, e1], by simp +contextual (disch := first | (simp only [facts, clsL, clsS, clsC, isPtrD]; done) | omega | (simp only [push_nx, put_nx, del_nx]; omega) | (refine Nat.le_antisymm ?_ ?_ <;> simp only [push_nx, put_nx, del_nx] <;> omega) | fail) only [wpy, facts, wpb, cst, wpk, wpl, forall_const, implies_true, false_implies, Int.reduceLE, Int.reduceLT, Nat.reduceLeDiff, UInt8.reduceToNat, ↓reduceIte, Nat.reduceEqDiff, Nat.reduceAdd, reduceCtorEq, Int.reduceToNat, clsL, clsS, clsC, e4, hwj], ?_⟩
      rw [← hnx]
      exact st.trans hset
    · have e : unbQ conn p.l[j] = l[j] := by unfold unbQ; rw [if_neg hc, hat]
      rw [e, List.set_getElem_self] at hnx
      have hfin : ∀ (env' : Env), env' 0 = .ptr D.b 0 → env' 1 = .int .i64 conn → env' 4 = .int .i64 (j + 1 : Nat) → ∃ m', m' < p.l.length - j ∧ RuI D p conn h m' env' h2 := fun env' q0 q1 q4 => ⟨p.l.length - (j + 1), by omega, j + 1, rfl, hlt, q0, q1, q4, by rw [← hnx]; exact st⟩
      by_cases hq : p.l[j].conn = conn
      · have hz : conn = 0 := Classical.not_not.1 fun w => hc ⟨hq, w⟩
        subst hz
        simp +contextual (disch := first | (simp only [facts, clsL, clsS, clsC, isPtrD]; done) | omega | (simp only [push_nx, put_nx, del_nx]; omega) | (refine Nat.le_antisymm ?_ ?_ <;> simp only [push_nx, put_nx, del_nx] <;> omega) | fail) only [wpy, facts, wpb, cst, wpk, wpl, forall_const, implies_true, false_implies, Int.reduceLE, Int.reduceLT, Nat.reduceLeDiff, UInt8.reduceToNat, ↓reduceIte, Nat.reduceEqDiff, Nat.reduceAdd, reduceCtorEq, Int.reduceToNat, clsL, clsS, clsC, Try.f40, e0, e1, e4, hp, hlen, hjl, hkb, y4, hq]
        exact hfin _ (by simp +contextual (disch := first | (simp only [facts, clsL, clsS, clsC, isPtrD]; done) | omega | (simp only [push_nx, put_nx, del_nx]; omega) | (refine Nat.le_antisymm ?_ ?_ <;> simp only [push_nx, put_nx, del_nx] <;> omega) | fail) only [wpy, facts, wpb, cst, wpk, wpl, forall_const, implies_true, false_implies, Int.reduceLE, Int.reduceLT, Nat.reduceLeDiff, UInt8.reduceToNat, ↓reduceIte, Nat.reduceEqDiff, Nat.reduceAdd, reduceCtorEq, Int.reduceToNat, clsL, clsS, clsC, e0]) (by simp +contextual (disch := first | (simp only [facts, clsL, clsS, clsC, isPtrD]; done) | omega | (simp only [push_nx, put_nx, del_nx]; omega) | (refine Nat.le_antisymm ?_ ?_ <;> simp only [push_nx, put_nx, del_nx] <;> omega) | fail) only [wpy, facts, wpb, cst, wpk, wpl, forall_const, implies_true, false_implies, Int.reduceLE, Int.reduceLT, Nat.reduceLeDiff, UInt8.reduceToNat, ↓reduceIte, Nat.reduceEqDiff, Nat.reduceAdd, reduceCtorEq, Int.reduceToNat, clsL, clsS, clsC, e1]) (by simp +contextual (disch := first | (simp only [facts, clsL, clsS, clsC, isPtrD]; done) | omega | (simp only [push_nx, put_nx, del_nx]; omega) | (refine Nat.le_antisymm ?_ ?_ <;> simp only [push_nx, put_nx, del_nx] <;> omega) | fail) only [wpy, facts, wpb, cst, wpk, wpl, forall_const, implies_true, false_implies, Int.reduceLE, Int.reduceLT, Nat.reduceLeDiff, UInt8.reduceToNat, ↓reduceIte, Nat.reduceEqDiff, Nat.reduceAdd, reduceCtorEq, Int.reduceToNat, clsL, clsS, clsC, e4, hwj])
      · simp +contextual (disch := first | (simp only [facts, clsL, clsS, clsC, isPtrD]; done) | omega | (simp only [push_nx, put_nx, del_nx]; omega) | (refine Nat.le_antisymm ?_ ?_ <;> simp only [push_nx, put_nx, del_nx] <;> omega) | fail) only [wpy, facts, wpb, cst, wpk, wpl, forall_const, implies_true, false_implies, Int.reduceLE, Int.reduceLT, Nat.reduceLeDiff, UInt8.reduceToNat, ↓reduceIte, Nat.reduceEqDiff, Nat.reduceAdd, reduceCtorEq, Int.reduceToNat, clsL, clsS, clsC, Try.f40, e0, e1, e4, hp, hlen, hjl, hkb, y4, hq]
        exact hfin _ (by simp +contextual (disch := first | (simp only [facts, clsL, clsS, clsC, isPtrD]; done) | omega | (simp only [push_nx, put_nx, del_nx]; omega) | (refine Nat.le_antisymm ?_ ?_ <;> simp only [push_nx, put_nx, del_nx] <;> omega) | fail) only [wpy, facts, wpb, cst, wpk, wpl, forall_const, implies_true, false_implies, Int.reduceLE, Int.reduceLT, Nat.reduceLeDiff, UInt8.reduceToNat, ↓reduceIte, Nat.reduceEqDiff, Nat.reduceAdd, reduceCtorEq, Int.reduceToNat, clsL, clsS, clsC, e0]) (by simp +contextual (disch := first | (simp only [facts, clsL, clsS, clsC, isPtrD]; done) | omega | (simp only [push_nx, put_nx, del_nx]; omega) | (refine Nat.le_antisymm ?_ ?_ <;> simp only [push_nx, put_nx, del_nx] <;> omega) | fail) only [wpy, facts, wpb, cst, wpk, wpl, forall_const, implies_true, false_implies, Int.reduceLE, Int.reduceLT, Nat.reduceLeDiff, UInt8.reduceToNat, ↓reduceIte, Nat.reduceEqDiff, Nat.reduceAdd, reduceCtorEq, Int.reduceToNat, clsL, clsS, clsC, e1]) (by simp +contextual (disch := first | (simp only [facts, clsL, clsS, clsC, isPtrD]; done) | omega | (simp only [push_nx, put_nx, del_nx]; omega) | (refine Nat.le_antisymm ?_ ?_ <;> simp only [push_nx, put_nx, del_nx] <;> omega) | fail) only [wpy, facts, wpb, cst, wpk, wpl, forall_const, implies_true, false_implies, Int.reduceLE, Int.reduceLT, Nat.reduceLeDiff, UInt8.reduceToNat, ↓reduceIte, Nat.reduceEqDiff, Nat.reduceAdd, reduceCtorEq, Int.reduceToNat, clsL, clsS, clsC, e4, hwj])
  · have hje : j = p.l.length := by omega
    subst hje
    have hnj : ¬ ((p.l.length : Nat) : Int) < p.l.length := by omega
    rw [hlq] at hlen
    rw [List.take_length, List.drop_length, List.append_nil] at st
    simp +contextual (disch := first | (simp only [facts, clsL, clsS, clsC, isPtrD]; done) | omega | (simp only [push_nx, put_nx, del_nx]; omega) | (refine Nat.le_antisymm ?_ ?_ <;> simp only [push_nx, put_nx, del_nx] <;> omega) | fail) only [wpy, facts, wpb, cst, wpk, wpl, forall_const, implies_true, false_implies, Int.reduceLE, Int.reduceLT, Nat.reduceLeDiff, UInt8.reduceToNat, ↓reduceIte, Nat.reduceEqDiff, Nat.reduceAdd, reduceCtorEq, Int.reduceToNat, clsL, clsS, clsC, Try.f40, e0, e1, e4, hp, hlen, hlt]
    exact st
end
noncomputable section
theorem fl_int (k : IntKind) (a : Int) : eqFlat (.int k) (.int k a) (.int k a) = some true := by
  unfold eqFlat
  simp
theorem eqNats_self : ∀ t : List Nat, eqNats t t = true
  | [] => rfl
  | a :: t => by
    have := eqNats_self t
    unfold eqNats
    simp [this]
theorem fl_str (t : List Nat) : eqFlat .string (.str t) (.str t) = some true := by
  unfold eqFlat
  simp [eqNats_self]
theorem fl_bool (b : Bool) : eqFlat .bool (.bool b) (.bool b) = some true := by
  unfold eqFlat
  simp
theorem eq_st (a : Int) (t : List Nat) (b c d e : Int) (f g : Bool) : eqT Try.prog 31 (.agg [.int .u32 a, .str t, .int .u16 b, .int .u16 c, .int .i64 d, .int .u32 e, .bool f, .bool g]) (.agg [.int .u32 a, .str t, .int .u16 b, .int .u16 c, .int .i64 d, .int .u32 e, .bool f, .bool g]) = some true := by
  have e : eqT Try.prog 31 (.agg [.int .u32 a, .str t, .int .u16 b, .int .u16 c, .int .i64 d, .int .u32 e, .bool f, .bool g]) (.agg [.int .u32 a, .str t, .int .u16 b, .int .u16 c, .int .i64 d, .int .u32 e, .bool f, .bool g]) = (match eqFlat (.int .u32) (.int .u32 a) (.int .u32 a) with
    | some true => (match eqFlat .string (.str t) (.str t) with
    | some true => (match eqFlat (.int .u16) (.int .u16 b) (.int .u16 b) with
    | some true => (match eqFlat (.int .u16) (.int .u16 c) (.int .u16 c) with
    | some true => (match eqFlat (.int .i64) (.int .i64 d) (.int .i64 d) with
    | some true => (match eqFlat (.int .u32) (.int .u32 e) (.int .u32 e) with
    | some true => (match eqFlat .bool (.bool f) (.bool f) with
    | some true => (match eqFlat .bool (.bool g) (.bool g) with
      | some true => some true
      | r => r)
    | r => r)
    | r => r)
    | r => r)
    | r => r)
    | r => r)
    | r => r)
    | r => r) := by kernel_rfl
  rw [e]
  simp only [fl_int, fl_str, fl_bool]
theorem neq_st (q : Bool) (s : ST) : binV Try.prog .neq 31 q (.agg s.cells) (.agg s.cells) = some (bo False) := by
  show (eqT Try.prog 31 (.agg s.cells) (.agg s.cells)).map (fun r => V.bool (!r)) = _
  unfold ST.cells bo
  rw [eq_st]
  simp
theorem eql_st (q : Bool) (s : ST) : binV Try.prog .eql 31 q (.agg s.cells) (.agg s.cells) = some (bo True) := by
  show (eqT Try.prog 31 (.agg s.cells) (.agg s.cells)).map V.bool = _
  unfold ST.cells bo
  rw [eq_st]
  simp
def StI (n : Nat) (v w : V) (h0 : H) (m : Nat) (env : Env) (h' : H) : Prop := ∃ i, m = n - i ∧ i ≤ n ∧ env 0 = v ∧ env 1 = w ∧ env 5 = .int .i64 (i : Nat) ∧ h' = h0
variable {S : Set0} (hS : StdP S)
include hS
theorem radd_spec {D : RD} {p : PL} {h : H} (r : RR D p h) (s : ST) (ht : s.text.length ≤ 1000) (h0 : 0 ≤ p.last) (hl : p.last ≤ 100000) : callW S.cfg (rowns D) 33 [.ptr D.b 0, .agg s.cells] h fun v h' => v = addV p s ∧ ∃ lv, RStp D h ⟨D.b, lv⟩ (addP p s) h' := by
  refine into Try.f33 _ Try.func33 (hS.ownP _ (by decide)) rfl rfl (by kernel_rfl) (by kernel_rfl) ?_
  have ht' : ¬ 16777216 < s.text.length := by omega
  have hb1 := r.lt
  have bad : addE p s = 2 → addV p s = .tuple [.int .u32 0, .int .i64 2] ∧ addP p s = p := fun e => by unfold addV addP; rw [e, if_neg (by decide), if_neg (by decide)]; exact ⟨rfl, rfl⟩
  have full : addE p s = 251 → addV p s = .tuple [.int .u32 0, .int .i64 251] ∧ addP p s = p := fun e => by unfold addV addP; rw [e, if_neg (by decide), if_neg (by decide)]; exact ⟨rfl, rfl⟩
  unfold ST.cells
  simp +contextual (disch := first | (simp only [facts, clsL, clsS, clsC, isPtrD]; done) | omega | (simp only [push_nx, put_nx, del_nx]; omega) | (refine Nat.le_antisymm ?_ ?_ <;> simp only [push_nx, put_nx, del_nx] <;> omega) | fail) only [wpy, facts, wpb, cst, wpk, wpl, forall_const, implies_true, false_implies, Int.reduceLE, Int.reduceLT, Nat.reduceLeDiff, UInt8.reduceToNat, ↓reduceIte, Nat.reduceEqDiff, Nat.reduceAdd, reduceCtorEq, Int.reduceToNat, clsL, clsS, clsC, Try.f33]
  generalize hhA : H.push h _ = hA
  have hxA : Ext h hA := by rw [← hhA]; exact (Ext.refl h).push _
  have hnA : hA.nx = h.nx + 1 := by rw [← hhA]; rfl
  have hgA : hA.get h.nx = some (.cells [.int .u32 s.id, .str s.text, .int .u16 s.pa, .int .u16 s.co, .int .i64 s.conn, .int .u32 s.back, bo s.long, bo s.cur] 31 false) := by rw [← hhA]; exact push_eq rfl
  clear hhA
  have rA := r.ext hxA
  have stA := RStp.ext r hxA
  have hp := rA.obj
  unfold rcells at hp
  have hlen := rA.len
  refine callF_exact (rnone_spec hS rA) ?_
  by_cases hc : s.conn < 0
  · obtain ⟨e1, e2⟩ := bad (by unfold addE; rw [if_pos (.inl hc)])
    rw [e1, e2]
    simp +contextual (disch := first | (simp only [facts, clsL, clsS, clsC, isPtrD]; done) | omega | (simp only [push_nx, put_nx, del_nx]; omega) | (refine Nat.le_antisymm ?_ ?_ <;> simp only [push_nx, put_nx, del_nx] <;> omega) | fail) only [wpy, facts, wpb, cst, wpk, wpl, forall_const, implies_true, false_implies, Int.reduceLE, Int.reduceLT, Nat.reduceLeDiff, UInt8.reduceToNat, ↓reduceIte, Nat.reduceEqDiff, Nat.reduceAdd, reduceCtorEq, Int.reduceToNat, clsL, clsS, clsC, Try.f33, hgA, neq4, hc, ht']
    exact ⟨_, stA⟩
  by_cases hnq : ¬ (s.conn = 0 ↔ s.back = 0)
  · have hq := hnq
    obtain ⟨e1, e2⟩ := bad (by unfold addE; rw [if_pos (.inr hq)])
    rw [e1, e2]
    simp +contextual (disch := first | (simp only [facts, clsL, clsS, clsC, isPtrD]; done) | omega | (simp only [push_nx, put_nx, del_nx]; omega) | (refine Nat.le_antisymm ?_ ?_ <;> simp only [push_nx, put_nx, del_nx] <;> omega) | fail) only [wpy, facts, wpb, cst, wpk, wpl, forall_const, implies_true, false_implies, Int.reduceLE, Int.reduceLT, Nat.reduceLeDiff, UInt8.reduceToNat, ↓reduceIte, Nat.reduceEqDiff, Nat.reduceAdd, reduceCtorEq, Int.reduceToNat, clsL, clsS, clsC, Try.f33, hgA, neq4, hc, ht', hq]
    exact ⟨_, stA⟩
  have hq : s.conn = 0 ↔ s.back = 0 := Classical.not_not.1 hnq
  have hnot : ¬ (s.conn < 0 ∨ ¬ (s.conn = 0 ↔ s.back = 0)) := fun q => q.elim hc fun q => q hq
  by_cases hfull : (256 : Int) ≤ (p.l.length : Int)
  · obtain ⟨e1, e2⟩ := full (by unfold addE; rw [if_neg hnot, if_pos (by omega)])
    rw [e1, e2]
    simp +contextual (disch := first | (simp only [facts, clsL, clsS, clsC, isPtrD]; done) | omega | (simp only [push_nx, put_nx, del_nx]; omega) | (refine Nat.le_antisymm ?_ ?_ <;> simp only [push_nx, put_nx, del_nx] <;> omega) | fail) only [wpy, facts, wpb, cst, wpk, wpl, forall_const, implies_true, false_implies, Int.reduceLE, Int.reduceLT, Nat.reduceLeDiff, UInt8.reduceToNat, ↓reduceIte, Nat.reduceEqDiff, Nat.reduceAdd, reduceCtorEq, Int.reduceToNat, clsL, clsS, clsC, Try.f33, hgA, neq4, hc, ht', hq, hp, hlen, hfull]
    exact ⟨_, stA⟩
  have hwr : IntKind.u32.wrap (p.last + 1) = p.last + 1 := u32_in _ (by omega)
  have e0 : addE p s = 0 := by unfold addE; rw [if_neg hnot, if_neg (by omega)]
  have e1 : addV p s = .tuple [.int .u32 (p.last + 1), .int .i64 0] := by unfold addV; rw [e0, if_pos rfl]
  have e2 : addP p s = ⟨p.last + 1, p.l ++ [addS p s]⟩ := by unfold addP; rw [e0, if_pos rfl]
  rw [e1, e2]
  simp +contextual (disch := first | (simp only [facts, clsL, clsS, clsC, isPtrD]; done) | omega | (simp only [push_nx, put_nx, del_nx]; omega) | (refine Nat.le_antisymm ?_ ?_ <;> simp only [push_nx, put_nx, del_nx] <;> omega) | fail) only [wpy, facts, wpb, cst, wpk, wpl, forall_const, implies_true, false_implies, Int.reduceLE, Int.reduceLT, Nat.reduceLeDiff, UInt8.reduceToNat, ↓reduceIte, Nat.reduceEqDiff, Nat.reduceAdd, reduceCtorEq, Int.reduceToNat, clsL, clsS, clsC, Try.f33, hgA, neq4, hc, ht', hq, hp, hlen, hfull, hwr]
  refine ⟨.inr (.inr (.inl rfl)), ?_⟩
  generalize hhB : (H.put (H.put (H.put (H.put hA _ _) _ _) _ _) _ _) = hB
  have hnB : hB.nx = hA.nx := by rw [← hhB]; rfl
  have gA : hB.get h.nx = some (.cells (addS p s).cells 31 false) := by rw [← hhB, put_eq rfl]; rfl
  have gB : hB.get D.b = some (.cells [bo True, D.lv, .int .u32 (p.last + 1)] 65 false) := by
    rw [← hhB, put_ne (by omega), put_ne (by omega), put_ne (by omega), put_eq rfl]
  have gK : ∀ k, k < h.nx → k ≠ D.b → hB.get k = hA.get k := fun k hk hne => by
    rw [← hhB, put_ne (by omega), put_ne (by omega), put_ne (by omega), put_ne hne]
  clear hhB
  have gA' : hB.get h.nx = some (.cells [.int .u32 (p.last + 1), .str s.text, .int .u16 s.pa, .int .u16 s.co, .int .i64 s.conn, .int .u32 s.back, bo False, bo False] 31 false) := gA
  refine draw_by [(4, 6)] (by kernel_rfl) ?_
  simp +contextual (disch := first | (simp only [facts, clsL, clsS, clsC, isPtrD]; done) | omega | (simp only [push_nx, put_nx, del_nx]; omega) | (refine Nat.le_antisymm ?_ ?_ <;> simp only [push_nx, put_nx, del_nx] <;> omega) | fail) only [wpy, facts, wpb, cst, wpk, wpl, forall_const, implies_true, false_implies, Int.reduceLE, Int.reduceLT, Nat.reduceLeDiff, UInt8.reduceToNat, ↓reduceIte, Nat.reduceEqDiff, Nat.reduceAdd, reduceCtorEq, Int.reduceToNat, clsL, clsS, clsC, Try.f33, gB, gA']
  generalize hhC : H.push hB _ = hC
  have hxC : Ext hB hC := by rw [← hhC]; exact (Ext.refl hB).push _
  have hnC : hC.nx = hB.nx + 1 := by rw [← hhC]; rfl
  have hgC : hC.get hB.nx = some (.cells (addS p s).cells 31 false) := by rw [← hhC]; exact push_eq rfl
  clear hhC
  have hgh : ∀ k, k < h.nx → k ≠ D.b → hC.get k = h.get k := fun k hk hne => by rw [hxC.2 k (by omega), gK k hk hne, hxA.2 k hk]
  have hLC : Lst 0 hC D.lv (stc p.l) 31 8 := Lst.keep r.row (by omega) fun k o n m q => hgh k (Lst.lt r.row q).2.1 (r.ne q)
  have hpl := stc_len p.l
  have hf := r.few
  refine append_fresh (n0 := 0) (sv := D.lv) (cells := stc p.l) (new := (addS p s).cells) ?_ (b2 := hB.nx) (o2 := 0) (n := 1) (m := 1) ?_ ap28 ⟨.slice 31, by kernel_rfl, rfl⟩ hLC (by decide) (by rw [hgC]; exact rdC_all rfl) rfl rfl ?_ (by decide) (fun k ⟨o, n, m, q⟩ => by rw [fresh_def]; exact .inr (.inr ⟨o, n, m, q⟩)) (Nat.zero_le _) ?_
  · simp +contextual (disch := first | (simp only [facts, clsL, clsS, clsC, isPtrD]; done) | omega | (simp only [push_nx, put_nx, del_nx]; omega) | (refine Nat.le_antisymm ?_ ?_ <;> simp only [push_nx, put_nx, del_nx] <;> omega) | fail) only [wpy, facts, wpb, cst, wpk, wpl, forall_const, implies_true, false_implies, Int.reduceLE, Int.reduceLT, Nat.reduceLeDiff, UInt8.reduceToNat, ↓reduceIte, Nat.reduceEqDiff, Nat.reduceAdd, reduceCtorEq, Int.reduceToNat, clsL, clsS, clsC]
  · simp +contextual (disch := first | (simp only [facts, clsL, clsS, clsC, isPtrD]; done) | omega | (simp only [push_nx, put_nx, del_nx]; omega) | (refine Nat.le_antisymm ?_ ?_ <;> simp only [push_nx, put_nx, del_nx] <;> omega) | fail) only [wpy, facts, wpb, cst, wpk, wpl, forall_const, implies_true, false_implies, Int.reduceLE, Int.reduceLT, Nat.reduceLeDiff, UInt8.reduceToNat, ↓reduceIte, Nat.reduceEqDiff, Nat.reduceAdd, reduceCtorEq, Int.reduceToNat, clsL, clsS, clsC]
  · show (stc p.l).length + 8 ≤ _; omega
  intro v4 h4 L ha hx4 hk4 hL
  have g4 : h4.get D.b = some (.cells [bo True, D.lv, .int .u32 (p.last + 1)] 65 false) := by rw [hk4 D.b (by omega) fun o n m q => r.ne q rfl, hxC.2 _ (by omega)]; exact gB
  have g5 : h4.get h.nx = some (.cells [.int .u32 (p.last + 1), .str s.text, .int .u16 s.pa, .int .u16 s.co, .int .i64 s.conn, .int .u32 s.back, bo False, bo False] 31 false) := by
    rw [hk4 h.nx (by omega) fun o n m q => by have := (Lst.lt r.row q).2.1; omega, hxC.2 _ (by omega)]; exact gA'
  have g6 : ∀ o, (h4.put D.b o).get h.nx = h4.get h.nx := fun o => put_ne (by omega)
  obtain ⟨c1, c2⟩ := ha.cell
  simp +contextual (disch := first | (simp only [facts, clsL, clsS, clsC, isPtrD]; done) | omega | (simp only [push_nx, put_nx, del_nx]; omega) | (refine Nat.le_antisymm ?_ ?_ <;> simp only [push_nx, put_nx, del_nx] <;> omega) | fail) only [wpy, facts, wpb, cst, wpk, wpl, forall_const, implies_true, false_implies, Int.reduceLE, Int.reduceLT, Nat.reduceLeDiff, UInt8.reduceToNat, ↓reduceIte, Nat.reduceEqDiff, Nat.reduceAdd, reduceCtorEq, Int.reduceToNat, clsL, clsS, clsC, Try.f33, g4, c1, c2, g6, g5]
  refine ⟨.inr (.inr (.inl rfl)), fun q hq => ?_, v4, ?_⟩
  · rw [List.mem_singleton.1 hq]
    exact pair_one rfl rfl (apart_blk fun x hx y hy => by
      rw [List.mem_singleton.1 (show x ∈ [_] from hx), List.mem_singleton.1 hy]
      show ¬ D.b = hB.nx
      omega)
  · refine RStp.obj (h4 := h4) (p' := ⟨p.last + 1, p.l ++ [addS p s]⟩) r (by omega) (fun k hk hno => ?_) (.inl ?_) ?_ fun k o n m q => ?_
    · rw [hk4 k (by omega) fun o n m q => hno (.inr ⟨o, n, m, q⟩)]
      exact hgh k hk fun e => hno (.inl e)
    · show Acc 0 h4 v4 (stc (p.l ++ [addS p s])) 31 8
      rw [stc_app, stc_one]
      exact ha.mono (Nat.zero_le _)
    · show (p.l ++ [addS p s]).length ≤ 1000
      rw [List.length_append]
      show p.l.length + 1 ≤ 1000
      omega
    · have := (ha.blk q).1
      exact ⟨by omega, .inr (by omega)⟩
theorem stmts_spec {n1 n2 : Nat} {h : H} {v w : V} {l : List ST} (hv : Lst n1 h v (stc l) 31 8) (hw : Lst n2 h w (stc l) 31 8) (hl : l.length ≤ 1000000) : Exact S.cfg 25 [v, w] h (bo True) := by
  refine into Try.f25 _ Try.func25 (hS.ownP _ (by decide)) rfl rfl (by kernel_rfl) (by kernel_rfl) ?_
  have l1 := lst_len8 (e := 31) hv
  have l2 := lst_len8 (e := 31) hw
  simp +contextual (disch := first | (simp only [facts, clsL, clsS, clsC, isPtrD]; done) | omega | (simp only [push_nx, put_nx, del_nx]; omega) | (refine Nat.le_antisymm ?_ ?_ <;> simp only [push_nx, put_nx, del_nx] <;> omega) | fail) only [wpy, facts, wpb, cst, wpk, wpl, forall_const, implies_true, false_implies, Int.reduceLE, Int.reduceLT, Nat.reduceLeDiff, UInt8.reduceToNat, ↓reduceIte, Nat.reduceEqDiff, Nat.reduceAdd, reduceCtorEq, Int.reduceToNat, clsL, clsS, clsC, Try.f25, l1, l2]
  refine run_loop (StI l.length v w h) l.length ⟨0, by simp +contextual (disch := first | (simp only [facts, clsL, clsS, clsC, isPtrD]; done) | omega | (simp only [push_nx, put_nx, del_nx]; omega) | (refine Nat.le_antisymm ?_ ?_ <;> simp only [push_nx, put_nx, del_nx] <;> omega) | fail) only [wpy, facts, wpb, cst, wpk, wpl, forall_const, implies_true, false_implies, Int.reduceLE, Int.reduceLT, Nat.reduceLeDiff, UInt8.reduceToNat, ↓reduceIte, Nat.reduceEqDiff, Nat.reduceAdd, reduceCtorEq, Int.reduceToNat, clsL, clsS, clsC]; exact (Nat.sub_zero _).symm⟩ ?_
  rintro m env h2 ⟨i, rfl, hi, e0, e1, e5, rfl⟩
  by_cases hlt : i < l.length
  · obtain ⟨b1, rfl, _, k1, g1⟩ := lst_row8 hv (by omega)
    obtain ⟨b2, rfl, _, k2, g2⟩ := lst_row8 hw (by omega)
    have x0 : i * 8 + 8 ≤ (stc l).length := by rw [stc_len]; omega
    have x1 := stc_at hlt
    have hn := fun q => neq_st q l[i]
    have hwi : IntKind.i64.wrap ((i : Int) + 1) = ((i + 1 : Nat) : Int) := by rw [i64_in _ (by omega)]; omega
    simp +contextual (disch := first | (simp only [facts, clsL, clsS, clsC, isPtrD]; done) | omega | (simp only [push_nx, put_nx, del_nx]; omega) | (refine Nat.le_antisymm ?_ ?_ <;> simp only [push_nx, put_nx, del_nx] <;> omega) | fail) only [wpy, facts, wpb, cst, wpk, wpl, forall_const, implies_true, false_implies, Int.reduceLE, Int.reduceLT, Nat.reduceLeDiff, UInt8.reduceToNat, ↓reduceIte, Nat.reduceEqDiff, Nat.reduceAdd, reduceCtorEq, Int.reduceToNat, clsL, clsS, clsC, Try.f25, e0, e1, e5, l1, hlt]
    refine draw_by [] (by kernel_rfl) ?_
    simp +contextual (disch := first | (simp only [facts, clsL, clsS, clsC, isPtrD]; done) | omega | (simp only [push_nx, put_nx, del_nx]; omega) | (refine Nat.le_antisymm ?_ ?_ <;> simp only [push_nx, put_nx, del_nx] <;> omega) | fail) only [wpy, facts, wpb, cst, wpk, wpl, forall_const, implies_true, false_implies, Int.reduceLE, Int.reduceLT, Nat.reduceLeDiff, UInt8.reduceToNat, ↓reduceIte, Nat.reduceEqDiff, Nat.reduceAdd, reduceCtorEq, Int.reduceToNat, clsL, clsS, clsC, Try.f25, e0, e1, e5, hlt, g1, g2, x0, x1, hn]
    exact ⟨fun p hp => (by cases hp), l.length - (i + 1), by omega, i + 1, rfl, hlt, by simp +contextual (disch := first | (simp only [facts, clsL, clsS, clsC, isPtrD]; done) | omega | (simp only [push_nx, put_nx, del_nx]; omega) | (refine Nat.le_antisymm ?_ ?_ <;> simp only [push_nx, put_nx, del_nx] <;> omega) | fail) only [wpy, facts, wpb, cst, wpk, wpl, forall_const, implies_true, false_implies, Int.reduceLE, Int.reduceLT, Nat.reduceLeDiff, UInt8.reduceToNat, ↓reduceIte, Nat.reduceEqDiff, Nat.reduceAdd, reduceCtorEq, Int.reduceToNat, clsL, clsS, clsC, e0], by simp +contextual (disch := first | (simp only [facts, clsL, clsS, clsC, isPtrD]; done) | omega | (simp only [push_nx, put_nx, del_nx]; omega) | (refine Nat.le_antisymm ?_ ?_ <;> simp only [push_nx, put_nx, del_nx] <;> omega) | fail) only [wpy, facts, wpb, cst, wpk, wpl, forall_const, implies_true, false_implies, Int.reduceLE, Int.reduceLT, Nat.reduceLeDiff, UInt8.reduceToNat, ↓reduceIte, Nat.reduceEqDiff, Nat.reduceAdd, reduceCtorEq, Int.reduceToNat, clsL, clsS, clsC, e1], by simp +contextual (disch := first | (simp only [facts, clsL, clsS, clsC, isPtrD]; done) | omega | (simp only [push_nx, put_nx, del_nx]; omega) | (refine Nat.le_antisymm ?_ ?_ <;> simp only [push_nx, put_nx, del_nx] <;> omega) | fail) only [wpy, facts, wpb, cst, wpk, wpl, forall_const, implies_true, false_implies, Int.reduceLE, Int.reduceLT, Nat.reduceLeDiff, UInt8.reduceToNat, ↓reduceIte, Nat.reduceEqDiff, Nat.reduceAdd, reduceCtorEq, Int.reduceToNat, clsL, clsS, clsC, e5, hwi], rfl⟩
  · simp +contextual (disch := first | (simp only [facts, clsL, clsS, clsC, isPtrD]; done) | omega | (simp only [push_nx, put_nx, del_nx]; omega) | (refine Nat.le_antisymm ?_ ?_ <;> simp only [push_nx, put_nx, del_nx] <;> omega) | fail) only [wpy, facts, wpb, cst, wpk, wpl, forall_const, implies_true, false_implies, Int.reduceLE, Int.reduceLT, Nat.reduceLeDiff, UInt8.reduceToNat, ↓reduceIte, Nat.reduceEqDiff, Nat.reduceAdd, reduceCtorEq, Int.reduceToNat, clsL, clsS, clsC, Try.f25, e0, e1, e5, l1, hlt]
end
noncomputable section
theorem sep1 {D : MD} {P : MS} {E : RD} {p : PL} {h : H} (r : PR D P h) (q : RR E p h) {k : Nat} (hk : rowns E k) : ¬ owns D P k := fun w => by
  rcases hk with rfl | ⟨o, n, m, hk⟩
  · rcases w with w | w | ⟨e, he, w⟩
    · have := q.obj; rw [w, r.obj] at this; simp at this
    · have := q.obj; rw [w, r.map] at this; simp at this
    · have := q.obj; rw [← w, r.ent e he] at this; simp at this
  · exact (gv_not q.row r hk).2.2 w
theorem RR.not33 {E : RD} {p : PL} {h : H} (q : RR E p h) {k : Nat} (hk : (∃ c, h.get k = some (.cells c 33 false)) ∨ ∃ c, h.get k = some (.ro c)) : ¬ rowns E k := fun w => by
  rcases w with rfl | ⟨o, n, m, w⟩
  · rcases hk with ⟨c, g⟩ | ⟨c, g⟩ <;> (rw [q.obj] at g; simp at g)
  · obtain ⟨_, _, fl, g2⟩ := Lst.lt q.row w
    rcases hk with ⟨c, g⟩ | ⟨c, g⟩ <;> (rw [g2] at g; simp at g)
theorem RR.stp {D D1 : MD} {P P1 : MS} {E : RD} {p : PL} {h h1 : H} (q : RR E p h) (r : PR D P h) (st : Stp D P h D1 P1 h1) : RR E p h1 := q.keep st.nx fun k hk => st.same k (rowns_lt q hk) (sep1 r q hk)
theorem PR.rstp {D : MD} {P : MS} {E E1 : RD} {p p1 : PL} {h h1 : H} (r : PR D P h) (q : RR E p h) (st : RStp E h E1 p1 h1) : PR D P h1 := r.keep st.nx fun k hk => st.same k (owns_lt r hk) fun w => sep1 r q w hk
structure TStp (D : MD) (P : MS) (E : RD) (h : H) (D1 : MD) (P1 : MS) (E1 : RD) (h1 : H) : Prop where
  pr : PR D1 P1 h1
  rr : RR E1 P1.pl h1
  nx : h.nx ≤ h1.nx
  same : ∀ k, k < h.nx → ¬ owns D P k → ¬ rowns E k → h1.get k = h.get k
  o1 : ∀ k, owns D1 P1 k → owns D P k ∨ h.nx ≤ k
  o2 : ∀ k, rowns E1 k → rowns E k ∨ h.nx ≤ k
  b1 : D1.b = D.b
  b2 : E1.b = E.b
theorem TStp.of {D D1 : MD} {P P1 : MS} {E E1 : RD} {p1 : PL} {h h1 h2 : H} (r : PR D P h) (q : RR E P.pl h) (st : Stp D P h D1 P1 h1) (rs : RStp E h1 E1 p1 h2) (hp : p1 = P1.pl) : TStp D P E h D1 P1 E1 h2 where
  pr := st.pr.rstp (q.stp r st) rs
  rr := hp ▸ rs.rr
  nx := Nat.le_trans st.nx rs.nx
  same := fun k hk h1 h2 => by rw [rs.same k (Nat.lt_of_lt_of_le hk st.nx) h2, st.same k hk h1]
  o1 := st.own
  o2 := fun k w => (rs.own k w).imp id fun w => Nat.le_trans st.nx w
  b1 := st.b
  b2 := rs.b
theorem TStp.lift {D D1 : MD} {P P1 : MS} {E E1 : RD} {h hA h2 : H} (st : TStp D P E hA D1 P1 E1 h2) (hx : Ext h hA) : TStp D P E h D1 P1 E1 h2 where
  pr := st.pr
  rr := st.rr
  nx := Nat.le_trans hx.1 st.nx
  same := fun k hk h1 h2 => by rw [st.same k (Nat.lt_of_lt_of_le hk hx.1) h1 h2, hx.2 k hk]
  o1 := fun k w => (st.o1 k w).imp id fun w => Nat.le_trans hx.1 w
  o2 := fun k w => (st.o2 k w).imp id fun w => Nat.le_trans hx.1 w
  b1 := st.b1
  b2 := st.b2
theorem TStp.grow {D D1 : MD} {P P1 : MS} {E E1 : RD} {h h1 h2 : H} (st : TStp D P E h D1 P1 E1 h1) (hx : Ext h1 h2) : TStp D P E h D1 P1 E1 h2 where
  pr := st.pr.ext hx
  rr := st.rr.ext hx
  nx := Nat.le_trans st.nx hx.1
  same := fun k hk h1 h2 => by rw [hx.2 k (Nat.lt_of_lt_of_le hk st.nx), st.same k hk h1 h2]
  o1 := st.o1
  o2 := st.o2
  b1 := st.b1
  b2 := st.b2
theorem TStp.refl {D : MD} {P : MS} {E : RD} {h : H} (r : PR D P h) (q : RR E P.pl h) : TStp D P E h D P E h := TStp.of r q (Stp.refl r) (RStp.refl q) rfl
def Zi (p : PL) : Prop := ∀ s ∈ p.l, s.conn = 0 → s.back = 0 ∧ ¬ s.long ∧ ¬ s.cur
theorem Zi.sub {p : PL} (z : Zi p) {l : List ST} (hs : l.Sublist p.l) (n : Int) : Zi ⟨n, l⟩ := fun s h => z s (hs.subset h)
theorem Zi.set {p : PL} (z : Zi p) {j : Nat} {s : ST} (h : s.conn = 0 → s.back = 0 ∧ ¬ s.long ∧ ¬ s.cur) : Zi { p with l := p.l.set j s } := fun t ht => by
  rcases List.mem_or_eq_of_mem_set ht with q | rfl
  · exact z t q
  · exact h
theorem Zi.add {p : PL} (z : Zi p) (s : ST) : Zi (addP p s) := by
  unfold addP
  split
  · rename_i he
    intro t ht hc
    rcases List.mem_append.1 ht with q | q
    · exact z t q hc
    · rw [List.mem_singleton.1 q] at hc ⊢
      have hok : ¬ (s.conn < 0 ∨ ¬ (s.conn = 0 ↔ s.back = 0)) := fun q => by unfold addE at he; rw [if_pos q] at he; cases he
      have hb : s.conn = 0 ↔ s.back = 0 := Classical.not_not.1 fun q => hok (.inr q)
      exact ⟨hb.1 hc, fun q => q, fun q => q⟩
  · exact z
theorem zi_bind {s : ST} (z : s.conn = 0 → s.back = 0 ∧ ¬ s.long ∧ ¬ s.cur) (conn back : Int) : (bindS s conn back).conn = 0 → (bindS s conn back).back = 0 ∧ ¬ (bindS s conn back).long ∧ ¬ (bindS s conn back).cur := by
  unfold bindS
  split
  · rename_i he
    have hok : ¬ (conn < 1 ∨ back = 0) := fun q => by unfold bindE at he; rw [if_pos q] at he; cases he
    intro hc
    have hc : conn = 0 := hc
    exact (hok (.inl (by omega))).elim
  · exact z
theorem zi_long {s : ST} (z : s.conn = 0 → s.back = 0 ∧ ¬ s.long ∧ ¬ s.cur) (on : Prop) : (longS s on).conn = 0 → (longS s on).back = 0 ∧ ¬ (longS s on).long ∧ ¬ (longS s on).cur := by
  unfold longS
  split
  · rename_i he
    have hok : ¬ (on ∧ s.conn = 0) := fun q => by unfold holdE at he; rw [if_pos q] at he; cases he
    intro hc
    obtain ⟨z1, z2, z3⟩ := z hc
    exact ⟨z1, fun q => hok ⟨q, hc⟩, z3⟩
  · exact z
theorem zi_cur {s : ST} (z : s.conn = 0 → s.back = 0 ∧ ¬ s.long ∧ ¬ s.cur) (on : Prop) : (curS s on).conn = 0 → (curS s on).back = 0 ∧ ¬ (curS s on).long ∧ ¬ (curS s on).cur := by
  unfold curS
  split
  · rename_i he
    have hok : ¬ (on ∧ s.conn = 0) := fun q => by unfold holdE at he; rw [if_pos q] at he; cases he
    intro hc
    obtain ⟨z1, z2, z3⟩ := z hc
    exact ⟨z1, z2, fun q => hok ⟨q, hc⟩⟩
  · exact z
theorem Zi.unb {p : PL} (z : Zi p) (conn : Int) : Zi ⟨p.last, p.l.map (unbR conn)⟩ := fun t ht hc => by
  obtain ⟨s, hs, rfl⟩ := List.mem_map.1 ht
  rcases unbR_cases conn s with q | q
  · rw [q] at hc ⊢; exact z s hs hc
  · rw [q]; exact ⟨rfl, fun w => w, fun w => w⟩
theorem unb_same {p : PL} (z : Zi p) (conn : Int) : p.l.map (unbQ conn) = p.l.map (unbR conn) := by
  refine List.map_congr_left fun s hs => ?_
  unfold unbQ unbR
  by_cases h1 : s.conn = conn
  · by_cases h0 : conn = 0
    · rw [if_neg (fun q => q.2 h0), if_pos h1]
      obtain ⟨z1, z2, z3⟩ := z s hs (h1.trans h0)
      unfold unbS
      obtain ⟨id, tx, pa, co, cn, bk, lg, cu⟩ := s
      have e1 : cn = 0 := h1.trans h0
      have e2 : bk = 0 := z1
      have e3 : lg = False := propext ⟨z2, fun q => q.elim⟩
      have e4 : cu = False := propext ⟨z3, fun q => q.elim⟩
      rw [e1, e2, e3, e4]
    · rw [if_pos ⟨h1, h0⟩, if_pos h1]
  · rw [if_neg (fun q => h1 q.1), if_neg h1]
theorem Bd.add {i : Nat} {P P1 : MS} {s : ST} (b : Bd (i : Int) P) (hpl : P1.pl = addP P.pl s) : Bd ((i + 1 : Nat) : Int) P1 := by
  have hlo := b.lo
  have hhi := b.hi
  have hlen : P.pl.l.length = P.es.length := List.length_map ..
  have hf := b.few
  have hids : ∀ t ∈ P.pl.l, t.id ≤ P.last := fun t ht => by
    obtain ⟨e, he, rfl⟩ := List.mem_map.1 ht
    exact b.ids e he
  by_cases hE : addE P.pl s = 0
  · have hfull : ¬ 256 ≤ P.pl.l.length := fun q => by
      unfold addE at hE
      split at hE
      · exact absurd hE (by decide)
      · first
          | exact absurd hE (by decide)
          | (rw [if_pos q] at hE; exact absurd hE (by decide))
    have eP : addP P.pl s = ⟨P.last + 1, P.pl.l ++ [addS P.pl s]⟩ := by unfold addP; rw [if_pos hE]; rfl
    rw [eP] at hpl
    refine Bd.of_pl ?_ ?_ ?_ ?_
    · rw [hpl]; show 0 ≤ P.last + 1; omega
    · rw [hpl]; show P.last + 1 ≤ _; omega
    · rw [hpl]; intro t ht
      rcases List.mem_append.1 ht with q | q
      · have := hids t q
        show t.id ≤ P.last + 1; omega
      · rw [List.mem_singleton.1 q]; exact Int.le_refl _
    · rw [hpl]; show (P.pl.l ++ [addS P.pl s]).length ≤ 256
      rw [List.length_append]; show P.pl.l.length + 1 ≤ 256; omega
  · have eP : addP P.pl s = P.pl := by unfold addP; rw [if_neg hE]
    rw [eP] at hpl
    refine Bd.of_pl ?_ ?_ ?_ ?_
    · rw [hpl]; exact hlo
    · rw [hpl]; show P.last ≤ _; omega
    · rw [hpl]; exact hids
    · rw [hpl]; omega
theorem onS_form (s : ST) (conn : Int) : ∃ b p e, onS s conn = .tuple [.int .u32 b, bo p, .int .i64 e] := by
  unfold onS
  split
  · exact ⟨_, _, _, rfl⟩
  · split
    · exact ⟨_, _, _, rfl⟩
    · split <;> exact ⟨_, _, _, rfl⟩
end
noncomputable section
theorem rise_pl {D : MD} {P : MS} {h : H} (r : PR D P h) : (P.pl.l.map ST.id).Pairwise (· < ·) := by
  unfold MS.pl
  rw [List.map_map]
  exact r.rise
theorem miss_pl {P : MS} {id : Int} (hn : ∀ e ∈ P.es, e.s.id ≠ id) : ∀ s ∈ P.pl.l, s.id ≠ id := fun s hs => by
  obtain ⟨e, he, rfl⟩ := List.mem_map.1 hs
  exact hn e he
theorem pair_look {n0 n1 k a n : Nat} {Ok : Nat → Prop} (hk : k < n0) (ho : ¬ Ok k) : fpApart (.cl n0 n1 Ok) (.lg [.rd k a n]) := fun e he => by
  rw [List.mem_singleton.1 he]
  exact .inr ⟨rfl, hk, ho⟩
theorem map_erase {α β : Type} (f : α → β) : ∀ (l : List α) (j : Nat), (l.eraseIdx j).map f = (l.map f).eraseIdx j
  | [], j => by simp
  | a :: l, 0 => rfl
  | a :: l, j + 1 => by
    show f a :: (l.eraseIdx j).map f = f a :: (l.map f).eraseIdx j
    rw [map_erase f l j]
def bothP (D : MD) (P : MS) (E : RD) (k : Nat) : Prop := owns D P k ∨ rowns E k
def Ans (S : Set0) (f g : FuncId) (args : List V) (D : MD) (P : MS) (E : RD) (i : Nat) : Prop := ∃ (e : Int) (P1 : MS), (∀ h', PR D P h' → callW S.cfg (owns D P) f (.ptr D.b 0 :: args) h' fun v h1 => v = .int .i64 e ∧ Stp D P h' D P1 h1) ∧
  (∀ h', RR E P.pl h' → callW S.cfg (rowns E) g (.ptr E.b 0 :: args) h' fun v h1 => v = .int .i64 e ∧ ∃ lv, RStp E h' ⟨E.b, lv⟩ P1.pl h1) ∧ Bd ((i + 1 : Nat) : Int) P1 ∧ Zi P1.pl
variable {S : Set0} (hS : StdQ S)
include hS
theorem bind_both {D : MD} {P : MS} (E : RD) {h : H} (r : PR D P h) {i : Nat} (bd : Bd (i : Int) P) (z : Zi P.pl) (id conn back : Int) : Ans S 13 36 [.int .u32 id, .int .i64 conn, .int .u32 back] D P E i := by
  have hlp : P.pl.l.length = P.es.length := List.length_map ..
  rcases id_cases P id with ⟨j, hj, hid⟩ | hno
  · have hj' : j < P.pl.l.length := by rw [hlp]; exact hj
    have hsj := pl_get hj hj'
    refine ⟨_, _, fun h' r' => bind_hit_spec hS.toStdP r' hj hid conn back, fun h' q' => callW_mono (rbind_hit hS.toStdP q' (rise_pl r) hj' (by rw [hsj]; exact hid) conn back) (fun _ w => w) fun v h1 w => ⟨by rw [← hsj]; exact w.1, E.lv, by rw [MS.set_pl _ hj, ← hsj]; exact w.2⟩, bd.setj hj (bindS_id _ _ _), by rw [MS.set_pl _ hj]; exact z.set (zi_bind (z _ (by rw [← hsj]; exact List.getElem_mem hj')) _ _)⟩
  · exact ⟨250, P, fun h' r' => callW_mono (bind_miss_spec hS.toStdP r' hno conn back) (fun _ w => w.elim) fun v h1 w => ⟨w.1, by rw [w.2]; exact Stp.refl r'⟩, fun h' q' => callW_mono (rbind_miss hS.toStdP q' (miss_pl hno) conn back) (fun _ w => w.elim) fun v h1 w => ⟨w.1, E.lv, by rw [w.2]; exact RStp.refl q'⟩, bd.up, z⟩
theorem long_both {D : MD} {P : MS} (E : RD) {h : H} (r : PR D P h) {i : Nat} (bd : Bd (i : Int) P) (z : Zi P.pl) (id : Int) (on : Prop) : Ans S 14 37 [.int .u32 id, bo on] D P E i := by
  have hlp : P.pl.l.length = P.es.length := List.length_map ..
  rcases id_cases P id with ⟨j, hj, hid⟩ | hno
  · have hj' : j < P.pl.l.length := by rw [hlp]; exact hj
    have hsj := pl_get hj hj'
    refine ⟨_, _, fun h' r' => long_hit_spec hS.toStdP r' hj hid on, fun h' q' => callW_mono (rlong_hit hS.toStdP q' (rise_pl r) hj' (by rw [hsj]; exact hid) on) (fun _ w => w) fun v h1 w => ⟨by rw [← hsj]; exact w.1, E.lv, by rw [MS.set_pl _ hj, ← hsj]; exact w.2⟩, bd.setj hj (longS_id _ _), by rw [MS.set_pl _ hj]; exact z.set (zi_long (z _ (by rw [← hsj]; exact List.getElem_mem hj')) _)⟩
  · exact ⟨250, P, fun h' r' => callW_mono (long_miss_spec hS.toStdP r' hno on) (fun _ w => w.elim) fun v h1 w => ⟨w.1, by rw [w.2]; exact Stp.refl r'⟩, fun h' q' => callW_mono (rlong_miss hS.toStdP q' (miss_pl hno) on) (fun _ w => w.elim) fun v h1 w => ⟨w.1, E.lv, by rw [w.2]; exact RStp.refl q'⟩, bd.up, z⟩
theorem cursor_both {D : MD} {P : MS} (E : RD) {h : H} (r : PR D P h) {i : Nat} (bd : Bd (i : Int) P) (z : Zi P.pl) (id : Int) (on : Prop) : Ans S 15 38 [.int .u32 id, bo on] D P E i := by
  have hlp : P.pl.l.length = P.es.length := List.length_map ..
  rcases id_cases P id with ⟨j, hj, hid⟩ | hno
  · have hj' : j < P.pl.l.length := by rw [hlp]; exact hj
    have hsj := pl_get hj hj'
    refine ⟨_, _, fun h' r' => cursor_hit_spec hS.toStdP r' hj hid on, fun h' q' => callW_mono (rcursor_hit hS.toStdP q' (rise_pl r) hj' (by rw [hsj]; exact hid) on) (fun _ w => w) fun v h1 w => ⟨by rw [← hsj]; exact w.1, E.lv, by rw [MS.set_pl _ hj, ← hsj]; exact w.2⟩, bd.setj hj (curS_id _ _), by rw [MS.set_pl _ hj]; exact z.set (zi_cur (z _ (by rw [← hsj]; exact List.getElem_mem hj')) _)⟩
  · exact ⟨250, P, fun h' r' => callW_mono (cursor_miss_spec hS.toStdP r' hno on) (fun _ w => w.elim) fun v h1 w => ⟨w.1, by rw [w.2]; exact Stp.refl r'⟩, fun h' q' => callW_mono (rcursor_miss hS.toStdP q' (miss_pl hno) on) (fun _ w => w.elim) fun v h1 w => ⟨w.1, E.lv, by rw [w.2]; exact RStp.refl q'⟩, bd.up, z⟩
theorem close_both {D : MD} {P : MS} (E : RD) {h : H} (r : PR D P h) {i : Nat} (bd : Bd (i : Int) P) (z : Zi P.pl) (id : Int) : Ans S 16 39 [.int .u32 id] D P E i := by
  have hlp : P.pl.l.length = P.es.length := List.length_map ..
  rcases id_cases P id with ⟨j, hj, hid⟩ | hno
  · have hj' : j < P.pl.l.length := by rw [hlp]; exact hj
    have hsj := pl_get hj hj'
    have hsub := List.eraseIdx_sublist P.es j
    have he : (⟨P.last, P.es.eraseIdx j⟩ : MS).pl = ⟨P.last, P.pl.l.eraseIdx j⟩ := by unfold MS.pl; simp only [map_erase]
    refine ⟨0, ⟨P.last, P.es.eraseIdx j⟩, fun h' r' => close_hit_spec hS.toStdP r' hj hid, fun h' q' => callW_mono (rclose_hit hS.toStdP q' (rise_pl r) hj' (by rw [hsj]; exact hid)) (fun _ w => w) fun v h1 ⟨w1, lv, w2⟩ => ⟨w1, lv, by rw [he]; exact w2⟩, ⟨bd.lo, (bd.up).hi, fun e he => bd.ids e (hsub.subset he), Nat.le_trans hsub.length_le bd.few⟩, z.sub (hsub.map EN.s) _⟩
  · exact ⟨250, P, fun h' r' => callW_mono (close_miss_spec hS.toStdP r' hno) (fun _ w => w.elim) fun v h1 w => ⟨w.1, by rw [w.2]; exact Stp.refl r'⟩, fun h' q' => callW_mono (rclose_miss hS.toStdP q' (miss_pl hno)) (fun _ w => w.elim) fun v h1 w => ⟨w.1, E.lv, by rw [w.2]; exact RStp.refl q'⟩, bd.up, z⟩
theorem get_both {D : MD} {P : MS} (E : RD) {h : H} (r : PR D P h) (id : Int) : ∃ (s : ST) (e : Int), (∀ h', PR D P h' → Pure S.cfg 22 [.ptr D.b 0, .int .u32 id] h' fun v _ => v = .tuple [.agg s.cells, .int .i64 e]) ∧ ∀ h', RR E P.pl h' → Pure S.cfg 34 [.ptr E.b 0, .int .u32 id] h' fun v _ => v = .tuple [.agg s.cells, .int .i64 e] := by
  have hlp : P.pl.l.length = P.es.length := List.length_map ..
  rcases id_cases P id with ⟨j, hj, hid⟩ | hno
  · have hj' : j < P.pl.l.length := by rw [hlp]; exact hj
    have hsj := pl_get hj hj'
    exact ⟨P.es[j].s, 0, fun h' r' => get_hit_spec hS.toStdP r' hj hid, fun h' q' => by have w := rget_hit (id := id) hS.toStdP q' (rise_pl r) hj' (by rw [hsj]; exact hid); rw [hsj] at w; exact w⟩
  · exact ⟨⟨0, [], 0, 0, 0, 0, False, False⟩, 250, fun h' r' => get_miss_spec hS.toStdP r' hno, fun h' q' => rget_miss hS.toStdP q' (miss_pl hno)⟩
theorem on_both {D : MD} {P : MS} (E : RD) {h : H} (r : PR D P h) (id conn : Int) : ∃ (b : Int) (p : Prop) (e : Int), (∀ h', PR D P h' → Exact S.cfg 20 [.ptr D.b 0, .int .u32 id, .int .i64 conn] h' (.tuple [.int .u32 b, bo p, .int .i64 e])) ∧ ∀ h', RR E P.pl h' → Pure S.cfg 35 [.ptr E.b 0, .int .u32 id, .int .i64 conn] h' fun v _ => v = .tuple [.int .u32 b, bo p, .int .i64 e] := by
  have hlp : P.pl.l.length = P.es.length := List.length_map ..
  rcases id_cases P id with ⟨j, hj, hid⟩ | hno
  · have hj' : j < P.pl.l.length := by rw [hlp]; exact hj
    have hsj := pl_get hj hj'
    obtain ⟨b, p, e, hf⟩ := onS_form P.es[j].s conn
    exact ⟨b, p, e, fun h' r' => by rw [← hf]; exact on_hit_spec hS.toStdP r' hj hid conn, fun h' q' => by have w := ron_hit (id := id) hS.toStdP q' (rise_pl r) hj' (by rw [hsj]; exact hid) conn; rw [hsj, hf] at w; exact w⟩
  · refine ⟨0, False, 250, fun h' r' => on_miss_spec hS.toStdP r' hno conn, fun h' q' => callW_mono (ron_miss hS.toStdP q' (miss_pl hno) conn) (fun _ w => w.elim) fun v h1 w => ⟨by rw [w.2]; exact Ext.refl h', w.1⟩⟩
theorem call_spec {D : MD} {P : MS} {E : RD} {h : H} (r : PR D P h) (q : RR E P.pl h) {i : Nat} (bd : Bd (i : Int) P) (hi : i ≤ 600) (z : Zi P.pl) (a : ACT) (htx : a.s.text.length ≤ 1000) : callW S.cfg (bothP D P E) 24 [.ptr D.b 0, .ptr E.b 0, .agg a.cells] h fun v h' => v = bo True ∧ ∃ D1 P1 E1, TStp D P E h D1 P1 E1 h' ∧ Bd ((i + 1 : Nat) : Int) P1 ∧ Zi P1.pl := by
  have hS' := hS.toStdP
  refine into Try.f24 _ Try.func24 (hS.ownP _ (by decide)) rfl rfl (by kernel_rfl) (by kernel_rfl) ?_
  unfold ACT.cells
  simp +contextual (disch := first | (simp only [facts, clsL, clsS, clsC, isPtrD]; done) | omega | (simp only [push_nx, put_nx, del_nx]; omega) | (refine Nat.le_antisymm ?_ ?_ <;> simp only [push_nx, put_nx, del_nx] <;> omega) | fail) only [wpy, facts, wpb, cst, wpk, wpl, forall_const, implies_true, false_implies, Int.reduceLE, Int.reduceLT, Nat.reduceLeDiff, UInt8.reduceToNat, ↓reduceIte, Nat.reduceEqDiff, Nat.reduceAdd, reduceCtorEq, Int.reduceToNat, clsL, clsS, clsC, Try.f24]
  generalize hhA : H.push h _ = hA
  have hxA : Ext h hA := by rw [← hhA]; exact (Ext.refl h).push _
  have hnA : hA.nx = h.nx + 1 := by rw [← hhA]; rfl
  have hgA : hA.get h.nx = some (.cells [.int .i64 a.kd, .int .u32 a.s.id, .str a.s.text, .int .u16 a.s.pa, .int .u16 a.s.co, .int .i64 a.s.conn, .int .u32 a.s.back, bo a.s.long, bo a.s.cur, .int .u32 a.id, .int .i64 a.n, .int .u32 a.back, bo a.on] 33 false) := by rw [← hhA]; exact push_eq rfl
  clear hhA
  have rA := r.ext hxA
  have qA := q.ext hxA
  have hlast := bd.hi
  have hrise := rise_pl r
  have hlp : P.pl.l.length = P.es.length := List.length_map ..
  have nown : ¬ owns D P h.nx := fun w => by have := owns_lt r w; omega
  have nrow : ¬ rowns E h.nx := fun w => by have := rowns_lt q w; omega
  have hO1 : ∀ k, owns D P k → fresh h.nx (bothP D P E) k := fun k w => by rw [fresh_def]; exact .inr (.inl w)
  have hO2 : ∀ k, rowns E k → fresh h.nx (bothP D P E) k := fun k w => by rw [fresh_def]; exact .inr (.inr w)
  have hst : ∀ {D1 P1 h1}, Stp D P hA D1 P1 h1 → h1.get h.nx = hA.get h.nx := fun st => st.same _ (by omega) nown
  have hbd : ∀ {j : Nat} (hj : j < P.es.length), P.es[j].s ∈ P.pl.l := fun hj => List.mem_map.2 ⟨_, List.getElem_mem hj, rfl⟩
  refine callF_exact (pick_spec hS' a.kd hA) ?_
  have hk9 : 0 ≤ a.kd % 9 ∧ a.kd % 9 < 9 := ⟨Int.emod_nonneg _ (by decide), Int.emod_lt_of_pos _ (by decide)⟩
  obtain ⟨kk, hkk⟩ : ∃ kk, kk = a.kd % 9 := ⟨_, rfl⟩
  rw [← hkk] at hk9 ⊢
  clear hkk
  by_cases k0 : kk = 0
  · simp +contextual (disch := first | (simp only [facts, clsL, clsS, clsC, isPtrD]; done) | omega | (simp only [push_nx, put_nx, del_nx]; omega) | (refine Nat.le_antisymm ?_ ?_ <;> simp only [push_nx, put_nx, del_nx] <;> omega) | fail) only [wpy, facts, wpb, cst, wpk, wpl, forall_const, implies_true, false_implies, Int.reduceLE, Int.reduceLT, Nat.reduceLeDiff, UInt8.reduceToNat, ↓reduceIte, Nat.reduceEqDiff, Nat.reduceAdd, reduceCtorEq, Int.reduceToNat, clsL, clsS, clsC, Try.f24, hgA, k0, Int.reduceEq, List.drop_succ_cons, List.drop_zero, List.take_succ_cons, List.take_zero]
    refine callF_of (add_spec hS' rA a.s htx bd.lo (by omega) bd.ids bd.few) hO1 ?_
    rintro v h1 ⟨rfl, D1, P1, st, hpl⟩
    have hg1 := hst st
    rw [hgA] at hg1
    have q1 := qA.stp rA st
    have eV : addV P.pl a.s = .tuple [.int .u32 (if addE P.pl a.s = 0 then P.pl.last + 1 else 0), .int .i64 (addE P.pl a.s)] := rfl
    obtain ⟨x, hx⟩ : ∃ x, addV P.pl a.s = .tuple [.int .u32 x, .int .i64 (addE P.pl a.s)] := ⟨_, rfl⟩
    rw [hx]
    simp +contextual (disch := first | (simp only [facts, clsL, clsS, clsC, isPtrD]; done) | omega | (simp only [push_nx, put_nx, del_nx]; omega) | (refine Nat.le_antisymm ?_ ?_ <;> simp only [push_nx, put_nx, del_nx] <;> omega) | fail) only [wpy, facts, wpb, cst, wpk, wpl, forall_const, implies_true, false_implies, Int.reduceLE, Int.reduceLT, Nat.reduceLeDiff, UInt8.reduceToNat, ↓reduceIte, Nat.reduceEqDiff, Nat.reduceAdd, reduceCtorEq, Int.reduceToNat, clsL, clsS, clsC, Try.f24, hg1, List.drop_succ_cons, List.drop_zero, List.take_succ_cons, List.take_zero]
    refine callF_of (radd_spec hS' q1 a.s htx bd.lo (by show P.last ≤ _; omega)) hO2 ?_
    rintro v h2 ⟨rfl, lv, rs⟩
    rw [hx]
    simp +contextual (disch := first | (simp only [facts, clsL, clsS, clsC, isPtrD]; done) | omega | (simp only [push_nx, put_nx, del_nx]; omega) | (refine Nat.le_antisymm ?_ ?_ <;> simp only [push_nx, put_nx, del_nx] <;> omega) | fail) only [wpy, facts, wpb, cst, wpk, wpl, forall_const, implies_true, false_implies, Int.reduceLE, Int.reduceLT, Nat.reduceLeDiff, UInt8.reduceToNat, ↓reduceIte, Nat.reduceEqDiff, Nat.reduceAdd, reduceCtorEq, Int.reduceToNat, clsL, clsS, clsC, Try.f24]
    exact ⟨_, _, _, (TStp.of rA qA st rs hpl.symm).lift hxA, bd.add hpl, by rw [hpl]; exact z.add _⟩
  by_cases k1 : kk = 1
  · simp +contextual (disch := first | (simp only [facts, clsL, clsS, clsC, isPtrD]; done) | omega | (simp only [push_nx, put_nx, del_nx]; omega) | (refine Nat.le_antisymm ?_ ?_ <;> simp only [push_nx, put_nx, del_nx] <;> omega) | fail) only [wpy, facts, wpb, cst, wpk, wpl, forall_const, implies_true, false_implies, Int.reduceLE, Int.reduceLT, Nat.reduceLeDiff, UInt8.reduceToNat, ↓reduceIte, Nat.reduceEqDiff, Nat.reduceAdd, reduceCtorEq, Int.reduceToNat, clsL, clsS, clsC, Try.f24, hgA, k1, Int.reduceEq]
    obtain ⟨s, e, hp, hq⟩ := get_both hS E r a.id
    obtain ⟨cs, hcs⟩ : ∃ cs, cs = s.cells := ⟨_, rfl⟩
    have hel : ∀ w, binV Try.prog .eql 31 w (.agg cs) (.agg cs) = some (bo True) := fun w => by rw [hcs]; exact eql_st w s
    have hcl : cs.length = 8 := by rw [hcs]; rfl
    have hcc : cs.all V.isCell = true := by rw [hcs]; rfl
    have hcp : listPut [V.int .u32 0, .str [], .int .u16 0, .int .u16 0, .int .i64 0, .int .u32 0, bo False, bo False] 0 cs = cs := put_all _ _ (by rw [hcl]; rfl)
    have hct : cs.take 8 = cs := by rw [← hcl, List.take_length]
    rw [← hcs] at hp hq
    clear hcs
    refine callF_pure (hp _ rA) ?_
    rintro v h1 hx1 rfl
    simp +contextual (disch := first | (simp only [facts, clsL, clsS, clsC, isPtrD]; done) | omega | (simp only [push_nx, put_nx, del_nx]; omega) | (refine Nat.le_antisymm ?_ ?_ <;> simp only [push_nx, put_nx, del_nx] <;> omega) | fail) only [wpy, facts, wpb, cst, wpk, wpl, forall_const, implies_true, false_implies, Int.reduceLE, Int.reduceLT, Nat.reduceLeDiff, UInt8.reduceToNat, ↓reduceIte, Nat.reduceEqDiff, Nat.reduceAdd, reduceCtorEq, Int.reduceToNat, clsL, clsS, clsC, Try.f24, hcl, hcc, hcp]
    generalize hhB : (H.put (H.push h1 _) _ _) = hB
    have hxB : Ext h1 hB := by rw [← hhB]; exact ((Ext.refl h1).push _).put (Nat.le_refl _) _
    have hgB : hB.get h1.nx = some (.cells cs 31 false) := by rw [← hhB]; exact put_eq rfl
    have hn1B : h1.nx < hB.nx := by rw [← hhB]; exact Nat.lt_succ_self _
    clear hhB
    have hxAB := hx1.trans hxB
    have hgA2 : hB.get h.nx = hA.get h.nx := hxAB.2 _ (by omega)
    rw [hgA] at hgA2
    have hn1 := hx1.1
    simp +contextual (disch := first | (simp only [facts, clsL, clsS, clsC, isPtrD]; done) | omega | (simp only [push_nx, put_nx, del_nx]; omega) | (refine Nat.le_antisymm ?_ ?_ <;> simp only [push_nx, put_nx, del_nx] <;> omega) | fail) only [wpy, facts, wpb, cst, wpk, wpl, forall_const, implies_true, false_implies, Int.reduceLE, Int.reduceLT, Nat.reduceLeDiff, UInt8.reduceToNat, ↓reduceIte, Nat.reduceEqDiff, Nat.reduceAdd, reduceCtorEq, Int.reduceToNat, clsL, clsS, clsC, Try.f24, hgA2]
    refine ⟨.inr (.inl (by omega)), ?_⟩
    refine callF_pure (hq _ (qA.ext hxAB)) ?_
    rintro v h2 hx2 rfl
    simp +contextual (disch := first | (simp only [facts, clsL, clsS, clsC, isPtrD]; done) | omega | (simp only [push_nx, put_nx, del_nx]; omega) | (refine Nat.le_antisymm ?_ ?_ <;> simp only [push_nx, put_nx, del_nx] <;> omega) | fail) only [wpy, facts, wpb, cst, wpk, wpl, forall_const, implies_true, false_implies, Int.reduceLE, Int.reduceLT, Nat.reduceLeDiff, UInt8.reduceToNat, ↓reduceIte, Nat.reduceEqDiff, Nat.reduceAdd, reduceCtorEq, Int.reduceToNat, clsL, clsS, clsC, Try.f24, hcl, hcc, hcp]
    generalize hhC : (H.put (H.push h2 _) _ _) = hC
    have hxC : Ext h2 hC := by rw [← hhC]; exact ((Ext.refl h2).push _).put (Nat.le_refl _) _
    have hgC : hC.get h2.nx = some (.cells cs 31 false) := by rw [← hhC]; exact put_eq rfl
    clear hhC
    have hgB2 : hC.get h1.nx = hB.get h1.nx := (hx2.trans hxC).2 _ hn1B
    rw [hgB] at hgB2
    have hn2 := hx2.1
    have hxAC := (hxAB.trans hx2).trans hxC
    simp +contextual (disch := first | (simp only [facts, clsL, clsS, clsC, isPtrD]; done) | omega | (simp only [push_nx, put_nx, del_nx]; omega) | (refine Nat.le_antisymm ?_ ?_ <;> simp only [push_nx, put_nx, del_nx] <;> omega) | fail) only [wpy, facts, wpb, cst, wpk, wpl, forall_const, implies_true, false_implies, Int.reduceLE, Int.reduceLT, Nat.reduceLeDiff, UInt8.reduceToNat, ↓reduceIte, Nat.reduceEqDiff, Nat.reduceAdd, reduceCtorEq, Int.reduceToNat, clsL, clsS, clsC, hgB2, hct, hel, hcl]
    exact ⟨.inr (.inl (by have := hxAB.1; omega)), _, _, _, ((TStp.refl rA qA).grow hxAC).lift hxA, bd.up, z⟩
  by_cases k2 : kk = 2
  · simp +contextual (disch := first | (simp only [facts, clsL, clsS, clsC, isPtrD]; done) | omega | (simp only [push_nx, put_nx, del_nx]; omega) | (refine Nat.le_antisymm ?_ ?_ <;> simp only [push_nx, put_nx, del_nx] <;> omega) | fail) only [wpy, facts, wpb, cst, wpk, wpl, forall_const, implies_true, false_implies, Int.reduceLE, Int.reduceLT, Nat.reduceLeDiff, UInt8.reduceToNat, ↓reduceIte, Nat.reduceEqDiff, Nat.reduceAdd, reduceCtorEq, Int.reduceToNat, clsL, clsS, clsC, Try.f24, hgA, k2, Int.reduceEq]
    obtain ⟨b, p, e, hp, hq⟩ := on_both hS E r a.id a.n
    refine callF_exact (hp _ rA) ?_
    simp +contextual (disch := first | (simp only [facts, clsL, clsS, clsC, isPtrD]; done) | omega | (simp only [push_nx, put_nx, del_nx]; omega) | (refine Nat.le_antisymm ?_ ?_ <;> simp only [push_nx, put_nx, del_nx] <;> omega) | fail) only [wpy, facts, wpb, cst, wpk, wpl, forall_const, implies_true, false_implies, Int.reduceLE, Int.reduceLT, Nat.reduceLeDiff, UInt8.reduceToNat, ↓reduceIte, Nat.reduceEqDiff, Nat.reduceAdd, reduceCtorEq, Int.reduceToNat, clsL, clsS, clsC, Try.f24, hgA]
    refine callF_pure (hq _ qA) ?_
    rintro v h2 hx2 rfl
    simp +contextual (disch := first | (simp only [facts, clsL, clsS, clsC, isPtrD]; done) | omega | (simp only [push_nx, put_nx, del_nx]; omega) | (refine Nat.le_antisymm ?_ ?_ <;> simp only [push_nx, put_nx, del_nx] <;> omega) | fail) only [wpy, facts, wpb, cst, wpk, wpl, forall_const, implies_true, false_implies, Int.reduceLE, Int.reduceLT, Nat.reduceLeDiff, UInt8.reduceToNat, ↓reduceIte, Nat.reduceEqDiff, Nat.reduceAdd, reduceCtorEq, Int.reduceToNat, clsL, clsS, clsC, Try.f24, eql4]
    exact ⟨_, _, _, ((TStp.refl rA qA).grow hx2).lift hxA, bd.up, z⟩
  by_cases k3 : kk = 3
  · simp +contextual (disch := first | (simp only [facts, clsL, clsS, clsC, isPtrD]; done) | omega | (simp only [push_nx, put_nx, del_nx]; omega) | (refine Nat.le_antisymm ?_ ?_ <;> simp only [push_nx, put_nx, del_nx] <;> omega) | fail) only [wpy, facts, wpb, cst, wpk, wpl, forall_const, implies_true, false_implies, Int.reduceLE, Int.reduceLT, Nat.reduceLeDiff, UInt8.reduceToNat, ↓reduceIte, Nat.reduceEqDiff, Nat.reduceAdd, reduceCtorEq, Int.reduceToNat, clsL, clsS, clsC, Try.f24, hgA, k3, Int.reduceEq]
    obtain ⟨e, P1, hp, hq, hb, hz⟩ := bind_both hS E r bd z a.id a.n a.back
    refine draw_by [(7, 10), (7, 12), (7, 14)] (by kernel_rfl) ?_
    simp +contextual (disch := first | (simp only [facts, clsL, clsS, clsC, isPtrD]; done) | omega | (simp only [push_nx, put_nx, del_nx]; omega) | (refine Nat.le_antisymm ?_ ?_ <;> simp only [push_nx, put_nx, del_nx] <;> omega) | fail) only [wpy, facts, wpb, cst, wpk, wpl, forall_const, implies_true, false_implies, Int.reduceLE, Int.reduceLT, Nat.reduceLeDiff, UInt8.reduceToNat, ↓reduceIte, Nat.reduceEqDiff, Nat.reduceAdd, reduceCtorEq, Int.reduceToNat, clsL, clsS, clsC, Try.f24, hgA]
    refine callF_of (hp _ rA) hO1 ?_
    rintro v h1 ⟨rfl, st⟩
    have hg1 := hst st
    rw [hgA] at hg1
    simp +contextual (disch := first | (simp only [facts, clsL, clsS, clsC, isPtrD]; done) | omega | (simp only [push_nx, put_nx, del_nx]; omega) | (refine Nat.le_antisymm ?_ ?_ <;> simp only [push_nx, put_nx, del_nx] <;> omega) | fail) only [wpy, facts, wpb, cst, wpk, wpl, forall_const, implies_true, false_implies, Int.reduceLE, Int.reduceLT, Nat.reduceLeDiff, UInt8.reduceToNat, ↓reduceIte, Nat.reduceEqDiff, Nat.reduceAdd, reduceCtorEq, Int.reduceToNat, clsL, clsS, clsC, Try.f24, hg1]
    refine callF_of (hq _ (qA.stp rA st)) hO2 ?_
    rintro v h2 ⟨rfl, lv, rs⟩
    simp +contextual (disch := first | (simp only [facts, clsL, clsS, clsC, isPtrD]; done) | omega | (simp only [push_nx, put_nx, del_nx]; omega) | (refine Nat.le_antisymm ?_ ?_ <;> simp only [push_nx, put_nx, del_nx] <;> omega) | fail) only [wpy, facts, wpb, cst, wpk, wpl, forall_const, implies_true, false_implies, Int.reduceLE, Int.reduceLT, Nat.reduceLeDiff, UInt8.reduceToNat, ↓reduceIte, Nat.reduceEqDiff, Nat.reduceAdd, reduceCtorEq, Int.reduceToNat, clsL, clsS, clsC, Try.f24]
    refine ⟨fun w hw => ?_, _, _, _, (TStp.of rA qA st rs rfl).lift hxA, hb, hz⟩
    have hn : h.nx < hA.nx := by omega
    simp only [List.mem_cons, List.not_mem_nil, or_false] at hw
    rcases hw with rfl | rfl | rfl <;> exact pair_one rfl rfl (pair_look hn nown)
  by_cases k4 : kk = 4
  · simp +contextual (disch := first | (simp only [facts, clsL, clsS, clsC, isPtrD]; done) | omega | (simp only [push_nx, put_nx, del_nx]; omega) | (refine Nat.le_antisymm ?_ ?_ <;> simp only [push_nx, put_nx, del_nx] <;> omega) | fail) only [wpy, facts, wpb, cst, wpk, wpl, forall_const, implies_true, false_implies, Int.reduceLE, Int.reduceLT, Nat.reduceLeDiff, UInt8.reduceToNat, ↓reduceIte, Nat.reduceEqDiff, Nat.reduceAdd, reduceCtorEq, Int.reduceToNat, clsL, clsS, clsC, Try.f24, hgA, k4, Int.reduceEq]
    obtain ⟨e, P1, hp, hq, hb, hz⟩ := long_both hS E r bd z a.id a.on
    refine draw_by [(5, 8), (5, 10)] (by kernel_rfl) ?_
    simp +contextual (disch := first | (simp only [facts, clsL, clsS, clsC, isPtrD]; done) | omega | (simp only [push_nx, put_nx, del_nx]; omega) | (refine Nat.le_antisymm ?_ ?_ <;> simp only [push_nx, put_nx, del_nx] <;> omega) | fail) only [wpy, facts, wpb, cst, wpk, wpl, forall_const, implies_true, false_implies, Int.reduceLE, Int.reduceLT, Nat.reduceLeDiff, UInt8.reduceToNat, ↓reduceIte, Nat.reduceEqDiff, Nat.reduceAdd, reduceCtorEq, Int.reduceToNat, clsL, clsS, clsC, Try.f24, hgA]
    refine callF_of (hp _ rA) hO1 ?_
    rintro v h1 ⟨rfl, st⟩
    have hg1 := hst st
    rw [hgA] at hg1
    simp +contextual (disch := first | (simp only [facts, clsL, clsS, clsC, isPtrD]; done) | omega | (simp only [push_nx, put_nx, del_nx]; omega) | (refine Nat.le_antisymm ?_ ?_ <;> simp only [push_nx, put_nx, del_nx] <;> omega) | fail) only [wpy, facts, wpb, cst, wpk, wpl, forall_const, implies_true, false_implies, Int.reduceLE, Int.reduceLT, Nat.reduceLeDiff, UInt8.reduceToNat, ↓reduceIte, Nat.reduceEqDiff, Nat.reduceAdd, reduceCtorEq, Int.reduceToNat, clsL, clsS, clsC, Try.f24, hg1]
    refine callF_of (hq _ (qA.stp rA st)) hO2 ?_
    rintro v h2 ⟨rfl, lv, rs⟩
    simp +contextual (disch := first | (simp only [facts, clsL, clsS, clsC, isPtrD]; done) | omega | (simp only [push_nx, put_nx, del_nx]; omega) | (refine Nat.le_antisymm ?_ ?_ <;> simp only [push_nx, put_nx, del_nx] <;> omega) | fail) only [wpy, facts, wpb, cst, wpk, wpl, forall_const, implies_true, false_implies, Int.reduceLE, Int.reduceLT, Nat.reduceLeDiff, UInt8.reduceToNat, ↓reduceIte, Nat.reduceEqDiff, Nat.reduceAdd, reduceCtorEq, Int.reduceToNat, clsL, clsS, clsC, Try.f24]
    refine ⟨fun w hw => ?_, _, _, _, (TStp.of rA qA st rs rfl).lift hxA, hb, hz⟩
    have hn : h.nx < hA.nx := by omega
    simp only [List.mem_cons, List.not_mem_nil, or_false] at hw
    rcases hw with rfl | rfl <;> exact pair_one rfl rfl (pair_look hn nown)
  by_cases k5 : kk = 5
  · simp +contextual (disch := first | (simp only [facts, clsL, clsS, clsC, isPtrD]; done) | omega | (simp only [push_nx, put_nx, del_nx]; omega) | (refine Nat.le_antisymm ?_ ?_ <;> simp only [push_nx, put_nx, del_nx] <;> omega) | fail) only [wpy, facts, wpb, cst, wpk, wpl, forall_const, implies_true, false_implies, Int.reduceLE, Int.reduceLT, Nat.reduceLeDiff, UInt8.reduceToNat, ↓reduceIte, Nat.reduceEqDiff, Nat.reduceAdd, reduceCtorEq, Int.reduceToNat, clsL, clsS, clsC, Try.f24, hgA, k5, Int.reduceEq]
    obtain ⟨e, P1, hp, hq, hb, hz⟩ := cursor_both hS E r bd z a.id a.on
    refine draw_by [(5, 8), (5, 10)] (by kernel_rfl) ?_
    simp +contextual (disch := first | (simp only [facts, clsL, clsS, clsC, isPtrD]; done) | omega | (simp only [push_nx, put_nx, del_nx]; omega) | (refine Nat.le_antisymm ?_ ?_ <;> simp only [push_nx, put_nx, del_nx] <;> omega) | fail) only [wpy, facts, wpb, cst, wpk, wpl, forall_const, implies_true, false_implies, Int.reduceLE, Int.reduceLT, Nat.reduceLeDiff, UInt8.reduceToNat, ↓reduceIte, Nat.reduceEqDiff, Nat.reduceAdd, reduceCtorEq, Int.reduceToNat, clsL, clsS, clsC, Try.f24, hgA]
    refine callF_of (hp _ rA) hO1 ?_
    rintro v h1 ⟨rfl, st⟩
    have hg1 := hst st
    rw [hgA] at hg1
    simp +contextual (disch := first | (simp only [facts, clsL, clsS, clsC, isPtrD]; done) | omega | (simp only [push_nx, put_nx, del_nx]; omega) | (refine Nat.le_antisymm ?_ ?_ <;> simp only [push_nx, put_nx, del_nx] <;> omega) | fail) only [wpy, facts, wpb, cst, wpk, wpl, forall_const, implies_true, false_implies, Int.reduceLE, Int.reduceLT, Nat.reduceLeDiff, UInt8.reduceToNat, ↓reduceIte, Nat.reduceEqDiff, Nat.reduceAdd, reduceCtorEq, Int.reduceToNat, clsL, clsS, clsC, Try.f24, hg1]
    refine callF_of (hq _ (qA.stp rA st)) hO2 ?_
    rintro v h2 ⟨rfl, lv, rs⟩
    simp +contextual (disch := first | (simp only [facts, clsL, clsS, clsC, isPtrD]; done) | omega | (simp only [push_nx, put_nx, del_nx]; omega) | (refine Nat.le_antisymm ?_ ?_ <;> simp only [push_nx, put_nx, del_nx] <;> omega) | fail) only [wpy, facts, wpb, cst, wpk, wpl, forall_const, implies_true, false_implies, Int.reduceLE, Int.reduceLT, Nat.reduceLeDiff, UInt8.reduceToNat, ↓reduceIte, Nat.reduceEqDiff, Nat.reduceAdd, reduceCtorEq, Int.reduceToNat, clsL, clsS, clsC, Try.f24]
    refine ⟨fun w hw => ?_, _, _, _, (TStp.of rA qA st rs rfl).lift hxA, hb, hz⟩
    have hn : h.nx < hA.nx := by omega
    simp only [List.mem_cons, List.not_mem_nil, or_false] at hw
    rcases hw with rfl | rfl <;> exact pair_one rfl rfl (pair_look hn nown)
  by_cases k6 : kk = 6
  · simp +contextual (disch := first | (simp only [facts, clsL, clsS, clsC, isPtrD]; done) | omega | (simp only [push_nx, put_nx, del_nx]; omega) | (refine Nat.le_antisymm ?_ ?_ <;> simp only [push_nx, put_nx, del_nx] <;> omega) | fail) only [wpy, facts, wpb, cst, wpk, wpl, forall_const, implies_true, false_implies, Int.reduceLE, Int.reduceLT, Nat.reduceLeDiff, UInt8.reduceToNat, ↓reduceIte, Nat.reduceEqDiff, Nat.reduceAdd, reduceCtorEq, Int.reduceToNat, clsL, clsS, clsC, Try.f24, hgA, k6, Int.reduceEq]
    obtain ⟨e, P1, hp, hq, hb, hz⟩ := close_both hS E r bd z a.id
    refine draw_by [(3, 6)] (by kernel_rfl) ?_
    simp +contextual (disch := first | (simp only [facts, clsL, clsS, clsC, isPtrD]; done) | omega | (simp only [push_nx, put_nx, del_nx]; omega) | (refine Nat.le_antisymm ?_ ?_ <;> simp only [push_nx, put_nx, del_nx] <;> omega) | fail) only [wpy, facts, wpb, cst, wpk, wpl, forall_const, implies_true, false_implies, Int.reduceLE, Int.reduceLT, Nat.reduceLeDiff, UInt8.reduceToNat, ↓reduceIte, Nat.reduceEqDiff, Nat.reduceAdd, reduceCtorEq, Int.reduceToNat, clsL, clsS, clsC, Try.f24, hgA]
    refine callF_of (hp _ rA) hO1 ?_
    rintro v h1 ⟨rfl, st⟩
    have hg1 := hst st
    rw [hgA] at hg1
    simp +contextual (disch := first | (simp only [facts, clsL, clsS, clsC, isPtrD]; done) | omega | (simp only [push_nx, put_nx, del_nx]; omega) | (refine Nat.le_antisymm ?_ ?_ <;> simp only [push_nx, put_nx, del_nx] <;> omega) | fail) only [wpy, facts, wpb, cst, wpk, wpl, forall_const, implies_true, false_implies, Int.reduceLE, Int.reduceLT, Nat.reduceLeDiff, UInt8.reduceToNat, ↓reduceIte, Nat.reduceEqDiff, Nat.reduceAdd, reduceCtorEq, Int.reduceToNat, clsL, clsS, clsC, Try.f24, hg1]
    refine callF_of (hq _ (qA.stp rA st)) hO2 ?_
    rintro v h2 ⟨rfl, lv, rs⟩
    simp +contextual (disch := first | (simp only [facts, clsL, clsS, clsC, isPtrD]; done) | omega | (simp only [push_nx, put_nx, del_nx]; omega) | (refine Nat.le_antisymm ?_ ?_ <;> simp only [push_nx, put_nx, del_nx] <;> omega) | fail) only [wpy, facts, wpb, cst, wpk, wpl, forall_const, implies_true, false_implies, Int.reduceLE, Int.reduceLT, Nat.reduceLeDiff, UInt8.reduceToNat, ↓reduceIte, Nat.reduceEqDiff, Nat.reduceAdd, reduceCtorEq, Int.reduceToNat, clsL, clsS, clsC, Try.f24]
    refine ⟨fun w hw => ?_, _, _, _, (TStp.of rA qA st rs rfl).lift hxA, hb, hz⟩
    have hn : h.nx < hA.nx := by omega
    simp only [List.mem_cons, List.not_mem_nil, or_false] at hw
    rcases hw with rfl <;> exact pair_one rfl rfl (pair_look hn nown)
  by_cases k7 : kk = 7
  · simp +contextual (disch := first | (simp only [facts, clsL, clsS, clsC, isPtrD]; done) | omega | (simp only [push_nx, put_nx, del_nx]; omega) | (refine Nat.le_antisymm ?_ ?_ <;> simp only [push_nx, put_nx, del_nx] <;> omega) | fail) only [wpy, facts, wpb, cst, wpk, wpl, forall_const, implies_true, false_implies, Int.reduceLE, Int.reduceLT, Nat.reduceLeDiff, UInt8.reduceToNat, ↓reduceIte, Nat.reduceEqDiff, Nat.reduceAdd, reduceCtorEq, Int.reduceToNat, clsL, clsS, clsC, Try.f24, hgA, k7, Int.reduceEq]
    refine callF_of (unbind_spec hS rA a.n) hO1 ?_
    rintro v h1 st
    have hg1 := hst st
    rw [hgA] at hg1
    have q1 := qA.stp rA st
    simp +contextual (disch := first | (simp only [facts, clsL, clsS, clsC, isPtrD]; done) | omega | (simp only [push_nx, put_nx, del_nx]; omega) | (refine Nat.le_antisymm ?_ ?_ <;> simp only [push_nx, put_nx, del_nx] <;> omega) | fail) only [wpy, facts, wpb, cst, wpk, wpl, forall_const, implies_true, false_implies, Int.reduceLE, Int.reduceLT, Nat.reduceLeDiff, UInt8.reduceToNat, ↓reduceIte, Nat.reduceEqDiff, Nat.reduceAdd, reduceCtorEq, Int.reduceToNat, clsL, clsS, clsC, Try.f24, hg1]
    refine callF_of (runbind_spec hS' q1 a.n) hO2 ?_
    rintro v h2 rs
    simp +contextual (disch := first | (simp only [facts, clsL, clsS, clsC, isPtrD]; done) | omega | (simp only [push_nx, put_nx, del_nx]; omega) | (refine Nat.le_antisymm ?_ ?_ <;> simp only [push_nx, put_nx, del_nx] <;> omega) | fail) only [wpy, facts, wpb, cst, wpk, wpl, forall_const, implies_true, false_implies, Int.reduceLE, Int.reduceLT, Nat.reduceLeDiff, UInt8.reduceToNat, ↓reduceIte, Nat.reduceEqDiff, Nat.reduceAdd, reduceCtorEq, Int.reduceToNat, clsL, clsS, clsC, Try.f24]
    refine ⟨_, _, _, (TStp.of rA qA st rs ?_).lift hxA, ⟨bd.lo, (bd.up).hi, fun e he => ?_, ?_⟩, by rw [unb_pl hS]; exact z.unb _⟩
    · rw [unb_pl hS, unb_same z]; rfl
    · obtain ⟨e0, h0, rfl⟩ := List.mem_map.1 he
      show (unbR a.n e0.s).id ≤ P.last
      rw [unbR_id]; exact bd.ids e0 h0
    · show (P.es.map _).length ≤ 256
      rw [List.length_map]; exact bd.few
  · simp +contextual (disch := first | (simp only [facts, clsL, clsS, clsC, isPtrD]; done) | omega | (simp only [push_nx, put_nx, del_nx]; omega) | (refine Nat.le_antisymm ?_ ?_ <;> simp only [push_nx, put_nx, del_nx] <;> omega) | fail) only [wpy, facts, wpb, cst, wpk, wpl, forall_const, implies_true, false_implies, Int.reduceLE, Int.reduceLT, Nat.reduceLeDiff, UInt8.reduceToNat, ↓reduceIte, Nat.reduceEqDiff, Nat.reduceAdd, reduceCtorEq, Int.reduceToNat, clsL, clsS, clsC, Try.f24, hgA, k0, k1, k2, k3, k4, k5, k6, k7, Int.reduceEq]
    refine callF_of (clear_spec hS' rA) hO1 ?_
    rintro v h1 st
    have q1 := qA.stp rA st
    simp +contextual (disch := first | (simp only [facts, clsL, clsS, clsC, isPtrD]; done) | omega | (simp only [push_nx, put_nx, del_nx]; omega) | (refine Nat.le_antisymm ?_ ?_ <;> simp only [push_nx, put_nx, del_nx] <;> omega) | fail) only [wpy, facts, wpb, cst, wpk, wpl, forall_const, implies_true, false_implies, Int.reduceLE, Int.reduceLT, Nat.reduceLeDiff, UInt8.reduceToNat, ↓reduceIte, Nat.reduceEqDiff, Nat.reduceAdd, reduceCtorEq, Int.reduceToNat, clsL, clsS, clsC, Try.f24]
    refine callF_of (rclear_spec hS' q1) hO2 ?_
    rintro v h2 rs
    simp +contextual (disch := first | (simp only [facts, clsL, clsS, clsC, isPtrD]; done) | omega | (simp only [push_nx, put_nx, del_nx]; omega) | (refine Nat.le_antisymm ?_ ?_ <;> simp only [push_nx, put_nx, del_nx] <;> omega) | fail) only [wpy, facts, wpb, cst, wpk, wpl, forall_const, implies_true, false_implies, Int.reduceLE, Int.reduceLT, Nat.reduceLeDiff, UInt8.reduceToNat, ↓reduceIte, Nat.reduceEqDiff, Nat.reduceAdd, reduceCtorEq, Int.reduceToNat, clsL, clsS, clsC, Try.f24]
    exact ⟨_, _, _, (TStp.of rA qA st rs rfl).lift hxA, ⟨bd.lo, (bd.up).hi, fun e he => (by cases he), Nat.zero_le _⟩, z.sub (List.nil_sublist _) _⟩
end
noncomputable section
structure Sd (h0 : H) (i : Nat) (D : MD) (P : MS) (E : RD) (h' : H) : Prop where
  pr : PR D P h'
  rr : RR E P.pl h'
  bd : Bd (i : Int) P
  zi : Zi P.pl
  o1 : ∀ k, owns D P k → h0.nx ≤ k
  o2 : ∀ k, rowns E k → h0.nx ≤ k
  ext : Ext h0 h'
def ScI (al : List ACT) (lv : V) (h0 : H) (m : Nat) (env : Env) (h' : H) : Prop :=
  ∃ (i : Nat) (D : MD) (P : MS) (E : RD), m = al.length - i ∧ i ≤ al.length ∧ env 0 = lv ∧ env 3 = .ptr D.b 0 ∧ env 4 = .ptr E.b 0 ∧ env 5 = .int .i64 i ∧ Sd h0 i D P E h'
theorem Sd.grow {h0 h h1 : H} {i : Nat} {D : MD} {P : MS} {E : RD} (x : Sd h0 i D P E h) (hx : Ext h h1) : Sd h0 i D P E h1 :=
  ⟨x.pr.ext hx, x.rr.ext hx, x.bd, x.zi, x.o1, x.o2, x.ext.trans hx⟩
theorem Sd.step {h0 h h1 : H} {i : Nat} {D D1 : MD} {P P1 : MS} {E E1 : RD} (x : Sd h0 i D P E h) (st : TStp D P E h D1 P1 E1 h1) (bd : Bd ((i + 1 : Nat) : Int) P1) (z : Zi P1.pl) : Sd h0 (i + 1) D1 P1 E1 h1 where
  pr := st.pr
  rr := st.rr
  bd := bd
  zi := z
  o1 := fun k w => (st.o1 k w).elim (x.o1 k) fun w => Nat.le_trans x.ext.1 w
  o2 := fun k w => (st.o2 k w).elim (x.o2 k) fun w => Nat.le_trans x.ext.1 w
  ext := ⟨Nat.le_trans x.ext.1 st.nx, fun k hk => by
    rw [st.same k (Nat.lt_of_lt_of_le hk x.ext.1) (fun w => by have := x.o1 k w; omega) fun w => by have := x.o2 k w; omega]
    exact x.ext.2 k hk⟩
variable {S : Set0} (hS : StdQ S)
include hS
theorem script_law (al : List ACT) (lv : V) (h : H) (ha : ARow h lv al) (hl : al.length < 2 ^ 63) : Pure S.cfg 5 [lv] h fun v _ => v = .bool true := by
  have hS' := hS.toStdP
  refine into Try.f5 _ Try.func5 (hS.ownP _ (by decide)) rfl rfl (by kernel_rfl) (by kernel_rfl) ?_
  simp +contextual (disch := first | (simp only [facts, clsL, clsS, clsC, isPtrD]; done) | omega | (simp only [push_nx, put_nx, del_nx]; omega) | (refine Nat.le_antisymm ?_ ?_ <;> simp only [push_nx, put_nx, del_nx] <;> omega) | fail) only [wpy, facts, wpb, cst, wpk, wpl, forall_const, implies_true, false_implies, Int.reduceLE, Int.reduceLT, Nat.reduceLeDiff, UInt8.reduceToNat, ↓reduceIte, Nat.reduceEqDiff, Nat.reduceAdd, reduceCtorEq, Int.reduceToNat, clsL, clsS, clsC, Try.f5]
  refine callF_exact (hS.lives h) ?_
  simp +contextual (disch := first | (simp only [facts, clsL, clsS, clsC, isPtrD]; done) | omega | (simp only [push_nx, put_nx, del_nx]; omega) | (refine Nat.le_antisymm ?_ ?_ <;> simp only [push_nx, put_nx, del_nx] <;> omega) | fail) only [wpy, facts, wpb, cst, wpk, wpl, forall_const, implies_true, false_implies, Int.reduceLE, Int.reduceLT, Nat.reduceLeDiff, UInt8.reduceToNat, ↓reduceIte, Nat.reduceEqDiff, Nat.reduceAdd, reduceCtorEq, Int.reduceToNat, clsL, clsS, clsC, Try.f5]
  refine callF_exact (small_spec hS' ha hl) ?_
  by_cases hnsm : ¬ smallP al
  · simp +contextual (disch := first | (simp only [facts, clsL, clsS, clsC, isPtrD]; done) | omega | (simp only [push_nx, put_nx, del_nx]; omega) | (refine Nat.le_antisymm ?_ ?_ <;> simp only [push_nx, put_nx, del_nx] <;> omega) | fail) only [wpy, facts, wpb, cst, wpk, wpl, forall_const, implies_true, false_implies, Int.reduceLE, Int.reduceLT, Nat.reduceLeDiff, UInt8.reduceToNat, ↓reduceIte, Nat.reduceEqDiff, Nat.reduceAdd, reduceCtorEq, Int.reduceToNat, clsL, clsS, clsC, Try.f5, hnsm]
    exact Ext.refl h
  have hsm : smallP al := Classical.not_not.1 hnsm
  simp +contextual (disch := first | (simp only [facts, clsL, clsS, clsC, isPtrD]; done) | omega | (simp only [push_nx, put_nx, del_nx]; omega) | (refine Nat.le_antisymm ?_ ?_ <;> simp only [push_nx, put_nx, del_nx] <;> omega) | fail) only [wpy, facts, wpb, cst, wpk, wpl, forall_const, implies_true, false_implies, Int.reduceLE, Int.reduceLT, Nat.reduceLeDiff, UInt8.reduceToNat, ↓reduceIte, Nat.reduceEqDiff, Nat.reduceAdd, reduceCtorEq, Int.reduceToNat, clsL, clsS, clsC, Try.f5, hsm]
  refine callF_of (new_spec hS' h) (fun _ q => q.elim) ?_
  rintro v h1 ⟨D0, rfl, r0, hx1, hd1, hd2⟩
  simp +contextual (disch := first | (simp only [facts, clsL, clsS, clsC, isPtrD]; done) | omega | (simp only [push_nx, put_nx, del_nx]; omega) | (refine Nat.le_antisymm ?_ ?_ <;> simp only [push_nx, put_nx, del_nx] <;> omega) | fail) only [wpy, facts, wpb, cst, wpk, wpl, forall_const, implies_true, false_implies, Int.reduceLE, Int.reduceLT, Nat.reduceLeDiff, UInt8.reduceToNat, ↓reduceIte, Nat.reduceEqDiff, Nat.reduceAdd, reduceCtorEq, Int.reduceToNat, clsL, clsS, clsC, Try.f5]
  refine callF_of (rnew_spec hS' h1) (fun _ q => q.elim) ?_
  rintro v h2 ⟨E0, rfl, q0, hx2, hd3⟩
  simp +contextual (disch := first | (simp only [facts, clsL, clsS, clsC, isPtrD]; done) | omega | (simp only [push_nx, put_nx, del_nx]; omega) | (refine Nat.le_antisymm ?_ ?_ <;> simp only [push_nx, put_nx, del_nx] <;> omega) | fail) only [wpy, facts, wpb, cst, wpk, wpl, forall_const, implies_true, false_implies, Int.reduceLE, Int.reduceLT, Nat.reduceLeDiff, UInt8.reduceToNat, ↓reduceIte, Nat.reduceEqDiff, Nat.reduceAdd, reduceCtorEq, Int.reduceToNat, clsL, clsS, clsC, Try.f5]
  have hx12 := hx1.trans hx2
  have hn1 := hx1.1
  have hR0 : Sd h 0 D0 ⟨0, []⟩ E0 h2 := ⟨r0.ext hx2, q0, ⟨Int.le_refl _, Int.le_refl _, fun e he => (by cases he), Nat.zero_le _⟩, fun s hs => (by cases hs), fun k w => (by
    rcases w with rfl | rfl | ⟨e, he, _⟩
    · exact hd1
    · exact hd2
    · cases he), fun k w => Nat.le_trans hn1 (hd3 k w), hx12⟩
  refine run_loop (ScI al lv h) al.length ⟨0, D0, ⟨0, []⟩, E0, (Nat.sub_zero _).symm, Nat.zero_le _, by simp +contextual (disch := first | (simp only [facts, clsL, clsS, clsC, isPtrD]; done) | omega | (simp only [push_nx, put_nx, del_nx]; omega) | (refine Nat.le_antisymm ?_ ?_ <;> simp only [push_nx, put_nx, del_nx] <;> omega) | fail) only [wpy, facts, wpb, cst, wpk, wpl, forall_const, implies_true, false_implies, Int.reduceLE, Int.reduceLT, Nat.reduceLeDiff, UInt8.reduceToNat, ↓reduceIte, Nat.reduceEqDiff, Nat.reduceAdd, reduceCtorEq, Int.reduceToNat, clsL, clsS, clsC], by simp +contextual (disch := first | (simp only [facts, clsL, clsS, clsC, isPtrD]; done) | omega | (simp only [push_nx, put_nx, del_nx]; omega) | (refine Nat.le_antisymm ?_ ?_ <;> simp only [push_nx, put_nx, del_nx] <;> omega) | fail) only [wpy, facts, wpb, cst, wpk, wpl, forall_const, implies_true, false_implies, Int.reduceLE, Int.reduceLT, Nat.reduceLeDiff, UInt8.reduceToNat, ↓reduceIte, Nat.reduceEqDiff, Nat.reduceAdd, reduceCtorEq, Int.reduceToNat, clsL, clsS, clsC], by simp +contextual (disch := first | (simp only [facts, clsL, clsS, clsC, isPtrD]; done) | omega | (simp only [push_nx, put_nx, del_nx]; omega) | (refine Nat.le_antisymm ?_ ?_ <;> simp only [push_nx, put_nx, del_nx] <;> omega) | fail) only [wpy, facts, wpb, cst, wpk, wpl, forall_const, implies_true, false_implies, Int.reduceLE, Int.reduceLT, Nat.reduceLeDiff, UInt8.reduceToNat, ↓reduceIte, Nat.reduceEqDiff, Nat.reduceAdd, reduceCtorEq, Int.reduceToNat, clsL, clsS, clsC], by simp +contextual (disch := first | (simp only [facts, clsL, clsS, clsC, isPtrD]; done) | omega | (simp only [push_nx, put_nx, del_nx]; omega) | (refine Nat.le_antisymm ?_ ?_ <;> simp only [push_nx, put_nx, del_nx] <;> omega) | fail) only [wpy, facts, wpb, cst, wpk, wpl, forall_const, implies_true, false_implies, Int.reduceLE, Int.reduceLT, Nat.reduceLeDiff, UInt8.reduceToNat, ↓reduceIte, Nat.reduceEqDiff, Nat.reduceAdd, reduceCtorEq, Int.reduceToNat, clsL, clsS, clsC], hR0⟩ ?_
  rintro m env h3 ⟨i, D, P, E, rfl, hi, e0, e3, e4, e5, x⟩
  have ha3 := ha.ext x.ext
  have hlen3 := ha3.len
  have hm600 := hsm.2
  by_cases hlt : i < al.length
  · obtain ⟨rb, rm, rfl, hrb, hrg⟩ := ha3.opened (by omega)
    have hal := acells_len al
    have x0 : i * 13 + 13 ≤ (acells al).length := by omega
    have x1 := acells_at hlt
    have htx := hsm.1 _ (List.getElem_mem hlt)
    have hwi : IntKind.i64.wrap ((i : Int) + 1) = ((i + 1 : Nat) : Int) := by rw [i64_in _ (by omega)]; omega
    simp +contextual (disch := first | (simp only [facts, clsL, clsS, clsC, isPtrD]; done) | omega | (simp only [push_nx, put_nx, del_nx]; omega) | (refine Nat.le_antisymm ?_ ?_ <;> simp only [push_nx, put_nx, del_nx] <;> omega) | fail) only [wpy, facts, wpb, cst, wpk, wpl, forall_const, implies_true, false_implies, Int.reduceLE, Int.reduceLT, Nat.reduceLeDiff, UInt8.reduceToNat, ↓reduceIte, Nat.reduceEqDiff, Nat.reduceAdd, reduceCtorEq, Int.reduceToNat, clsL, clsS, clsC, Try.f5, e0, e3, e4, e5, hlen3, hlt, hrg, x0, x1]
    refine callF_of (call_spec hS x.pr x.rr x.bd (by omega) x.zi al[i] htx) (fun k w => by
      rw [fresh_def]
      exact .inl (w.elim (x.o1 k) (x.o2 k))) ?_
    rintro v h4 ⟨rfl, D1, P1, E1, st, bd1, z1⟩
    have x4 := x.step st bd1 z1
    have eb1 := st.b1
    have eb2 := st.b2
    have nxt : ∀ (env' : Env) (h' : H), env' 0 = .slice rb 0 al.length rm → env' 3 = .ptr D1.b 0 → env' 4 = .ptr E1.b 0 → env' 5 = .int .i64 (i + 1 : Nat) → Sd h (i + 1) D1 P1 E1 h' → ∃ m', m' < al.length - i ∧ ScI al (.slice rb 0 al.length rm) h m' env' h' := fun env' h' q0 q3 q4 q5 q => ⟨al.length - (i + 1), by omega, i + 1, D1, P1, E1, rfl, hlt, q0, q3, q4, q5, q⟩
    by_cases h60 : (i : Int) < 60
    · simp +contextual (disch := first | (simp only [facts, clsL, clsS, clsC, isPtrD]; done) | omega | (simp only [push_nx, put_nx, del_nx]; omega) | (refine Nat.le_antisymm ?_ ?_ <;> simp only [push_nx, put_nx, del_nx] <;> omega) | fail) only [wpy, facts, wpb, cst, wpk, wpl, forall_const, implies_true, false_implies, Int.reduceLE, Int.reduceLT, Nat.reduceLeDiff, UInt8.reduceToNat, ↓reduceIte, Nat.reduceEqDiff, Nat.reduceAdd, reduceCtorEq, Int.reduceToNat, clsL, clsS, clsC, Try.f5, e3, e4, e5, h60]
      rw [← eb1]
      refine callF_pure (all_spec hS' x4.pr) ?_
      intro v1 h5 hx5 hL1
      have x5 := x4.grow hx5
      simp +contextual (disch := first | (simp only [facts, clsL, clsS, clsC, isPtrD]; done) | omega | (simp only [push_nx, put_nx, del_nx]; omega) | (refine Nat.le_antisymm ?_ ?_ <;> simp only [push_nx, put_nx, del_nx] <;> omega) | fail) only [wpy, facts, wpb, cst, wpk, wpl, forall_const, implies_true, false_implies, Int.reduceLE, Int.reduceLT, Nat.reduceLeDiff, UInt8.reduceToNat, ↓reduceIte, Nat.reduceEqDiff, Nat.reduceAdd, reduceCtorEq, Int.reduceToNat, clsL, clsS, clsC, Try.f5, e4]
      rw [← eb2]
      refine callF_pure (rall_spec hS' x5.rr) ?_
      intro v2 h6 hx6 hL2
      have x6 := x5.grow hx6
      have hpl : P1.pl.l.length ≤ 1000000 := by have := x4.rr.few; omega
      simp +contextual (disch := first | (simp only [facts, clsL, clsS, clsC, isPtrD]; done) | omega | (simp only [push_nx, put_nx, del_nx]; omega) | (refine Nat.le_antisymm ?_ ?_ <;> simp only [push_nx, put_nx, del_nx] <;> omega) | fail) only [wpy, facts, wpb, cst, wpk, wpl, forall_const, implies_true, false_implies, Int.reduceLE, Int.reduceLT, Nat.reduceLeDiff, UInt8.reduceToNat, ↓reduceIte, Nat.reduceEqDiff, Nat.reduceAdd, reduceCtorEq, Int.reduceToNat, clsL, clsS, clsC, Try.f5]
      refine callF_exact (stmts_spec hS' (hL1.ext hx6) hL2 hpl) ?_
      simp +contextual (disch := first | (simp only [facts, clsL, clsS, clsC, isPtrD]; done) | omega | (simp only [push_nx, put_nx, del_nx]; omega) | (refine Nat.le_antisymm ?_ ?_ <;> simp only [push_nx, put_nx, del_nx] <;> omega) | fail) only [wpy, facts, wpb, cst, wpk, wpl, forall_const, implies_true, false_implies, Int.reduceLE, Int.reduceLT, Nat.reduceLeDiff, UInt8.reduceToNat, ↓reduceIte, Nat.reduceEqDiff, Nat.reduceAdd, reduceCtorEq, Int.reduceToNat, clsL, clsS, clsC, Try.f5, e3]
      rw [← eb1]
      refine callF_pure (allpins_spec hS' x6.pr) ?_
      rintro v h7 hx7 rfl
      have x7 := x6.grow hx7
      simp +contextual (disch := first | (simp only [facts, clsL, clsS, clsC, isPtrD]; done) | omega | (simp only [push_nx, put_nx, del_nx]; omega) | (refine Nat.le_antisymm ?_ ?_ <;> simp only [push_nx, put_nx, del_nx] <;> omega) | fail) only [wpy, facts, wpb, cst, wpk, wpl, forall_const, implies_true, false_implies, Int.reduceLE, Int.reduceLT, Nat.reduceLeDiff, UInt8.reduceToNat, ↓reduceIte, Nat.reduceEqDiff, Nat.reduceAdd, reduceCtorEq, Int.reduceToNat, clsL, clsS, clsC, Try.f5, e4]
      rw [← eb2]
      refine callF_pure (rallpins_spec hS' x7.rr) ?_
      rintro v h8 hx8 rfl
      have x8 := x7.grow hx8
      simp +contextual (disch := first | (simp only [facts, clsL, clsS, clsC, isPtrD]; done) | omega | (simp only [push_nx, put_nx, del_nx]; omega) | (refine Nat.le_antisymm ?_ ?_ <;> simp only [push_nx, put_nx, del_nx] <;> omega) | fail) only [wpy, facts, wpb, cst, wpk, wpl, forall_const, implies_true, false_implies, Int.reduceLE, Int.reduceLT, Nat.reduceLeDiff, UInt8.reduceToNat, ↓reduceIte, Nat.reduceEqDiff, Nat.reduceAdd, reduceCtorEq, Int.reduceToNat, clsL, clsS, clsC, Try.f5, neq4, e5]
      exact nxt _ _ (by simp +contextual (disch := first | (simp only [facts, clsL, clsS, clsC, isPtrD]; done) | omega | (simp only [push_nx, put_nx, del_nx]; omega) | (refine Nat.le_antisymm ?_ ?_ <;> simp only [push_nx, put_nx, del_nx] <;> omega) | fail) only [wpy, facts, wpb, cst, wpk, wpl, forall_const, implies_true, false_implies, Int.reduceLE, Int.reduceLT, Nat.reduceLeDiff, UInt8.reduceToNat, ↓reduceIte, Nat.reduceEqDiff, Nat.reduceAdd, reduceCtorEq, Int.reduceToNat, clsL, clsS, clsC, e0]) (by simp +contextual (disch := first | (simp only [facts, clsL, clsS, clsC, isPtrD]; done) | omega | (simp only [push_nx, put_nx, del_nx]; omega) | (refine Nat.le_antisymm ?_ ?_ <;> simp only [push_nx, put_nx, del_nx] <;> omega) | fail) only [wpy, facts, wpb, cst, wpk, wpl, forall_const, implies_true, false_implies, Int.reduceLE, Int.reduceLT, Nat.reduceLeDiff, UInt8.reduceToNat, ↓reduceIte, Nat.reduceEqDiff, Nat.reduceAdd, reduceCtorEq, Int.reduceToNat, clsL, clsS, clsC, e3, eb1]) (by simp +contextual (disch := first | (simp only [facts, clsL, clsS, clsC, isPtrD]; done) | omega | (simp only [push_nx, put_nx, del_nx]; omega) | (refine Nat.le_antisymm ?_ ?_ <;> simp only [push_nx, put_nx, del_nx] <;> omega) | fail) only [wpy, facts, wpb, cst, wpk, wpl, forall_const, implies_true, false_implies, Int.reduceLE, Int.reduceLT, Nat.reduceLeDiff, UInt8.reduceToNat, ↓reduceIte, Nat.reduceEqDiff, Nat.reduceAdd, reduceCtorEq, Int.reduceToNat, clsL, clsS, clsC, e4, eb2]) (by simp +contextual (disch := first | (simp only [facts, clsL, clsS, clsC, isPtrD]; done) | omega | (simp only [push_nx, put_nx, del_nx]; omega) | (refine Nat.le_antisymm ?_ ?_ <;> simp only [push_nx, put_nx, del_nx] <;> omega) | fail) only [wpy, facts, wpb, cst, wpk, wpl, forall_const, implies_true, false_implies, Int.reduceLE, Int.reduceLT, Nat.reduceLeDiff, UInt8.reduceToNat, ↓reduceIte, Nat.reduceEqDiff, Nat.reduceAdd, reduceCtorEq, Int.reduceToNat, clsL, clsS, clsC, hwi]) x8
    · simp +contextual (disch := first | (simp only [facts, clsL, clsS, clsC, isPtrD]; done) | omega | (simp only [push_nx, put_nx, del_nx]; omega) | (refine Nat.le_antisymm ?_ ?_ <;> simp only [push_nx, put_nx, del_nx] <;> omega) | fail) only [wpy, facts, wpb, cst, wpk, wpl, forall_const, implies_true, false_implies, Int.reduceLE, Int.reduceLT, Nat.reduceLeDiff, UInt8.reduceToNat, ↓reduceIte, Nat.reduceEqDiff, Nat.reduceAdd, reduceCtorEq, Int.reduceToNat, clsL, clsS, clsC, Try.f5, e3, e4, e5, h60]
      exact nxt _ _ (by simp +contextual (disch := first | (simp only [facts, clsL, clsS, clsC, isPtrD]; done) | omega | (simp only [push_nx, put_nx, del_nx]; omega) | (refine Nat.le_antisymm ?_ ?_ <;> simp only [push_nx, put_nx, del_nx] <;> omega) | fail) only [wpy, facts, wpb, cst, wpk, wpl, forall_const, implies_true, false_implies, Int.reduceLE, Int.reduceLT, Nat.reduceLeDiff, UInt8.reduceToNat, ↓reduceIte, Nat.reduceEqDiff, Nat.reduceAdd, reduceCtorEq, Int.reduceToNat, clsL, clsS, clsC, e0]) (by simp +contextual (disch := first | (simp only [facts, clsL, clsS, clsC, isPtrD]; done) | omega | (simp only [push_nx, put_nx, del_nx]; omega) | (refine Nat.le_antisymm ?_ ?_ <;> simp only [push_nx, put_nx, del_nx] <;> omega) | fail) only [wpy, facts, wpb, cst, wpk, wpl, forall_const, implies_true, false_implies, Int.reduceLE, Int.reduceLT, Nat.reduceLeDiff, UInt8.reduceToNat, ↓reduceIte, Nat.reduceEqDiff, Nat.reduceAdd, reduceCtorEq, Int.reduceToNat, clsL, clsS, clsC, e3, eb1]) (by simp +contextual (disch := first | (simp only [facts, clsL, clsS, clsC, isPtrD]; done) | omega | (simp only [push_nx, put_nx, del_nx]; omega) | (refine Nat.le_antisymm ?_ ?_ <;> simp only [push_nx, put_nx, del_nx] <;> omega) | fail) only [wpy, facts, wpb, cst, wpk, wpl, forall_const, implies_true, false_implies, Int.reduceLE, Int.reduceLT, Nat.reduceLeDiff, UInt8.reduceToNat, ↓reduceIte, Nat.reduceEqDiff, Nat.reduceAdd, reduceCtorEq, Int.reduceToNat, clsL, clsS, clsC, e4, eb2]) (by simp +contextual (disch := first | (simp only [facts, clsL, clsS, clsC, isPtrD]; done) | omega | (simp only [push_nx, put_nx, del_nx]; omega) | (refine Nat.le_antisymm ?_ ?_ <;> simp only [push_nx, put_nx, del_nx] <;> omega) | fail) only [wpy, facts, wpb, cst, wpk, wpl, forall_const, implies_true, false_implies, Int.reduceLE, Int.reduceLT, Nat.reduceLeDiff, UInt8.reduceToNat, ↓reduceIte, Nat.reduceEqDiff, Nat.reduceAdd, reduceCtorEq, Int.reduceToNat, clsL, clsS, clsC, hwi]) x4
  · simp +contextual (disch := first | (simp only [facts, clsL, clsS, clsC, isPtrD]; done) | omega | (simp only [push_nx, put_nx, del_nx]; omega) | (refine Nat.le_antisymm ?_ ?_ <;> simp only [push_nx, put_nx, del_nx] <;> omega) | fail) only [wpy, facts, wpb, cst, wpk, wpl, forall_const, implies_true, false_implies, Int.reduceLE, Int.reduceLT, Nat.reduceLeDiff, UInt8.reduceToNat, ↓reduceIte, Nat.reduceEqDiff, Nat.reduceAdd, reduceCtorEq, Int.reduceToNat, clsL, clsS, clsC, Try.f5, e0, e3, e4, e5, hlen3, hlt]
    refine callF_pure (all_spec hS' x.pr) ?_
    intro v1 h4 hx4 hL1
    simp +contextual (disch := first | (simp only [facts, clsL, clsS, clsC, isPtrD]; done) | omega | (simp only [push_nx, put_nx, del_nx]; omega) | (refine Nat.le_antisymm ?_ ?_ <;> simp only [push_nx, put_nx, del_nx] <;> omega) | fail) only [wpy, facts, wpb, cst, wpk, wpl, forall_const, implies_true, false_implies, Int.reduceLE, Int.reduceLT, Nat.reduceLeDiff, UInt8.reduceToNat, ↓reduceIte, Nat.reduceEqDiff, Nat.reduceAdd, reduceCtorEq, Int.reduceToNat, clsL, clsS, clsC, Try.f5, e4]
    have x4 := x.grow hx4
    refine callF_pure (rall_spec hS' x4.rr) ?_
    intro v2 h5 hx5 hL2
    have x5 := x4.grow hx5
    have hpl : P.pl.l.length ≤ 1000000 := by have := x.rr.few; omega
    simp +contextual (disch := first | (simp only [facts, clsL, clsS, clsC, isPtrD]; done) | omega | (simp only [push_nx, put_nx, del_nx]; omega) | (refine Nat.le_antisymm ?_ ?_ <;> simp only [push_nx, put_nx, del_nx] <;> omega) | fail) only [wpy, facts, wpb, cst, wpk, wpl, forall_const, implies_true, false_implies, Int.reduceLE, Int.reduceLT, Nat.reduceLeDiff, UInt8.reduceToNat, ↓reduceIte, Nat.reduceEqDiff, Nat.reduceAdd, reduceCtorEq, Int.reduceToNat, clsL, clsS, clsC, Try.f5]
    refine callF_exact (stmts_spec hS' (hL1.ext hx5) hL2 hpl) ?_
    simp +contextual (disch := first | (simp only [facts, clsL, clsS, clsC, isPtrD]; done) | omega | (simp only [push_nx, put_nx, del_nx]; omega) | (refine Nat.le_antisymm ?_ ?_ <;> simp only [push_nx, put_nx, del_nx] <;> omega) | fail) only [wpy, facts, wpb, cst, wpk, wpl, forall_const, implies_true, false_implies, Int.reduceLE, Int.reduceLT, Nat.reduceLeDiff, UInt8.reduceToNat, ↓reduceIte, Nat.reduceEqDiff, Nat.reduceAdd, reduceCtorEq, Int.reduceToNat, clsL, clsS, clsC, Try.f5, e3]
    refine callF_pure (allpins_spec hS' x5.pr) ?_
    rintro v h6 hx6 rfl
    have x6 := x5.grow hx6
    simp +contextual (disch := first | (simp only [facts, clsL, clsS, clsC, isPtrD]; done) | omega | (simp only [push_nx, put_nx, del_nx]; omega) | (refine Nat.le_antisymm ?_ ?_ <;> simp only [push_nx, put_nx, del_nx] <;> omega) | fail) only [wpy, facts, wpb, cst, wpk, wpl, forall_const, implies_true, false_implies, Int.reduceLE, Int.reduceLT, Nat.reduceLeDiff, UInt8.reduceToNat, ↓reduceIte, Nat.reduceEqDiff, Nat.reduceAdd, reduceCtorEq, Int.reduceToNat, clsL, clsS, clsC, Try.f5, e4]
    refine callF_pure (rallpins_spec hS' x6.rr) ?_
    rintro v h7 hx7 rfl
    simp +contextual (disch := first | (simp only [facts, clsL, clsS, clsC, isPtrD]; done) | omega | (simp only [push_nx, put_nx, del_nx]; omega) | (refine Nat.le_antisymm ?_ ?_ <;> simp only [push_nx, put_nx, del_nx] <;> omega) | fail) only [wpy, facts, wpb, cst, wpk, wpl, forall_const, implies_true, false_implies, Int.reduceLE, Int.reduceLT, Nat.reduceLeDiff, UInt8.reduceToNat, ↓reduceIte, Nat.reduceEqDiff, Nat.reduceAdd, reduceCtorEq, Int.reduceToNat, clsL, clsS, clsC, Try.f5, eql4]
    exact x6.ext.trans hx7
end
end Go.Proofs.Ytcccbbgjmjnagaa
set_option maxRecDepth 100000
namespace Go.Proofs.Ytcccbbgjmjnagaa.glue
open Go.Proofs Go.Shelf Go.ChangeShapes Go.WideShapes Go.ChangeAt Go.RowKit Go.Lx
theorem own : ownKnob Try.prog.godebug = none := by kernel_rfl
theorem laidOut : laidOutB Try.prog = true := by kernel_rfl
theorem mixed : Try.prog.follows .mixedOrders = true := Checked.mixed Try.checked
noncomputable def ρ : Go.Shelf.Ren := ⟨fun n => match n with | 6 => 42 | 8 => 48 | 9 => 49 | 10 => 50 | 11 => 51 | _ => 0, fun n => match n with | 0 => 0 | 3 => 58 | 4 => 4 | 23 => 53 | 24 => 66 | 26 => 27 | 28 => 69 | 33 => 76 | _ => 0, fun n => n⟩
theorem lay : KeyLay Try.prog ρ .u32 4 where
  mixed := mixed
  f6 := ⟨ "slices.Sorted[uint32]", by kernel_rfl, by kernel_rfl⟩
  f8 := ⟨ "slices.Collect[uint32]", by kernel_rfl, by kernel_rfl⟩
  f10 := ⟨ "maps.Keys[map[uint32]*sluicegate/api.Stmt,uint32,*sluicegate/api.Stmt]$1", by kernel_rfl, by kernel_rfl⟩
  f11 := ⟨ "slices.AppendSeq[[]uint32,uint32]", by kernel_rfl, by kernel_rfl⟩
  t0 := by kernel_rfl
  a0 := fun w => by kernel_rfl
  z0 := fun w => by kernel_rfl
  v0 := fun w => by kernel_rfl
  t4 := by kernel_rfl
  a4 := fun w => by kernel_rfl
  z4 := fun w => by kernel_rfl
  v4 := fun w => by kernel_rfl
  t23 := by kernel_rfl
  a23 := fun w => by kernel_rfl
  z23 := fun w => by kernel_rfl
  v23 := fun w => by kernel_rfl
  t24 := by kernel_rfl
  a24 := fun w => by kernel_rfl
  z24 := fun w => by kernel_rfl
  v24 := fun w => by kernel_rfl
  t26 := by kernel_rfl
  a26 := fun w => by kernel_rfl
  z26 := fun w => by kernel_rfl
  v26 := fun w => by kernel_rfl
  t28 := by kernel_rfl
  a28 := fun w => by kernel_rfl
  z28 := fun w => by kernel_rfl
  v28 := fun w => by kernel_rfl
  t33 := by kernel_rfl
  a33 := fun w => by kernel_rfl
  z33 := fun w => by kernel_rfl
  v33 := fun w => by kernel_rfl
  i26 := by kernel_rfl
noncomputable section
noncomputable def base : Set0 := { exts := [] }
theorem base_ok (lf : Nat) : SumOk (base.cfg.at lf) := sumOk_none _ rfl
theorem baseS : StdS base where
  ownS := fun _ _ => rfl
theorem e9 : Go.Proofs.Enters Try.prog (ρ.f 9) := Go.Proofs.enters_of Try.func49 (by kernel_rfl) (by first | rfl | kernel_rfl)
theorem e6 : Go.Proofs.Enters Try.prog (ρ.f 6) := Go.Proofs.enters_of Try.func42 (by kernel_rfl) (by first | rfl | kernel_rfl)
theorem eL : Go.Proofs.Enters Try.prog 7 := Go.Proofs.enters_of Try.func7 (by kernel_rfl) (by first | rfl | kernel_rfl)
noncomputable def cfg0 : Cfg := { P := Try.prog, lf := 100000, gl := .leaf, sum := fun _ => none }
noncomputable def cfg1 : Cfg := { P := Try.prog, lf := 100000, gl := .leaf, sum := sums [(42, sortedM cfg0 41 50 49 .u32 27)] }
theorem cfg1_ok : SumOk cfg1 := by
  refine sumOk_list _ [(42, sortedM cfg0 41 50 49 .u32 27)] rfl ?_
  intro p hp
  rw [List.mem_singleton] at hp
  subst hp
  exact extSum_sorted cfg0 mixed (sumOk_none _ rfl) rfl lay rfl (by kernel_rfl) e9 e6 (by decide) (n := 40) (by kernel_rfl) .leaf
theorem livesRun : yes (callM cfg1 100 7 [] st0) = true := by kernel_rfl
noncomputable def st : Set0 := { exts := [(42, sortedMG (base.cfg.at 100000) 41 50 49 .u32 27), (7, constTrue), (17, unbM)] }
theorem st_ok (lf : Nat) : SumOk (st.cfg.at lf) := by
  refine sumOk_list _ [(42, sortedMG (base.cfg.at 100000) 41 50 49 .u32 27), (7, constTrue), (17, unbM)] rfl ?_
  intro p hp
  rcases List.mem_cons.1 hp with rfl | hp
  · exact extSum_sortedG (base.cfg.at 100000) mixed (base_ok 100000) rfl lay rfl (by kernel_rfl) e9 e6 (by decide) (n := 40) (by kernel_rfl) (sorts baseS) (fun lf => base_ok lf) .leaf
  rcases List.mem_cons.1 hp with rfl | hp
  · exact extSum_true cfg1 mixed cfg1_ok livesRun rfl eL rfl
  rw [List.mem_singleton] at hp
  subst hp
  exact extSum_unb
open Go.Wx in
theorem std : StdQ st where
  ownS := by
    repeat (refine List.forall_mem_cons.2 ⟨rfl, ?_⟩)
    intro f hf
    cases hf
  ownP := by
    repeat (refine List.forall_mem_cons.2 ⟨rfl, ?_⟩)
    intro f hf
    cases hf
  srt := ⟨_, _, rfl⟩
  unb := rfl
  lives := fun h => callW_sum (s := h.st) (g := constTrue) rfl (Nice.ret _) rfl LogOk_nil ⟨rfl, rfl⟩
open Go.Wx in
theorem wf_row (c : List V) : WF (T.leaf.set 0 (some (Ob.ro c))) 1 := by
  intro k hk
  rw [T.get_set] at hk
  split at hk
  · omega
  · exact absurd rfl hk
theorem und22 : Try.prog.underlying 22 = some (.slice 33) := by kernel_rfl
theorem und3 : Try.prog.underlying 3 = some (.int .i64) := by kernel_rfl
theorem und27 : Try.prog.underlying 27 = some (.int .u32) := by kernel_rfl
theorem und29 : Try.prog.underlying 29 = some (.int .u16) := by kernel_rfl
theorem und9 : Try.prog.underlying 9 = some .string := by kernel_rfl
theorem und4 : Try.prog.underlying 4 = some .bool := by kernel_rfl
theorem cells33 : Try.prog.cellsOf 33 = 13 := by kernel_rfl
theorem cells31 : Try.prog.cellsOf 31 = 8 := by kernel_rfl
theorem cells3 : Try.prog.cellsOf 3 = 1 := by kernel_rfl
theorem cells27 : Try.prog.cellsOf 27 = 1 := by kernel_rfl
theorem cells29 : Try.prog.cellsOf 29 = 1 := by kernel_rfl
theorem cells9 : Try.prog.cellsOf 9 = 1 := by kernel_rfl
theorem cells4 : Try.prog.cellsOf 4 = 1 := by kernel_rfl
noncomputable def fieldsAre (d : Option TypeDesc) (ts : List (TypeId × Nat)) : Bool := match d with
  | some (.struct fs) => fs.toList.map (fun f => (f.type, f.offset)) == ts
  | _ => false
theorem fields33 : fieldsAre (Try.prog.underlying 33) [(3, 0), (31, 1), (27, 9), (3, 10), (27, 11), (4, 12)] = true := by kernel_rfl
theorem fields31 : fieldsAre (Try.prog.underlying 31) [(27, 0), (9, 1), (29, 2), (29, 3), (3, 4), (27, 5), (4, 6), (4, 7)] = true := by kernel_rfl
theorem fieldsAre_ok {d : Option TypeDesc} {ts : List (TypeId × Nat)} (h : fieldsAre d ts = true) : ∃ fs, d = some (.struct fs) ∧ ∀ p ∈ ts, ∃ f ∈ fs.toList, f.type = p.1 ∧ f.offset = p.2 := by
  unfold fieldsAre at h
  cases d with
  | none => cases h
  | some d =>
    cases d <;> try (cases h; done)
    rename_i fs
    refine ⟨fs, rfl, fun p hp => ?_⟩
    have := eq_of_beq h
    rw [← this] at hp
    obtain ⟨f, hf, e⟩ := List.mem_map.1 hp
    exact ⟨f, hf, by rw [← e], by rw [← e]⟩
section
variable {H : Type} {enc : TypeId × Value → H} {w : World} {spare : Nat → Bool} {held : Bool}
def isAct (cs : List Value) : Prop := ∃ (kd id pa co conn back id2 n back2 : Int) (tx : ByteArray) (lg cu on : Bool), cs = [.int .i64 kd, .int .u32 id, .string tx, .int .u16 pa, .int .u16 co, .int .i64 conn, .int .u32 back, .bool lg, .bool cu, .int .u32 id2, .int .i64 n, .int .u32 back2, .bool on]
theorem act_cells {fuel : Nat} {cs : List Value} {x : DataW H × List MemPlace} (h : DataW.trod enc Try.prog w 0 spare held fuel 33 cs = some x) : isAct cs := by
  obtain ⟨fs, hu, hf⟩ := fieldsAre_ok fields33
  obtain ⟨fs2, hu2, hf2⟩ := fieldsAre_ok fields31
  have hl := trod_struct_len hu h
  rw [cells33] at hl
  have top : ∀ t o n, Try.prog.cellsOf t = n → ((t, o) : TypeId × Nat) ∈ [((3, 0) : TypeId × Nat), (31, 1), (27, 9), (3, 10), (27, 11), (4, 12)] → ∃ fu y, DataW.trod enc Try.prog w 0 spare held fu t ((cs.drop o).take n) = some y := fun t o n hn ho => by
    obtain ⟨f, hm, e1, e2⟩ := hf _ ho
    obtain ⟨y, hy⟩ := trod_field' hu hm h
    rw [e1, e2] at hy
    simp only [hn] at hy
    exact ⟨_, y, hy⟩
  obtain ⟨fu, ys, hys⟩ := top 31 1 8 cells31 (by simp)
  have sub : ∀ t o, Try.prog.cellsOf t = 1 → ((t, o) : TypeId × Nat) ∈ [((27, 0) : TypeId × Nat), (9, 1), (29, 2), (29, 3), (3, 4), (27, 5), (4, 6), (4, 7)] → ∃ fu y, DataW.trod enc Try.prog w 0 spare held fu t ((((cs.drop 1).take 8).drop o).take 1) = some y := fun t o hn ho => by
    obtain ⟨f, hm, e1, e2⟩ := hf2 _ ho
    obtain ⟨y, hy⟩ := trod_field' hu2 hm hys
    rw [e1, e2] at hy
    simp only [hn] at hy
    exact ⟨_, y, hy⟩
  match cs, hl with
  | [c0, c1, c2, c3, c4, c5, c6, c7, c8, c9, c10, c11, c12], _ =>
    obtain ⟨_, _, h0⟩ := top 3 0 1 cells3 (by simp)
    obtain ⟨kd, e0, _⟩ := trod_int und3 h0
    obtain ⟨_, _, h1⟩ := sub 27 0 cells27 (by simp)
    obtain ⟨id, e1, _⟩ := trod_int und27 h1
    obtain ⟨_, _, h2⟩ := sub 9 1 cells9 (by simp)
    obtain ⟨tx, e2⟩ := trod_str und9 h2
    obtain ⟨_, _, h3⟩ := sub 29 2 cells29 (by simp)
    obtain ⟨pa, e3, _⟩ := trod_int und29 h3
    obtain ⟨_, _, h4⟩ := sub 29 3 cells29 (by simp)
    obtain ⟨co, e4, _⟩ := trod_int und29 h4
    obtain ⟨_, _, h5⟩ := sub 3 4 cells3 (by simp)
    obtain ⟨conn, e5, _⟩ := trod_int und3 h5
    obtain ⟨_, _, h6⟩ := sub 27 5 cells27 (by simp)
    obtain ⟨back, e6, _⟩ := trod_int und27 h6
    obtain ⟨_, _, h7⟩ := sub 4 6 cells4 (by simp)
    obtain ⟨lg, e7⟩ := trod_bool und4 h7
    obtain ⟨_, _, h8⟩ := sub 4 7 cells4 (by simp)
    obtain ⟨cu, e8⟩ := trod_bool und4 h8
    obtain ⟨_, _, h9⟩ := top 27 9 1 cells27 (by simp)
    obtain ⟨id2, e9, _⟩ := trod_int und27 h9
    obtain ⟨_, _, h10⟩ := top 3 10 1 cells3 (by simp)
    obtain ⟨n, e10, _⟩ := trod_int und3 h10
    obtain ⟨_, _, h11⟩ := top 27 11 1 cells27 (by simp)
    obtain ⟨back2, e11, _⟩ := trod_int und27 h11
    obtain ⟨_, _, h12⟩ := top 4 12 1 cells4 (by simp)
    obtain ⟨on, e12⟩ := trod_bool und4 h12
    simp only [List.drop_succ_cons, List.drop_zero, List.take_succ_cons, List.take_zero, List.cons.injEq, and_true] at e0 e1 e2 e3 e4 e5 e6 e7 e8 e9 e10 e11 e12
    exact ⟨kd, id, pa, co, conn, back, id2, n, back2, tx, lg, cu, on, by rw [e0, e1, e2, e3, e4, e5, e6, e7, e8, e9, e10, e11, e12]⟩
end
theorem acts_of : ∀ (rows : List (List Value)), (∀ r ∈ rows, r.length = 13 ∧ isAct r) → ∃ al : List ACT, al.length = rows.length ∧ ∀ (i : Nat) (v : V), (acells al)[i]? = some v → ∃ r, rows.flatten[i]? = some r ∧ ∀ μ ν, VRel μ ν v r
  | [], _ => ⟨[], rfl, fun i v h => by simp [acells] at h⟩
  | r :: rows, h => by
    obtain ⟨al, h1, h2⟩ := acts_of rows fun r hr => h r (.tail _ hr)
    obtain ⟨_, kd, id, pa, co, conn, back, id2, n, back2, tx, lg, cu, on, e⟩ := h r (.head _)
    refine ⟨⟨kd, ⟨id, toNats tx, pa, co, conn, back, lg = true, cu = true⟩, id2, n, back2, on = true⟩ :: al, by simp [h1], fun i v hi => ?_⟩
    subst e
    have e1 : acells (⟨kd, ⟨id, toNats tx, pa, co, conn, back, lg = true, cu = true⟩, id2, n, back2, on = true⟩ :: al) = [.int .i64 kd, .int .u32 id, .str (toNats tx), .int .u16 pa, .int .u16 co, .int .i64 conn, .int .u32 back, Go.Wx.bo (lg = true), Go.Wx.bo (cu = true), .int .u32 id2, .int .i64 n, .int .u32 back2, Go.Wx.bo (on = true)] ++ acells al := rfl
    rw [e1, ← Go.Wx.bo_bool, ← Go.Wx.bo_bool, ← Go.Wx.bo_bool] at hi
    have e2 : ([Value.int .i64 kd, .int .u32 id, .string tx, .int .u16 pa, .int .u16 co, .int .i64 conn, .int .u32 back, .bool lg, .bool cu, .int .u32 id2, .int .i64 n, .int .u32 back2, .bool on] :: rows).flatten = [Value.int .i64 kd, .int .u32 id, .string tx, .int .u16 pa, .int .u16 co, .int .i64 conn, .int .u32 back, .bool lg, .bool cu, .int .u32 id2, .int .i64 n, .int .u32 back2, .bool on] ++ rows.flatten := rfl
    rw [e2]
    match i with
    | 0 => cases hi; exact ⟨_, rfl, fun μ ν => .int _ _⟩
    | 1 => cases hi; exact ⟨_, rfl, fun μ ν => .int _ _⟩
    | 2 => cases hi; exact ⟨_, rfl, fun μ ν => .str _⟩
    | 3 => cases hi; exact ⟨_, rfl, fun μ ν => .int _ _⟩
    | 4 => cases hi; exact ⟨_, rfl, fun μ ν => .int _ _⟩
    | 5 => cases hi; exact ⟨_, rfl, fun μ ν => .int _ _⟩
    | 6 => cases hi; exact ⟨_, rfl, fun μ ν => .int _ _⟩
    | 7 => cases hi; exact ⟨_, rfl, fun μ ν => .bool _⟩
    | 8 => cases hi; exact ⟨_, rfl, fun μ ν => .bool _⟩
    | 9 => cases hi; exact ⟨_, rfl, fun μ ν => .int _ _⟩
    | 10 => cases hi; exact ⟨_, rfl, fun μ ν => .int _ _⟩
    | 11 => cases hi; exact ⟨_, rfl, fun μ ν => .int _ _⟩
    | 12 => cases hi; exact ⟨_, rfl, fun μ ν => .bool _⟩
    | i + 13 => exact h2 i v hi
theorem slice_arg {W : World} {base : Nat} {v : Value} (h : Value.okWide Try.prog W .any base 22 v) : v = .slice none 0 0 ∨ ∃ a len cap, v = .slice (some a) len cap ∧ len ≤ cap ∧ cap < 2 ^ 63 ∧ a.spot = none ∧ ∃ q, W.shape? a.block = some q := by
  unfold Value.okWide at h
  rw [und22] at h
  unfold Cell.okWide Cell.ok at h
  rw [und22] at h
  cases v <;> simp only [] at h <;> try (exact h.elim)
  rename_i ao len cap
  cases ao with
  | none =>
    left
    cases len <;> cases cap <;> first | rfl | exact h.elim
  | some a =>
    obtain ⟨w1, w2, _, w3, row, cells, w4, _⟩ := h
    exact .inr ⟨a, len, cap, rfl, w1, by have : IntKind.i64.max = 9223372036854775807 := rfl; omega, w3, _, w4⟩
open Go.Wx in
theorem walk {f : FuncId} (hsu : st.cfg.sum f = none) (hlaw : ∀ (al : List ACT) (lv : V) (h : H), ARow h lv al → al.length < 2 ^ 63 → Pure st.cfg f [lv] h fun v _ => v = .bool true) {H : Type} {enc : TypeId × Value → H} {spare : Nat → Bool} {held : Bool} {W : World} {base : Nat} {v1 : Value} {d1 : DataW H} {p1 : List MemPlace} (hv1 : Value.okWide Try.prog W .any base 22 v1) (h1 : DataW.Trod enc Try.prog W 0 spare held 22 v1 d1 p1) : Calls Try.prog f #[v1] W fun e W' => e = .returned (.bool true) ∧ Below W.heap.size W W' := by
  obtain ⟨fuel1, h1⟩ := h1
  rcases slice_arg hv1 with rfl | ⟨ad, len, cap, rfl, hlc, hcm, hsp, hsh⟩
  · obtain ⟨v, h', lf, k, l, hrun, _, rfl⟩ := callW_run (hlaw [] .nilslice ⟨.leaf, 0⟩ (.inl ⟨rfl, rfl⟩) (by decide))
    exact law_calls_g (st.cfg.at lf) mixed (st_ok lf) (vs := [.nilslice]) (n := k) (by rw [show st0 = (⟨.leaf, 0, []⟩ : St) from rfl, hrun]; rfl) hsu (.cons .nilslice .nil) (ν := fun _ => undef) W Globs.none
  · obtain ⟨_, _, hel⟩ := trod_row und22 hsp h1
    rw [cells33] at hel
    obtain ⟨rows, rc, et, frz, hrl, hh, hrows, hfl⟩ := flat_row (sz := 13) (Q := isAct) hsh fun i hi => by
      obtain ⟨cs, y, h2, h3, h4⟩ := hel i hi
      exact ⟨cs, h3, act_cells h2, h4⟩
    obtain ⟨al, hal, hac⟩ := acts_of rows hrows
    rw [hrl] at hal
    subst hal
    obtain ⟨v, h', lf, k, l, hrun, _, rfl⟩ := callW_runH (h := ⟨T.leaf.set 0 (some (.ro (acells al))), 1⟩) (wf_row _) (hlaw al (.slice 0 0 al.length cap) ⟨T.leaf.set 0 (some (.ro (acells al))), 1⟩ (.inr ⟨0, cap, rfl, Nat.one_pos, by show T.get _ 0 = _; rw [T.get_set, if_pos rfl]⟩) (by omega))
    refine law_calls_r (st.cfg.at lf) mixed (st_ok lf) (vs := [.slice 0 0 al.length cap]) (n := k) (ν := fun _ => undef) (μ := upd (fun _ => none) 0 ⟨ad.block, ad.off, false, 0, 0⟩) hrun hsu W ⟨fun j ob hk => ?_, fun j j' ob ob' q q' hk hk' hne => ?_⟩ (fun j hj => upd_ne _ _ (by have : 1 ≤ j := hj; omega)) (fun j q hk => ?_) (.cons (.slice (upd_same _ _ _) hlc ?_) .nil) Globs.none
    · rw [T.get_set] at hk
      split at hk
      · rename_i e0
        subst e0
        cases hk
        refine ⟨_, upd_same _ _ _, rfl, rc, et, frz, hh, fun i v hi => ?_⟩
        obtain ⟨r', q1, q2⟩ := hac i v hi
        exact ⟨r', hfl i r' q1, q2 _ _⟩
      · cases hk
    · rw [T.get_set] at hk hk'
      split at hk
      · split at hk'
        · omega
        · cases hk'
      · cases hk
    · by_cases h0 : j = 0
      · subst h0; exact ⟨_, by rw [T.get_set, if_pos rfl]⟩
      · rw [upd_ne _ _ h0] at hk; cases hk
    · refine .inr ⟨?_, .inl rfl⟩
      obtain ⟨ab, ao, asp⟩ := ad
      simp only at hsp
      subst hsp
      rfl
end
end Go.Proofs.Ytcccbbgjmjnagaa.glue
