/-
  Several texts of one walk, joined.
-/
import Derived.Test.YtcccbbgjmjnagaaScA
import Derived.Test.YtcccbbgjmjnagaaLyR
import Derived.Test.YtcccbbgjmjnagaaWxZ
set_option linter.unusedSimpArgs false
set_option linter.unusedVariables false
set_option linter.unusedSectionVars false
set_option linter.defProp false
set_option maxRecDepth 10000
set_option maxHeartbeats 1000000
namespace Go.Proofs.Ytcccbbgjmjnagaa
open Go.Proofs Go.Lx Go.Wx Go.IntWalk
noncomputable section
structure ST where
  id : Int
  text : List Nat
  pa : Int
  co : Int
  conn : Int
  back : Int
  long : Prop
  cur : Prop
def ST.cells (s : ST) : List V := [.int .u32 s.id, .str s.text, .int .u16 s.pa, .int .u16 s.co, .int .i64 s.conn, .int .u32 s.back, bo s.long, bo s.cur]
def ST.pins (s : ST) : Prop := s.long ∨ s.cur
structure EN where
  blk : Nat
  born : Nat
  s : ST
def EN.me (e : EN) : ME := ⟨.int .u32 e.s.id, .ptr e.blk 0, e.born⟩
structure MS where
  last : Int
  es : List EN
structure PL where
  last : Int
  l : List ST
def MS.pl (P : MS) : PL := ⟨P.last, P.es.map EN.s⟩
structure MD where
  b : Nat
  mb : Nat
  ck : Nat
def mcells (D : MD) (P : MS) : List V := [bo True, .int .u32 P.last, .map D.mb]
def owns (D : MD) (P : MS) (k : Nat) : Prop := k = D.b ∨ k = D.mb ∨ ∃ e ∈ P.es, e.blk = k
structure PR (D : MD) (P : MS) (h : H) : Prop where
  obj : h.get D.b = some (.cells (mcells D P) 55 false)
  map : h.get D.mb = some (.map (P.es.map EN.me) D.ck)
  ent : ∀ e ∈ P.es, h.get e.blk = some (.cells e.s.cells 31 false)
  cc : (P.es.map EN.blk).Nodup
  lt : D.b < h.nx ∧ D.mb < h.nx ∧ ∀ e ∈ P.es, e.blk < h.nx
  stamps : ∀ e ∈ P.es, e.born < D.ck
  apart : (P.es.map EN.born).Nodup
  rise : (P.es.map fun e => e.s.id).Pairwise (· < ·)
  few : P.es.length ≤ 1000
  wf : ∀ e ∈ P.es, (Lit.int .u32 e.s.id).wf = true
structure Stp (D : MD) (P : MS) (h : H) (D1 : MD) (P1 : MS) (h1 : H) : Prop where
  pr : PR D1 P1 h1
  nx : h.nx ≤ h1.nx
  same : ∀ k, k < h.nx → ¬ owns D P k → h1.get k = h.get k
  own : ∀ k, owns D1 P1 k → owns D P k ∨ h.nx ≤ k
  b : D1.b = D.b
theorem Stp.refl {D : MD} {P : MS} {h : H} (r : PR D P h) : Stp D P h D P h := ⟨r, Nat.le_refl _, fun _ _ _ => rfl, fun _ q => .inl q, rfl⟩
theorem PR.keep {D : MD} {P : MS} {h h' : H} (r : PR D P h) (hn : h.nx ≤ h'.nx) (hk : ∀ k, owns D P k → h'.get k = h.get k) : PR D P h' where
  obj := by rw [hk _ (.inl rfl)]; exact r.obj
  map := by rw [hk _ (.inr (.inl rfl))]; exact r.map
  ent := fun e he => by rw [hk _ (.inr (.inr ⟨e, he, rfl⟩))]; exact r.ent e he
  cc := r.cc
  lt := ⟨Nat.lt_of_lt_of_le r.lt.1 hn, Nat.lt_of_lt_of_le r.lt.2.1 hn, fun e he => Nat.lt_of_lt_of_le (r.lt.2.2 e he) hn⟩
  stamps := r.stamps
  apart := r.apart
  rise := r.rise
  few := r.few
  wf := r.wf
theorem owns_lt {D : MD} {P : MS} {h : H} (r : PR D P h) {k : Nat} (q : owns D P k) : k < h.nx := by
  rcases q with rfl | rfl | ⟨e, he, rfl⟩
  · exact r.lt.1
  · exact r.lt.2.1
  · exact r.lt.2.2 e he
theorem PR.ext {D : MD} {P : MS} {h h' : H} (r : PR D P h) (hx : Ext h h') : PR D P h' := r.keep hx.1 fun k q => hx.2 k (owns_lt r q)
theorem Stp.ext {D : MD} {P : MS} {h h' : H} (r : PR D P h) (hx : Ext h h') : Stp D P h D P h' := ⟨r.ext hx, hx.1, fun k hk _ => hx.2 k hk, fun _ q => .inl q, rfl⟩
theorem PR.apart3 {D : MD} {P : MS} {h : H} (r : PR D P h) : D.b ≠ D.mb ∧ ∀ e ∈ P.es, e.blk ≠ D.b ∧ e.blk ≠ D.mb := by
  refine ⟨fun q => ?_, fun e he => ⟨fun q => ?_, fun q => ?_⟩⟩
  · have := r.map; rw [← q, r.obj] at this; cases this
  · have := r.ent e he; rw [q, r.obj] at this; simp at this
  · have := r.ent e he; rw [q, r.map] at this; cases this
def MS.set (P : MS) (j : Nat) (e : EN) (s : ST) : MS := { P with es := P.es.set j { e with s := s } }
theorem MS.set_pl (P : MS) {j : Nat} (hj : j < P.es.length) (s : ST) : (P.set j P.es[j] s).pl = { P.pl with l := P.pl.l.set j s } := by
  unfold MS.pl MS.set
  simp only [List.map_set]
theorem MS.set_mem {P : MS} {j : Nat} (hj : j < P.es.length) {s : ST} {e : EN} (he : e ∈ (P.set j P.es[j] s).es) : e = { P.es[j] with s := s } ∨ e ∈ P.es := by
  rcases List.mem_or_eq_of_mem_set he with q | q
  · exact .inr q
  · exact .inl q
theorem map_set_same {α β : Type} (f : α → β) {l : List α} {j : Nat} (hj : j < l.length) {a : α} (h : f a = f l[j]) : (l.set j a).map f = l.map f := by
  rw [List.map_set, h]
  apply List.ext_getElem
  · simp
  · intro i h1 h2
    rw [List.getElem_set]
    split
    · rename_i e; subst e; simp
    · rfl
theorem nodup_ne {l : List EN} (h : (l.map EN.blk).Nodup) {i j : Nat} (hi : i < l.length) (hj : j < l.length) (hne : i ≠ j) : l[i].blk ≠ l[j].blk := by
  have h2 := List.pairwise_iff_getElem.1 h
  rcases Nat.lt_or_gt_of_ne hne with q | q
  · have := h2 i j (by rw [List.length_map]; exact hi) (by rw [List.length_map]; exact hj) q
    rw [List.getElem_map, List.getElem_map] at this
    exact this
  · have := h2 j i (by rw [List.length_map]; exact hj) (by rw [List.length_map]; exact hi) q
    rw [List.getElem_map, List.getElem_map] at this
    exact Ne.symm this
theorem n250 : ((250 : Int) = 0) = False := by decide
theorem n002 : ((2 : Int) = 0) = False := by decide
def z8 : List V := [.int .u32 0, .str [], .int .u16 0, .int .u16 0, .int .i64 0, .int .u32 0, bo False, bo False]
theorem Stp.ent {D : MD} {P : MS} {h h' : H} (r : PR D P h) {j : Nat} (hj : j < P.es.length) (s : ST) (hid : s.id = P.es[j].s.id) (hn : h'.nx = h.nx) (hk : h'.get P.es[j].blk = some (.cells s.cells 31 false)) (ho : ∀ k, k ≠ P.es[j].blk → h'.get k = h.get k) : Stp D P h D (P.set j P.es[j] s) h' where
  pr := by
    have hmem : P.es[j] ∈ P.es := List.getElem_mem hj
    obtain ⟨a1, a2⟩ := r.apart3
    have e1 : (P.set j P.es[j] s).es.map EN.blk = P.es.map EN.blk := map_set_same EN.blk hj rfl
    have e2 : (P.set j P.es[j] s).es.map EN.born = P.es.map EN.born := map_set_same EN.born hj rfl
    have e3 : (P.set j P.es[j] s).es.map (fun e => e.s.id) = P.es.map fun e => e.s.id := map_set_same _ hj hid
    have e4 : (P.set j P.es[j] s).es.map EN.me = P.es.map EN.me := map_set_same _ hj (by unfold EN.me; simp only [hid])
    refine ⟨?_, ?_, fun e he => ?_, by rw [e1]; exact r.cc, ⟨by rw [hn]; exact r.lt.1, by rw [hn]; exact r.lt.2.1, fun e he => ?_⟩, fun e he => ?_, by rw [e2]; exact r.apart, by rw [e3]; exact r.rise, by show (P.es.set _ _).length ≤ _; rw [List.length_set]; exact r.few, fun e he => ?_⟩
    · rw [ho _ (Ne.symm (a2 _ hmem).1)]; exact r.obj
    · rw [ho _ (Ne.symm (a2 _ hmem).2), e4]; exact r.map
    · obtain ⟨i, hi, rfl⟩ := List.getElem_of_mem he
      have hi' : i < P.es.length := by simpa [MS.set] using hi
      by_cases hij : i = j
      · subst hij
        have : (P.set i P.es[i] s).es[i] = { P.es[i] with s := s } := by simp [MS.set]
        rw [this]; exact hk
      · have : (P.set j P.es[j] s).es[i] = P.es[i] := by simp only [MS.set]; rw [List.getElem_set_ne (Ne.symm hij)]
        rw [this, ho _ (nodup_ne r.cc hi' hj hij)]
        exact r.ent _ (List.getElem_mem hi')
    · rw [hn]
      rcases MS.set_mem hj he with rfl | q
      · exact r.lt.2.2 P.es[j] hmem
      · exact r.lt.2.2 e q
    · rcases MS.set_mem hj he with rfl | q
      · exact r.stamps P.es[j] hmem
      · exact r.stamps e q
    · rcases MS.set_mem hj he with rfl | q
      · show (Lit.int .u32 s.id).wf = true
        rw [hid]; exact r.wf _ hmem
      · exact r.wf e q
  nx := Nat.le_of_eq hn.symm
  same := fun k hk hno => ho k fun q => hno (.inr (.inr ⟨_, List.getElem_mem hj, q.symm⟩))
  own := fun k q => by
    rcases q with q | q | ⟨e, he, q⟩
    · exact .inl (.inl q)
    · exact .inl (.inr (.inl q))
    · rcases MS.set_mem hj he with rfl | q2
      · exact .inl (.inr (.inr ⟨P.es[j], List.getElem_mem hj, q⟩))
      · exact .inl (.inr (.inr ⟨e, q2, q⟩))
  b := rfl
theorem find_u32 (n : Int) : ∀ (l : List EN) (i : Nat), findV (.int .u32) (.int .u32 n) (l.map EN.me) i = some (match l.findIdx? (fun e => e.s.id == n) with
    | some j => some (i + j, (l[j]?.map (fun e => V.ptr e.blk 0)).getD undefV)
    | none => none)
  | [], i => rfl
  | e :: l, i => by
    have h1 : sameKey (.int .u32) (.int .u32 n) e.me.key = some (n == e.s.id) := by unfold sameKey EN.me; simp
    show (match sameKey (.int .u32) (.int .u32 n) e.me.key with
      | some true => some (some (i, e.me.val))
      | some false => findV (.int .u32) (.int .u32 n) (l.map EN.me) (i + 1)
      | none => none) = _
    rw [h1, List.findIdx?_cons]
    by_cases he : e.s.id = n
    · have e1 : (n == e.s.id) = true := by simp [he]
      have e2 : (e.s.id == n) = true := by simp [he]
      rw [e1, e2]
      simp [EN.me]
    · have e1 : (n == e.s.id) = false := by simp; exact fun q => he q.symm
      have e2 : (e.s.id == n) = false := by simpa using he
      rw [e1, e2, find_u32 n l (i + 1)]
      cases hl : l.findIdx? (fun e => e.s.id == n) with
      | none => simp [hl]
      | some j => simp [hl]; omega
theorem find_at {l : List EN} (hr : (l.map fun e => e.s.id).Pairwise (· < ·)) {j : Nat} (hj : j < l.length) : l.findIdx? (fun e => e.s.id == l[j].s.id) = some j := by
  rw [List.findIdx?_eq_some_iff_getElem]
  refine ⟨hj, by simp, fun k hk => ?_⟩
  have := List.pairwise_iff_getElem.1 hr k j (by simp; omega) (by simpa using hj) hk
  simp only [List.getElem_map] at this
  simp
  omega
theorem find_hit {l : List EN} (hr : (l.map fun e => e.s.id).Pairwise (· < ·)) {j : Nat} (hj : j < l.length) : findV (.int .u32) (.int .u32 l[j].s.id) (l.map EN.me) 0 = some (some (j, .ptr l[j].blk 0)) := by
  rw [find_u32, find_at hr hj]
  simp [hj]
theorem find_no {l : List EN} {n : Int} (h : ∀ e ∈ l, e.s.id ≠ n) : findV (.int .u32) (.int .u32 n) (l.map EN.me) 0 = some none := by
  rw [find_u32]
  have : l.findIdx? (fun e => e.s.id == n) = none := by
    rw [List.findIdx?_eq_none_iff]
    intro x hx
    simpa using h x hx
  rw [this]
theorem lk_hit (z : V) (i : Nat) (v : V) : lkV false z (some (i, v)) = v := rfl
theorem lk_hit2 (z : V) (i : Nat) (v : V) : lkV true z (some (i, v)) = .tuple [v, bo True] := by unfold bo; simp [lkV]
theorem lk_no2 (z : V) : lkV true z none = .tuple [z, bo False] := by unfold bo; simp [lkV]
structure StdP (S : Set0) : Prop extends StdS S where
  ownP : ∀ f, f ∈ [3, 5, 8, 9, 10, 11, 12, 13, 14, 15, 16, 18, 19, 20, 21, 22, 23, 24, 25, 26, 27, 28, 29, 30, 31, 32, 33, 34, 35, 36, 37, 38, 39, 40, 41, 43, 44, 45, 46, 47] → sums S.exts f = none
  srt : ∃ c n, sums S.exts 42 = some (sortedMG c n 50 49 .u32 27)
  lives : ∀ h : H, Exact S.cfg 7 [] h (.bool true)
open Classical in
def onS (s : ST) (conn : Int) : V := if conn < 1 then .tuple [.int .u32 0, bo False, .int .i64 2] else if s.conn = conn then .tuple [.int .u32 s.back, bo True, .int .i64 0] else if s.pins then .tuple [.int .u32 0, bo False, .int .i64 252] else .tuple [.int .u32 0, bo False, .int .i64 0]
variable {S : Set0} (hS : StdP S)
include hS
theorem find_hit_spec {D : MD} {P : MS} {h : H} (r : PR D P h) {j : Nat} (hj : j < P.es.length) {id : Int} (hid : P.es[j].s.id = id) : Exact S.cfg 29 [.ptr D.b 0, .int .u32 id] h (.tuple [.ptr P.es[j].blk 0, .int .i64 0]) := by
  subst hid
  refine into Try.f29 _ Try.func29 (hS.ownP _ (by decide)) rfl rfl (by kernel_rfl) (by kernel_rfl) ?_
  have hp := r.obj
  unfold mcells at hp
  simp +contextual (disch := first | (simp only [facts, clsL, clsS, clsC, isPtrD]; done) | omega | (simp only [push_nx, put_nx, del_nx]; omega) | (refine Nat.le_antisymm ?_ ?_ <;> simp only [push_nx, put_nx, del_nx] <;> omega) | fail) only [wpy, facts, wpb, cst, wpk, wpl, forall_const, implies_true, false_implies, Int.reduceLE, Int.reduceLT, Nat.reduceLeDiff, UInt8.reduceToNat, ↓reduceIte, Nat.reduceEqDiff, Nat.reduceAdd, reduceCtorEq, Int.reduceToNat, clsL, clsS, clsC, Try.f29, hp]
  refine lookup_by (d := .int .u32) (z := .nilptr) (r := D.mb) (by simp +contextual (disch := first | (simp only [facts, clsL, clsS, clsC, isPtrD]; done) | omega | (simp only [push_nx, put_nx, del_nx]; omega) | (refine Nat.le_antisymm ?_ ?_ <;> simp only [push_nx, put_nx, del_nx] <;> omega) | fail) only [wpy, facts, wpb, cst, wpk, wpl, forall_const, implies_true, false_implies, Int.reduceLE, Int.reduceLT, Nat.reduceLeDiff, UInt8.reduceToNat, ↓reduceIte, Nat.reduceEqDiff, Nat.reduceAdd, reduceCtorEq, Int.reduceToNat, clsL, clsS, clsC]) (by simp +contextual (disch := first | (simp only [facts, clsL, clsS, clsC, isPtrD]; done) | omega | (simp only [push_nx, put_nx, del_nx]; omega) | (refine Nat.le_antisymm ?_ ?_ <;> simp only [push_nx, put_nx, del_nx] <;> omega) | fail) only [wpy, facts, wpb, cst, wpk, wpl, forall_const, implies_true, false_implies, Int.reduceLE, Int.reduceLT, Nat.reduceLeDiff, UInt8.reduceToNat, ↓reduceIte, Nat.reduceEqDiff, Nat.reduceAdd, reduceCtorEq, Int.reduceToNat, clsL, clsS, clsC]) (by kernel_rfl) rfl r.map (find_hit r.rise hj) ?_
  simp +contextual (disch := first | (simp only [facts, clsL, clsS, clsC, isPtrD]; done) | omega | (simp only [push_nx, put_nx, del_nx]; omega) | (refine Nat.le_antisymm ?_ ?_ <;> simp only [push_nx, put_nx, del_nx] <;> omega) | fail) only [wpy, facts, wpb, cst, wpk, wpl, forall_const, implies_true, false_implies, Int.reduceLE, Int.reduceLT, Nat.reduceLeDiff, UInt8.reduceToNat, ↓reduceIte, Nat.reduceEqDiff, Nat.reduceAdd, reduceCtorEq, Int.reduceToNat, clsL, clsS, clsC, Try.f29, lk_hit2]
theorem find_miss_spec {D : MD} {P : MS} {h : H} (r : PR D P h) {id : Int} (hn : ∀ e ∈ P.es, e.s.id ≠ id) : Exact S.cfg 29 [.ptr D.b 0, .int .u32 id] h (.tuple [.nilptr, .int .i64 250]) := by
  refine into Try.f29 _ Try.func29 (hS.ownP _ (by decide)) rfl rfl (by kernel_rfl) (by kernel_rfl) ?_
  have hp := r.obj
  unfold mcells at hp
  simp +contextual (disch := first | (simp only [facts, clsL, clsS, clsC, isPtrD]; done) | omega | (simp only [push_nx, put_nx, del_nx]; omega) | (refine Nat.le_antisymm ?_ ?_ <;> simp only [push_nx, put_nx, del_nx] <;> omega) | fail) only [wpy, facts, wpb, cst, wpk, wpl, forall_const, implies_true, false_implies, Int.reduceLE, Int.reduceLT, Nat.reduceLeDiff, UInt8.reduceToNat, ↓reduceIte, Nat.reduceEqDiff, Nat.reduceAdd, reduceCtorEq, Int.reduceToNat, clsL, clsS, clsC, Try.f29, hp]
  refine lookup_by (d := .int .u32) (z := .nilptr) (r := D.mb) (by simp +contextual (disch := first | (simp only [facts, clsL, clsS, clsC, isPtrD]; done) | omega | (simp only [push_nx, put_nx, del_nx]; omega) | (refine Nat.le_antisymm ?_ ?_ <;> simp only [push_nx, put_nx, del_nx] <;> omega) | fail) only [wpy, facts, wpb, cst, wpk, wpl, forall_const, implies_true, false_implies, Int.reduceLE, Int.reduceLT, Nat.reduceLeDiff, UInt8.reduceToNat, ↓reduceIte, Nat.reduceEqDiff, Nat.reduceAdd, reduceCtorEq, Int.reduceToNat, clsL, clsS, clsC]) (by simp +contextual (disch := first | (simp only [facts, clsL, clsS, clsC, isPtrD]; done) | omega | (simp only [push_nx, put_nx, del_nx]; omega) | (refine Nat.le_antisymm ?_ ?_ <;> simp only [push_nx, put_nx, del_nx] <;> omega) | fail) only [wpy, facts, wpb, cst, wpk, wpl, forall_const, implies_true, false_implies, Int.reduceLE, Int.reduceLT, Nat.reduceLeDiff, UInt8.reduceToNat, ↓reduceIte, Nat.reduceEqDiff, Nat.reduceAdd, reduceCtorEq, Int.reduceToNat, clsL, clsS, clsC]) (by kernel_rfl) rfl r.map (find_no hn) ?_
  simp +contextual (disch := first | (simp only [facts, clsL, clsS, clsC, isPtrD]; done) | omega | (simp only [push_nx, put_nx, del_nx]; omega) | (refine Nat.le_antisymm ?_ ?_ <;> simp only [push_nx, put_nx, del_nx] <;> omega) | fail) only [wpy, facts, wpb, cst, wpk, wpl, forall_const, implies_true, false_implies, Int.reduceLE, Int.reduceLT, Nat.reduceLeDiff, UInt8.reduceToNat, ↓reduceIte, Nat.reduceEqDiff, Nat.reduceAdd, reduceCtorEq, Int.reduceToNat, clsL, clsS, clsC, Try.f29, lk_no2]
theorem pins_spec {b : Nat} {s : ST} {h : H} {fl : Bool} (hb : h.get b = some (.cells s.cells 31 fl)) : Exact S.cfg 30 [.ptr b 0] h (bo s.pins) := by
  refine into Try.f30 _ Try.func30 (hS.ownP _ (by decide)) rfl rfl (by kernel_rfl) (by kernel_rfl) ?_
  unfold ST.cells at hb
  unfold ST.pins
  by_cases hl : s.long
  · simp +contextual (disch := first | (simp only [facts, clsL, clsS, clsC, isPtrD]; done) | omega | (simp only [push_nx, put_nx, del_nx]; omega) | (refine Nat.le_antisymm ?_ ?_ <;> simp only [push_nx, put_nx, del_nx] <;> omega) | fail) only [wpy, facts, wpb, cst, wpk, wpl, forall_const, implies_true, false_implies, Int.reduceLE, Int.reduceLT, Nat.reduceLeDiff, UInt8.reduceToNat, ↓reduceIte, Nat.reduceEqDiff, Nat.reduceAdd, reduceCtorEq, Int.reduceToNat, clsL, clsS, clsC, Try.f30, hb, hl, true_or]
  · simp +contextual (disch := first | (simp only [facts, clsL, clsS, clsC, isPtrD]; done) | omega | (simp only [push_nx, put_nx, del_nx]; omega) | (refine Nat.le_antisymm ?_ ?_ <;> simp only [push_nx, put_nx, del_nx] <;> omega) | fail) only [wpy, facts, wpb, cst, wpk, wpl, forall_const, implies_true, false_implies, Int.reduceLE, Int.reduceLT, Nat.reduceLeDiff, UInt8.reduceToNat, ↓reduceIte, Nat.reduceEqDiff, Nat.reduceAdd, reduceCtorEq, Int.reduceToNat, clsL, clsS, clsC, Try.f30, hb, hl, false_or]
theorem on_hit_spec {D : MD} {P : MS} {h : H} (r : PR D P h) {j : Nat} (hj : j < P.es.length) {id : Int} (hid : P.es[j].s.id = id) (conn : Int) : Exact S.cfg 20 [.ptr D.b 0, .int .u32 id, .int .i64 conn] h (onS P.es[j].s conn) := by
  refine into Try.f20 _ Try.func20 (hS.ownP _ (by decide)) rfl rfl (by kernel_rfl) (by kernel_rfl) ?_
  have he := r.ent _ (List.getElem_mem hj)
  have he' := he
  unfold ST.cells at he
  simp +contextual (disch := first | (simp only [facts, clsL, clsS, clsC, isPtrD]; done) | omega | (simp only [push_nx, put_nx, del_nx]; omega) | (refine Nat.le_antisymm ?_ ?_ <;> simp only [push_nx, put_nx, del_nx] <;> omega) | fail) only [wpy, facts, wpb, cst, wpk, wpl, forall_const, implies_true, false_implies, Int.reduceLE, Int.reduceLT, Nat.reduceLeDiff, UInt8.reduceToNat, ↓reduceIte, Nat.reduceEqDiff, Nat.reduceAdd, reduceCtorEq, Int.reduceToNat, clsL, clsS, clsC, Try.f20]
  refine callF_exact (find_hit_spec hS r hj hid) ?_
  unfold onS
  by_cases hc : conn < 1
  · simp +contextual (disch := first | (simp only [facts, clsL, clsS, clsC, isPtrD]; done) | omega | (simp only [push_nx, put_nx, del_nx]; omega) | (refine Nat.le_antisymm ?_ ?_ <;> simp only [push_nx, put_nx, del_nx] <;> omega) | fail) only [wpy, facts, wpb, cst, wpk, wpl, forall_const, implies_true, false_implies, Int.reduceLE, Int.reduceLT, Nat.reduceLeDiff, UInt8.reduceToNat, ↓reduceIte, Nat.reduceEqDiff, Nat.reduceAdd, reduceCtorEq, Int.reduceToNat, clsL, clsS, clsC, Try.f20, hc]
  · by_cases hq : P.es[j].s.conn = conn
    · simp +contextual (disch := first | (simp only [facts, clsL, clsS, clsC, isPtrD]; done) | omega | (simp only [push_nx, put_nx, del_nx]; omega) | (refine Nat.le_antisymm ?_ ?_ <;> simp only [push_nx, put_nx, del_nx] <;> omega) | fail) only [wpy, facts, wpb, cst, wpk, wpl, forall_const, implies_true, false_implies, Int.reduceLE, Int.reduceLT, Nat.reduceLeDiff, UInt8.reduceToNat, ↓reduceIte, Nat.reduceEqDiff, Nat.reduceAdd, reduceCtorEq, Int.reduceToNat, clsL, clsS, clsC, Try.f20, hc, hq, he]
    · simp +contextual (disch := first | (simp only [facts, clsL, clsS, clsC, isPtrD]; done) | omega | (simp only [push_nx, put_nx, del_nx]; omega) | (refine Nat.le_antisymm ?_ ?_ <;> simp only [push_nx, put_nx, del_nx] <;> omega) | fail) only [wpy, facts, wpb, cst, wpk, wpl, forall_const, implies_true, false_implies, Int.reduceLE, Int.reduceLT, Nat.reduceLeDiff, UInt8.reduceToNat, ↓reduceIte, Nat.reduceEqDiff, Nat.reduceAdd, reduceCtorEq, Int.reduceToNat, clsL, clsS, clsC, Try.f20, hc, hq, he]
      refine callF_exact (pins_spec hS he') ?_
      by_cases hz : P.es[j].s.pins
      · simp +contextual (disch := first | (simp only [facts, clsL, clsS, clsC, isPtrD]; done) | omega | (simp only [push_nx, put_nx, del_nx]; omega) | (refine Nat.le_antisymm ?_ ?_ <;> simp only [push_nx, put_nx, del_nx] <;> omega) | fail) only [wpy, facts, wpb, cst, wpk, wpl, forall_const, implies_true, false_implies, Int.reduceLE, Int.reduceLT, Nat.reduceLeDiff, UInt8.reduceToNat, ↓reduceIte, Nat.reduceEqDiff, Nat.reduceAdd, reduceCtorEq, Int.reduceToNat, clsL, clsS, clsC, Try.f20, hz]
      · simp +contextual (disch := first | (simp only [facts, clsL, clsS, clsC, isPtrD]; done) | omega | (simp only [push_nx, put_nx, del_nx]; omega) | (refine Nat.le_antisymm ?_ ?_ <;> simp only [push_nx, put_nx, del_nx] <;> omega) | fail) only [wpy, facts, wpb, cst, wpk, wpl, forall_const, implies_true, false_implies, Int.reduceLE, Int.reduceLT, Nat.reduceLeDiff, UInt8.reduceToNat, ↓reduceIte, Nat.reduceEqDiff, Nat.reduceAdd, reduceCtorEq, Int.reduceToNat, clsL, clsS, clsC, Try.f20, hz]
theorem on_miss_spec {D : MD} {P : MS} {h : H} (r : PR D P h) {id : Int} (hn : ∀ e ∈ P.es, e.s.id ≠ id) (conn : Int) : Exact S.cfg 20 [.ptr D.b 0, .int .u32 id, .int .i64 conn] h (.tuple [.int .u32 0, bo False, .int .i64 250]) := by
  refine into Try.f20 _ Try.func20 (hS.ownP _ (by decide)) rfl rfl (by kernel_rfl) (by kernel_rfl) ?_
  simp +contextual (disch := first | (simp only [facts, clsL, clsS, clsC, isPtrD]; done) | omega | (simp only [push_nx, put_nx, del_nx]; omega) | (refine Nat.le_antisymm ?_ ?_ <;> simp only [push_nx, put_nx, del_nx] <;> omega) | fail) only [wpy, facts, wpb, cst, wpk, wpl, forall_const, implies_true, false_implies, Int.reduceLE, Int.reduceLT, Nat.reduceLeDiff, UInt8.reduceToNat, ↓reduceIte, Nat.reduceEqDiff, Nat.reduceAdd, reduceCtorEq, Int.reduceToNat, clsL, clsS, clsC, Try.f20]
  refine callF_exact (find_miss_spec hS r hn) ?_
  simp +contextual (disch := first | (simp only [facts, clsL, clsS, clsC, isPtrD]; done) | omega | (simp only [push_nx, put_nx, del_nx]; omega) | (refine Nat.le_antisymm ?_ ?_ <;> simp only [push_nx, put_nx, del_nx] <;> omega) | fail) only [wpy, facts, wpb, cst, wpk, wpl, forall_const, implies_true, false_implies, Int.reduceLE, Int.reduceLT, Nat.reduceLeDiff, UInt8.reduceToNat, ↓reduceIte, Nat.reduceEqDiff, Nat.reduceAdd, reduceCtorEq, Int.reduceToNat, clsL, clsS, clsC, Try.f20, n250]
theorem get_hit_spec {D : MD} {P : MS} {h : H} (r : PR D P h) {j : Nat} (hj : j < P.es.length) {id : Int} (hid : P.es[j].s.id = id) : Pure S.cfg 22 [.ptr D.b 0, .int .u32 id] h fun v _ => v = .tuple [.agg P.es[j].s.cells, .int .i64 0] := by
  refine into Try.f22 _ Try.func22 (hS.ownP _ (by decide)) rfl rfl (by kernel_rfl) (by kernel_rfl) ?_
  simp +contextual (disch := first | (simp only [facts, clsL, clsS, clsC, isPtrD]; done) | omega | (simp only [push_nx, put_nx, del_nx]; omega) | (refine Nat.le_antisymm ?_ ?_ <;> simp only [push_nx, put_nx, del_nx] <;> omega) | fail) only [wpy, facts, wpb, cst, wpk, wpl, forall_const, implies_true, false_implies, Int.reduceLE, Int.reduceLT, Nat.reduceLeDiff, UInt8.reduceToNat, ↓reduceIte, Nat.reduceEqDiff, Nat.reduceAdd, reduceCtorEq, Int.reduceToNat, clsL, clsS, clsC, Try.f22]
  obtain ⟨hA, hhA⟩ : ∃ hA, hA = h.push (Ob.cells [.int .u32 0, .str [], .int .u16 0, .int .u16 0, .int .i64 0, .int .u32 0, bo False, bo False] 31 false) := ⟨_, rfl⟩
  rw [← hhA]
  have hnA : hA.nx = h.nx + 1 := by rw [hhA]; rfl
  have hxA : Ext h hA := by rw [hhA]; exact (Ext.refl h).push _
  have hgA : hA.get h.nx = some (.cells [.int .u32 0, .str [], .int .u16 0, .int .u16 0, .int .i64 0, .int .u32 0, bo False, bo False] 31 false) := by rw [hhA]; exact push_eq rfl
  clear hhA
  refine callF_exact (find_hit_spec hS (r.ext hxA) hj hid) ?_
  have he := (r.ext hxA).ent _ (List.getElem_mem hj)
  unfold ST.cells at he
  simp +contextual (disch := first | (simp only [facts, clsL, clsS, clsC, isPtrD]; done) | omega | (simp only [push_nx, put_nx, del_nx]; omega) | (refine Nat.le_antisymm ?_ ?_ <;> simp only [push_nx, put_nx, del_nx] <;> omega) | fail) only [wpy, facts, wpb, cst, wpk, wpl, forall_const, implies_true, false_implies, Int.reduceLE, Int.reduceLT, Nat.reduceLeDiff, UInt8.reduceToNat, ↓reduceIte, Nat.reduceEqDiff, Nat.reduceAdd, reduceCtorEq, Int.reduceToNat, clsL, clsS, clsC, Try.f22, he, hgA]
  exact ⟨hxA.put (Nat.le_refl _) _, rfl⟩
theorem get_miss_spec {D : MD} {P : MS} {h : H} (r : PR D P h) {id : Int} (hn : ∀ e ∈ P.es, e.s.id ≠ id) : Pure S.cfg 22 [.ptr D.b 0, .int .u32 id] h fun v _ => v = .tuple [.agg z8, .int .i64 250] := by
  refine into Try.f22 _ Try.func22 (hS.ownP _ (by decide)) rfl rfl (by kernel_rfl) (by kernel_rfl) ?_
  simp +contextual (disch := first | (simp only [facts, clsL, clsS, clsC, isPtrD]; done) | omega | (simp only [push_nx, put_nx, del_nx]; omega) | (refine Nat.le_antisymm ?_ ?_ <;> simp only [push_nx, put_nx, del_nx] <;> omega) | fail) only [wpy, facts, wpb, cst, wpk, wpl, forall_const, implies_true, false_implies, Int.reduceLE, Int.reduceLT, Nat.reduceLeDiff, UInt8.reduceToNat, ↓reduceIte, Nat.reduceEqDiff, Nat.reduceAdd, reduceCtorEq, Int.reduceToNat, clsL, clsS, clsC, Try.f22]
  obtain ⟨hA, hhA⟩ : ∃ hA, hA = h.push (Ob.cells [.int .u32 0, .str [], .int .u16 0, .int .u16 0, .int .i64 0, .int .u32 0, bo False, bo False] 31 false) := ⟨_, rfl⟩
  rw [← hhA]
  have hnA : hA.nx = h.nx + 1 := by rw [hhA]; rfl
  have hxA : Ext h hA := by rw [hhA]; exact (Ext.refl h).push _
  have hgA : hA.get h.nx = some (.cells [.int .u32 0, .str [], .int .u16 0, .int .u16 0, .int .i64 0, .int .u32 0, bo False, bo False] 31 false) := by rw [hhA]; exact push_eq rfl
  clear hhA
  refine callF_exact (find_miss_spec hS (r.ext hxA) hn) ?_
  simp +contextual (disch := first | (simp only [facts, clsL, clsS, clsC, isPtrD]; done) | omega | (simp only [push_nx, put_nx, del_nx]; omega) | (refine Nat.le_antisymm ?_ ?_ <;> simp only [push_nx, put_nx, del_nx] <;> omega) | fail) only [wpy, facts, wpb, cst, wpk, wpl, forall_const, implies_true, false_implies, Int.reduceLE, Int.reduceLT, Nat.reduceLeDiff, UInt8.reduceToNat, ↓reduceIte, Nat.reduceEqDiff, Nat.reduceAdd, reduceCtorEq, Int.reduceToNat, clsL, clsS, clsC, Try.f22, hgA, n250]
  exact ⟨hxA.put (Nat.le_refl _) _, rfl⟩
end
noncomputable section
def stc (l : List ST) : List V := l.flatMap ST.cells
theorem stc_len (l : List ST) : (stc l).length = l.length * 8 := by
  induction l with
  | nil => rfl
  | cons w l ih =>
    show (ST.cells w ++ stc l).length = _
    rw [List.length_append, ih]
    show 8 + _ = (l.length + 1) * 8
    omega
theorem stc_app (a b : List ST) : stc (a ++ b) = stc a ++ stc b := by simp [stc]
theorem stc_one (s : ST) : stc [s] = s.cells := by simp [stc]
theorem stc_drop : ∀ (l : List ST) (i : Nat), (stc l).drop (i * 8) = stc (l.drop i)
  | l, 0 => by simp
  | [], i + 1 => by simp [stc]
  | w :: l, i + 1 => by
    have ih := stc_drop l i
    rw [show (i + 1) * 8 = 8 + i * 8 by omega, List.drop_succ_cons, ← ih, show stc (w :: l) = w.cells ++ stc l from rfl, ← List.drop_drop]
    rfl
theorem stc_take : ∀ (l : List ST) (i : Nat), (stc l).take (i * 8) = stc (l.take i)
  | l, 0 => by simp [stc]
  | [], i + 1 => by simp [stc]
  | w :: l, i + 1 => by
    have ih := stc_take l i
    show (w.cells ++ stc l).take ((i + 1) * 8) = w.cells ++ stc (l.take i)
    rw [← ih, show (i + 1) * 8 = w.cells.length + i * 8 by show _ = 8 + i * 8; omega, List.take_length_add_append]
theorem stc_at {l : List ST} {i : Nat} (hi : i < l.length) : ((stc l).drop (i * 8)).take 8 = l[i].cells := by
  rw [stc_drop, List.drop_eq_getElem_cons hi]
  rfl
theorem eight_at {cs : List V} {k : Nat} {s : ST} (h : (cs.drop k).take 8 = s.cells) : cs[k]? = some (.int .u32 s.id) ∧ cs[k + 1]? = some (.str s.text) ∧ cs[k + 4]? = some (.int .i64 s.conn) ∧ cs[k + 5]? = some (.int .u32 s.back) ∧ cs[k + 6]? = some (bo s.long) ∧ cs[k + 7]? = some (bo s.cur) := by
  have h0 := congrArg (fun l : List V => l[0]?) h
  have h1 := congrArg (fun l : List V => l[1]?) h
  have h4 := congrArg (fun l : List V => l[4]?) h
  have h5 := congrArg (fun l : List V => l[5]?) h
  have h6 := congrArg (fun l : List V => l[6]?) h
  have h7 := congrArg (fun l : List V => l[7]?) h
  unfold ST.cells at h0 h1 h4 h5 h6 h7
  simp only [List.getElem?_take, List.getElem?_drop] at h0 h1 h4 h5 h6 h7
  exact ⟨h0, h1, h4, h5, h6, h7⟩
theorem stc_isCell (l : List ST) : (stc l).all V.isCell = true := by
  induction l with
  | nil => rfl
  | cons w l ih => show (w.cells ++ stc l).all V.isCell = true; rw [List.all_append, ih]; rfl
def nums (P : MS) : List Int := P.es.map fun e => e.s.id
theorem keys_of : ∀ {l : List EN}, (∀ e ∈ l, (Lit.int .u32 e.s.id).wf = true) → keysI .u32 (l.map EN.me) = some (l.map fun e => e.s.id)
  | [], _ => rfl
  | c :: l, h => by
    have ih := keys_of (l := l) fun c hc => h c (by simp [hc])
    have hc := h c (by simp)
    show (if IntKind.u32 = IntKind.u32 then (bif (Lit.int .u32 c.s.id).wf then (match keysI .u32 (l.map EN.me) with | some r => some (c.s.id :: r) | none => none) else none) else none) = _
    rw [if_pos rfl, hc, cond_true, ih]
    rfl
theorem sorted_rise {P : MS} (h : (P.es.map fun e => e.s.id).Pairwise (· < ·)) : srt (nums P) = nums P :=
  (srt_unique (List.Perm.refl _) (h.imp fun q => Int.le_of_lt q)).symm
theorem distinct_of : ∀ {l : List Int}, l.Nodup → Lx.distinct l = true
  | [], _ => rfl
  | x :: l, h => by
    rw [List.nodup_cons] at h
    unfold Lx.distinct
    rw [Bool.and_eq_true]
    refine ⟨List.all_eq_true.2 fun y hy => ?_, distinct_of h.2⟩
    have : x ≠ y := fun e => h.1 (e ▸ hy)
    simp [this]
theorem nodup_int {l : List Nat} (h : l.Nodup) : (l.map fun n : Nat => (n : Int)).Nodup := by
  induction l with
  | nil => exact List.nodup_nil
  | cons a l ih =>
    rw [List.nodup_cons] at h
    rw [List.map_cons, List.nodup_cons]
    refine ⟨fun q => ?_, ih h.2⟩
    obtain ⟨b, hb, e⟩ := List.mem_map.1 q
    have : b = a := by omega
    exact h.1 (this ▸ hb)
theorem nice_sorted (c : Cfg) (n : Nat) (vs : List V) : Nice (sortedMG c n 50 49 .u32 27 vs) := by
  unfold sortedMG
  split
  · refine Nice.cond (Nice.bnd (Nice.ld _ _ _) fun cs => ?_) (Nice.err _)
    unfold sortedBoxG
    split
    · refine Nice.bnd (Nice.getO _) fun ob => ?_
      unfold sortedMapG
      split
      · refine Nice.bnd (Nice.opt _ _) fun ts => ?_
        unfold sortedTail
        split
        · exact Nice.ret _
        · exact Nice.bnd (Nice.alloc _) fun _ => Nice.ret _
      · exact Nice.err _
    · exact Nice.err _
  · exact Nice.err _
theorem PR.good {D : MD} {P : MS} {h : H} (r : PR D P h) : keysGood (P.es.map EN.me) D.ck (nums P) = true := by
  unfold keysGood nums
  have h1 : Nat.ble (P.es.map fun e => e.s.id).length 1000 = true := by rw [List.length_map]; exact ble_iff.2 r.few
  have h2 : ((P.es.map EN.me).all fun x => Nat.blt x.born D.ck) = true := by
    refine List.all_eq_true.2 fun x hx => ?_
    obtain ⟨c, hc, rfl⟩ := List.mem_map.1 hx
    exact blt_iff.2 (r.stamps c hc)
  have h3 : Lx.distinct ((P.es.map EN.me).map fun x => (x.born : Int)) = true := by
    have e : ((P.es.map EN.me).map fun x => (x.born : Int)) = (P.es.map EN.born).map fun n : Nat => (n : Int) := by
      rw [List.map_map, List.map_map]
      rfl
    rw [e]
    exact distinct_of (nodup_int r.apart)
  have h4 : Lx.distinct (P.es.map fun e => e.s.id) = true := distinct_of (r.rise.imp fun q => by omega)
  rw [h1, h2, h3, h4]
  rfl
theorem lst_lenV {n0 e k : Nat} {h : H} {sv : V} {α : Type} {l : List α} {f : α → V} (hL : Lst n0 h sv (l.map f) k 1) : lenO (some (.slice e)) sv = some (.int .i64 l.length) := by
  rcases hL with (⟨rfl, hw⟩ | ⟨b, n, _, _, rfl, _, _, hk⟩) | ⟨hw, b, _, _, rfl, _⟩
  · rw [List.map_eq_nil_iff.1 hw]; rfl
  · rw [List.length_map, Nat.mul_one] at hk; rw [hk]; rfl
  · rw [List.map_eq_nil_iff.1 hw]; rfl
theorem lst_rowV {n0 k : Nat} {h : H} {sv : V} {α : Type} {l : List α} {f : α → V} (hL : Lst n0 h sv (l.map f) k 1) (h0 : 0 < l.length) : ∃ b, sv = .slice b 0 l.length l.length ∧ n0 ≤ b ∧ b < h.nx ∧ h.get b = some (.cells (l.map f) k true) := by
  rcases hL with (⟨rfl, hw⟩ | ⟨b, n, h1, h2, rfl, _, h3, hk⟩) | ⟨hw, b, _, _, rfl, _⟩
  · rw [List.map_eq_nil_iff.1 hw] at h0; cases h0
  · rw [List.length_map, Nat.mul_one] at hk; subst hk; exact ⟨b, rfl, h1, h2, h3⟩
  · rw [List.map_eq_nil_iff.1 hw] at h0; cases h0
theorem Lst.mono' {n0 n1 e sz : Nat} {h : H} {v : V} {cells : List V} (hl : Lst n0 h v cells e sz) (hn : n1 ≤ n0) : Lst n1 h v cells e sz := by
  rcases hl with ha | ⟨h1, k, h2, h3, h4, h5⟩
  · exact .inl (ha.mono hn)
  · exact .inr ⟨h1, k, Nat.le_trans hn h2, h3, h4, h5⟩
theorem Lst.lt {n0 e sz : Nat} {h : H} {v : V} {cells : List V} (hl : Lst n0 h v cells e sz) {k o n m : Nat} (q : v = .slice k o n m) : n0 ≤ k ∧ k < h.nx ∧ ∃ fl, h.get k = some (.cells cells e fl) := by
  rcases hl with (⟨h0, _⟩ | ⟨k', n', h1, h2, h3, _, h5, _⟩) | ⟨h1, k', h2, h3, h4, h5⟩
  · rw [h0] at q; cases q
  · rw [h3] at q; cases q; exact ⟨h1, h2, _, h5⟩
  · rw [h4] at q; cases q; exact ⟨h2, h3, _, by rw [h1]; exact h5⟩
theorem Lst.keep {n0 e sz : Nat} {h h' : H} {v : V} {cells : List V} (hl : Lst n0 h v cells e sz) (hn : h.nx ≤ h'.nx) (hk : ∀ k o n m, v = .slice k o n m → h'.get k = h.get k) : Lst n0 h' v cells e sz := by
  rcases hl with (ha | ⟨k, n, h1, h2, rfl, h4, h5, h6⟩) | ⟨h1, k, h2, h3, rfl, h5⟩
  · exact .inl (.inl ha)
  · exact .inl (.inr ⟨k, n, h1, Nat.lt_of_lt_of_le h2 hn, rfl, h4, by rw [hk k _ _ _ rfl]; exact h5, h6⟩)
  · exact .inr ⟨h1, k, h2, Nat.lt_of_lt_of_le h3 hn, rfl, by rw [hk k _ _ _ rfl]; exact h5⟩
theorem lst_len8 {n0 e : Nat} {h : H} {sv : V} {l : List ST} (hL : Lst n0 h sv (stc l) 31 8) : lenO (some (.slice e)) sv = some (.int .i64 l.length) := by
  have hn := stc_len l
  rcases hL with (⟨rfl, hw⟩ | ⟨b, n, _, _, rfl, _, _, hk⟩) | ⟨hw, b, _, _, rfl, _⟩
  · rw [hw] at hn; rw [List.eq_nil_of_length_eq_zero (by simp at hn; omega : l.length = 0)]; rfl
  · obtain rfl : n = l.length := by omega
    rfl
  · rw [hw] at hn; rw [List.eq_nil_of_length_eq_zero (by simp at hn; omega : l.length = 0)]; rfl
theorem lst_row8 {n0 : Nat} {h : H} {sv : V} {l : List ST} (hL : Lst n0 h sv (stc l) 31 8) (h0 : 0 < l.length) : ∃ b, sv = .slice b 0 l.length l.length ∧ n0 ≤ b ∧ b < h.nx ∧ h.get b = some (.cells (stc l) 31 true) := by
  have hn := stc_len l
  rcases hL with (⟨rfl, hw⟩ | ⟨b, n, h1, h2, rfl, _, h3, hk⟩) | ⟨hw, b, _, _, rfl, _⟩
  · rw [hw] at hn; simp at hn; omega
  · obtain rfl : n = l.length := by omega
    exact ⟨b, rfl, h1, h2, h3⟩
  · rw [hw] at hn; simp at hn; omega
def AlI (D : MD) (P : MS) (h : H) (kv : V) (m : Nat) (env : Env) (h' : H) : Prop :=
  ∃ (j : Nat) (ov : V), m = P.es.length - j ∧ j ≤ P.es.length ∧ env 0 = .ptr D.b 0 ∧ env 3 = ov ∧ env 20 = kv ∧ env 21 = .int .i64 P.es.length ∧ env 22 = .int .i64 j ∧ Ext h h' ∧ Lst h.nx h' kv ((nums P).map (V.int .u32)) 27 1 ∧ Lst h.nx h' ov (stc ((P.es.map EN.s).take j)) 31 8 ∧ (∀ k o n m o' n' m', kv = .slice k o n m → ov ≠ .slice k o' n' m')
variable {S : Set0} (hS : StdP S)
include hS
theorem keys_spec (mb : Nat) (h : H) : callW S.cfg nil1 43 [.map mb] h fun v h' => v = .func 50 [] [.ptr h.nx 0] ∧ h' = h.push (.cells [.map mb] 53 false) := by
  refine into Try.f43 _ Try.func43 (hS.ownP _ (by decide)) rfl rfl (by kernel_rfl) (by kernel_rfl) ?_
  simp +contextual (disch := first | (simp only [facts, clsL, clsS, clsC, isPtrD]; done) | omega | (simp only [push_nx, put_nx, del_nx]; omega) | (refine Nat.le_antisymm ?_ ?_ <;> simp only [push_nx, put_nx, del_nx] <;> omega) | fail) only [wpy, facts, wpb, cst, wpk, wpl, forall_const, implies_true, false_implies, Int.reduceLE, Int.reduceLT, Nat.reduceLeDiff, UInt8.reduceToNat, ↓reduceIte, Nat.reduceEqDiff, Nat.reduceAdd, reduceCtorEq, Int.reduceToNat, clsL, clsS, clsC, Try.f43]
theorem srt_spec {D : MD} {P : MS} {h : H} (r : PR D P h) (b : Nat) (hb : h.get b = some (.cells [.map D.mb] 53 false)) : Pure S.cfg 42 [.func 50 [] [.ptr b 0]] h fun v h' => Lst h.nx h' v ((nums P).map (V.int .u32)) 27 1 := by
  obtain ⟨c, n, hs⟩ := hS.srt
  have hk := keys_of r.wf
  have hg := r.good
  have hso := sorted_rise r.rise
  have hmb : h.get D.mb = some (.map (P.es.map EN.me) D.ck) := r.map
  have e1 : sortedMG c n 50 49 .u32 27 [.func 50 [] [.ptr b 0]] = Lx.bnd (ld b 0 1) (sortedBoxG c n 49 .u32 27) := rfl
  have e2 : sortedEsG c n 49 .u32 27 (P.es.map EN.me) D.ck = some (nums P) := by
    unfold sortedEsG
    rw [hk]
    show (bif keysGood (P.es.map EN.me) D.ck (nums P) then some (srt (nums P)) else none) = _
    rw [hg, cond_true, hso]
  have hb' : h.heap.get b = some (.cells [.map D.mb] 53 false) := hb
  have hmb' : h.heap.get D.mb = some (.map (P.es.map EN.me) D.ck) := hmb
  have e3 : sortedMG c n 50 49 .u32 27 [.func 50 [] [.ptr b 0]] h.st = sortedTail .u32 27 (nums P) ⟨h.heap, h.nx, [.rdd D.mb, .rd b 0 1]⟩ := by
    rw [e1]
    have g1 : ld b 0 1 h.st = .ok [.map D.mb] ⟨h.heap, h.nx, [.rd b 0 1]⟩ := by
      unfold ld H.st
      simp only [hb']
      rfl
    rw [bnd_eq g1]
    show Lx.bnd (getO D.mb) (sortedMapG c n 49 .u32 27) _ = _
    have g2 : getO D.mb ⟨h.heap, h.nx, [.rd b 0 1]⟩ = .ok (.map (P.es.map EN.me) D.ck) ⟨h.heap, h.nx, [.rdd D.mb, .rd b 0 1]⟩ := by
      unfold getO
      simp only [hmb']
      rfl
    rw [bnd_eq g2]
    show Lx.bnd (Lx.opt (sortedEsG c n 49 .u32 27 (P.es.map EN.me) D.ck) "sorted") (sortedTail .u32 27) _ = _
    rw [e2]
    rfl
  cases hN : nums P with
  | nil =>
    refine callW_sum (s := ⟨h.heap, h.nx, [.rdd D.mb, .rd b 0 1]⟩) (v := .nilslice) hs (nice_sorted c n _) (by rw [e3, hN]; rfl) ?_ ⟨Ext.refl h, .inl (.inl ⟨rfl, rfl⟩)⟩
    intro e he hw
    simp only [List.mem_cons, List.not_mem_nil, or_false] at he
    rcases he with rfl | rfl <;> cases hw
  | cons x xs =>
    refine callW_sum (s := ⟨(h.push (.cells ((x :: xs).map (V.int .u32)) 27 true)).heap, h.nx + 1, [.wrd h.nx, .rdd D.mb, .rd b 0 1]⟩) (v := .slice h.nx 0 (x :: xs).length (x :: xs).length) hs (nice_sorted c n _) (by rw [e3, hN]; rfl) ?_ ⟨show Ext h (h.push _) from (Ext.refl h).push _, ?_⟩
    · intro e he hw
      simp only [List.mem_cons, List.not_mem_nil, or_false] at he
      rcases he with rfl | rfl | rfl
      · exact .inl (Nat.le_refl _)
      · cases hw
      · cases hw
    · refine .inl (.inr ⟨h.nx, (x :: xs).length, Nat.le_refl _, Nat.lt_succ_self _, rfl, Nat.succ_pos _, push_eq (o := .cells ((x :: xs).map (V.int .u32)) 27 true) rfl, by simp⟩)
theorem all_spec {D : MD} {P : MS} {h : H} (r : PR D P h) : Pure S.cfg 26 [.ptr D.b 0] h fun v h' => Lst h.nx h' v (stc P.pl.l) 31 8 := by
  refine into Try.f26 _ Try.func26 (hS.ownP _ (by decide)) rfl rfl (by kernel_rfl) (by kernel_rfl) ?_
  have hp := r.obj
  unfold mcells at hp
  simp +contextual (disch := first | (simp only [facts, clsL, clsS, clsC, isPtrD]; done) | omega | (simp only [push_nx, put_nx, del_nx]; omega) | (refine Nat.le_antisymm ?_ ?_ <;> simp only [push_nx, put_nx, del_nx] <;> omega) | fail) only [wpy, facts, wpb, cst, wpk, wpl, forall_const, implies_true, false_implies, Int.reduceLE, Int.reduceLT, Nat.reduceLeDiff, UInt8.reduceToNat, ↓reduceIte, Nat.reduceEqDiff, Nat.reduceAdd, reduceCtorEq, Int.reduceToNat, clsL, clsS, clsC, Try.f26, hp]
  refine callF_of (keys_spec hS D.mb h) (fun _ q => q.elim) ?_
  rintro v h1 ⟨rfl, hh1⟩
  have hx1 : Ext h h1 := by rw [hh1]; exact (Ext.refl h).push _
  have hg1 : h1.get h.nx = some (.cells [.map D.mb] 53 false) := by rw [hh1]; exact push_eq rfl
  clear hh1
  simp +contextual (disch := first | (simp only [facts, clsL, clsS, clsC, isPtrD]; done) | omega | (simp only [push_nx, put_nx, del_nx]; omega) | (refine Nat.le_antisymm ?_ ?_ <;> simp only [push_nx, put_nx, del_nx] <;> omega) | fail) only [wpy, facts, wpb, cst, wpk, wpl, forall_const, implies_true, false_implies, Int.reduceLE, Int.reduceLT, Nat.reduceLeDiff, UInt8.reduceToNat, ↓reduceIte, Nat.reduceEqDiff, Nat.reduceAdd, reduceCtorEq, Int.reduceToNat, clsL, clsS, clsC, Try.f26]
  refine callF_pure (srt_spec hS (r.ext hx1) h.nx hg1) ?_
  intro kv h2 hx2 hL2
  have hx02 := hx1.trans hx2
  have hlen := lst_lenV (e := 27) hL2
  have hnl : (nums P).length = P.es.length := List.length_map ..
  have hsl : (P.es.map EN.s).length = P.es.length := List.length_map ..
  rw [hnl] at hlen
  simp +contextual (disch := first | (simp only [facts, clsL, clsS, clsC, isPtrD]; done) | omega | (simp only [push_nx, put_nx, del_nx]; omega) | (refine Nat.le_antisymm ?_ ?_ <;> simp only [push_nx, put_nx, del_nx] <;> omega) | fail) only [wpy, facts, wpb, cst, wpk, wpl, forall_const, implies_true, false_implies, Int.reduceLE, Int.reduceLT, Nat.reduceLeDiff, UInt8.reduceToNat, ↓reduceIte, Nat.reduceEqDiff, Nat.reduceAdd, reduceCtorEq, Int.reduceToNat, clsL, clsS, clsC, Try.f26, hlen]
  refine run_loop (AlI D P h kv) P.es.length ⟨0, .nilslice, by simp +contextual (disch := first | (simp only [facts, clsL, clsS, clsC, isPtrD]; done) | omega | (simp only [push_nx, put_nx, del_nx]; omega) | (refine Nat.le_antisymm ?_ ?_ <;> simp only [push_nx, put_nx, del_nx] <;> omega) | fail) only [wpy, facts, wpb, cst, wpk, wpl, forall_const, implies_true, false_implies, Int.reduceLE, Int.reduceLT, Nat.reduceLeDiff, UInt8.reduceToNat, ↓reduceIte, Nat.reduceEqDiff, Nat.reduceAdd, reduceCtorEq, Int.reduceToNat, clsL, clsS, clsC]; exact ⟨(Nat.sub_zero _).symm, hx02, Lst.mono' hL2 hx1.1, .inl (.inl ⟨rfl, rfl⟩), fun _ _ _ _ _ _ _ _ q => by cases q⟩⟩ ?_
  rintro m env h3 ⟨j, ov, rfl, hj, e0, e3, e11, e12, e13, hx3, hLk, hLo, hne⟩
  have hp3 := (r.ext hx3).obj
  unfold mcells at hp3
  by_cases hlt : j < P.es.length
  · obtain ⟨kb, rfl, kb0, kb1, hkb⟩ := lst_rowV hLk (by rw [hnl]; omega)
    have hjn : j < (nums P).length := by rw [hnl]; exact hlt
    have c1 : ((nums P).map (V.int .u32))[j]? = some (.int .u32 P.es[j].s.id) := by
      show ((P.es.map fun e => e.s.id).map (V.int .u32))[j]? = _
      rw [List.getElem?_map, List.getElem?_map, List.getElem?_eq_getElem hlt]
      rfl
    have hen := (r.ext hx3).ent _ (List.getElem_mem hlt)
    have hen' := hen
    unfold ST.cells at hen
    simp +contextual (disch := first | (simp only [facts, clsL, clsS, clsC, isPtrD]; done) | omega | (simp only [push_nx, put_nx, del_nx]; omega) | (refine Nat.le_antisymm ?_ ?_ <;> simp only [push_nx, put_nx, del_nx] <;> omega) | fail) only [wpy, facts, wpb, cst, wpk, wpl, forall_const, implies_true, false_implies, Int.reduceLE, Int.reduceLT, Nat.reduceLeDiff, UInt8.reduceToNat, ↓reduceIte, Nat.reduceEqDiff, Nat.reduceAdd, reduceCtorEq, Int.reduceToNat, clsL, clsS, clsC, Try.f26, e0, e3, e11, e12, e13, hlt, hjn, hkb, c1, hp3]
    refine lookup_by (d := .int .u32) (z := .nilptr) (r := D.mb) (by simp +contextual (disch := first | (simp only [facts, clsL, clsS, clsC, isPtrD]; done) | omega | (simp only [push_nx, put_nx, del_nx]; omega) | (refine Nat.le_antisymm ?_ ?_ <;> simp only [push_nx, put_nx, del_nx] <;> omega) | fail) only [wpy, facts, wpb, cst, wpk, wpl, forall_const, implies_true, false_implies, Int.reduceLE, Int.reduceLT, Nat.reduceLeDiff, UInt8.reduceToNat, ↓reduceIte, Nat.reduceEqDiff, Nat.reduceAdd, reduceCtorEq, Int.reduceToNat, clsL, clsS, clsC]) (by simp +contextual (disch := first | (simp only [facts, clsL, clsS, clsC, isPtrD]; done) | omega | (simp only [push_nx, put_nx, del_nx]; omega) | (refine Nat.le_antisymm ?_ ?_ <;> simp only [push_nx, put_nx, del_nx] <;> omega) | fail) only [wpy, facts, wpb, cst, wpk, wpl, forall_const, implies_true, false_implies, Int.reduceLE, Int.reduceLT, Nat.reduceLeDiff, UInt8.reduceToNat, ↓reduceIte, Nat.reduceEqDiff, Nat.reduceAdd, reduceCtorEq, Int.reduceToNat, clsL, clsS, clsC]) (by kernel_rfl) rfl (by have := (r.ext hx3).map; exact this) (find_hit r.rise hlt) ?_
    simp +contextual (disch := first | (simp only [facts, clsL, clsS, clsC, isPtrD]; done) | omega | (simp only [push_nx, put_nx, del_nx]; omega) | (refine Nat.le_antisymm ?_ ?_ <;> simp only [push_nx, put_nx, del_nx] <;> omega) | fail) only [wpy, facts, wpb, cst, wpk, wpl, forall_const, implies_true, false_implies, Int.reduceLE, Int.reduceLT, Nat.reduceLeDiff, UInt8.reduceToNat, ↓reduceIte, Nat.reduceEqDiff, Nat.reduceAdd, reduceCtorEq, Int.reduceToNat, clsL, clsS, clsC, Try.f26, e0, e3, e11, e12, e13, hlt, lk_hit, hen]
    obtain ⟨hA, hhA⟩ : ∃ hA, hA = h3.push (Ob.cells P.es[j].s.cells 31 false) := ⟨_, rfl⟩
    have hnA : hA.nx = h3.nx + 1 := by rw [hhA]; rfl
    have hxA : Ext h3 hA := by rw [hhA]; exact (Ext.refl h3).push _
    have hgA : hA.get h3.nx = some (.cells P.es[j].s.cells 31 false) := by rw [hhA]; exact push_eq rfl
    unfold ST.cells at hhA
    rw [← hhA]
    clear hhA
    have hf := r.few
    refine append_fresh (n0 := h.nx) (sv := ov) (cells := stc ((P.es.map EN.s).take j)) (new := P.es[j].s.cells) ?_ (b2 := h3.nx) (o2 := 0) (n := 1) (m := 1) ?_ ap28 ⟨.slice 31, by kernel_rfl, rfl⟩ (hLo.ext hxA) (by decide) (by rw [hgA]; exact rdC_all rfl) rfl rfl ?_ (by decide) (fun k ⟨o, n, m, q⟩ => by
      rw [fresh_def]
      exact .inl (Lst.lt hLo q).1) (by have := hx3.1; omega) ?_
    · simp +contextual (disch := first | (simp only [facts, clsL, clsS, clsC, isPtrD]; done) | omega | (simp only [push_nx, put_nx, del_nx]; omega) | (refine Nat.le_antisymm ?_ ?_ <;> simp only [push_nx, put_nx, del_nx] <;> omega) | fail) only [wpy, facts, wpb, cst, wpk, wpl, forall_const, implies_true, false_implies, Int.reduceLE, Int.reduceLT, Nat.reduceLeDiff, UInt8.reduceToNat, ↓reduceIte, Nat.reduceEqDiff, Nat.reduceAdd, reduceCtorEq, Int.reduceToNat, clsL, clsS, clsC, e3]
    · simp +contextual (disch := first | (simp only [facts, clsL, clsS, clsC, isPtrD]; done) | omega | (simp only [push_nx, put_nx, del_nx]; omega) | (refine Nat.le_antisymm ?_ ?_ <;> simp only [push_nx, put_nx, del_nx] <;> omega) | fail) only [wpy, facts, wpb, cst, wpk, wpl, forall_const, implies_true, false_implies, Int.reduceLE, Int.reduceLT, Nat.reduceLeDiff, UInt8.reduceToNat, ↓reduceIte, Nat.reduceEqDiff, Nat.reduceAdd, reduceCtorEq, Int.reduceToNat, clsL, clsS, clsC]
    · rw [stc_len, List.length_take]; show min j _ * 8 + 8 ≤ _; omega
    intro v4 h4 L ha hx4 hk4 hL
    have hwj : IntKind.i64.wrap ((j : Int) + 1) = ((j + 1 : Nat) : Int) := by rw [i64_in _ (by omega)]; omega
    have hkv : hA.nx ≤ h4.nx := hx4
    simp +contextual (disch := first | (simp only [facts, clsL, clsS, clsC, isPtrD]; done) | omega | (simp only [push_nx, put_nx, del_nx]; omega) | (refine Nat.le_antisymm ?_ ?_ <;> simp only [push_nx, put_nx, del_nx] <;> omega) | fail) only [wpy, facts, wpb, cst, wpk, wpl, forall_const, implies_true, false_implies, Int.reduceLE, Int.reduceLT, Nat.reduceLeDiff, UInt8.reduceToNat, ↓reduceIte, Nat.reduceEqDiff, Nat.reduceAdd, reduceCtorEq, Int.reduceToNat, clsL, clsS, clsC, Try.f26, e0, e3, e11, e12, e13]
    have hov : ∀ k, k < h.nx → ∀ o n m, ov ≠ .slice k o n m := fun k hk o n m q => by
      have := (Lst.lt hLo q).1
      omega
    have hx3n := hx3.1
    refine ⟨P.es.length - (j + 1), by omega, j + 1, v4, rfl, hlt, by simp +contextual (disch := first | (simp only [facts, clsL, clsS, clsC, isPtrD]; done) | omega | (simp only [push_nx, put_nx, del_nx]; omega) | (refine Nat.le_antisymm ?_ ?_ <;> simp only [push_nx, put_nx, del_nx] <;> omega) | fail) only [wpy, facts, wpb, cst, wpk, wpl, forall_const, implies_true, false_implies, Int.reduceLE, Int.reduceLT, Nat.reduceLeDiff, UInt8.reduceToNat, ↓reduceIte, Nat.reduceEqDiff, Nat.reduceAdd, reduceCtorEq, Int.reduceToNat, clsL, clsS, clsC, e0], by simp +contextual (disch := first | (simp only [facts, clsL, clsS, clsC, isPtrD]; done) | omega | (simp only [push_nx, put_nx, del_nx]; omega) | (refine Nat.le_antisymm ?_ ?_ <;> simp only [push_nx, put_nx, del_nx] <;> omega) | fail) only [wpy, facts, wpb, cst, wpk, wpl, forall_const, implies_true, false_implies, Int.reduceLE, Int.reduceLT, Nat.reduceLeDiff, UInt8.reduceToNat, ↓reduceIte, Nat.reduceEqDiff, Nat.reduceAdd, reduceCtorEq, Int.reduceToNat, clsL, clsS, clsC], by simp +contextual (disch := first | (simp only [facts, clsL, clsS, clsC, isPtrD]; done) | omega | (simp only [push_nx, put_nx, del_nx]; omega) | (refine Nat.le_antisymm ?_ ?_ <;> simp only [push_nx, put_nx, del_nx] <;> omega) | fail) only [wpy, facts, wpb, cst, wpk, wpl, forall_const, implies_true, false_implies, Int.reduceLE, Int.reduceLT, Nat.reduceLeDiff, UInt8.reduceToNat, ↓reduceIte, Nat.reduceEqDiff, Nat.reduceAdd, reduceCtorEq, Int.reduceToNat, clsL, clsS, clsC, e11], by simp +contextual (disch := first | (simp only [facts, clsL, clsS, clsC, isPtrD]; done) | omega | (simp only [push_nx, put_nx, del_nx]; omega) | (refine Nat.le_antisymm ?_ ?_ <;> simp only [push_nx, put_nx, del_nx] <;> omega) | fail) only [wpy, facts, wpb, cst, wpk, wpl, forall_const, implies_true, false_implies, Int.reduceLE, Int.reduceLT, Nat.reduceLeDiff, UInt8.reduceToNat, ↓reduceIte, Nat.reduceEqDiff, Nat.reduceAdd, reduceCtorEq, Int.reduceToNat, clsL, clsS, clsC, e12], by simp +contextual (disch := first | (simp only [facts, clsL, clsS, clsC, isPtrD]; done) | omega | (simp only [push_nx, put_nx, del_nx]; omega) | (refine Nat.le_antisymm ?_ ?_ <;> simp only [push_nx, put_nx, del_nx] <;> omega) | fail) only [wpy, facts, wpb, cst, wpk, wpl, forall_const, implies_true, false_implies, Int.reduceLE, Int.reduceLT, Nat.reduceLeDiff, UInt8.reduceToNat, ↓reduceIte, Nat.reduceEqDiff, Nat.reduceAdd, reduceCtorEq, Int.reduceToNat, clsL, clsS, clsC, e13, hwj], ⟨by omega, fun k hk => by rw [hk4 k (by omega) (hov k hk), hxA.2 k (by omega), hx3.2 k hk]⟩, .inl (.inr ⟨kb, (nums P).length, kb0, by omega, rfl, by omega, by rw [hk4 kb (by omega) (fun o n m => hne kb 0 _ _ o n m rfl), hxA.2 kb kb1]; exact hkb, by simp⟩), .inl ?_, fun k o n m o' n' m' q q2 => ?_⟩
    · have e : stc ((P.es.map EN.s).take (j + 1)) = stc ((P.es.map EN.s).take j) ++ P.es[j].s.cells := by
        rw [List.take_succ_eq_append_getElem (by rw [hsl]; exact hlt), stc_app, stc_one, List.getElem_map]
      rw [e]
      exact ha.mono (by omega)
    · cases q
      have := (ha.blk q2).1
      omega
  · have hje : j = P.es.length := by omega
    subst hje
    rw [← hsl, List.take_length] at hLo
    simp +contextual (disch := first | (simp only [facts, clsL, clsS, clsC, isPtrD]; done) | omega | (simp only [push_nx, put_nx, del_nx]; omega) | (refine Nat.le_antisymm ?_ ?_ <;> simp only [push_nx, put_nx, del_nx] <;> omega) | fail) only [wpy, facts, wpb, cst, wpk, wpl, forall_const, implies_true, false_implies, Int.reduceLE, Int.reduceLT, Nat.reduceLeDiff, UInt8.reduceToNat, ↓reduceIte, Nat.reduceEqDiff, Nat.reduceAdd, reduceCtorEq, Int.reduceToNat, clsL, clsS, clsC, Try.f26, e0, e3, e11, e12, e13, hlt]
    exact ⟨hx3, hLo⟩
theorem pins1_spec (s : ST) (h : H) : Pure S.cfg 32 [.agg s.cells] h fun v _ => v = bo s.pins := by
  refine into Try.f32 _ Try.func32 (hS.ownP _ (by decide)) rfl rfl (by kernel_rfl) (by kernel_rfl) ?_
  simp +contextual (disch := first | (simp only [facts, clsL, clsS, clsC, isPtrD]; done) | omega | (simp only [push_nx, put_nx, del_nx]; omega) | (refine Nat.le_antisymm ?_ ?_ <;> simp only [push_nx, put_nx, del_nx] <;> omega) | fail) only [wpy, facts, wpb, cst, wpk, wpl, forall_const, implies_true, false_implies, Int.reduceLE, Int.reduceLT, Nat.reduceLeDiff, UInt8.reduceToNat, ↓reduceIte, Nat.reduceEqDiff, Nat.reduceAdd, reduceCtorEq, Int.reduceToNat, clsL, clsS, clsC, Try.f32]
  refine callF_exact (pins_spec hS (s := s) (fl := false) (push_eq rfl)) ?_
  simp +contextual (disch := first | (simp only [facts, clsL, clsS, clsC, isPtrD]; done) | omega | (simp only [push_nx, put_nx, del_nx]; omega) | (refine Nat.le_antisymm ?_ ?_ <;> simp only [push_nx, put_nx, del_nx] <;> omega) | fail) only [wpy, facts, wpb, cst, wpk, wpl, forall_const, implies_true, false_implies, Int.reduceLE, Int.reduceLT, Nat.reduceLeDiff, UInt8.reduceToNat, ↓reduceIte, Nat.reduceEqDiff, Nat.reduceAdd, reduceCtorEq, Int.reduceToNat, clsL, clsS, clsC, Try.f32]
  exact (Ext.refl h).push _
def IxI (l : List ST) (lv : V) (h : H) (m : Nat) (env : Env) (h' : H) : Prop := ∃ j : Nat, m = l.length - j ∧ j ≤ l.length ∧ env 0 = lv ∧ env 1 = .func 32 [] [] ∧ env 7 = .int .i64 l.length ∧ env 8 = .int .i64 j ∧ Ext h h' ∧ ∀ i (hi : i < l.length), i < j → ¬ l[i].pins
theorem idx_spec {n0 : Nat} {h : H} {lv : V} {l : List ST} (hL : Lst n0 h lv (stc l) 31 8) (hl : l.length ≤ 1000000) : Pure S.cfg 46 [lv, .func 32 [] []] h fun v _ => ∃ i : Int, v = .int .i64 i ∧ (0 ≤ i ↔ ∃ s ∈ l, s.pins) := by
  refine into Try.f46 _ Try.func46 (hS.ownP _ (by decide)) rfl rfl (by kernel_rfl) (by kernel_rfl) ?_
  have hlen := lst_len8 (e := 31) hL
  simp +contextual (disch := first | (simp only [facts, clsL, clsS, clsC, isPtrD]; done) | omega | (simp only [push_nx, put_nx, del_nx]; omega) | (refine Nat.le_antisymm ?_ ?_ <;> simp only [push_nx, put_nx, del_nx] <;> omega) | fail) only [wpy, facts, wpb, cst, wpk, wpl, forall_const, implies_true, false_implies, Int.reduceLE, Int.reduceLT, Nat.reduceLeDiff, UInt8.reduceToNat, ↓reduceIte, Nat.reduceEqDiff, Nat.reduceAdd, reduceCtorEq, Int.reduceToNat, clsL, clsS, clsC, Try.f46, hlen]
  refine run_loop (IxI l lv h) l.length ⟨0, by simp +contextual (disch := first | (simp only [facts, clsL, clsS, clsC, isPtrD]; done) | omega | (simp only [push_nx, put_nx, del_nx]; omega) | (refine Nat.le_antisymm ?_ ?_ <;> simp only [push_nx, put_nx, del_nx] <;> omega) | fail) only [wpy, facts, wpb, cst, wpk, wpl, forall_const, implies_true, false_implies, Int.reduceLE, Int.reduceLT, Nat.reduceLeDiff, UInt8.reduceToNat, ↓reduceIte, Nat.reduceEqDiff, Nat.reduceAdd, reduceCtorEq, Int.reduceToNat, clsL, clsS, clsC]; exact ⟨(Nat.sub_zero _).symm, Ext.refl _, fun i hi q => absurd q (Nat.not_lt_zero _)⟩⟩ ?_
  rintro m env h2 ⟨j, rfl, hj, e0, e1, e7, e8, hx2, hno⟩
  by_cases hlt : j < l.length
  · obtain ⟨kb, rfl, kb0, kb1, hkb⟩ := lst_row8 hL (by omega)
    have hkb2 : h2.get kb = some (.cells (stc l) 31 true) := by rw [hx2.2 _ kb1]; exact hkb
    have x1 := stc_at hlt
    have x0 : j * 8 + 8 ≤ (stc l).length := by rw [stc_len]; omega
    have hwj : IntKind.i64.wrap ((j : Int) + 1) = ((j + 1 : Nat) : Int) := by rw [i64_in _ (by omega)]; omega
    simp +contextual (disch := first | (simp only [facts, clsL, clsS, clsC, isPtrD]; done) | omega | (simp only [push_nx, put_nx, del_nx]; omega) | (refine Nat.le_antisymm ?_ ?_ <;> simp only [push_nx, put_nx, del_nx] <;> omega) | fail) only [wpy, facts, wpb, cst, wpk, wpl, forall_const, implies_true, false_implies, Int.reduceLE, Int.reduceLT, Nat.reduceLeDiff, UInt8.reduceToNat, ↓reduceIte, Nat.reduceEqDiff, Nat.reduceAdd, reduceCtorEq, Int.reduceToNat, clsL, clsS, clsC, Try.f46, e0, e1, e7, e8, hlt, hkb2, x0, x1]
    refine callF_pure (pins1_spec hS l[j] h2) ?_
    rintro v h3 hx3 rfl
    by_cases hP : l[j].pins
    · simp +contextual (disch := first | (simp only [facts, clsL, clsS, clsC, isPtrD]; done) | omega | (simp only [push_nx, put_nx, del_nx]; omega) | (refine Nat.le_antisymm ?_ ?_ <;> simp only [push_nx, put_nx, del_nx] <;> omega) | fail) only [wpy, facts, wpb, cst, wpk, wpl, forall_const, implies_true, false_implies, Int.reduceLE, Int.reduceLT, Nat.reduceLeDiff, UInt8.reduceToNat, ↓reduceIte, Nat.reduceEqDiff, Nat.reduceAdd, reduceCtorEq, Int.reduceToNat, clsL, clsS, clsC, Try.f46, e0, e1, e7, e8, hlt, hP]
      exact ⟨hx2.trans hx3, _, rfl, ⟨fun _ => ⟨_, List.getElem_mem hlt, hP⟩, fun _ => by omega⟩⟩
    · simp +contextual (disch := first | (simp only [facts, clsL, clsS, clsC, isPtrD]; done) | omega | (simp only [push_nx, put_nx, del_nx]; omega) | (refine Nat.le_antisymm ?_ ?_ <;> simp only [push_nx, put_nx, del_nx] <;> omega) | fail) only [wpy, facts, wpb, cst, wpk, wpl, forall_const, implies_true, false_implies, Int.reduceLE, Int.reduceLT, Nat.reduceLeDiff, UInt8.reduceToNat, ↓reduceIte, Nat.reduceEqDiff, Nat.reduceAdd, reduceCtorEq, Int.reduceToNat, clsL, clsS, clsC, Try.f46, e0, e1, e7, e8, hlt, hP]
      refine ⟨l.length - (j + 1), by omega, j + 1, rfl, hlt, by simp +contextual (disch := first | (simp only [facts, clsL, clsS, clsC, isPtrD]; done) | omega | (simp only [push_nx, put_nx, del_nx]; omega) | (refine Nat.le_antisymm ?_ ?_ <;> simp only [push_nx, put_nx, del_nx] <;> omega) | fail) only [wpy, facts, wpb, cst, wpk, wpl, forall_const, implies_true, false_implies, Int.reduceLE, Int.reduceLT, Nat.reduceLeDiff, UInt8.reduceToNat, ↓reduceIte, Nat.reduceEqDiff, Nat.reduceAdd, reduceCtorEq, Int.reduceToNat, clsL, clsS, clsC, e0], by simp +contextual (disch := first | (simp only [facts, clsL, clsS, clsC, isPtrD]; done) | omega | (simp only [push_nx, put_nx, del_nx]; omega) | (refine Nat.le_antisymm ?_ ?_ <;> simp only [push_nx, put_nx, del_nx] <;> omega) | fail) only [wpy, facts, wpb, cst, wpk, wpl, forall_const, implies_true, false_implies, Int.reduceLE, Int.reduceLT, Nat.reduceLeDiff, UInt8.reduceToNat, ↓reduceIte, Nat.reduceEqDiff, Nat.reduceAdd, reduceCtorEq, Int.reduceToNat, clsL, clsS, clsC, e1], by simp +contextual (disch := first | (simp only [facts, clsL, clsS, clsC, isPtrD]; done) | omega | (simp only [push_nx, put_nx, del_nx]; omega) | (refine Nat.le_antisymm ?_ ?_ <;> simp only [push_nx, put_nx, del_nx] <;> omega) | fail) only [wpy, facts, wpb, cst, wpk, wpl, forall_const, implies_true, false_implies, Int.reduceLE, Int.reduceLT, Nat.reduceLeDiff, UInt8.reduceToNat, ↓reduceIte, Nat.reduceEqDiff, Nat.reduceAdd, reduceCtorEq, Int.reduceToNat, clsL, clsS, clsC, e7], by simp +contextual (disch := first | (simp only [facts, clsL, clsS, clsC, isPtrD]; done) | omega | (simp only [push_nx, put_nx, del_nx]; omega) | (refine Nat.le_antisymm ?_ ?_ <;> simp only [push_nx, put_nx, del_nx] <;> omega) | fail) only [wpy, facts, wpb, cst, wpk, wpl, forall_const, implies_true, false_implies, Int.reduceLE, Int.reduceLT, Nat.reduceLeDiff, UInt8.reduceToNat, ↓reduceIte, Nat.reduceEqDiff, Nat.reduceAdd, reduceCtorEq, Int.reduceToNat, clsL, clsS, clsC, e8, hwj], hx2.trans hx3, fun i hi w => ?_⟩
      by_cases e : i = j
      · subst e; exact hP
      · exact hno i hi (by omega)
  · simp +contextual (disch := first | (simp only [facts, clsL, clsS, clsC, isPtrD]; done) | omega | (simp only [push_nx, put_nx, del_nx]; omega) | (refine Nat.le_antisymm ?_ ?_ <;> simp only [push_nx, put_nx, del_nx] <;> omega) | fail) only [wpy, facts, wpb, cst, wpk, wpl, forall_const, implies_true, false_implies, Int.reduceLE, Int.reduceLT, Nat.reduceLeDiff, UInt8.reduceToNat, ↓reduceIte, Nat.reduceEqDiff, Nat.reduceAdd, reduceCtorEq, Int.reduceToNat, clsL, clsS, clsC, Try.f46, e0, e1, e7, e8, hlt]
    refine ⟨hx2, _, rfl, ⟨fun q => by omega, fun ⟨s, hs, q⟩ => ?_⟩⟩
    obtain ⟨i, hi, rfl⟩ := List.mem_iff_getElem.1 hs
    exact (hno i hi (by omega) q).elim
def PL.pins (p : PL) : Prop := ∃ s ∈ p.l, s.pins
theorem allpins_spec {D : MD} {P : MS} {h : H} (r : PR D P h) : Pure S.cfg 21 [.ptr D.b 0] h fun v _ => v = bo P.pl.pins := by
  refine into Try.f21 _ Try.func21 (hS.ownP _ (by decide)) rfl rfl (by kernel_rfl) (by kernel_rfl) ?_
  have hf := r.few
  simp +contextual (disch := first | (simp only [facts, clsL, clsS, clsC, isPtrD]; done) | omega | (simp only [push_nx, put_nx, del_nx]; omega) | (refine Nat.le_antisymm ?_ ?_ <;> simp only [push_nx, put_nx, del_nx] <;> omega) | fail) only [wpy, facts, wpb, cst, wpk, wpl, forall_const, implies_true, false_implies, Int.reduceLE, Int.reduceLT, Nat.reduceLeDiff, UInt8.reduceToNat, ↓reduceIte, Nat.reduceEqDiff, Nat.reduceAdd, reduceCtorEq, Int.reduceToNat, clsL, clsS, clsC, Try.f21]
  refine callF_pure (all_spec hS r) ?_
  intro lv h1 hx1 hL
  have hl : P.pl.l.length ≤ 1000000 := by show (P.es.map EN.s).length ≤ _; rw [List.length_map]; omega
  simp +contextual (disch := first | (simp only [facts, clsL, clsS, clsC, isPtrD]; done) | omega | (simp only [push_nx, put_nx, del_nx]; omega) | (refine Nat.le_antisymm ?_ ?_ <;> simp only [push_nx, put_nx, del_nx] <;> omega) | fail) only [wpy, facts, wpb, cst, wpk, wpl, forall_const, implies_true, false_implies, Int.reduceLE, Int.reduceLT, Nat.reduceLeDiff, UInt8.reduceToNat, ↓reduceIte, Nat.reduceEqDiff, Nat.reduceAdd, reduceCtorEq, Int.reduceToNat, clsL, clsS, clsC, Try.f21]
  refine callF_pure (R := fun v _ => v = bo P.pl.pins) ?_ ?_
  · refine into Try.f31 _ Try.func31 (hS.ownP _ (by decide)) rfl rfl (by kernel_rfl) (by kernel_rfl) ?_
    simp +contextual (disch := first | (simp only [facts, clsL, clsS, clsC, isPtrD]; done) | omega | (simp only [push_nx, put_nx, del_nx]; omega) | (refine Nat.le_antisymm ?_ ?_ <;> simp only [push_nx, put_nx, del_nx] <;> omega) | fail) only [wpy, facts, wpb, cst, wpk, wpl, forall_const, implies_true, false_implies, Int.reduceLE, Int.reduceLT, Nat.reduceLeDiff, UInt8.reduceToNat, ↓reduceIte, Nat.reduceEqDiff, Nat.reduceAdd, reduceCtorEq, Int.reduceToNat, clsL, clsS, clsC, Try.f31]
    refine callF_pure (idx_spec hS hL hl) ?_
    rintro v h2 hx2 ⟨i, rfl, hi⟩
    simp +contextual (disch := first | (simp only [facts, clsL, clsS, clsC, isPtrD]; done) | omega | (simp only [push_nx, put_nx, del_nx]; omega) | (refine Nat.le_antisymm ?_ ?_ <;> simp only [push_nx, put_nx, del_nx] <;> omega) | fail) only [wpy, facts, wpb, cst, wpk, wpl, forall_const, implies_true, false_implies, Int.reduceLE, Int.reduceLT, Nat.reduceLeDiff, UInt8.reduceToNat, ↓reduceIte, Nat.reduceEqDiff, Nat.reduceAdd, reduceCtorEq, Int.reduceToNat, clsL, clsS, clsC, Try.f31]
    exact ⟨hx2, congrArg bo (propext hi)⟩
  · rintro v h2 hx2 rfl
    simp +contextual (disch := first | (simp only [facts, clsL, clsS, clsC, isPtrD]; done) | omega | (simp only [push_nx, put_nx, del_nx]; omega) | (refine Nat.le_antisymm ?_ ?_ <;> simp only [push_nx, put_nx, del_nx] <;> omega) | fail) only [wpy, facts, wpb, cst, wpk, wpl, forall_const, implies_true, false_implies, Int.reduceLE, Int.reduceLT, Nat.reduceLeDiff, UInt8.reduceToNat, ↓reduceIte, Nat.reduceEqDiff, Nat.reduceAdd, reduceCtorEq, Int.reduceToNat, clsL, clsS, clsC, Try.f21]
    exact hx1.trans hx2
end
end Go.Proofs.Ytcccbbgjmjnagaa
namespace Go.Wx
open Go.Lx
noncomputable section
section
variable {c : Cfg} {Ok : Nat → Prop} {env : Env} {h : H} {K : V → H → Fp → Prop}
theorem flatb {P : Program} {t : TypeId} {cc x y : Bool} (hu : P.underlying t = some .bool) : binV P .neq t cc (.bool x) (.bool y) = some (.bool (!(x == y))) ∧ binV P .eql t cc (.bool x) (.bool y) = some (.bool (x == y)) := by
  have e : eqT P t (.bool x) (.bool y) = some (x == y) := by
    unfold eqT
    rw [hu]
    rfl
  constructor
  · show (eqT P t (.bool x) (.bool y)).map (fun r => V.bool (!r)) = _
    rw [e]; rfl
  · show (eqT P t (.bool x) (.bool y)).map V.bool = _
    rw [e]; rfl
theorem bo_neq {P : Program} {t : TypeId} {cc : Bool} {p q : Prop} (hu : P.underlying t = some .bool) : binV P .neq t cc (bo p) (bo q) = some (bo (¬ (p ↔ q))) := by
  unfold bo
  by_cases hp : p <;> by_cases hq : q <;> simp only [hp, hq, iff_self, not_true, not_false_eq_true, decide_true, decide_false, iff_true, iff_false, true_iff, false_iff, (flatb hu).1] <;> rfl
theorem bo_eql {P : Program} {t : TypeId} {cc : Bool} {p q : Prop} (hu : P.underlying t = some .bool) : binV P .eql t cc (bo p) (bo q) = some (bo (p ↔ q)) := by
  unfold bo
  by_cases hp : p <;> by_cases hq : q <;> simp only [hp, hq, iff_self, not_true, not_false_eq_true, decide_true, decide_false, iff_true, iff_false, true_iff, false_iff, (flatb hu).2] <;> rfl
theorem clear_map {x : Operand} {t : TypeId} {d : TypeDesc} {es : List ME} {clock r : Nat} (hu : c.P.underlying t = some d) (hx : evalE env x = .map r) (hg : h.get r = some (.map es clock)) (hOk : h.nx ≤ r ∨ Ok r)
    (hK : K undefV (h.put r (.map [] clock)) (.lg [.wrd r, .rdd r, .rdd r])) : opW c Ok (.call ⟨.builtin .clear, #[x], #[t]⟩) env h K := by
  rw [opW_builtin]
  have e1 : builtinM c.P .clear #[t] (List.map (evalE env) [x]) = clearM c.P t (evalE env x) := rfl
  show goL h.nx Ok (builtinM c.P .clear #[t] (List.map (evalE env) [x])) h [] K
  rw [e1, hx]
  unfold clearM
  rw [hu]
  simp only
  rw [goL_getO]
  refine ⟨_, hg, rfl, ?_⟩
  simp only
  rw [goL_setO]
  refine ⟨_, hg, rfl, rfl, ?_⟩
  rw [goL_ret, LogOk_cons_wrd, LogOk_cons_rdd, LogOk_cons_rdd]
  exact ⟨⟨hOk, LogOk_nil⟩, hK⟩
end
end
end Go.Wx
namespace Go.Proofs.Ytcccbbgjmjnagaa
open Go.Proofs Go.Lx Go.Wx Go.IntWalk
noncomputable section
theorem neq4 {cc : Bool} {p q : Prop} : binV Try.prog .neq 4 cc (bo p) (bo q) = some (bo (¬ (p ↔ q))) := bo_neq (by kernel_rfl)
theorem eql4 {cc : Bool} {p q : Prop} : binV Try.prog .eql 4 cc (bo p) (bo q) = some (bo (p ↔ q)) := bo_eql (by kernel_rfl)
theorem Stp.trans {D D1 D2 : MD} {P P1 P2 : MS} {h h1 h2 : H} (a : Stp D P h D1 P1 h1) (b : Stp D1 P1 h1 D2 P2 h2) : Stp D P h D2 P2 h2 where
  pr := b.pr
  nx := Nat.le_trans a.nx b.nx
  same := fun k hk ho => by
    rw [b.same k (Nat.lt_of_lt_of_le hk a.nx) (fun q => (a.own k q).elim ho (by omega)), a.same k hk ho]
  own := fun k q => (b.own k q).elim (a.own k) fun q => .inr (Nat.le_trans a.nx q)
  b := b.b.trans a.b
theorem wf_u32 {n : Int} (h1 : 0 ≤ n) (h2 : n ≤ 4294967295) : (Lit.int .u32 n).wf = true := by
  show (decide (IntKind.u32.min ≤ n) && decide (n ≤ IntKind.u32.max)) = true
  rw [Bool.and_eq_true, decide_eq_true_eq, decide_eq_true_eq]
  exact ⟨h1, h2⟩
theorem Stp.last {D : MD} {P : MS} {h : H} (r : PR D P h) (n : Int) : Stp D P h D { P with last := n } (h.put D.b (.cells (mcells D { P with last := n }) 55 false)) where
  pr := by
    obtain ⟨a0, a2⟩ := r.apart3
    exact ⟨put_eq rfl, by rw [put_ne (Ne.symm a0)]; exact r.map, fun e he => by rw [put_ne (a2 e he).1]; exact r.ent e he, r.cc, r.lt, r.stamps, r.apart, r.rise, r.few, r.wf⟩
  nx := Nat.le_refl _
  same := fun k _ q => put_ne fun e => q (.inl e)
  own := fun _ q => .inl q
  b := rfl
theorem Stp.more {D : MD} {P : MS} {h : H} (r : PR D P h) (s : ST) {b : Nat} (hb : b < h.nx) (hnb : ¬ owns D P b) (hs : h.get b = some (.cells s.cells 31 false)) (hn : ∀ e ∈ P.es, e.s.id < s.id) (hw : (Lit.int .u32 s.id).wf = true) (hf : P.es.length < 1000) :
    PR { D with ck := D.ck + 1 } { P with es := P.es ++ [⟨b, D.ck, s⟩] } (h.put D.mb (.map (P.es.map EN.me ++ [⟨.int .u32 s.id, .ptr b 0, D.ck⟩]) (D.ck + 1))) := by
  obtain ⟨a0, a2⟩ := r.apart3
  have hmem : ∀ e, e ∈ P.es ++ [(⟨b, D.ck, s⟩ : EN)] → e ∈ P.es ∨ e = ⟨b, D.ck, s⟩ := fun e he => by simpa using he
  refine ⟨?_, ?_, fun e he => ?_, ?_, ⟨r.lt.1, r.lt.2.1, fun e he => ?_⟩, fun e he => ?_, ?_, ?_, ?_, fun e he => ?_⟩
  · rw [put_ne a0]; exact r.obj
  · rw [put_eq rfl, List.map_append]; rfl
  · rcases hmem e he with q | rfl
    · rw [put_ne (a2 e q).2]; exact r.ent e q
    · rw [put_ne fun q => hnb (.inr (.inl q))]; exact hs
  · rw [List.map_append, List.nodup_append]
    refine ⟨r.cc, by simp, fun x hx y hy q => ?_⟩
    rw [List.mem_singleton.1 hy] at q
    obtain ⟨e, he, rfl⟩ := List.mem_map.1 hx
    exact hnb (.inr (.inr ⟨e, he, q⟩))
  · rcases hmem e he with q | rfl
    · exact r.lt.2.2 e q
    · exact hb
  · rcases hmem e he with q | rfl
    · exact Nat.lt_succ_of_lt (r.stamps e q)
    · exact Nat.lt_succ_self _
  · rw [List.map_append, List.nodup_append]
    refine ⟨r.apart, by simp, fun x hx y hy q => ?_⟩
    rw [List.mem_singleton.1 hy] at q
    obtain ⟨e, he, rfl⟩ := List.mem_map.1 hx
    have := r.stamps e he
    have q' : e.born = D.ck := q
    omega
  · rw [List.map_append, List.pairwise_append]
    refine ⟨r.rise, by simp, fun x hx y hy => ?_⟩
    rw [List.mem_singleton.1 hy]
    obtain ⟨e, he, rfl⟩ := List.mem_map.1 hx
    exact hn e he
  · rw [List.length_append]; show P.es.length + 1 ≤ 1000; omega
  · rcases hmem e he with q | rfl
    · exact r.wf e q
    · exact hw
theorem erase_me : ∀ (l : List EN) (i : Nat), eraseE (l.map EN.me) i = (l.eraseIdx i).map EN.me
  | [], i => by simp [eraseE]
  | e :: l, 0 => rfl
  | e :: l, i + 1 => by
    show e.me :: eraseE (l.map EN.me) i = _
    rw [erase_me l i]
    rfl
theorem Stp.sub {D : MD} {P : MS} {h : H} (r : PR D P h) {es : List EN} (hs : es.Sublist P.es) : Stp D P h D { P with es := es } (h.put D.mb (.map (es.map EN.me) D.ck)) where
  pr := by
    obtain ⟨a0, a2⟩ := r.apart3
    refine ⟨by rw [put_ne a0]; exact r.obj, put_eq rfl, fun e he => ?_, ?_, ⟨r.lt.1, r.lt.2.1, fun e he => r.lt.2.2 e (hs.subset he)⟩, fun e he => r.stamps e (hs.subset he), ?_, ?_, ?_, fun e he => r.wf e (hs.subset he)⟩
    · rw [put_ne (a2 e (hs.subset he)).2]; exact r.ent e (hs.subset he)
    · exact r.cc.sublist (hs.map _)
    · exact r.apart.sublist (hs.map _)
    · exact r.rise.sublist (hs.map _)
    · exact Nat.le_trans hs.length_le r.few
  nx := Nat.le_refl _
  same := fun k _ q => put_ne fun e => q (.inr (.inl e))
  own := fun k q => by
    rcases q with q | q | ⟨e, he, q⟩
    · exact .inl (.inl q)
    · exact .inl (.inr (.inl q))
    · exact .inl (.inr (.inr ⟨e, hs.subset he, q⟩))
  b := rfl
open Classical in
def addE (p : PL) (s : ST) : Int := if s.conn < 0 ∨ ¬ (s.conn = 0 ↔ s.back = 0) then 2 else if 256 ≤ p.l.length then 251 else 0
def addS (p : PL) (s : ST) : ST := { s with id := p.last + 1, long := False, cur := False }
open Classical in
def addP (p : PL) (s : ST) : PL := if addE p s = 0 then ⟨p.last + 1, p.l ++ [addS p s]⟩ else p
open Classical in
def addV (p : PL) (s : ST) : V := .tuple [.int .u32 (if addE p s = 0 then p.last + 1 else 0), .int .i64 (addE p s)]
open Classical in
def bindE (s : ST) (conn back : Int) : Int := if conn < 1 ∨ back = 0 then 2 else if s.pins then 252 else 0
open Classical in
def bindS (s : ST) (conn back : Int) : ST := if bindE s conn back = 0 then { s with conn := conn, back := back } else s
open Classical in
def holdE (s : ST) (on : Prop) : Int := if on ∧ s.conn = 0 then 2 else 0
open Classical in
def longS (s : ST) (on : Prop) : ST := if holdE s on = 0 then { s with long := on } else s
open Classical in
def curS (s : ST) (on : Prop) : ST := if holdE s on = 0 then { s with cur := on } else s
variable {S : Set0} (hS : StdP S)
include hS
theorem new_spec (h : H) : callW S.cfg nil1 9 [] h fun v h' => ∃ D, v = .ptr D.b 0 ∧ PR D ⟨0, []⟩ h' ∧ Ext h h' ∧ h.nx ≤ D.b ∧ h.nx ≤ D.mb := by
  refine into Try.f9 _ Try.func9 (hS.ownP _ (by decide)) rfl rfl (by kernel_rfl) (by kernel_rfl) ?_
  simp +contextual (disch := first | (simp only [facts, clsL, clsS, clsC, isPtrD]; done) | omega | (simp only [push_nx, put_nx, del_nx]; omega) | (refine Nat.le_antisymm ?_ ?_ <;> simp only [push_nx, put_nx, del_nx] <;> omega) | fail) only [wpy, facts, wpb, cst, wpk, wpl, forall_const, implies_true, false_implies, Int.reduceLE, Int.reduceLT, Nat.reduceLeDiff, UInt8.reduceToNat, ↓reduceIte, Nat.reduceEqDiff, Nat.reduceAdd, reduceCtorEq, Int.reduceToNat, clsL, clsS, clsC, Try.f9]
  rw [opW_makeMap0]
  simp +contextual (disch := first | (simp only [facts, clsL, clsS, clsC, isPtrD]; done) | omega | (simp only [push_nx, put_nx, del_nx]; omega) | (refine Nat.le_antisymm ?_ ?_ <;> simp only [push_nx, put_nx, del_nx] <;> omega) | fail) only [wpy, facts, wpb, cst, wpk, wpl, forall_const, implies_true, false_implies, Int.reduceLE, Int.reduceLT, Nat.reduceLeDiff, UInt8.reduceToNat, ↓reduceIte, Nat.reduceEqDiff, Nat.reduceAdd, reduceCtorEq, Int.reduceToNat, clsL, clsS, clsC, Try.f9]
  refine ⟨⟨h.nx + 1, h.nx, 0⟩, rfl, ⟨push_eq rfl, ?_, fun e he => (by cases he), List.nodup_nil, ⟨Nat.lt_succ_self _, (by show h.nx < h.nx + 1 + 1; omega), fun e he => (by cases he)⟩, fun e he => (by cases he), List.nodup_nil, List.Pairwise.nil, Nat.zero_le _, fun e he => (by cases he)⟩, ((Ext.refl h).push _).push _, (by show h.nx ≤ h.nx + 1; omega), Nat.le_refl _⟩
  rw [push_ne (by show h.nx ≠ h.nx + 1; omega), push_eq rfl]
  rfl
theorem bind_hit_spec {D : MD} {P : MS} {h : H} (r : PR D P h) {j : Nat} (hj : j < P.es.length) {id : Int} (hid : P.es[j].s.id = id) (conn back : Int) : callW S.cfg (owns D P) 13 [.ptr D.b 0, .int .u32 id, .int .i64 conn, .int .u32 back] h fun v h' => v = .int .i64 (bindE P.es[j].s conn back) ∧ Stp D P h D (P.set j P.es[j] (bindS P.es[j].s conn back)) h' := by
  refine into Try.f13 _ Try.func13 (hS.ownP _ (by decide)) rfl rfl (by kernel_rfl) (by kernel_rfl) ?_
  have he := r.ent _ (List.getElem_mem hj)
  have he' := he
  have same : P.set j P.es[j] P.es[j].s = P := by show (⟨P.last, P.es.set j P.es[j]⟩ : MS) = P; rw [List.set_getElem_self]
  unfold ST.cells at he
  simp +contextual (disch := first | (simp only [facts, clsL, clsS, clsC, isPtrD]; done) | omega | (simp only [push_nx, put_nx, del_nx]; omega) | (refine Nat.le_antisymm ?_ ?_ <;> simp only [push_nx, put_nx, del_nx] <;> omega) | fail) only [wpy, facts, wpb, cst, wpk, wpl, forall_const, implies_true, false_implies, Int.reduceLE, Int.reduceLT, Nat.reduceLeDiff, UInt8.reduceToNat, ↓reduceIte, Nat.reduceEqDiff, Nat.reduceAdd, reduceCtorEq, Int.reduceToNat, clsL, clsS, clsC, Try.f13]
  refine callF_exact (find_hit_spec hS r hj hid) ?_
  by_cases hc : conn < 1
  · have e1 : bindE P.es[j].s conn back = 2 := by unfold bindE; rw [if_pos (.inl hc)]
    have e2 : bindS P.es[j].s conn back = P.es[j].s := by unfold bindS; rw [e1, if_neg (by decide)]
    rw [e1, e2, same]
    simp +contextual (disch := first | (simp only [facts, clsL, clsS, clsC, isPtrD]; done) | omega | (simp only [push_nx, put_nx, del_nx]; omega) | (refine Nat.le_antisymm ?_ ?_ <;> simp only [push_nx, put_nx, del_nx] <;> omega) | fail) only [wpy, facts, wpb, cst, wpk, wpl, forall_const, implies_true, false_implies, Int.reduceLE, Int.reduceLT, Nat.reduceLeDiff, UInt8.reduceToNat, ↓reduceIte, Nat.reduceEqDiff, Nat.reduceAdd, reduceCtorEq, Int.reduceToNat, clsL, clsS, clsC, Try.f13, hc]
    exact Stp.refl r
  · by_cases hb : back = 0
    · have e1 : bindE P.es[j].s conn back = 2 := by unfold bindE; rw [if_pos (.inr hb)]
      have e2 : bindS P.es[j].s conn back = P.es[j].s := by unfold bindS; rw [e1, if_neg (by decide)]
      rw [e1, e2, same]
      simp +contextual (disch := first | (simp only [facts, clsL, clsS, clsC, isPtrD]; done) | omega | (simp only [push_nx, put_nx, del_nx]; omega) | (refine Nat.le_antisymm ?_ ?_ <;> simp only [push_nx, put_nx, del_nx] <;> omega) | fail) only [wpy, facts, wpb, cst, wpk, wpl, forall_const, implies_true, false_implies, Int.reduceLE, Int.reduceLT, Nat.reduceLeDiff, UInt8.reduceToNat, ↓reduceIte, Nat.reduceEqDiff, Nat.reduceAdd, reduceCtorEq, Int.reduceToNat, clsL, clsS, clsC, Try.f13, hc, hb]
      exact Stp.refl r
    · simp +contextual (disch := first | (simp only [facts, clsL, clsS, clsC, isPtrD]; done) | omega | (simp only [push_nx, put_nx, del_nx]; omega) | (refine Nat.le_antisymm ?_ ?_ <;> simp only [push_nx, put_nx, del_nx] <;> omega) | fail) only [wpy, facts, wpb, cst, wpk, wpl, forall_const, implies_true, false_implies, Int.reduceLE, Int.reduceLT, Nat.reduceLeDiff, UInt8.reduceToNat, ↓reduceIte, Nat.reduceEqDiff, Nat.reduceAdd, reduceCtorEq, Int.reduceToNat, clsL, clsS, clsC, Try.f13, hc, hb]
      refine callF_exact (pins_spec hS he') ?_
      by_cases hz : P.es[j].s.pins
      · have e1 : bindE P.es[j].s conn back = 252 := by unfold bindE; rw [if_neg (by rintro (q | q); exact hc q; exact hb q), if_pos hz]
        have e2 : bindS P.es[j].s conn back = P.es[j].s := by unfold bindS; rw [e1, if_neg (by decide)]
        rw [e1, e2, same]
        simp +contextual (disch := first | (simp only [facts, clsL, clsS, clsC, isPtrD]; done) | omega | (simp only [push_nx, put_nx, del_nx]; omega) | (refine Nat.le_antisymm ?_ ?_ <;> simp only [push_nx, put_nx, del_nx] <;> omega) | fail) only [wpy, facts, wpb, cst, wpk, wpl, forall_const, implies_true, false_implies, Int.reduceLE, Int.reduceLT, Nat.reduceLeDiff, UInt8.reduceToNat, ↓reduceIte, Nat.reduceEqDiff, Nat.reduceAdd, reduceCtorEq, Int.reduceToNat, clsL, clsS, clsC, Try.f13, hz]
        exact Stp.refl r
      · have e1 : bindE P.es[j].s conn back = 0 := by unfold bindE; rw [if_neg (by rintro (q | q); exact hc q; exact hb q), if_neg hz]
        have e2 : bindS P.es[j].s conn back = { P.es[j].s with conn := conn, back := back } := by unfold bindS; rw [e1, if_pos rfl]
        rw [e1, e2]
        simp +contextual (disch := first | (simp only [facts, clsL, clsS, clsC, isPtrD]; done) | omega | (simp only [push_nx, put_nx, del_nx]; omega) | (refine Nat.le_antisymm ?_ ?_ <;> simp only [push_nx, put_nx, del_nx] <;> omega) | fail) only [wpy, facts, wpb, cst, wpk, wpl, forall_const, implies_true, false_implies, Int.reduceLE, Int.reduceLT, Nat.reduceLeDiff, UInt8.reduceToNat, ↓reduceIte, Nat.reduceEqDiff, Nat.reduceAdd, reduceCtorEq, Int.reduceToNat, clsL, clsS, clsC, Try.f13, hz, he]
        have hown : owns D P P.es[j].blk := .inr (.inr ⟨_, List.getElem_mem hj, rfl⟩)
        exact ⟨.inr (.inr hown), .inr (.inr hown), Stp.ent r hj { P.es[j].s with conn := conn, back := back } rfl rfl (put_eq rfl) fun k hk => by rw [put_ne hk, put_ne hk]⟩
theorem bind_miss_spec {D : MD} {P : MS} {h : H} (r : PR D P h) {id : Int} (hn : ∀ e ∈ P.es, e.s.id ≠ id) (conn back : Int) : Exact S.cfg 13 [.ptr D.b 0, .int .u32 id, .int .i64 conn, .int .u32 back] h (.int .i64 250) := by
  refine into Try.f13 _ Try.func13 (hS.ownP _ (by decide)) rfl rfl (by kernel_rfl) (by kernel_rfl) ?_
  simp +contextual (disch := first | (simp only [facts, clsL, clsS, clsC, isPtrD]; done) | omega | (simp only [push_nx, put_nx, del_nx]; omega) | (refine Nat.le_antisymm ?_ ?_ <;> simp only [push_nx, put_nx, del_nx] <;> omega) | fail) only [wpy, facts, wpb, cst, wpk, wpl, forall_const, implies_true, false_implies, Int.reduceLE, Int.reduceLT, Nat.reduceLeDiff, UInt8.reduceToNat, ↓reduceIte, Nat.reduceEqDiff, Nat.reduceAdd, reduceCtorEq, Int.reduceToNat, clsL, clsS, clsC, Try.f13]
  refine callF_exact (find_miss_spec hS r hn) ?_
  simp +contextual (disch := first | (simp only [facts, clsL, clsS, clsC, isPtrD]; done) | omega | (simp only [push_nx, put_nx, del_nx]; omega) | (refine Nat.le_antisymm ?_ ?_ <;> simp only [push_nx, put_nx, del_nx] <;> omega) | fail) only [wpy, facts, wpb, cst, wpk, wpl, forall_const, implies_true, false_implies, Int.reduceLE, Int.reduceLT, Nat.reduceLeDiff, UInt8.reduceToNat, ↓reduceIte, Nat.reduceEqDiff, Nat.reduceAdd, reduceCtorEq, Int.reduceToNat, clsL, clsS, clsC, Try.f13, n250]
theorem long_hit_spec {D : MD} {P : MS} {h : H} (r : PR D P h) {j : Nat} (hj : j < P.es.length) {id : Int} (hid : P.es[j].s.id = id) (on : Prop) : callW S.cfg (owns D P) 14 [.ptr D.b 0, .int .u32 id, bo on] h fun v h' => v = .int .i64 (holdE P.es[j].s on) ∧ Stp D P h D (P.set j P.es[j] (longS P.es[j].s on)) h' := by
  refine into Try.f14 _ Try.func14 (hS.ownP _ (by decide)) rfl rfl (by kernel_rfl) (by kernel_rfl) ?_
  have he := r.ent _ (List.getElem_mem hj)
  have he' := he
  have same : P.set j P.es[j] P.es[j].s = P := by show (⟨P.last, P.es.set j P.es[j]⟩ : MS) = P; rw [List.set_getElem_self]
  have hown : owns D P P.es[j].blk := .inr (.inr ⟨_, List.getElem_mem hj, rfl⟩)
  unfold ST.cells at he
  simp +contextual (disch := first | (simp only [facts, clsL, clsS, clsC, isPtrD]; done) | omega | (simp only [push_nx, put_nx, del_nx]; omega) | (refine Nat.le_antisymm ?_ ?_ <;> simp only [push_nx, put_nx, del_nx] <;> omega) | fail) only [wpy, facts, wpb, cst, wpk, wpl, forall_const, implies_true, false_implies, Int.reduceLE, Int.reduceLT, Nat.reduceLeDiff, UInt8.reduceToNat, ↓reduceIte, Nat.reduceEqDiff, Nat.reduceAdd, reduceCtorEq, Int.reduceToNat, clsL, clsS, clsC, Try.f14]
  refine callF_exact (find_hit_spec hS r hj hid) ?_
  by_cases ho : on
  · by_cases hz : P.es[j].s.conn = 0
    · have e1 : holdE P.es[j].s on = 2 := by unfold holdE; rw [if_pos ⟨ho, hz⟩]
      have e2 : longS P.es[j].s on = P.es[j].s := by unfold longS; rw [e1, if_neg (by decide)]
      rw [e1, e2, same]
      simp +contextual (disch := first | (simp only [facts, clsL, clsS, clsC, isPtrD]; done) | omega | (simp only [push_nx, put_nx, del_nx]; omega) | (refine Nat.le_antisymm ?_ ?_ <;> simp only [push_nx, put_nx, del_nx] <;> omega) | fail) only [wpy, facts, wpb, cst, wpk, wpl, forall_const, implies_true, false_implies, Int.reduceLE, Int.reduceLT, Nat.reduceLeDiff, UInt8.reduceToNat, ↓reduceIte, Nat.reduceEqDiff, Nat.reduceAdd, reduceCtorEq, Int.reduceToNat, clsL, clsS, clsC, Try.f14, ho, hz, he, n002]
      exact Stp.refl r
    · have e1 : holdE P.es[j].s on = 0 := by unfold holdE; rw [if_neg fun q => hz q.2]
      have e2 : longS P.es[j].s on = { P.es[j].s with long := on } := by unfold longS; rw [e1, if_pos rfl]
      rw [e1, e2]
      simp +contextual (disch := first | (simp only [facts, clsL, clsS, clsC, isPtrD]; done) | omega | (simp only [push_nx, put_nx, del_nx]; omega) | (refine Nat.le_antisymm ?_ ?_ <;> simp only [push_nx, put_nx, del_nx] <;> omega) | fail) only [wpy, facts, wpb, cst, wpk, wpl, forall_const, implies_true, false_implies, Int.reduceLE, Int.reduceLT, Nat.reduceLeDiff, UInt8.reduceToNat, ↓reduceIte, Nat.reduceEqDiff, Nat.reduceAdd, reduceCtorEq, Int.reduceToNat, clsL, clsS, clsC, Try.f14, ho, hz, he]
      exact ⟨.inr (.inr hown), Stp.ent r hj { P.es[j].s with long := True } rfl rfl (put_eq rfl) fun k hk => by rw [put_ne hk]⟩
  · have e1 : holdE P.es[j].s on = 0 := by unfold holdE; rw [if_neg fun q => ho q.1]
    have e2 : longS P.es[j].s on = { P.es[j].s with long := on } := by unfold longS; rw [e1, if_pos rfl]
    rw [e1, e2]
    simp +contextual (disch := first | (simp only [facts, clsL, clsS, clsC, isPtrD]; done) | omega | (simp only [push_nx, put_nx, del_nx]; omega) | (refine Nat.le_antisymm ?_ ?_ <;> simp only [push_nx, put_nx, del_nx] <;> omega) | fail) only [wpy, facts, wpb, cst, wpk, wpl, forall_const, implies_true, false_implies, Int.reduceLE, Int.reduceLT, Nat.reduceLeDiff, UInt8.reduceToNat, ↓reduceIte, Nat.reduceEqDiff, Nat.reduceAdd, reduceCtorEq, Int.reduceToNat, clsL, clsS, clsC, Try.f14, ho, he]
    exact ⟨.inr (.inr hown), Stp.ent r hj { P.es[j].s with long := False } rfl rfl (put_eq rfl) fun k hk => by rw [put_ne hk]⟩
theorem long_miss_spec {D : MD} {P : MS} {h : H} (r : PR D P h) {id : Int} (hn : ∀ e ∈ P.es, e.s.id ≠ id) (on : Prop) : Exact S.cfg 14 [.ptr D.b 0, .int .u32 id, bo on] h (.int .i64 250) := by
  refine into Try.f14 _ Try.func14 (hS.ownP _ (by decide)) rfl rfl (by kernel_rfl) (by kernel_rfl) ?_
  simp +contextual (disch := first | (simp only [facts, clsL, clsS, clsC, isPtrD]; done) | omega | (simp only [push_nx, put_nx, del_nx]; omega) | (refine Nat.le_antisymm ?_ ?_ <;> simp only [push_nx, put_nx, del_nx] <;> omega) | fail) only [wpy, facts, wpb, cst, wpk, wpl, forall_const, implies_true, false_implies, Int.reduceLE, Int.reduceLT, Nat.reduceLeDiff, UInt8.reduceToNat, ↓reduceIte, Nat.reduceEqDiff, Nat.reduceAdd, reduceCtorEq, Int.reduceToNat, clsL, clsS, clsC, Try.f14]
  refine callF_exact (find_miss_spec hS r hn) ?_
  by_cases ho : on
  · simp +contextual (disch := first | (simp only [facts, clsL, clsS, clsC, isPtrD]; done) | omega | (simp only [push_nx, put_nx, del_nx]; omega) | (refine Nat.le_antisymm ?_ ?_ <;> simp only [push_nx, put_nx, del_nx] <;> omega) | fail) only [wpy, facts, wpb, cst, wpk, wpl, forall_const, implies_true, false_implies, Int.reduceLE, Int.reduceLT, Nat.reduceLeDiff, UInt8.reduceToNat, ↓reduceIte, Nat.reduceEqDiff, Nat.reduceAdd, reduceCtorEq, Int.reduceToNat, clsL, clsS, clsC, Try.f14, n250, ho]
  · simp +contextual (disch := first | (simp only [facts, clsL, clsS, clsC, isPtrD]; done) | omega | (simp only [push_nx, put_nx, del_nx]; omega) | (refine Nat.le_antisymm ?_ ?_ <;> simp only [push_nx, put_nx, del_nx] <;> omega) | fail) only [wpy, facts, wpb, cst, wpk, wpl, forall_const, implies_true, false_implies, Int.reduceLE, Int.reduceLT, Nat.reduceLeDiff, UInt8.reduceToNat, ↓reduceIte, Nat.reduceEqDiff, Nat.reduceAdd, reduceCtorEq, Int.reduceToNat, clsL, clsS, clsC, Try.f14, n250, ho]
theorem cursor_hit_spec {D : MD} {P : MS} {h : H} (r : PR D P h) {j : Nat} (hj : j < P.es.length) {id : Int} (hid : P.es[j].s.id = id) (on : Prop) : callW S.cfg (owns D P) 15 [.ptr D.b 0, .int .u32 id, bo on] h fun v h' => v = .int .i64 (holdE P.es[j].s on) ∧ Stp D P h D (P.set j P.es[j] (curS P.es[j].s on)) h' := by
  refine into Try.f15 _ Try.func15 (hS.ownP _ (by decide)) rfl rfl (by kernel_rfl) (by kernel_rfl) ?_
  have he := r.ent _ (List.getElem_mem hj)
  have he' := he
  have same : P.set j P.es[j] P.es[j].s = P := by show (⟨P.last, P.es.set j P.es[j]⟩ : MS) = P; rw [List.set_getElem_self]
  have hown : owns D P P.es[j].blk := .inr (.inr ⟨_, List.getElem_mem hj, rfl⟩)
  unfold ST.cells at he
  simp +contextual (disch := first | (simp only [facts, clsL, clsS, clsC, isPtrD]; done) | omega | (simp only [push_nx, put_nx, del_nx]; omega) | (refine Nat.le_antisymm ?_ ?_ <;> simp only [push_nx, put_nx, del_nx] <;> omega) | fail) only [wpy, facts, wpb, cst, wpk, wpl, forall_const, implies_true, false_implies, Int.reduceLE, Int.reduceLT, Nat.reduceLeDiff, UInt8.reduceToNat, ↓reduceIte, Nat.reduceEqDiff, Nat.reduceAdd, reduceCtorEq, Int.reduceToNat, clsL, clsS, clsC, Try.f15]
  refine callF_exact (find_hit_spec hS r hj hid) ?_
  by_cases ho : on
  · by_cases hz : P.es[j].s.conn = 0
    · have e1 : holdE P.es[j].s on = 2 := by unfold holdE; rw [if_pos ⟨ho, hz⟩]
      have e2 : curS P.es[j].s on = P.es[j].s := by unfold curS; rw [e1, if_neg (by decide)]
      rw [e1, e2, same]
      simp +contextual (disch := first | (simp only [facts, clsL, clsS, clsC, isPtrD]; done) | omega | (simp only [push_nx, put_nx, del_nx]; omega) | (refine Nat.le_antisymm ?_ ?_ <;> simp only [push_nx, put_nx, del_nx] <;> omega) | fail) only [wpy, facts, wpb, cst, wpk, wpl, forall_const, implies_true, false_implies, Int.reduceLE, Int.reduceLT, Nat.reduceLeDiff, UInt8.reduceToNat, ↓reduceIte, Nat.reduceEqDiff, Nat.reduceAdd, reduceCtorEq, Int.reduceToNat, clsL, clsS, clsC, Try.f15, ho, hz, he, n002]
      exact Stp.refl r
    · have e1 : holdE P.es[j].s on = 0 := by unfold holdE; rw [if_neg fun q => hz q.2]
      have e2 : curS P.es[j].s on = { P.es[j].s with cur := on } := by unfold curS; rw [e1, if_pos rfl]
      rw [e1, e2]
      simp +contextual (disch := first | (simp only [facts, clsL, clsS, clsC, isPtrD]; done) | omega | (simp only [push_nx, put_nx, del_nx]; omega) | (refine Nat.le_antisymm ?_ ?_ <;> simp only [push_nx, put_nx, del_nx] <;> omega) | fail) only [wpy, facts, wpb, cst, wpk, wpl, forall_const, implies_true, false_implies, Int.reduceLE, Int.reduceLT, Nat.reduceLeDiff, UInt8.reduceToNat, ↓reduceIte, Nat.reduceEqDiff, Nat.reduceAdd, reduceCtorEq, Int.reduceToNat, clsL, clsS, clsC, Try.f15, ho, hz, he]
      exact ⟨.inr (.inr hown), Stp.ent r hj { P.es[j].s with cur := True } rfl rfl (put_eq rfl) fun k hk => by rw [put_ne hk]⟩
  · have e1 : holdE P.es[j].s on = 0 := by unfold holdE; rw [if_neg fun q => ho q.1]
    have e2 : curS P.es[j].s on = { P.es[j].s with cur := on } := by unfold curS; rw [e1, if_pos rfl]
    rw [e1, e2]
    simp +contextual (disch := first | (simp only [facts, clsL, clsS, clsC, isPtrD]; done) | omega | (simp only [push_nx, put_nx, del_nx]; omega) | (refine Nat.le_antisymm ?_ ?_ <;> simp only [push_nx, put_nx, del_nx] <;> omega) | fail) only [wpy, facts, wpb, cst, wpk, wpl, forall_const, implies_true, false_implies, Int.reduceLE, Int.reduceLT, Nat.reduceLeDiff, UInt8.reduceToNat, ↓reduceIte, Nat.reduceEqDiff, Nat.reduceAdd, reduceCtorEq, Int.reduceToNat, clsL, clsS, clsC, Try.f15, ho, he]
    exact ⟨.inr (.inr hown), Stp.ent r hj { P.es[j].s with cur := False } rfl rfl (put_eq rfl) fun k hk => by rw [put_ne hk]⟩
theorem cursor_miss_spec {D : MD} {P : MS} {h : H} (r : PR D P h) {id : Int} (hn : ∀ e ∈ P.es, e.s.id ≠ id) (on : Prop) : Exact S.cfg 15 [.ptr D.b 0, .int .u32 id, bo on] h (.int .i64 250) := by
  refine into Try.f15 _ Try.func15 (hS.ownP _ (by decide)) rfl rfl (by kernel_rfl) (by kernel_rfl) ?_
  simp +contextual (disch := first | (simp only [facts, clsL, clsS, clsC, isPtrD]; done) | omega | (simp only [push_nx, put_nx, del_nx]; omega) | (refine Nat.le_antisymm ?_ ?_ <;> simp only [push_nx, put_nx, del_nx] <;> omega) | fail) only [wpy, facts, wpb, cst, wpk, wpl, forall_const, implies_true, false_implies, Int.reduceLE, Int.reduceLT, Nat.reduceLeDiff, UInt8.reduceToNat, ↓reduceIte, Nat.reduceEqDiff, Nat.reduceAdd, reduceCtorEq, Int.reduceToNat, clsL, clsS, clsC, Try.f15]
  refine callF_exact (find_miss_spec hS r hn) ?_
  by_cases ho : on
  · simp +contextual (disch := first | (simp only [facts, clsL, clsS, clsC, isPtrD]; done) | omega | (simp only [push_nx, put_nx, del_nx]; omega) | (refine Nat.le_antisymm ?_ ?_ <;> simp only [push_nx, put_nx, del_nx] <;> omega) | fail) only [wpy, facts, wpb, cst, wpk, wpl, forall_const, implies_true, false_implies, Int.reduceLE, Int.reduceLT, Nat.reduceLeDiff, UInt8.reduceToNat, ↓reduceIte, Nat.reduceEqDiff, Nat.reduceAdd, reduceCtorEq, Int.reduceToNat, clsL, clsS, clsC, Try.f15, n250, ho]
  · simp +contextual (disch := first | (simp only [facts, clsL, clsS, clsC, isPtrD]; done) | omega | (simp only [push_nx, put_nx, del_nx]; omega) | (refine Nat.le_antisymm ?_ ?_ <;> simp only [push_nx, put_nx, del_nx] <;> omega) | fail) only [wpy, facts, wpb, cst, wpk, wpl, forall_const, implies_true, false_implies, Int.reduceLE, Int.reduceLT, Nat.reduceLeDiff, UInt8.reduceToNat, ↓reduceIte, Nat.reduceEqDiff, Nat.reduceAdd, reduceCtorEq, Int.reduceToNat, clsL, clsS, clsC, Try.f15, n250, ho]
theorem close_hit_spec {D : MD} {P : MS} {h : H} (r : PR D P h) {j : Nat} (hj : j < P.es.length) {id : Int} (hid : P.es[j].s.id = id) : callW S.cfg (owns D P) 16 [.ptr D.b 0, .int .u32 id] h fun v h' => v = .int .i64 0 ∧ Stp D P h D { P with es := P.es.eraseIdx j } h' := by
  refine into Try.f16 _ Try.func16 (hS.ownP _ (by decide)) rfl rfl (by kernel_rfl) (by kernel_rfl) ?_
  have hp := r.obj
  unfold mcells at hp
  simp +contextual (disch := first | (simp only [facts, clsL, clsS, clsC, isPtrD]; done) | omega | (simp only [push_nx, put_nx, del_nx]; omega) | (refine Nat.le_antisymm ?_ ?_ <;> simp only [push_nx, put_nx, del_nx] <;> omega) | fail) only [wpy, facts, wpb, cst, wpk, wpl, forall_const, implies_true, false_implies, Int.reduceLE, Int.reduceLT, Nat.reduceLeDiff, UInt8.reduceToNat, ↓reduceIte, Nat.reduceEqDiff, Nat.reduceAdd, reduceCtorEq, Int.reduceToNat, clsL, clsS, clsC, Try.f16]
  refine callF_exact (find_hit_spec hS r hj hid) ?_
  simp +contextual (disch := first | (simp only [facts, clsL, clsS, clsC, isPtrD]; done) | omega | (simp only [push_nx, put_nx, del_nx]; omega) | (refine Nat.le_antisymm ?_ ?_ <;> simp only [push_nx, put_nx, del_nx] <;> omega) | fail) only [wpy, facts, wpb, cst, wpk, wpl, forall_const, implies_true, false_implies, Int.reduceLE, Int.reduceLT, Nat.reduceLeDiff, UInt8.reduceToNat, ↓reduceIte, Nat.reduceEqDiff, Nat.reduceAdd, reduceCtorEq, Int.reduceToNat, clsL, clsS, clsC, Try.f16, hp]
  have hf := find_hit r.rise hj
  rw [hid] at hf
  refine delete_by (a := 27) (b := 58) (r := D.mb) (kv := .int .u32 id) (by kernel_rfl) (d := .int .u32) (by kernel_rfl) (by simp +contextual (disch := first | (simp only [facts, clsL, clsS, clsC, isPtrD]; done) | omega | (simp only [push_nx, put_nx, del_nx]; omega) | (refine Nat.le_antisymm ?_ ?_ <;> simp only [push_nx, put_nx, del_nx] <;> omega) | fail) only [wpy, facts, wpb, cst, wpk, wpl, forall_const, implies_true, false_implies, Int.reduceLE, Int.reduceLT, Nat.reduceLeDiff, UInt8.reduceToNat, ↓reduceIte, Nat.reduceEqDiff, Nat.reduceAdd, reduceCtorEq, Int.reduceToNat, clsL, clsS, clsC]) (by simp +contextual (disch := first | (simp only [facts, clsL, clsS, clsC, isPtrD]; done) | omega | (simp only [push_nx, put_nx, del_nx]; omega) | (refine Nat.le_antisymm ?_ ?_ <;> simp only [push_nx, put_nx, del_nx] <;> omega) | fail) only [wpy, facts, wpb, cst, wpk, wpl, forall_const, implies_true, false_implies, Int.reduceLE, Int.reduceLT, Nat.reduceLeDiff, UInt8.reduceToNat, ↓reduceIte, Nat.reduceEqDiff, Nat.reduceAdd, reduceCtorEq, Int.reduceToNat, clsL, clsS, clsC]) rfl r.map hf (.inr (by rw [fresh_def]; exact .inr (.inr (.inl rfl)))) ?_
  rw [erase_me]
  simp +contextual (disch := first | (simp only [facts, clsL, clsS, clsC, isPtrD]; done) | omega | (simp only [push_nx, put_nx, del_nx]; omega) | (refine Nat.le_antisymm ?_ ?_ <;> simp only [push_nx, put_nx, del_nx] <;> omega) | fail) only [wpy, facts, wpb, cst, wpk, wpl, forall_const, implies_true, false_implies, Int.reduceLE, Int.reduceLT, Nat.reduceLeDiff, UInt8.reduceToNat, ↓reduceIte, Nat.reduceEqDiff, Nat.reduceAdd, reduceCtorEq, Int.reduceToNat, clsL, clsS, clsC, Try.f16]
  exact Stp.sub r (List.eraseIdx_sublist _ _)
theorem close_miss_spec {D : MD} {P : MS} {h : H} (r : PR D P h) {id : Int} (hn : ∀ e ∈ P.es, e.s.id ≠ id) : Exact S.cfg 16 [.ptr D.b 0, .int .u32 id] h (.int .i64 250) := by
  refine into Try.f16 _ Try.func16 (hS.ownP _ (by decide)) rfl rfl (by kernel_rfl) (by kernel_rfl) ?_
  simp +contextual (disch := first | (simp only [facts, clsL, clsS, clsC, isPtrD]; done) | omega | (simp only [push_nx, put_nx, del_nx]; omega) | (refine Nat.le_antisymm ?_ ?_ <;> simp only [push_nx, put_nx, del_nx] <;> omega) | fail) only [wpy, facts, wpb, cst, wpk, wpl, forall_const, implies_true, false_implies, Int.reduceLE, Int.reduceLT, Nat.reduceLeDiff, UInt8.reduceToNat, ↓reduceIte, Nat.reduceEqDiff, Nat.reduceAdd, reduceCtorEq, Int.reduceToNat, clsL, clsS, clsC, Try.f16]
  refine callF_exact (find_miss_spec hS r hn) ?_
  simp +contextual (disch := first | (simp only [facts, clsL, clsS, clsC, isPtrD]; done) | omega | (simp only [push_nx, put_nx, del_nx]; omega) | (refine Nat.le_antisymm ?_ ?_ <;> simp only [push_nx, put_nx, del_nx] <;> omega) | fail) only [wpy, facts, wpb, cst, wpk, wpl, forall_const, implies_true, false_implies, Int.reduceLE, Int.reduceLT, Nat.reduceLeDiff, UInt8.reduceToNat, ↓reduceIte, Nat.reduceEqDiff, Nat.reduceAdd, reduceCtorEq, Int.reduceToNat, clsL, clsS, clsC, Try.f16, n250]
theorem clear_spec {D : MD} {P : MS} {h : H} (r : PR D P h) : callW S.cfg (owns D P) 18 [.ptr D.b 0] h fun v h' => Stp D P h D { P with es := [] } h' := by
  refine into Try.f18 _ Try.func18 (hS.ownP _ (by decide)) rfl rfl (by kernel_rfl) (by kernel_rfl) ?_
  have hp := r.obj
  unfold mcells at hp
  simp +contextual (disch := first | (simp only [facts, clsL, clsS, clsC, isPtrD]; done) | omega | (simp only [push_nx, put_nx, del_nx]; omega) | (refine Nat.le_antisymm ?_ ?_ <;> simp only [push_nx, put_nx, del_nx] <;> omega) | fail) only [wpy, facts, wpb, cst, wpk, wpl, forall_const, implies_true, false_implies, Int.reduceLE, Int.reduceLT, Nat.reduceLeDiff, UInt8.reduceToNat, ↓reduceIte, Nat.reduceEqDiff, Nat.reduceAdd, reduceCtorEq, Int.reduceToNat, clsL, clsS, clsC, Try.f18, hp]
  refine clear_map (d := .map 27 58) (r := D.mb) (by kernel_rfl) (by simp +contextual (disch := first | (simp only [facts, clsL, clsS, clsC, isPtrD]; done) | omega | (simp only [push_nx, put_nx, del_nx]; omega) | (refine Nat.le_antisymm ?_ ?_ <;> simp only [push_nx, put_nx, del_nx] <;> omega) | fail) only [wpy, facts, wpb, cst, wpk, wpl, forall_const, implies_true, false_implies, Int.reduceLE, Int.reduceLT, Nat.reduceLeDiff, UInt8.reduceToNat, ↓reduceIte, Nat.reduceEqDiff, Nat.reduceAdd, reduceCtorEq, Int.reduceToNat, clsL, clsS, clsC]) r.map (.inr (by rw [fresh_def]; exact .inr (.inr (.inl rfl)))) ?_
  simp +contextual (disch := first | (simp only [facts, clsL, clsS, clsC, isPtrD]; done) | omega | (simp only [push_nx, put_nx, del_nx]; omega) | (refine Nat.le_antisymm ?_ ?_ <;> simp only [push_nx, put_nx, del_nx] <;> omega) | fail) only [wpy, facts, wpb, cst, wpk, wpl, forall_const, implies_true, false_implies, Int.reduceLE, Int.reduceLT, Nat.reduceLeDiff, UInt8.reduceToNat, ↓reduceIte, Nat.reduceEqDiff, Nat.reduceAdd, reduceCtorEq, Int.reduceToNat, clsL, clsS, clsC, Try.f18]
  exact Stp.sub r (List.nil_sublist _)
theorem add_spec {D : MD} {P : MS} {h : H} (r : PR D P h) (s : ST) (ht : s.text.length ≤ 1000) (h0 : 0 ≤ P.last) (hl : P.last ≤ 100000) (hid : ∀ e ∈ P.es, e.s.id ≤ P.last) (hf : P.es.length ≤ 256) : callW S.cfg (owns D P) 12 [.ptr D.b 0, .agg s.cells] h fun v h' => v = addV P.pl s ∧ ∃ D' P', Stp D P h D' P' h' ∧ P'.pl = addP P.pl s := by
  refine into Try.f12 _ Try.func12 (hS.ownP _ (by decide)) rfl rfl (by kernel_rfl) (by kernel_rfl) ?_
  have hp := r.obj
  unfold mcells at hp
  have ht' : ¬ 16777216 < s.text.length := by omega
  have hb1 := r.lt.1
  have hb2 := r.lt.2.1
  have hpp : ∀ o, (h.push o).get D.b = some (.cells [bo True, .int .u32 P.last, .map D.mb] 55 false) := fun o => by rw [push_ne (by omega)]; exact hp
  have hpm : ∀ o, (h.push o).get D.mb = some (.map (P.es.map EN.me) D.ck) := fun o => by rw [push_ne (by omega)]; exact r.map
  have hlm : (P.es.map EN.me).length = P.es.length := List.length_map ..
  have hpl : P.pl.l.length = P.es.length := List.length_map ..
  have hx : ∀ o, Stp D P h D P (h.push o) := fun o => Stp.ext r ((Ext.refl h).push o)
  have bad : addE P.pl s = 2 → addV P.pl s = .tuple [.int .u32 0, .int .i64 2] ∧ addP P.pl s = P.pl := fun e => by unfold addV addP; rw [e, if_neg (by decide), if_neg (by decide)]; exact ⟨rfl, rfl⟩
  have full : addE P.pl s = 251 → addV P.pl s = .tuple [.int .u32 0, .int .i64 251] ∧ addP P.pl s = P.pl := fun e => by unfold addV addP; rw [e, if_neg (by decide), if_neg (by decide)]; exact ⟨rfl, rfl⟩
  unfold ST.cells
  by_cases hc : s.conn < 0
  · obtain ⟨e1, e2⟩ := bad (by unfold addE; rw [if_pos (.inl hc)])
    rw [e1, e2]
    simp +contextual (disch := first | (simp only [facts, clsL, clsS, clsC, isPtrD]; done) | omega | (simp only [push_nx, put_nx, del_nx]; omega) | (refine Nat.le_antisymm ?_ ?_ <;> simp only [push_nx, put_nx, del_nx] <;> omega) | fail) only [wpy, facts, wpb, cst, wpk, wpl, forall_const, implies_true, false_implies, Int.reduceLE, Int.reduceLT, Nat.reduceLeDiff, UInt8.reduceToNat, ↓reduceIte, Nat.reduceEqDiff, Nat.reduceAdd, reduceCtorEq, Int.reduceToNat, clsL, clsS, clsC, Try.f12, hpp, neq4, hc, ht']
    exact ⟨D, P, hx _, rfl⟩
  by_cases hnq : ¬ (s.conn = 0 ↔ s.back = 0)
  · have hq := hnq
    obtain ⟨e1, e2⟩ := bad (by unfold addE; rw [if_pos (.inr hq)])
    rw [e1, e2]
    simp +contextual (disch := first | (simp only [facts, clsL, clsS, clsC, isPtrD]; done) | omega | (simp only [push_nx, put_nx, del_nx]; omega) | (refine Nat.le_antisymm ?_ ?_ <;> simp only [push_nx, put_nx, del_nx] <;> omega) | fail) only [wpy, facts, wpb, cst, wpk, wpl, forall_const, implies_true, false_implies, Int.reduceLE, Int.reduceLT, Nat.reduceLeDiff, UInt8.reduceToNat, ↓reduceIte, Nat.reduceEqDiff, Nat.reduceAdd, reduceCtorEq, Int.reduceToNat, clsL, clsS, clsC, Try.f12, hpp, neq4, hc, ht', hq]
    exact ⟨D, P, hx _, rfl⟩
  have hq : s.conn = 0 ↔ s.back = 0 := Classical.not_not.1 hnq
  have hnot : ¬ (s.conn < 0 ∨ ¬ (s.conn = 0 ↔ s.back = 0)) := fun q => q.elim hc fun q => q hq
  simp +contextual (disch := first | (simp only [facts, clsL, clsS, clsC, isPtrD]; done) | omega | (simp only [push_nx, put_nx, del_nx]; omega) | (refine Nat.le_antisymm ?_ ?_ <;> simp only [push_nx, put_nx, del_nx] <;> omega) | fail) only [wpy, facts, wpb, cst, wpk, wpl, forall_const, implies_true, false_implies, Int.reduceLE, Int.reduceLT, Nat.reduceLeDiff, UInt8.reduceToNat, ↓reduceIte, Nat.reduceEqDiff, Nat.reduceAdd, reduceCtorEq, Int.reduceToNat, clsL, clsS, clsC, Try.f12, hpp, neq4, hc, ht', hq]
  refine len_map (a := 27) (b := 58) (r := D.mb) (by kernel_rfl) (by simp +contextual (disch := first | (simp only [facts, clsL, clsS, clsC, isPtrD]; done) | omega | (simp only [push_nx, put_nx, del_nx]; omega) | (refine Nat.le_antisymm ?_ ?_ <;> simp only [push_nx, put_nx, del_nx] <;> omega) | fail) only [wpy, facts, wpb, cst, wpk, wpl, forall_const, implies_true, false_implies, Int.reduceLE, Int.reduceLT, Nat.reduceLeDiff, UInt8.reduceToNat, ↓reduceIte, Nat.reduceEqDiff, Nat.reduceAdd, reduceCtorEq, Int.reduceToNat, clsL, clsS, clsC]) (hpm _) ?_
  by_cases hfull : (256 : Int) ≤ (P.es.length : Int)
  · obtain ⟨e1, e2⟩ := full (by unfold addE; rw [if_neg hnot, hpl, if_pos (by omega)])
    rw [e1, e2]
    simp +contextual (disch := first | (simp only [facts, clsL, clsS, clsC, isPtrD]; done) | omega | (simp only [push_nx, put_nx, del_nx]; omega) | (refine Nat.le_antisymm ?_ ?_ <;> simp only [push_nx, put_nx, del_nx] <;> omega) | fail) only [wpy, facts, wpb, cst, wpk, wpl, forall_const, implies_true, false_implies, Int.reduceLE, Int.reduceLT, Nat.reduceLeDiff, UInt8.reduceToNat, ↓reduceIte, Nat.reduceEqDiff, Nat.reduceAdd, reduceCtorEq, Int.reduceToNat, clsL, clsS, clsC, Try.f12, hpp, hlm, hfull]
    exact ⟨D, P, hx _, rfl⟩
  have hl31 : ¬ (2147483648 : Int) ≤ P.last := by omega
  have hwr : IntKind.u32.wrap (P.last + 1) = P.last + 1 := u32_in _ (by omega)
  have e0 : addE P.pl s = 0 := by unfold addE; rw [if_neg hnot, hpl, if_neg (by omega)]
  have e1 : addV P.pl s = .tuple [.int .u32 (P.last + 1), .int .i64 0] := by unfold addV; rw [e0, if_pos rfl]; rfl
  have e2 : addP P.pl s = ⟨P.last + 1, P.pl.l ++ [addS P.pl s]⟩ := by unfold addP; rw [e0, if_pos rfl]; rfl
  rw [e1, e2]
  simp +contextual (disch := first | (simp only [facts, clsL, clsS, clsC, isPtrD]; done) | omega | (simp only [push_nx, put_nx, del_nx]; omega) | (refine Nat.le_antisymm ?_ ?_ <;> simp only [push_nx, put_nx, del_nx] <;> omega) | fail) only [wpy, facts, wpb, cst, wpk, wpl, forall_const, implies_true, false_implies, Int.reduceLE, Int.reduceLT, Nat.reduceLeDiff, UInt8.reduceToNat, ↓reduceIte, Nat.reduceEqDiff, Nat.reduceAdd, reduceCtorEq, Int.reduceToNat, clsL, clsS, clsC, Try.f12, hpp, hlm, hfull, hl31, hwr]
  refine ⟨.inr (.inr (.inl rfl)), ?_⟩
  generalize hhA : (H.put (H.put (H.put (H.put (H.push h _) _ _) _ _) _ _) _ _) = hA
  have hnA : hA.nx = h.nx + 1 := by rw [← hhA]; rfl
  have hgA : hA.get h.nx = some (.cells (addS P.pl s).cells 31 false) := by rw [← hhA, put_eq rfl]; rfl
  have hA1 : hA.get D.b = some (.cells (mcells D { P with last := P.last + 1 }) 55 false) := by
    rw [← hhA, put_ne (by omega), put_ne (by omega), put_ne (by omega), put_eq rfl]; rfl
  have hA2 : ∀ k, k < h.nx → k ≠ D.b → hA.get k = h.get k := fun k hk hne => by
    rw [← hhA, put_ne (by omega), put_ne (by omega), put_ne (by omega), put_ne hne, push_ne (by omega)]
  clear hhA
  have r1 : PR D { P with last := P.last + 1 } hA := by
    have q := (Stp.last r (P.last + 1)).pr
    refine q.keep (by rw [hnA]; exact Nat.le_succ _) fun k hk => ?_
    by_cases hkb : k = D.b
    · rw [hkb, hA1, put_eq rfl]
    · rw [hA2 k (owns_lt q hk) hkb, put_ne hkb]
  have hnb : ¬ owns D { P with last := P.last + 1 } h.nx := fun q => by
    have := owns_lt r q
    omega
  have hidn : ∀ e ∈ P.es, e.s.id < P.last + 1 := fun e he => by have := hid e he; omega
  have r2 := Stp.more r1 (addS P.pl s) (b := h.nx) (by omega) hnb hgA hidn (wf_u32 (by show 0 ≤ P.last + 1; omega) (by show P.last + 1 ≤ _; omega)) (by show P.es.length < 1000; omega)
  have hm1 := r1.map
  have gA : hA.get h.nx = some (.cells [.int .u32 (P.last + 1), .str s.text, .int .u16 s.pa, .int .u16 s.co, .int .i64 s.conn, .int .u32 s.back, bo False, bo False] 31 false) := hgA
  have gB : hA.get D.b = some (.cells [bo True, .int .u32 (P.last + 1), .map D.mb] 55 false) := hA1
  refine draw_by [] (by kernel_rfl) ?_
  simp +contextual (disch := first | (simp only [facts, clsL, clsS, clsC, isPtrD]; done) | omega | (simp only [push_nx, put_nx, del_nx]; omega) | (refine Nat.le_antisymm ?_ ?_ <;> simp only [push_nx, put_nx, del_nx] <;> omega) | fail) only [wpy, facts, wpb, cst, wpk, wpl, forall_const, implies_true, false_implies, Int.reduceLE, Int.reduceLT, Nat.reduceLeDiff, UInt8.reduceToNat, ↓reduceIte, Nat.reduceEqDiff, Nat.reduceAdd, reduceCtorEq, Int.reduceToNat, clsL, clsS, clsC, Try.f12, gB, gA]
  refine update_new (d := .int .u32) (z := .nilptr) (r := D.mb) (kv := .int .u32 (P.last + 1)) (xv := .ptr h.nx 0) (es := P.es.map EN.me) (clock := D.ck) (by simp +contextual (disch := first | (simp only [facts, clsL, clsS, clsC, isPtrD]; done) | omega | (simp only [push_nx, put_nx, del_nx]; omega) | (refine Nat.le_antisymm ?_ ?_ <;> simp only [push_nx, put_nx, del_nx] <;> omega) | fail) only [wpy, facts, wpb, cst, wpk, wpl, forall_const, implies_true, false_implies, Int.reduceLE, Int.reduceLT, Nat.reduceLeDiff, UInt8.reduceToNat, ↓reduceIte, Nat.reduceEqDiff, Nat.reduceAdd, reduceCtorEq, Int.reduceToNat, clsL, clsS, clsC]) (by simp +contextual (disch := first | (simp only [facts, clsL, clsS, clsC, isPtrD]; done) | omega | (simp only [push_nx, put_nx, del_nx]; omega) | (refine Nat.le_antisymm ?_ ?_ <;> simp only [push_nx, put_nx, del_nx] <;> omega) | fail) only [wpy, facts, wpb, cst, wpk, wpl, forall_const, implies_true, false_implies, Int.reduceLE, Int.reduceLT, Nat.reduceLeDiff, UInt8.reduceToNat, ↓reduceIte, Nat.reduceEqDiff, Nat.reduceAdd, reduceCtorEq, Int.reduceToNat, clsL, clsS, clsC]) (by simp +contextual (disch := first | (simp only [facts, clsL, clsS, clsC, isPtrD]; done) | omega | (simp only [push_nx, put_nx, del_nx]; omega) | (refine Nat.le_antisymm ?_ ?_ <;> simp only [push_nx, put_nx, del_nx] <;> omega) | fail) only [wpy, facts, wpb, cst, wpk, wpl, forall_const, implies_true, false_implies, Int.reduceLE, Int.reduceLT, Nat.reduceLeDiff, UInt8.reduceToNat, ↓reduceIte, Nat.reduceEqDiff, Nat.reduceAdd, reduceCtorEq, Int.reduceToNat, clsL, clsS, clsC]) (by kernel_rfl) rfl hm1 (find_no fun e he => by have := hidn e he; omega) (.inr (.inr (.inr (.inl rfl)))) ?_
  have hf4 : (hA.put D.mb (.map (P.es.map EN.me ++ [⟨.int .u32 (P.last + 1), .ptr h.nx 0, D.ck⟩]) (D.ck + 1))).get h.nx = hA.get h.nx := put_ne (by omega)
  rw [gA] at hf4
  clear hA1 hgA
  simp +contextual (disch := first | (simp only [facts, clsL, clsS, clsC, isPtrD]; done) | omega | (simp only [push_nx, put_nx, del_nx]; omega) | (refine Nat.le_antisymm ?_ ?_ <;> simp only [push_nx, put_nx, del_nx] <;> omega) | fail) only [wpy, facts, wpb, cst, wpk, wpl, forall_const, implies_true, false_implies, Int.reduceLE, Int.reduceLT, Nat.reduceLeDiff, UInt8.reduceToNat, ↓reduceIte, Nat.reduceEqDiff, Nat.reduceAdd, reduceCtorEq, Int.reduceToNat, clsL, clsS, clsC, Try.f12, hf4]
  refine ⟨fun p hp => (by cases hp), ⟨D.b, D.mb, D.ck + 1⟩, ⟨P.last + 1, P.es ++ [⟨h.nx, D.ck, addS P.pl s⟩]⟩, ⟨r2, by rw [put_nx, hnA]; exact Nat.le_succ _, fun k hk hno => ?_, fun k q => ?_, rfl⟩, ?_⟩
  · rw [put_ne fun e => hno (.inr (.inl e)), hA2 k hk fun e => hno (.inl e)]
  · rcases q with q | q | ⟨e, he, q⟩
    · exact .inl (.inl q)
    · exact .inl (.inr (.inl q))
    · rcases List.mem_append.1 he with he | he
      · exact .inl (.inr (.inr ⟨e, he, q⟩))
      · rw [List.mem_singleton.1 he] at q
        exact .inr (by rw [← q]; exact Nat.le_refl _)
  · unfold MS.pl
    simp
end
noncomputable section
def clrc (conn : Int) : List V → List V
  | [a, t, x, y, .int .i64 c, bk, lg, cu] => if c = conn then [a, t, x, y, .int .i64 0, .int .u32 0, .bool false, .bool false] else [a, t, x, y, .int .i64 c, bk, lg, cu]
  | l => l
def clr (conn : Int) : Option Ob → Option Ob
  | some (.cells c e p) => some (.cells (clrc conn c) e p)
  | o => o
def okc : List V → Bool
  | [a, t, x, y, .int .i64 c, bk, lg, cu] => true
  | _ => false
def unb1 (conn : Int) (b : Nat) : M Unit := Lx.bnd (blk b) fun n => bif Nat.beq n.1 8 then Lx.bnd (ld b 0 8) fun cs => bif okc cs then Lx.stc b 0 (clrc conn cs) else err "unbind" else err "unbind"
def unbA (conn : Int) : List Nat → M Unit
  | [] => Lx.ret ()
  | b :: l => Lx.bnd (unb1 conn b) fun _ => unbA conn l
def entB : ME → Option Nat
  | ⟨_, .ptr b 0, _⟩ => some b
  | _ => none
def blksOf : List ME → Option (List Nat)
  | [] => some []
  | e :: es => match entB e, blksOf es with
    | some b, some l => some (b :: l)
    | _, _ => none
def distN : List Nat → Bool
  | [] => true
  | a :: l => !memNat a l && distN l
def bornsOk (es : List ME) (clock : Nat) : Bool := (es.all fun e => Nat.blt e.born clock) && distN (es.map ME.born)
def unbM2 (conn : Int) : Ob → M V
  | .map es clock => bif bornsOk es clock then (match blksOf es with
    | some bs => bif distN bs then Lx.bnd (unbA conn bs) fun _ => Lx.ret (.tuple []) else err "unbind"
    | none => err "unbind") else err "unbind"
  | _ => err "unbind"
def unbM1 (conn : Int) : List V → M V
  | [.bool true, _, .map r] => Lx.bnd (getO r) (unbM2 conn)
  | _ => err "unbind"
def unbM : List V → M V
  | [.ptr m 0, .int .i64 conn] => Lx.bnd (alloc (.cells [] 0 false)) fun k => Lx.bnd (kill k) fun _ => Lx.bnd (blk m) fun n => bif Nat.beq n.1 3 then Lx.bnd (ld m 0 3) (unbM1 conn) else err "unbind"
  | _ => err "unbind"
theorem local_unb1 (conn : Int) (b : Nat) : Local (unb1 conn b) := by
  unfold unb1
  exact Local.bnd (Local.blk _) fun n => Local.cond (Local.bnd (Local.ld _ _ _) fun cs => Local.cond (Local.stc _ _ _) (Local.err _)) (Local.err _)
theorem local_unbA (conn : Int) : ∀ l, Local (unbA conn l)
  | [] => Local.ret _
  | b :: l => Local.bnd (local_unb1 conn b) fun _ => local_unbA conn l
theorem local_unbM (vs : List V) : Local (unbM vs) := by
  unfold unbM
  split
  · refine Local.bnd (Local.alloc _) fun k => Local.bnd (Local.kill _) fun _ => Local.bnd (Local.blk _) fun n => Local.cond (Local.bnd (Local.ld _ _ _) fun cs => ?_) (Local.err _)
    unfold unbM1
    split
    · refine Local.bnd (Local.getO _) fun o => ?_
      unfold unbM2
      split
      · refine Local.cond ?_ (Local.err _)
        split
        · exact Local.cond (Local.bnd (local_unbA _ _) fun _ => Local.ret _) (Local.err _)
        · exact Local.err _
      · exact Local.err _
    · exact Local.err _
  · exact Local.err _
theorem nice_unb1 (conn : Int) (b : Nat) : Nice (unb1 conn b) := by
  unfold unb1
  exact Nice.bnd (Nice.blk _) fun n => Nice.cond (Nice.bnd (Nice.ld _ _ _) fun cs => Nice.cond (Nice.stc _ _ _) (Nice.err _)) (Nice.err _)
theorem nice_unbA (conn : Int) : ∀ l, Nice (unbA conn l)
  | [] => Nice.ret _
  | b :: l => Nice.bnd (nice_unb1 conn b) fun _ => nice_unbA conn l
theorem nice_unbM (vs : List V) : Nice (unbM vs) := by
  unfold unbM
  split
  · refine Nice.bnd (Nice.alloc _) fun k => Nice.bnd (Nice.kill _) fun _ => Nice.bnd (Nice.blk _) fun n => Nice.cond (Nice.bnd (Nice.ld _ _ _) fun cs => ?_) (Nice.err _)
    unfold unbM1
    split
    · refine Nice.bnd (Nice.getO _) fun o => ?_
      unfold unbM2
      split
      · refine Nice.cond ?_ (Nice.err _)
        split
        · exact Nice.cond (Nice.bnd (nice_unbA _ _) fun _ => Nice.ret _) (Nice.err _)
        · exact Nice.err _
      · exact Nice.err _
    · exact Nice.err _
  · exact Nice.err _
theorem distN_nodup : ∀ {l : List Nat}, distN l = true ↔ l.Nodup
  | [] => by simp [distN]
  | a :: l => by
    unfold distN
    rw [Bool.and_eq_true, distN_nodup, List.nodup_cons, memNat_eq]
    simp
theorem clrc_len {conn : Int} {cs : List V} (h : okc cs = true) : (clrc conn cs).length = 8 ∧ cs.length = 8 := by
  unfold okc at h
  split at h
  · unfold clrc
    simp only
    split <;> exact ⟨rfl, rfl⟩
  · cases h
theorem put_all {α : Type} : ∀ (a b : List α), a.length = b.length → listPut a 0 b = b
  | [], [], _ => rfl
  | x :: a, y :: b, h => by
    have := put_all a b (by simpa using h)
    show y :: listPut a 0 b = _
    rw [this]
  | [], y :: b, h => by simp at h
  | x :: a, [], h => by simp at h
theorem unb1_ok {conn : Int} {b : Nat} {s s' : St} {u : Unit} (h : unb1 conn b s = .ok u s') : ∃ c e p, s.heap.get b = some (.cells c e p) ∧ okc c = true ∧ s'.next = s.next ∧ ∀ k, s'.heap.get k = if k = b then clr conn (s.heap.get k) else s.heap.get k := by
  unfold unb1 at h
  obtain ⟨n, s1, h1, h2⟩ := bnd_ok h
  obtain ⟨c, e, p, g, rfl, rfl⟩ := blk_ok h1
  simp only at h2
  cases hn : Nat.beq c.length 8
  · rw [hn, cond_false] at h2; exact (err_ok h2).elim
  rw [hn, cond_true] at h2
  have hl := Nat.eq_of_beq_eq_true hn
  obtain ⟨cs, s2, h3, h4⟩ := bnd_ok h2
  obtain ⟨c', ⟨ob, g', hrow⟩, hle, rfl, rfl⟩ := ld_ok h3
  simp only at g'
  rw [g] at g'
  cases g'
  cases hrow
  have hsub : sub c 0 8 = c := by unfold sub; rw [List.drop_zero, ← hl, List.take_length]
  rw [hsub] at h4
  cases hok : okc c
  · rw [hok, cond_false] at h4; exact (err_ok h4).elim
  rw [hok, cond_true] at h4
  obtain ⟨c2, e2, p2, g2, _, _, rfl⟩ := stc_ok h4
  simp only at g2
  rw [g] at g2
  cases g2
  refine ⟨c, e, p, g, hok, rfl, fun k => ?_⟩
  simp only [T.get_set]
  by_cases hk : k = b
  · subst hk
    rw [if_pos rfl, if_pos rfl, g]
    show _ = some (Ob.cells (clrc conn c) e p)
    rw [put_all _ _ (by rw [(clrc_len hok).1, (clrc_len (conn := conn) hok).2])]
  · rw [if_neg hk, if_neg hk]
theorem unbA_ok {conn : Int} : ∀ {l : List Nat} {s s' : St} {u : Unit}, l.Nodup → unbA conn l s = .ok u s' → (∀ b ∈ l, ∃ c e p, s.heap.get b = some (.cells c e p) ∧ okc c = true) ∧ s'.next = s.next ∧ ∀ k, s'.heap.get k = if k ∈ l then clr conn (s.heap.get k) else s.heap.get k
  | [], s, s', u, _, h => by
    obtain ⟨rfl, rfl⟩ := ret_ok h
    exact ⟨fun b hb => by simp at hb, rfl, fun k => by simp⟩
  | a :: l, s, s', u, hn, h => by
    rw [List.nodup_cons] at hn
    obtain ⟨_, s1, h1, h2⟩ := bnd_ok h
    obtain ⟨c, e, p, g, hok, hx, hk⟩ := unb1_ok h1
    obtain ⟨i1, i2, i3⟩ := unbA_ok hn.2 h2
    refine ⟨fun b hb => ?_, by rw [i2, hx], fun k => ?_⟩
    · rcases List.mem_cons.1 hb with rfl | hb2
      · exact ⟨c, e, p, g, hok⟩
      · have := i1 b hb2
        rw [hk b, if_neg (by intro q; rw [q] at hb2; exact hn.1 hb2)] at this
        exact this
    · rw [i3 k, hk k]
      by_cases ha : k = a
      · subst ha
        rw [if_neg hn.1, if_pos rfl, if_pos (by simp)]
      · rw [if_neg ha]
        by_cases hm : k ∈ l
        · rw [if_pos hm, if_pos (by simp [hm])]
        · rw [if_neg hm, if_neg (by simp [ha, hm])]
theorem blksOf_mem : ∀ {es : List ME} {bs : List Nat}, blksOf es = some bs → ∀ k, k ∈ bs ↔ ∃ e ∈ es, e.val = .ptr k 0
  | [], bs, h, k => by cases h; simp
  | e :: es, bs, h, k => by
    unfold blksOf at h
    split at h
    · rename_i b l hb hl
      cases h
      have ih := blksOf_mem hl k
      obtain ⟨key, val, born⟩ := e
      have hv : val = .ptr b 0 := by
        unfold entB at hb
        split at hb
        · rename_i heq; cases heq; cases hb; rfl
        · cases hb
      subst hv
      rw [List.mem_cons, ih]
      constructor
      · rintro (rfl | ⟨e, he, q⟩)
        · exact ⟨⟨key, .ptr k 0, born⟩, List.mem_cons_self, rfl⟩
        · exact ⟨e, List.mem_cons_of_mem _ he, q⟩
      · rintro ⟨e, he, q⟩
        rcases List.mem_cons.1 he with rfl | he
        · cases q; exact .inl rfl
        · exact .inr ⟨e, he, q⟩
    · cases h
theorem blksOf_all : ∀ {es : List ME} {bs : List Nat}, blksOf es = some bs → ∀ e ∈ es, ∃ b, e.val = .ptr b 0
  | [], bs, h, e, he => by simp at he
  | a :: es, bs, h, e, he => by
    unfold blksOf at h
    split at h
    · rename_i b l hb hl
      rcases List.mem_cons.1 he with rfl | he
      · obtain ⟨key, val, born⟩ := e
        unfold entB at hb
        split at hb
        · rename_i heq; cases heq; exact ⟨_, rfl⟩
        · cases hb
      · exact blksOf_all hl e he
    · cases h
theorem blksOf_inj : ∀ {es : List ME} {bs : List Nat}, blksOf es = some bs → bs.Nodup → ∀ e ∈ es, ∀ e' ∈ es, ∀ b, e.val = .ptr b 0 → e'.val = .ptr b 0 → e = e'
  | [], bs, h, _, e, he, _, _, _, _, _ => by simp at he
  | a :: es, bs, h, hn, e, he, e', he', b, q, q' => by
    unfold blksOf at h
    split at h
    · rename_i b0 l hb hl
      cases h
      rw [List.nodup_cons] at hn
      have hv : a.val = .ptr b0 0 := by
        obtain ⟨key, val, born⟩ := a
        unfold entB at hb
        split at hb
        · rename_i heq; cases heq; cases hb; rfl
        · cases hb
      have hm := blksOf_mem hl
      rcases List.mem_cons.1 he with w | he2 <;> rcases List.mem_cons.1 he' with w' | he2'
      · rw [w, w']
      · rw [w, hv] at q; cases q
        exact (hn.1 ((hm b).2 ⟨e', he2', q'⟩)).elim
      · rw [w', hv] at q'; cases q'
        exact (hn.1 ((hm b).2 ⟨e, he2, q⟩)).elim
      · exact blksOf_inj hl hn.2 e he2 e' he2' b q q'
    · cases h
structure Unb (m r : Nat) (conn : Int) (es : List ME) (clock : Nat) (bs : List Nat) (s s' : St) : Prop where
  obj : ∃ v1 e p, s.heap.get m = some (.cells [.bool true, v1, .map r] e p)
  map : s.heap.get r = some (.map es clock)
  borns : ∀ e ∈ es, e.born < clock
  once : (es.map ME.born).Nodup
  blks : blksOf es = some bs
  dist : bs.Nodup
  ents : ∀ b ∈ bs, ∃ c e p, s.heap.get b = some (.cells c e p) ∧ okc c = true
  nx : s'.next = s.next + 1
  off : m ≠ s.next ∧ r ≠ s.next ∧ ∀ b ∈ bs, b ≠ s.next
  res : ∀ k, s'.heap.get k = if k = s.next then none else if k ∈ bs then clr conn (s.heap.get k) else s.heap.get k
theorem unbM_ok {vs : List V} {v : V} {s s' : St} (h : unbM vs s = .ok v s') : ∃ m conn r es clock bs, vs = [.ptr m 0, .int .i64 conn] ∧ v = .tuple [] ∧ Unb m r conn es clock bs s s' := by
  unfold unbM at h
  split at h
  rotate_left
  · exact (err_ok h).elim
  rename_i m conn
  obtain ⟨k, s1, h1, h2⟩ := bnd_ok h
  obtain ⟨rfl, rfl⟩ := alloc_ok h1
  obtain ⟨_, s2, h3, h4⟩ := bnd_ok h2
  obtain ⟨c, e, p, g, rfl⟩ := kill_ok h3
  obtain ⟨n, s3, h5, h6⟩ := bnd_ok h4
  obtain ⟨c1, e1, p1, g1, rfl, rfl⟩ := blk_ok h5
  simp only at h6 g1
  have hget : ∀ k, ((s.heap.set s.next (some (.cells [] 0 false))).set s.next none).get k = if k = s.next then none else s.heap.get k := fun k => by
    rw [T.get_set, T.get_set]
    by_cases hk : k = s.next
    · rw [if_pos hk, if_pos hk]
    · rw [if_neg hk, if_neg hk, if_neg hk]
  rw [hget] at g1
  have hm : m ≠ s.next := fun q => by rw [if_pos q] at g1; cases g1
  rw [if_neg hm] at g1
  cases hn : Nat.beq c1.length 3
  · rw [hn, cond_false] at h6; exact (err_ok h6).elim
  rw [hn, cond_true] at h6
  have hl := Nat.eq_of_beq_eq_true hn
  obtain ⟨cs, s4, h7, h8⟩ := bnd_ok h6
  obtain ⟨c', ⟨ob, g', hrow⟩, hle, rfl, rfl⟩ := ld_ok h7
  simp only at g'
  rw [hget, if_neg hm, g1] at g'
  cases g'
  cases hrow
  have hsub : sub c1 0 3 = c1 := by unfold sub; rw [List.drop_zero, ← hl, List.take_length]
  rw [hsub] at h8
  unfold unbM1 at h8
  split at h8
  rotate_left
  · exact (err_ok h8).elim
  rename_i v1 r
  obtain ⟨o, s5, h9, h10⟩ := bnd_ok h8
  obtain ⟨g2, _, rfl⟩ := getO_ok h9
  simp only at g2
  rw [hget] at g2
  have hr : r ≠ s.next := fun q => by rw [if_pos q] at g2; cases g2
  rw [if_neg hr] at g2
  unfold unbM2 at h10
  split at h10
  rotate_left
  · exact (err_ok h10).elim
  rename_i es clock _
  cases hb : bornsOk es clock
  · rw [hb, cond_false] at h10; exact (err_ok h10).elim
  rw [hb, cond_true] at h10
  cases hbs : blksOf es with
  | none => rw [hbs] at h10; exact (err_ok h10).elim
  | some bs =>
  rw [hbs] at h10
  simp only at h10
  cases hd : distN bs
  · rw [hd, cond_false] at h10; exact (err_ok h10).elim
  rw [hd, cond_true] at h10
  obtain ⟨_, s6, h11, h12⟩ := bnd_ok h10
  obtain ⟨rfl, rfl⟩ := ret_ok h12
  have hdn := distN_nodup.1 hd
  obtain ⟨i1, i2, i3⟩ := unbA_ok hdn h11
  simp only [hget] at i1 i2 i3
  unfold bornsOk at hb
  rw [Bool.and_eq_true] at hb
  have hoff : ∀ b ∈ bs, b ≠ s.next := fun b hb q => by
    obtain ⟨c, e, p, q2, _⟩ := i1 b hb
    rw [if_pos q] at q2; cases q2
  refine ⟨m, conn, r, es, clock, bs, rfl, rfl, ⟨v1, e1, p1, g1⟩, g2, fun e he => blt_iff.1 (List.all_eq_true.1 hb.1 e he), distN_nodup.1 hb.2, hbs, hdn, fun b hb => ?_, i2, ⟨hm, hr, hoff⟩, fun k => ?_⟩
  · have := i1 b hb
    rw [if_neg (hoff b hb)] at this
    exact this
  · rw [i3 k]
    by_cases hk : k = s.next
    · rw [if_neg (fun q => hoff k q hk), if_pos hk, if_pos hk]
    · rw [if_neg hk, if_neg hk]
end
noncomputable section
def seqA : Code → Code
  | .seq a _ => a
  | c => c
def seqB : Code → Code
  | .seq _ b => b
  | c => c
def inn : Code → Code
  | .block _ a => a
  | .loop a => a
  | c => c
def opsOf : Code → Array Oper
  | .region _ A _ => A
  | _ => #[]
def bodyU : Option Code → Code
  | some c => c
  | none => .skip
def c17 : Code := bodyU Try.f17.body
def R0 : Code := seqA c17
def A1 : Array Oper := opsOf (seqA (seqB c17))
def Lp : Code := inn (inn (seqB (seqB c17)))
def A2 : Array Oper := opsOf (seqA Lp)
def Tl : Code := seqB Lp
def l1 : List Oper := A1.toList.take 4
def l2 : List Oper := A2.toList.drop 1
def S0 : Set0 := ⟨[]⟩
def anyOk : Nat → Prop := fun _ => True
theorem sims0 : Sims S0.cfg := Sims.of (by kernel_rfl) (sumOk_list S0.cfg [] rfl fun p hp => by cases hp)
theorem shape17 : Try.f17.body = some (.seq R0 (.seq (.region 1 A1 false) (.block 0 (.loop (.seq (.region 2 A2 false) Tl))))) := by kernel_rfl
theorem pre1 {h : H} {m r : Nat} {conn : Int} {v1 : V} {e : TypeId} {p : Bool} (hm : h.get m = some (.cells [.bool true, v1, .map r] e p)) : run S0.cfg anyOk [] R0 (Wx.upd (Wx.upd (fun _ => undefV) 0 (.ptr m 0)) 1 (.int .i64 conn)) h fun ex env' h' => h' = h ∧ ex = .normal ∧ env' 0 = .ptr m 0 ∧ env' 1 = .int .i64 conn := by
  rw [boolT] at hm
  simp only [R0, seqA, c17, bodyU, Try.f17]
  simp +contextual (disch := first | (simp only [facts, clsL, clsS, clsC, isPtrD]; done) | omega | (simp only [push_nx, put_nx, del_nx]; omega) | (refine Nat.le_antisymm ?_ ?_ <;> simp only [push_nx, put_nx, del_nx] <;> omega) | fail) only [wpy, facts, wpb, cst, wpk, wpl, forall_const, implies_true, false_implies, Int.reduceLE, Int.reduceLT, Nat.reduceLeDiff, UInt8.reduceToNat, ↓reduceIte, Nat.reduceEqDiff, Nat.reduceAdd, reduceCtorEq, Int.reduceToNat, clsL, clsS, clsC, hm]
theorem pre2 {h : H} {m r : Nat} {conn : Int} {v1 : V} {e : TypeId} {p : Bool} {env : Env} (e0 : env 0 = .ptr m 0) (e1 : env 1 = .int .i64 conn) (hm : h.get m = some (.cells [.bool true, v1, .map r] e p)) : runOps S0.cfg anyOk [] (fun _ env' h' => h' = h ∧ env' 1 = .int .i64 conn ∧ env' 18 = .map r) A1 l1 env h := by
  rw [boolT] at hm
  simp only [A1, l1, opsOf, seqA, seqB, c17, bodyU, Try.f17, List.take_succ_cons, List.take_zero]
  simp +contextual (disch := first | (simp only [facts, clsL, clsS, clsC, isPtrD]; done) | omega | (simp only [push_nx, put_nx, del_nx]; omega) | (refine Nat.le_antisymm ?_ ?_ <;> simp only [push_nx, put_nx, del_nx] <;> omega) | fail) only [wpy, facts, wpb, cst, wpk, wpl, forall_const, implies_true, false_implies, Int.reduceLE, Int.reduceLT, Nat.reduceLeDiff, UInt8.reduceToNat, ↓reduceIte, Nat.reduceEqDiff, Nat.reduceAdd, reduceCtorEq, Int.reduceToNat, clsL, clsS, clsC, hm, e0, e1]
theorem last17 {h : H} {env : Env} {r0 : Nat} {conn : Int} {R : Env → H → Prop} (e1 : env 1 = .int .i64 conn) (e19 : env 19 = .ptr r0 0) (hR : ∀ env', env' 1 = .int .i64 conn → env' 19 = .ptr r0 0 → R env' h) :
    runOps S0.cfg anyOk [] (fun _ env1 h1 => h1.nx = h.nx ∧ run S0.cfg anyOk [] Tl env1 h1 fun ex env2 h2 => h2.nx = h.nx ∧ exOf ex ≠ .normal ∧ ex = .exit 0 ∧ R env2 h2) A2 l2 (Wx.upd env 20 (.tuple [.bool false])) h := by
  simp only [A2, l2, Tl, Lp, inn, opsOf, seqA, seqB, c17, bodyU, Try.f17, List.drop_succ_cons, List.drop_zero]
  simp +contextual (disch := first | (simp only [facts, clsL, clsS, clsC, isPtrD]; done) | omega | (simp only [push_nx, put_nx, del_nx]; omega) | (refine Nat.le_antisymm ?_ ?_ <;> simp only [push_nx, put_nx, del_nx] <;> omega) | fail) only [wpy, facts, wpb, cst, wpk, wpl, forall_const, implies_true, false_implies, Int.reduceLE, Int.reduceLT, Nat.reduceLeDiff, UInt8.reduceToNat, ↓reduceIte, Nat.reduceEqDiff, Nat.reduceAdd, reduceCtorEq, Int.reduceToNat, clsL, clsS, clsC]
  exact ⟨(by intro q; cases q), hR _ (by simp +contextual (disch := first | (simp only [facts, clsL, clsS, clsC, isPtrD]; done) | omega | (simp only [push_nx, put_nx, del_nx]; omega) | (refine Nat.le_antisymm ?_ ?_ <;> simp only [push_nx, put_nx, del_nx] <;> omega) | fail) only [wpy, facts, wpb, cst, wpk, wpl, forall_const, implies_true, false_implies, Int.reduceLE, Int.reduceLT, Nat.reduceLeDiff, UInt8.reduceToNat, ↓reduceIte, Nat.reduceEqDiff, Nat.reduceAdd, reduceCtorEq, Int.reduceToNat, clsL, clsS, clsC, e1]) (by simp +contextual (disch := first | (simp only [facts, clsL, clsS, clsC, isPtrD]; done) | omega | (simp only [push_nx, put_nx, del_nx]; omega) | (refine Nat.le_antisymm ?_ ?_ <;> simp only [push_nx, put_nx, del_nx] <;> omega) | fail) only [wpy, facts, wpb, cst, wpk, wpl, forall_const, implies_true, false_implies, Int.reduceLE, Int.reduceLT, Nat.reduceLeDiff, UInt8.reduceToNat, ↓reduceIte, Nat.reduceEqDiff, Nat.reduceAdd, reduceCtorEq, Int.reduceToNat, clsL, clsS, clsC, e19])⟩
theorem round17 {h : H} {env : Env} {r0 r m since clock b : Nat} {seen : List Nat} {es : List ME} {e : ME} {conn c : Int} {a t x y bk lg cu : V} {ty : TypeId} {fl : Bool} {R : Env → H → Prop} (e1 : env 1 = .int .i64 conn) (e19 : env 19 = .ptr r0 0)
    (h1 : h.get r0 = some (.miter (some r) since (seen ++ [e.born]) clock)) (h2 : h.get r = some (.map es clock)) (hf : findBorn e.born es = some e) (hv : e.val = .ptr b 0) (hb : h.get b = some (.cells [a, t, x, y, .int .i64 c, bk, lg, cu] ty fl))
    (hR : ∀ env' h', env' 1 = .int .i64 conn → env' 19 = .ptr r0 0 → (∀ k, h'.get k = if k = b then some (.cells (clrc conn [a, t, x, y, .int .i64 c, bk, lg, cu]) ty fl) else h.get k) → R env' h') :
    runOps S0.cfg anyOk [] (fun _ env1 h1 => h1.nx = h.nx ∧ run S0.cfg anyOk [] Tl env1 h1 fun ex env2 h2 => h2.nx = h.nx ∧ ex = .normal ∧ R env2 h2) A2 l2 (Wx.upd env 20 (.tuple [.bool true, e.key, e.val])) h := by
  simp only [A2, l2, Tl, Lp, inn, opsOf, seqA, seqB, c17, bodyU, Try.f17, List.drop_succ_cons, List.drop_zero]
  simp +contextual (disch := first | (simp only [facts, clsL, clsS, clsC, isPtrD]; done) | omega | (simp only [push_nx, put_nx, del_nx]; omega) | (refine Nat.le_antisymm ?_ ?_ <;> simp only [push_nx, put_nx, del_nx] <;> omega) | fail) only [wpy, facts, wpb, cst, wpk, wpl, forall_const, implies_true, false_implies, Int.reduceLE, Int.reduceLT, Nat.reduceLeDiff, UInt8.reduceToNat, ↓reduceIte, Nat.reduceEqDiff, Nat.reduceAdd, reduceCtorEq, Int.reduceToNat, clsL, clsS, clsC]
  refine entry_by (r := r0) (m := r) (since := since) (clock := clock) (b := e.born) (seen := seen) (es := es) (e := e) (by simp +contextual (disch := first | (simp only [facts, clsL, clsS, clsC, isPtrD]; done) | omega | (simp only [push_nx, put_nx, del_nx]; omega) | (refine Nat.le_antisymm ?_ ?_ <;> simp only [push_nx, put_nx, del_nx] <;> omega) | fail) only [wpy, facts, wpb, cst, wpk, wpl, forall_const, implies_true, false_implies, Int.reduceLE, Int.reduceLT, Nat.reduceLeDiff, UInt8.reduceToNat, ↓reduceIte, Nat.reduceEqDiff, Nat.reduceAdd, reduceCtorEq, Int.reduceToNat, clsL, clsS, clsC, e19]) h1 h2 hf ?_
  by_cases hc : c = conn
  · have e : clrc conn [a, t, x, y, .int .i64 c, bk, lg, cu] = [a, t, x, y, .int .i64 0, .int .u32 0, .bool false, .bool false] := by unfold clrc; simp only [hc, if_true]
    rw [e] at hR
    simp +contextual (disch := first | (simp only [facts, clsL, clsS, clsC, isPtrD]; done) | omega | (simp only [push_nx, put_nx, del_nx]; omega) | (refine Nat.le_antisymm ?_ ?_ <;> simp only [push_nx, put_nx, del_nx] <;> omega) | fail) only [wpy, facts, wpb, cst, wpk, wpl, forall_const, implies_true, false_implies, Int.reduceLE, Int.reduceLT, Nat.reduceLeDiff, UInt8.reduceToNat, ↓reduceIte, Nat.reduceEqDiff, Nat.reduceAdd, reduceCtorEq, Int.reduceToNat, clsL, clsS, clsC, e1, hv, hb, hc]
    refine ⟨.inr trivial, .inr trivial, .inr trivial, .inr trivial, hR _ _ (by simp +contextual (disch := first | (simp only [facts, clsL, clsS, clsC, isPtrD]; done) | omega | (simp only [push_nx, put_nx, del_nx]; omega) | (refine Nat.le_antisymm ?_ ?_ <;> simp only [push_nx, put_nx, del_nx] <;> omega) | fail) only [wpy, facts, wpb, cst, wpk, wpl, forall_const, implies_true, false_implies, Int.reduceLE, Int.reduceLT, Nat.reduceLeDiff, UInt8.reduceToNat, ↓reduceIte, Nat.reduceEqDiff, Nat.reduceAdd, reduceCtorEq, Int.reduceToNat, clsL, clsS, clsC, e1]) (by simp +contextual (disch := first | (simp only [facts, clsL, clsS, clsC, isPtrD]; done) | omega | (simp only [push_nx, put_nx, del_nx]; omega) | (refine Nat.le_antisymm ?_ ?_ <;> simp only [push_nx, put_nx, del_nx] <;> omega) | fail) only [wpy, facts, wpb, cst, wpk, wpl, forall_const, implies_true, false_implies, Int.reduceLE, Int.reduceLT, Nat.reduceLeDiff, UInt8.reduceToNat, ↓reduceIte, Nat.reduceEqDiff, Nat.reduceAdd, reduceCtorEq, Int.reduceToNat, clsL, clsS, clsC, e19]) fun k => ?_⟩
    rw [bo_false]
    by_cases hk : k = b
    · rw [if_pos hk, hk, put_eq rfl]
    · rw [if_neg hk, put_ne hk, put_ne hk, put_ne hk, put_ne hk]
  · have e : clrc conn [a, t, x, y, .int .i64 c, bk, lg, cu] = [a, t, x, y, .int .i64 c, bk, lg, cu] := by unfold clrc; simp only [hc, if_false]
    rw [e] at hR
    simp +contextual (disch := first | (simp only [facts, clsL, clsS, clsC, isPtrD]; done) | omega | (simp only [push_nx, put_nx, del_nx]; omega) | (refine Nat.le_antisymm ?_ ?_ <;> simp only [push_nx, put_nx, del_nx] <;> omega) | fail) only [wpy, facts, wpb, cst, wpk, wpl, forall_const, implies_true, false_implies, Int.reduceLE, Int.reduceLT, Nat.reduceLeDiff, UInt8.reduceToNat, ↓reduceIte, Nat.reduceEqDiff, Nat.reduceAdd, reduceCtorEq, Int.reduceToNat, clsL, clsS, clsC, e1, hv, hb, hc]
    refine hR _ _ (by simp +contextual (disch := first | (simp only [facts, clsL, clsS, clsC, isPtrD]; done) | omega | (simp only [push_nx, put_nx, del_nx]; omega) | (refine Nat.le_antisymm ?_ ?_ <;> simp only [push_nx, put_nx, del_nx] <;> omega) | fail) only [wpy, facts, wpb, cst, wpk, wpl, forall_const, implies_true, false_implies, Int.reduceLE, Int.reduceLT, Nat.reduceLeDiff, UInt8.reduceToNat, ↓reduceIte, Nat.reduceEqDiff, Nat.reduceAdd, reduceCtorEq, Int.reduceToNat, clsL, clsS, clsC, e1]) (by simp +contextual (disch := first | (simp only [facts, clsL, clsS, clsC, isPtrD]; done) | omega | (simp only [push_nx, put_nx, del_nx]; omega) | (refine Nat.le_antisymm ?_ ?_ <;> simp only [push_nx, put_nx, del_nx] <;> omega) | fail) only [wpy, facts, wpb, cst, wpk, wpl, forall_const, implies_true, false_implies, Int.reduceLE, Int.reduceLT, Nat.reduceLeDiff, UInt8.reduceToNat, ↓reduceIte, Nat.reduceEqDiff, Nat.reduceAdd, reduceCtorEq, Int.reduceToNat, clsL, clsS, clsC, e19]) fun k => ?_
    by_cases hk : k = b
    · rw [if_pos hk, hk, hb]
    · rw [if_neg hk]
theorem okc_form {c : List V} (h : okc c = true) : ∃ a t x y c0 bk lg cu, c = [a, t, x, y, .int .i64 c0, bk, lg, cu] := by
  unfold okc at h
  split at h
  · exact ⟨_, _, _, _, _, _, _, _, rfl⟩
  · cases h
structure Jn (r0 r : Nat) (conn : Int) (es : List ME) (clock : Nat) (hp0 : T Ob) (seen : List Nat) (env : Env) (hp : T Ob) : Prop where
  e1 : env 1 = .int .i64 conn
  e19 : env 19 = .ptr r0 0
  it : hp.get r0 = some (.miter (some r) clock seen clock)
  one : ∀ e ∈ es, e.born ∈ seen → ∀ b, e.val = .ptr b 0 → hp.get b = clr conn (hp0.get b)
  rest : ∀ k, k ≠ r0 → (∀ e ∈ es, e.born ∈ seen → e.val ≠ .ptr k 0) → hp.get k = hp0.get k
def QU (r0 r : Nat) (conn : Int) (es : List ME) (clock : Nat) (hp0 : T Ob) (ex : Ex) (env : Env) (hp : T Ob) : Prop := ex = .exit 0 ∧ ∃ seen, (∀ e ∈ es, e.born ∈ seen) ∧ Jn r0 r conn es clock hp0 seen env hp
theorem any17 {m r : Nat} {conn : Int} {es : List ME} {clock : Nat} {bs : List Nat} {s s' : St} (U : Unb m r conn es clock bs s s') (M : Nat) : ∀ (n : Nat) (seen : List Nat) (env : Env) (hp : T Ob), Jn s.next r conn es clock s.heap seen env hp → (unseen seen es).length ≤ n →
    Any S0.cfg anyOk A2 l2 Tl 19 20 M (QU s.next r conn es clock s.heap) (n + 1) env hp := by
  intro n
  induction n with
  | zero =>
    intro seen env hp J hn
    have hnil : unseen seen es = [] := List.eq_nil_of_length_eq_zero (by omega)
    have hmap : hp.get r = some (.map es clock) := by
      rw [J.rest r U.off.2.1 fun e he hs q => ?_]
      · exact U.map
      · obtain ⟨c, e', p, g, _⟩ := U.ents r ((blksOf_mem U.blks r).2 ⟨e, he, q⟩)
        rw [U.map] at g; cases g
    refine ⟨s.next, r, clock, clock, clock, seen, es, J.e19, J.it, hmap, allFrom_false U.borns seen, fun e he => U.borns e (unseen_mem.1 he).1, fun _ => ?_, fun e he => by rw [hnil] at he; cases he⟩
    have hseen : ∀ e ∈ es, e.born ∈ seen := fun e he => by
      rcases Classical.em (e.born ∈ seen) with q | q
      · exact q
      · have := unseen_mem.2 ⟨he, q⟩
        rw [hnil] at this; cases this
    have w := last17 (h := ⟨hp, M⟩) J.e1 J.e19 (R := fun env' h' => QU s.next r conn es clock s.heap (.exit 0) env' h'.heap) fun env' q1 q2 => ⟨rfl, seen, hseen, q1, q2, J.it, J.one, J.rest⟩
    exact Wx.wpOps_mono (fun env1 h1 q => ⟨q.1, wpC_mono _ _ _ _ _ (fun ex env2 h2 w => ⟨w.1, w.2.1, by obtain ⟨_, _, w3, w4⟩ := w; subst w3; exact w4⟩) q.2⟩) w
  | succ n ih =>
    intro seen env hp J hn
    have hmap : hp.get r = some (.map es clock) := by
      rw [J.rest r U.off.2.1 fun e he hs q => ?_]
      · exact U.map
      · obtain ⟨c, e', p, g, _⟩ := U.ents r ((blksOf_mem U.blks r).2 ⟨e, he, q⟩)
        rw [U.map] at g; cases g
    refine ⟨s.next, r, clock, clock, clock, seen, es, J.e19, J.it, hmap, allFrom_false U.borns seen, fun e he => U.borns e (unseen_mem.1 he).1, fun hnil => ?_, fun e he => ?_⟩
    · have hseen : ∀ e ∈ es, e.born ∈ seen := fun e he => by
        rcases Classical.em (e.born ∈ seen) with q | q
        · exact q
        · have := unseen_mem.2 ⟨he, q⟩
          rw [hnil] at this; cases this
      have w := last17 (h := ⟨hp, M⟩) J.e1 J.e19 (R := fun env' h' => QU s.next r conn es clock s.heap (.exit 0) env' h'.heap) fun env' q1 q2 => ⟨rfl, seen, hseen, q1, q2, J.it, J.one, J.rest⟩
      exact Wx.wpOps_mono (fun env1 h1 q => ⟨q.1, wpC_mono _ _ _ _ _ (fun ex env2 h2 w => ⟨w.1, w.2.1, by obtain ⟨_, _, w3, w4⟩ := w; subst w3; exact w4⟩) q.2⟩) w
    · obtain ⟨hes, hns⟩ := unseen_mem.1 he
      obtain ⟨b, hv⟩ := blksOf_all U.blks e hes
      have hbm := (blksOf_mem U.blks b).2 ⟨e, hes, hv⟩
      obtain ⟨c, ty, fl, hb0, hok⟩ := U.ents b hbm
      have hbn := U.off.2.2 b hbm
      have hbr : b ≠ r := fun q => by rw [q, U.map] at hb0; cases hb0
      obtain ⟨a, t, x, y, c0, bk, lg, cu, rfl⟩ := okc_form hok
      have hbh : hp.get b = s.heap.get b := J.rest b hbn fun e' he' hs' q => hns (by rw [blksOf_inj U.blks U.dist e hes e' he' b hv q]; exact hs')
      have w := round17 (h := ⟨hp.set s.next (some (.miter (some r) clock (seen ++ [e.born]) clock)), M⟩) (r0 := s.next) (r := r) (m := m) (since := clock) (clock := clock) (b := b) (seen := seen) (es := es) (e := e) (c := c0) J.e1 J.e19 (by show (hp.set _ _).get _ = _; rw [T.get_set, if_pos rfl]) (by show (hp.set _ _).get _ = _; rw [T.get_set, if_neg U.off.2.1]; exact hmap) (findBorn_of (b := 0) U.once hes) hv (by show (hp.set _ _).get _ = _; rw [T.get_set, if_neg hbn, hbh]; exact hb0)
        (R := fun env' h' => Any S0.cfg anyOk A2 l2 Tl 19 20 M (QU s.next r conn es clock s.heap) (n + 1) env' h'.heap) fun env' h' q1 q2 q3 => by
          refine ih (seen ++ [e.born]) env' h'.heap ⟨q1, q2, ?_, fun e' he' hs' b' hv' => ?_, fun k hk hno => ?_⟩ (by have := unseen_lt he; omega)
          · have := q3 s.next
            rw [if_neg (Ne.symm hbn)] at this
            show h'.get s.next = _
            rw [this]
            show (hp.set _ _).get _ = _
            rw [T.get_set, if_pos rfl]
          · show h'.get b' = _
            by_cases hbb : b' = b
            · rw [q3 b', if_pos hbb, hbb, hb0]; rfl
            · have hbm' := (blksOf_mem U.blks b').2 ⟨e', he', hv'⟩
              rw [q3 b', if_neg hbb]
              show (hp.set _ _).get _ = _
              rw [T.get_set, if_neg (U.off.2.2 b' hbm')]
              refine J.one e' he' ?_ b' hv'
              rcases List.mem_append.1 hs' with q | q
              · exact q
              · have hee := List.mem_singleton.1 q
                have h1 := findBorn_of (b := 0) U.once hes
                have h2 := findBorn_of (b := 0) U.once he'
                rw [hee, h1] at h2
                cases h2
                rw [hv] at hv'; cases hv'
                exact (hbb rfl).elim
          · show h'.get k = _
            have hkb : k ≠ b := fun q => hno e hes (by simp) (by rw [q]; exact hv)
            rw [q3 k, if_neg hkb]
            show (hp.set _ _).get _ = _
            rw [T.get_set, if_neg hk]
            exact J.rest k hk fun e' he' hs' => hno e' he' (List.mem_append_left _ hs')
      exact w
def fstO : List Oper → Oper
  | o :: _ => o
  | [] => ⟨none, .move (.tmp 0), 0, "", #[], none⟩
def o4 : Oper := fstO (A1.toList.drop 4)
def o20 : Oper := fstO A2.toList
theorem range17 {tm : T V} {hp : T Ob} {n r clock : Nat} {es : List ME} {call : FuncId → List V → M V} (h18 : tmGet tm 18 = .map r) (hm : hp.get r = some (.map es clock)) : ∃ lg, stepV (S0.cfg.at 0) call A1 o4 tm ⟨hp, n, []⟩ = .ok (.ptr n 0) ⟨hp.set n (some (.miter (some r) clock [] clock)), n + 1, lg⟩ := by
  have h1 : wants A1 tm o4 = some true := by kernel_rfl
  have h2 : o4.op.operands.toList.all operandOk = true := by kernel_rfl
  have h3 : opM (S0.cfg.at 0).P (S0.cfg.at 0).gl call (evalO tm) o4.op = rangeM Try.prog 53 (tmGet tm 18) := by kernel_rfl
  have h4 : Try.prog.underlying 53 = some (.map 27 58) := by kernel_rfl
  rw [stepV_eq, h1]
  simp only [h2, cond_true]
  rw [h3, h18]
  unfold rangeM
  rw [h4]
  simp only
  have g : getO r ⟨hp, n, []⟩ = .ok (.map es clock) ⟨hp, n, [.rdd r]⟩ := by
    unfold getO
    simp only [hm]
    rfl
  exact ⟨_, by rw [bnd_eq g]; rfl⟩
theorem extSum_unb : ExtSum Try.prog .leaf 17 unbM := by
  refine ⟨local_unbM, fun vs v s s' w μ ν rs h hr hf hg ha => ?_⟩
  obtain ⟨m, conn, r, es, clock, bs, rfl, rfl, U⟩ := unbM_ok h
  obtain ⟨v1, e1, p1, hobj⟩ := U.obj
  have hfree : s.heap.get s.next = none := by
    cases hq : s.heap.get s.next with
    | none => rfl
    | some o =>
      obtain ⟨p, hp, _⟩ := hr.ob _ _ hq
      rw [hf s.next (Nat.le_refl _) (by rw [U.nx]; exact Nat.lt_succ_self _)] at hp
      cases hp
  obtain ⟨M0, hM0⟩ := T.bound s.heap
  have hwf : WF s.heap (M0 + s.next + 1) := fun k hk => by have := hM0 k hk; omega
  have hmix : Try.prog.follows .mixedOrders = true := by kernel_rfl
  left
  refine ⟨enters_of Try.func17 (by kernel_rfl) shape17 _ _, calls_of_wp Try.func17 shape17 ?_⟩
  have ht := tm_start (ntmps := Try.f17.ntmps) ha
  have henv : tmGet (setArgs [.ptr m 0, .int .i64 conn] 0 .leaf) = Wx.upd (Wx.upd (fun _ => undefV) 0 (.ptr m 0)) 1 (.int .i64 conn) := by
    rw [setArgs_env]
    rfl
  have w0 := pre1 (conn := conn) (h := ⟨s.heap, M0 + s.next + 1⟩) hobj
  rw [← henv] at w0
  refine wp_seq (code_sim (n := s.next) sims0 hmix (code := R0) (nt := max [V.ptr m 0, V.int .i64 conn].length Try.f17.ntmps) (by kernel_rfl) w0 hwf (fun ex env' h' q => by rw [q.1]) hr hg ht fun ex tm1 h1 μ1 a1 w1 q wf1 d1 t1 st1 => ?_)
  obtain ⟨rfl, rfl, q0, q1⟩ := q
  refine wp_seq (wp_region ?_)
  rw [show List.range A1.size = (List.range l1.length).map (0 + ·) ++ [4] from by kernel_rfl]
  have w2 := pre2 (h := ⟨s.heap, M0 + s.next + 1⟩) q0 q1 hobj
  refine ops_sim (n := s.next) sims0 (fun i o hi => ?_) (by kernel_rfl) w2 hwf (fun env' h' q => by rw [q.1]) st1.rel (hg.step st1) t1 fun tm2 h2 μ2 a2 w2 q wf2 d2 t2 st2 => ?_
  · unfold l1 at hi
    rw [Nat.zero_add, ← Array.getElem?_toList]
    rw [List.getElem?_take] at hi
    split at hi
    · exact hi
    · cases hi
  obtain ⟨rfl, q1, q18⟩ := q
  obtain ⟨lg, hst⟩ := range17 (n := s.next) (call := callM (S0.cfg.at 0) 0) q18 U.map
  have st12 := st1.trans st2 (Nat.le_refl _) (Nat.le_refl _)
  rw [wpOps_cons]
  refine sim_step (c := S0.cfg.at 0) (s := ⟨s.heap, s.next, []⟩) (sims0.sim 0 0) (by kernel_rfl : A1[4]? = some o4) st2.rel (fun k h5 h6 => ?_) ((hg.step st1).step st2) (fun t _ => t2.2 t) hst fun μ3 w3 rv hv st3 => ?_
  · rw [st12.new k (by omega)]
    exact hf k h5 (by rw [U.nx]; exact h6)
  unfold Go.wpOps
  have t3 : TmRel μ3 ν (max [V.ptr m 0, V.int .i64 conn].length Try.f17.ntmps) (tm2.set 19 (some (.ptr s.next 0))) (a2.put o4.dst rv).tmps := (t2.mono st3.le).put hv (.inr ⟨19, by kernel_rfl, (show 19 < max 2 42 from by decide), rfl⟩)
  refine wp_block (loopAt_wp ?_)
  have hup : tmGet (tm2.set 19 (some (.ptr s.next 0))) = Wx.upd (tmGet tm2) 19 (.ptr s.next 0) := funext fun t => tmGet_set
  have J : Jn s.next r conn es clock s.heap [] (tmGet (tm2.set 19 (some (.ptr s.next 0)))) (s.heap.set s.next (some (.miter (some r) clock [] clock))) := by
    rw [hup]
    refine ⟨(by show (if 1 = 19 then _ else _) = _; rw [if_neg (by decide)]; exact q1), (by show (if 19 = 19 then _ else _) = _; rw [if_pos rfl]), (by rw [T.get_set, if_pos rfl]), fun e he hs => (by cases hs), fun k hk _ => by rw [T.get_set, if_neg hk]⟩
  have hwf3 : WF (s.heap.set s.next (some (.miter (some r) clock [] clock))) (M0 + s.next + 1) := fun k hk => by
    rw [T.get_set] at hk
    by_cases hkn : k = s.next
    · omega
    · rw [if_neg hkn] at hk; exact hwf k hk
  refine any_sim (m := s.next + 1) sims0 hmix (o := o20) (l := l2) (by kernel_rfl) (by kernel_rfl) (by kernel_rfl) (by kernel_rfl) (show 20 < max 2 42 from by decide) (by kernel_rfl) (by kernel_rfl) _ _ _ _ _ μ3 _ (any17 U _ _ [] _ _ J (Nat.le_refl _)) hwf3 st3.rel (((hg.step st1).step st2).step st3) t3 fun ex tm4 hp4 μ4 a4 w4 q d4 t4 st4 => ?_
  obtain ⟨rfl, seen, hall, J4⟩ := q
  have st : StepOk Try.prog μ ν s.heap s.next w μ4 hp4 (s.next + 1) w4 := (st12.trans st3 (Nat.le_refl _) (Nat.le_succ _)).trans st4 (Nat.le_succ _) (Nat.le_refl _)
  have heq : ∀ k, k ≠ s.next → s'.heap.get k = hp4.get k := fun k hk => by
    rw [U.res k, if_neg hk]
    by_cases hb : k ∈ bs
    · rw [if_pos hb]
      obtain ⟨e, he, hv⟩ := (blksOf_mem U.blks k).1 hb
      exact (J4.one e he (hall e he) k hv).symm
    · rw [if_neg hb]
      exact (J4.rest k hk fun e he _ q => hb ((blksOf_mem U.blks k).2 ⟨e, he, q⟩)).symm
  refine ⟨d4.trans (d2.trans d1), .tuple #[], by kernel_rfl, .tuple #[], rfl, μ4, .tuple .nil, ?_⟩
  rw [U.nx]
  refine st.weak (fun k o hk => ?_) fun k c hk => ?_
  · have hkn : k ≠ s.next := fun q => by rw [U.res k, if_pos q] at hk; cases hk
    rw [← heq k hkn]; exact hk
  · exact heq k fun q => by rw [q, hfree] at hk; cases hk
end
noncomputable section
theorem clrc_cell {conn : Int} {c : List V} (h : c.all V.isCell = true) : (clrc conn c).all V.isCell = true := by
  unfold clrc
  split
  · split
    · simp only [List.all_cons, List.all_nil, Bool.and_true, Bool.and_eq_true] at h ⊢
      exact ⟨h.1, h.2.1, h.2.2.1, h.2.2.2.1, rfl, rfl, rfl, rfl⟩
    · exact h
  · exact h
theorem unb1_go {conn : Int} {b : Nat} {s : St} {c : List V} {e : TypeId} {p : Bool} (g : s.heap.get b = some (.cells c e p)) (hok : okc c = true) (hc : c.all V.isCell = true) : ∃ s' lg, unb1 conn b s = .ok () s' ∧ s'.log = lg ++ s.log ∧ ∀ e ∈ lg, e.isW = true → blkOf e = b := by
  obtain ⟨l1, l2⟩ := clrc_len (conn := conn) hok
  unfold unb1
  have e1 : blk b s = .ok (c.length, e, p) { s with log := .rdd b :: s.log } := by unfold blk; simp only [g]
  rw [bnd_eq e1]
  have hn : Nat.beq c.length 8 = true := by rw [l2]; rfl
  simp only [hn, cond_true]
  have hsub : sub c 0 8 = c := by unfold sub; rw [List.drop_zero, ← l2, List.take_length]
  have e2 : ld b 0 8 { s with log := .rdd b :: s.log } = .ok c { s with log := .rd b 0 8 :: .rdd b :: s.log } := by
    unfold ld
    simp only [g]
    have : Nat.ble (0 + 8) c.length = true := by rw [l2]; rfl
    rw [this, hsub]; rfl
  rw [bnd_eq e2]
  simp only [hok, cond_true]
  have e3 : (Nat.ble (0 + (clrc conn c).length) c.length && (clrc conn c).all V.isCell) = true := by
    rw [l1, l2, clrc_cell hc]; rfl
  unfold Lx.stc
  simp only [g, e3, cond_true]
  refine ⟨_, [.wr b 0 (clrc conn c).length, .rd b 0 8, .rdd b], rfl, rfl, fun e he hw => ?_⟩
  simp only [List.mem_cons, List.not_mem_nil, or_false] at he
  rcases he with rfl | rfl | rfl
  · rfl
  · cases hw
  · cases hw
theorem unbA_go {conn : Int} : ∀ {l : List Nat} {s : St}, l.Nodup → (∀ b ∈ l, ∃ c e p, s.heap.get b = some (.cells c e p) ∧ okc c = true ∧ c.all V.isCell = true) → ∃ s' lg, unbA conn l s = .ok () s' ∧ s'.log = lg ++ s.log ∧ ∀ e ∈ lg, e.isW = true → blkOf e ∈ l
  | [], s, _, _ => ⟨s, [], rfl, rfl, fun e he => by cases he⟩
  | b :: l, s, hn, h => by
    rw [List.nodup_cons] at hn
    obtain ⟨c, e, p, g, hok, hc⟩ := h b (by simp)
    obtain ⟨s1, lg1, h1, h2, h3⟩ := unb1_go (conn := conn) g hok hc
    obtain ⟨_, _, _, _, _, _, hk⟩ := unb1_ok h1
    obtain ⟨s2, lg2, i1, i2, i3⟩ := unbA_go (conn := conn) (l := l) (s := s1) hn.2 fun b' hb' => by
      rw [hk b', if_neg (by intro q; rw [q] at hb'; exact hn.1 hb')]
      exact h b' (by simp [hb'])
    refine ⟨s2, lg2 ++ lg1, by show Lx.bnd (unb1 conn b) (fun _ => unbA conn l) s = _; rw [bnd_eq h1]; exact i1, by rw [i2, h2, List.append_assoc], fun e he hw => ?_⟩
    rcases List.mem_append.1 he with q | q
    · exact List.mem_cons_of_mem _ (i3 e q hw)
    · rw [h3 e q hw]; exact List.mem_cons_self
theorem blksOf_map (l : List EN) : blksOf (l.map EN.me) = some (l.map EN.blk) := by
  induction l with
  | nil => rfl
  | cons e l ih =>
    rw [List.map_cons, List.map_cons]
    unfold blksOf
    rw [ih]
    rfl
def unbS (s : ST) : ST := { s with conn := 0, back := 0, long := False, cur := False }
open Classical in
def unbR (conn : Int) (s : ST) : ST := if s.conn = conn then unbS s else s
def MS.unb (P : MS) (conn : Int) : MS := { P with es := P.es.map fun e => { e with s := unbR conn e.s } }
theorem unbR_id (conn : Int) (s : ST) : (unbR conn s).id = s.id := by unfold unbR unbS; split <;> rfl
theorem unbR_cells (conn : Int) (s : ST) : clrc conn s.cells = (unbR conn s).cells := by
  unfold clrc ST.cells unbR
  simp only
  by_cases h : s.conn = conn
  · rw [if_pos h, if_pos h]
    unfold unbS
    simp only [bo_false]
  · rw [if_neg h, if_neg h]
theorem st_ok (s : ST) : okc s.cells = true ∧ s.cells.all V.isCell = true := ⟨rfl, rfl⟩
structure StdQ (S : Set0) : Prop extends StdP S where
  unb : sums S.exts 17 = some unbM
variable {S : Set0} (hS : StdQ S)
include hS
theorem unbind_spec {D : MD} {P : MS} {h : H} (r : PR D P h) (conn : Int) : callW S.cfg (owns D P) 17 [.ptr D.b 0, .int .i64 conn] h fun _ h' => Stp D P h D (P.unb conn) h' := by
  obtain ⟨a0, a2⟩ := r.apart3
  have hb1 := r.lt.1
  have hb2 := r.lt.2.1
  have hget : ∀ k, ((h.heap.set h.nx (some (.cells [] 0 false))).set h.nx none).get k = if k = h.nx then none else h.get k := fun k => by
    rw [T.get_set, T.get_set]
    by_cases hk : k = h.nx
    · rw [if_pos hk, if_pos hk]
    · rw [if_neg hk, if_neg hk, if_neg hk]; rfl
  obtain ⟨s2, hs2⟩ : ∃ s2 : St, s2 = ⟨(h.heap.set h.nx (some (.cells [] 0 false))).set h.nx none, h.nx + 1, [.rdd D.mb, .rd D.b 0 3, .rdd D.b, .wrd h.nx, .rdd h.nx, .wrd h.nx]⟩ := ⟨_, rfl⟩
  have hcell : ∀ b ∈ P.es.map EN.blk, ∃ c e p, s2.heap.get b = some (.cells c e p) ∧ okc c = true ∧ c.all V.isCell = true := fun b hb => by
    obtain ⟨e, he, rfl⟩ := List.mem_map.1 hb
    refine ⟨e.s.cells, 31, false, ?_, (st_ok e.s).1, (st_ok e.s).2⟩
    rw [hs2]
    show ((h.heap.set _ _).set _ _).get _ = _
    rw [hget, if_neg (by have := r.lt.2.2 e he; omega)]
    exact r.ent e he
  obtain ⟨s3, lg, i1, i2, i3⟩ := unbA_go (conn := conn) r.cc hcell
  have hgo : unbM [.ptr D.b 0, .int .i64 conn] h.st = .ok (.tuple []) s3 := by
    have e1 : alloc (.cells [] 0 false) h.st = .ok h.nx ⟨h.heap.set h.nx (some (.cells [] 0 false)), h.nx + 1, [.wrd h.nx]⟩ := rfl
    have e2 : kill h.nx ⟨h.heap.set h.nx (some (.cells [] 0 false)), h.nx + 1, [.wrd h.nx]⟩ = .ok () ⟨(h.heap.set h.nx (some (.cells [] 0 false))).set h.nx none, h.nx + 1, [.wrd h.nx, .rdd h.nx, .wrd h.nx]⟩ := by
      unfold kill
      simp only [T.get_set, if_pos]
    have gD : ((h.heap.set h.nx (some (.cells [] 0 false))).set h.nx none).get D.b = some (.cells (mcells D P) 55 false) := by rw [hget, if_neg (by omega)]; exact r.obj
    have gM : ((h.heap.set h.nx (some (.cells [] 0 false))).set h.nx none).get D.mb = some (.map (P.es.map EN.me) D.ck) := by rw [hget, if_neg (by omega)]; exact r.map
    have e3 : ∀ lg, blk D.b ⟨(h.heap.set h.nx (some (.cells [] 0 false))).set h.nx none, h.nx + 1, lg⟩ = .ok (3, 55, false) ⟨(h.heap.set h.nx (some (.cells [] 0 false))).set h.nx none, h.nx + 1, .rdd D.b :: lg⟩ := fun lg => by
      unfold blk
      simp only [gD]
      rfl
    have e4 : ∀ lg, ld D.b 0 3 ⟨(h.heap.set h.nx (some (.cells [] 0 false))).set h.nx none, h.nx + 1, lg⟩ = .ok (mcells D P) ⟨(h.heap.set h.nx (some (.cells [] 0 false))).set h.nx none, h.nx + 1, .rd D.b 0 3 :: lg⟩ := fun lg => by
      unfold ld
      simp only [gD]
      rfl
    have e5 : ∀ lg, getO D.mb ⟨(h.heap.set h.nx (some (.cells [] 0 false))).set h.nx none, h.nx + 1, lg⟩ = .ok (.map (P.es.map EN.me) D.ck) ⟨(h.heap.set h.nx (some (.cells [] 0 false))).set h.nx none, h.nx + 1, .rdd D.mb :: lg⟩ := fun lg => by
      unfold getO
      simp only [gM]
      rfl
    unfold unbM
    simp only
    rw [bnd_eq e1, bnd_eq e2, bnd_eq (e3 _)]
    simp only [show Nat.beq 3 3 = true from rfl, cond_true]
    rw [bnd_eq (e4 _)]
    unfold unbM1 mcells
    rw [bo_true]
    simp only
    rw [bnd_eq (e5 _)]
    unfold unbM2
    have hbo : bornsOk (P.es.map EN.me) D.ck = true := by
      unfold bornsOk
      rw [Bool.and_eq_true]
      refine ⟨List.all_eq_true.2 fun x hx => ?_, ?_⟩
      · obtain ⟨e, he, rfl⟩ := List.mem_map.1 hx
        exact blt_iff.2 (r.stamps e he)
      · rw [distN_nodup, List.map_map]
        exact r.apart
    have hdi : distN (P.es.map EN.blk) = true := distN_nodup.2 r.cc
    simp only [hbo, cond_true, blksOf_map, hdi]
    rw [← hs2, bnd_eq i1]
    rfl
  obtain ⟨m, conn', r0, es, clock, bs, q1, q2, U⟩ := unbM_ok hgo
  cases q1
  have hg : h.st.heap = h.heap := rfl
  have hgn : h.st.next = h.nx := rfl
  obtain ⟨v1, ty, fl, ho⟩ := U.obj
  have ho' : h.get D.b = some (.cells [.bool true, v1, .map r0] ty fl) := ho
  rw [r.obj] at ho'
  unfold mcells at ho'
  rw [bo_true] at ho'
  cases ho'
  have hm' : h.get D.mb = some (.map es clock) := U.map
  rw [r.map] at hm'
  cases hm'
  have hbs := U.blks
  rw [blksOf_map] at hbs
  cases hbs
  have hnx : s3.next = h.nx + 1 := U.nx
  have hres : ∀ k, s3.heap.get k = if k = h.nx then none else if k ∈ P.es.map EN.blk then clr conn (h.get k) else h.get k := U.res
  refine callW_sum (s := s3) (v := .tuple []) hS.unb (nice_unbM _) hgo (fun e he hw => ?_) ?_
  · rw [i2] at he
    rcases List.mem_append.1 he with q | q
    · obtain ⟨en, hen, hb⟩ := List.mem_map.1 (i3 e q hw)
      exact .inr (.inr (.inr ⟨en, hen, hb⟩))
    · rw [hs2] at q
      simp only [List.mem_cons, List.not_mem_nil, or_false] at q
      rcases q with rfl | rfl | rfl | rfl | rfl | rfl
      · cases hw
      · cases hw
      · cases hw
      · exact .inl (Nat.le_refl _)
      · cases hw
      · exact .inl (Nat.le_refl _)
  · have g3 : ∀ k, (ofSt s3).get k = s3.heap.get k := fun _ => rfl
    have hlt : ∀ k, owns D P k → k ≠ h.nx := fun k q => by have := owns_lt r q; omega
    have nb1 : D.b ∉ P.es.map EN.blk := fun q => by obtain ⟨e, he, w⟩ := List.mem_map.1 q; exact (a2 e he).1 w
    have nb2 : D.mb ∉ P.es.map EN.blk := fun q => by obtain ⟨e, he, w⟩ := List.mem_map.1 q; exact (a2 e he).2 w
    have m1 : (P.unb conn).es.map EN.blk = P.es.map EN.blk := by unfold MS.unb; simp only [List.map_map]; rfl
    have m2 : (P.unb conn).es.map EN.born = P.es.map EN.born := by unfold MS.unb; simp only [List.map_map]; rfl
    have m3 : (P.unb conn).es.map (fun e => e.s.id) = P.es.map fun e => e.s.id := by
      unfold MS.unb; simp only [List.map_map]
      exact List.map_congr_left fun e _ => unbR_id conn e.s
    have m4 : (P.unb conn).es.map EN.me = P.es.map EN.me := by
      unfold MS.unb; simp only [List.map_map]
      exact List.map_congr_left fun e _ => by unfold EN.me; simp only [Function.comp, unbR_id]
    have mm : ∀ e, e ∈ (P.unb conn).es → ∃ e0 ∈ P.es, e = { e0 with s := unbR conn e0.s } := fun e he => by
      obtain ⟨e0, h0, rfl⟩ := List.mem_map.1 he
      exact ⟨e0, h0, rfl⟩
    refine ⟨⟨?_, ?_, fun e he => ?_, by rw [m1]; exact r.cc, ⟨?_, ?_, fun e he => ?_⟩, fun e he => ?_, by rw [m2]; exact r.apart, by rw [m3]; exact r.rise, ?_, fun e he => ?_⟩, ?_, fun k hk hno => ?_, fun k q => .inl ?_, rfl⟩
    · rw [g3, hres, if_neg (by omega), if_neg nb1]; exact r.obj
    · rw [g3, hres, if_neg (by omega), if_neg nb2, m4]; exact r.map
    · obtain ⟨e0, h0, rfl⟩ := mm e he
      rw [g3, hres, if_neg (hlt e0.blk (.inr (.inr ⟨e0, h0, rfl⟩))), if_pos (List.mem_map.2 ⟨e0, h0, rfl⟩), r.ent e0 h0]
      show some (Ob.cells (clrc conn e0.s.cells) 31 false) = _
      rw [unbR_cells]
    · show D.b < s3.next; omega
    · show D.mb < s3.next; omega
    · obtain ⟨e0, h0, rfl⟩ := mm e he
      have := r.lt.2.2 e0 h0
      show e0.blk < s3.next; omega
    · obtain ⟨e0, h0, rfl⟩ := mm e he
      exact r.stamps e0 h0
    · show (P.es.map _).length ≤ 1000; rw [List.length_map]; exact r.few
    · obtain ⟨e0, h0, rfl⟩ := mm e he
      show (Lit.int .u32 (unbR conn e0.s).id).wf = true
      rw [unbR_id]; exact r.wf e0 h0
    · show h.nx ≤ s3.next; omega
    · rw [g3, hres, if_neg (by omega), if_neg fun q => by
        obtain ⟨e, he, w⟩ := List.mem_map.1 q
        exact hno (.inr (.inr ⟨e, he, w⟩))]
    · rcases q with q | q | ⟨e, he, q⟩
      · exact .inl q
      · exact .inr (.inl q)
      · obtain ⟨e0, h0, rfl⟩ := mm e he
        exact .inr (.inr ⟨e0, h0, q⟩)
theorem unb_pl (P : MS) (conn : Int) : (P.unb conn).pl = ⟨P.last, P.pl.l.map (unbR conn)⟩ := by
  unfold MS.pl MS.unb
  simp only [List.map_map]
  rfl
end
noncomputable section
structure ACT where
  kd : Int
  s : ST
  id : Int
  n : Int
  back : Int
  on : Prop
def ACT.cells (a : ACT) : List V := [.int .i64 a.kd, .int .u32 a.s.id, .str a.s.text, .int .u16 a.s.pa, .int .u16 a.s.co, .int .i64 a.s.conn, .int .u32 a.s.back, bo a.s.long, bo a.s.cur, .int .u32 a.id, .int .i64 a.n, .int .u32 a.back, bo a.on]
def acells (l : List ACT) : List V := l.flatMap ACT.cells
theorem acells_len (l : List ACT) : (acells l).length = l.length * 13 := by
  induction l with
  | nil => rfl
  | cons w l ih =>
    show (ACT.cells w ++ acells l).length = _
    rw [List.length_append, ih]
    show 13 + _ = (l.length + 1) * 13
    omega
theorem acells_drop : ∀ (l : List ACT) (i : Nat), (acells l).drop (i * 13) = acells (l.drop i)
  | l, 0 => by simp
  | [], i + 1 => by simp [acells]
  | w :: l, i + 1 => by
    have ih := acells_drop l i
    rw [show (i + 1) * 13 = 13 + i * 13 by omega, List.drop_succ_cons, ← ih, show acells (w :: l) = w.cells ++ acells l from rfl, ← List.drop_drop]
    rfl
theorem acells_at {l : List ACT} {i : Nat} (hi : i < l.length) : ((acells l).drop (i * 13)).take 13 = l[i].cells := by
  rw [acells_drop, List.drop_eq_getElem_cons hi]
  rfl
theorem acells_text {l : List ACT} {i : Nat} (hi : i < l.length) : (acells l)[i * 13 + 1 + 1]? = some (.str l[i].s.text) := by
  have h := congrArg (fun l : List V => l[2]?) (acells_at hi)
  unfold ACT.cells at h
  simp only [List.getElem?_take, List.getElem?_drop] at h
  exact h
def ARow (h : H) (lv : V) (l : List ACT) : Prop := (lv = .nilslice ∧ l = []) ∨ ∃ b m, lv = .slice b 0 l.length m ∧ b < h.nx ∧ h.get b = some (.ro (acells l))
theorem ARow.len {h : H} {lv : V} {l : List ACT} (ha : ARow h lv l) : lenO (some (.slice 33)) lv = some (.int .i64 l.length) := by
  rcases ha with ⟨rfl, rfl⟩ | ⟨b, m, rfl, _⟩ <;> rfl
theorem ARow.ext {h h' : H} {lv : V} {l : List ACT} (ha : ARow h lv l) (hx : Ext h h') : ARow h' lv l := by
  rcases ha with h1 | ⟨b, m, rfl, hb, hg⟩
  · exact .inl h1
  · exact .inr ⟨b, m, rfl, Nat.lt_of_lt_of_le hb hx.1, by rw [hx.2 _ hb]; exact hg⟩
theorem ARow.opened {h : H} {lv : V} {l : List ACT} (ha : ARow h lv l) (h0 : 0 < l.length) : ∃ b m, lv = .slice b 0 l.length m ∧ b < h.nx ∧ h.get b = some (.ro (acells l)) := by
  rcases ha with ⟨_, rfl⟩ | h1
  · cases h0
  · exact h1
def smallP (l : List ACT) : Prop := (∀ a ∈ l, a.s.text.length ≤ 1000) ∧ l.length ≤ 600
def takenP (G : List ST) (conn back : Int) : Prop := back ≠ 0 ∧ ∃ g ∈ G, g.conn = conn ∧ g.back = back
def SmI (l : List ACT) (lv : V) (h0 : H) (m : Nat) (env : Env) (h' : H) : Prop := ∃ j : Nat, m = l.length - j ∧ j ≤ l.length ∧ env 0 = lv ∧ env 3 = .int .i64 j ∧ h' = h0 ∧ ∀ i (hi : i < l.length), i < j → l[i].s.text.length ≤ 1000
variable {S : Set0} (hS : StdP S)
include hS
theorem pick_spec (n : Int) (h : H) : Exact S.cfg 10 [.int .i64 n, .int .i64 9] h (.int .i64 (n % 9)) := by
  refine into Try.f10 _ Try.func10 (hS.ownP _ (by decide)) rfl rfl (by kernel_rfl) (by kernel_rfl) ?_
  have hz : ¬ (9 : Int) = 0 := by decide
  have ht := Int.tmod_eq_emod (a := n) (b := 9)
  have h0 : 0 ≤ n % 9 ∧ n % 9 < 9 := ⟨Int.emod_nonneg _ (by decide), Int.emod_lt_of_pos _ (by decide)⟩
  by_cases hn : 0 ≤ n ∨ (9 : Int) ∣ n
  · rw [if_pos hn] at ht
    have ht : n.tmod 9 = n % 9 := by rw [ht]; exact Int.sub_zero _
    have hl : ¬ n % 9 < 0 := by omega
    simp +contextual (disch := first | (simp only [facts, clsL, clsS, clsC, isPtrD]; done) | omega | (simp only [push_nx, put_nx, del_nx]; omega) | (refine Nat.le_antisymm ?_ ?_ <;> simp only [push_nx, put_nx, del_nx] <;> omega) | fail) only [wpy, facts, wpb, cst, wpk, wpl, forall_const, implies_true, false_implies, Int.reduceLE, Int.reduceLT, Nat.reduceLeDiff, UInt8.reduceToNat, ↓reduceIte, Nat.reduceEqDiff, Nat.reduceAdd, reduceCtorEq, Int.reduceToNat, clsL, clsS, clsC, Try.f10, bin_rem, hz, ht, hl]
  · rw [if_neg hn] at ht
    have hl : n % 9 - 9 < 0 := by omega
    have ht' : n.tmod 9 = n % 9 - 9 := ht
    have hw : IntKind.i64.wrap (n % 9 - 9 + 9) = n % 9 := by rw [i64_in _ (by omega)]; omega
    simp +contextual (disch := first | (simp only [facts, clsL, clsS, clsC, isPtrD]; done) | omega | (simp only [push_nx, put_nx, del_nx]; omega) | (refine Nat.le_antisymm ?_ ?_ <;> simp only [push_nx, put_nx, del_nx] <;> omega) | fail) only [wpy, facts, wpb, cst, wpk, wpl, forall_const, implies_true, false_implies, Int.reduceLE, Int.reduceLT, Nat.reduceLeDiff, UInt8.reduceToNat, ↓reduceIte, Nat.reduceEqDiff, Nat.reduceAdd, reduceCtorEq, Int.reduceToNat, clsL, clsS, clsC, Try.f10, bin_rem, hz, ht', hl, hw]
theorem small_spec {h : H} {lv : V} {l : List ACT} (ha : ARow h lv l) (hl : l.length < 2 ^ 63) : Exact S.cfg 8 [lv] h (bo (smallP l)) := by
  refine into Try.f8 _ Try.func8 (hS.ownP _ (by decide)) rfl rfl (by kernel_rfl) (by kernel_rfl) ?_
  have hlen := ha.len
  simp +contextual (disch := first | (simp only [facts, clsL, clsS, clsC, isPtrD]; done) | omega | (simp only [push_nx, put_nx, del_nx]; omega) | (refine Nat.le_antisymm ?_ ?_ <;> simp only [push_nx, put_nx, del_nx] <;> omega) | fail) only [wpy, facts, wpb, cst, wpk, wpl, forall_const, implies_true, false_implies, Int.reduceLE, Int.reduceLT, Nat.reduceLeDiff, UInt8.reduceToNat, ↓reduceIte, Nat.reduceEqDiff, Nat.reduceAdd, reduceCtorEq, Int.reduceToNat, clsL, clsS, clsC, Try.f8]
  refine run_loop (SmI l lv h) l.length ⟨0, by simp +contextual (disch := first | (simp only [facts, clsL, clsS, clsC, isPtrD]; done) | omega | (simp only [push_nx, put_nx, del_nx]; omega) | (refine Nat.le_antisymm ?_ ?_ <;> simp only [push_nx, put_nx, del_nx] <;> omega) | fail) only [wpy, facts, wpb, cst, wpk, wpl, forall_const, implies_true, false_implies, Int.reduceLE, Int.reduceLT, Nat.reduceLeDiff, UInt8.reduceToNat, ↓reduceIte, Nat.reduceEqDiff, Nat.reduceAdd, reduceCtorEq, Int.reduceToNat, clsL, clsS, clsC]; exact ⟨(Nat.sub_zero _).symm, fun i hi q => absurd q (Nat.not_lt_zero _)⟩⟩ ?_
  rintro m env h2 ⟨j, rfl, hj, e0, e3, rfl, hno⟩
  by_cases hlt : j < l.length
  · obtain ⟨rb, rm, rfl, hrb, hrg⟩ := ha.opened (by omega)
    have hal := acells_len l
    have x0 : j * 13 + 13 ≤ (acells l).length := by omega
    have x1 := acells_text hlt
    have hwj : IntKind.i64.wrap ((j : Int) + 1) = ((j + 1 : Nat) : Int) := by rw [i64_in _ (by omega)]; omega
    by_cases ht : (1000 : Int) < l[j].s.text.length
    · simp +contextual (disch := first | (simp only [facts, clsL, clsS, clsC, isPtrD]; done) | omega | (simp only [push_nx, put_nx, del_nx]; omega) | (refine Nat.le_antisymm ?_ ?_ <;> simp only [push_nx, put_nx, del_nx] <;> omega) | fail) only [wpy, facts, wpb, cst, wpk, wpl, forall_const, implies_true, false_implies, Int.reduceLE, Int.reduceLT, Nat.reduceLeDiff, UInt8.reduceToNat, ↓reduceIte, Nat.reduceEqDiff, Nat.reduceAdd, reduceCtorEq, Int.reduceToNat, clsL, clsS, clsC, Try.f8, e0, e3, hlen, hlt, hrg, x1, ht]
      exact congrArg bo (propext ⟨fun q => q.elim, fun q => by have := q.1 _ (List.getElem_mem hlt); omega⟩)
    · simp +contextual (disch := first | (simp only [facts, clsL, clsS, clsC, isPtrD]; done) | omega | (simp only [push_nx, put_nx, del_nx]; omega) | (refine Nat.le_antisymm ?_ ?_ <;> simp only [push_nx, put_nx, del_nx] <;> omega) | fail) only [wpy, facts, wpb, cst, wpk, wpl, forall_const, implies_true, false_implies, Int.reduceLE, Int.reduceLT, Nat.reduceLeDiff, UInt8.reduceToNat, ↓reduceIte, Nat.reduceEqDiff, Nat.reduceAdd, reduceCtorEq, Int.reduceToNat, clsL, clsS, clsC, Try.f8, e0, e3, hlen, hlt, hrg, x1, ht]
      refine ⟨l.length - (j + 1), by omega, j + 1, rfl, hlt, by simp +contextual (disch := first | (simp only [facts, clsL, clsS, clsC, isPtrD]; done) | omega | (simp only [push_nx, put_nx, del_nx]; omega) | (refine Nat.le_antisymm ?_ ?_ <;> simp only [push_nx, put_nx, del_nx] <;> omega) | fail) only [wpy, facts, wpb, cst, wpk, wpl, forall_const, implies_true, false_implies, Int.reduceLE, Int.reduceLT, Nat.reduceLeDiff, UInt8.reduceToNat, ↓reduceIte, Nat.reduceEqDiff, Nat.reduceAdd, reduceCtorEq, Int.reduceToNat, clsL, clsS, clsC, e0], by simp +contextual (disch := first | (simp only [facts, clsL, clsS, clsC, isPtrD]; done) | omega | (simp only [push_nx, put_nx, del_nx]; omega) | (refine Nat.le_antisymm ?_ ?_ <;> simp only [push_nx, put_nx, del_nx] <;> omega) | fail) only [wpy, facts, wpb, cst, wpk, wpl, forall_const, implies_true, false_implies, Int.reduceLE, Int.reduceLT, Nat.reduceLeDiff, UInt8.reduceToNat, ↓reduceIte, Nat.reduceEqDiff, Nat.reduceAdd, reduceCtorEq, Int.reduceToNat, clsL, clsS, clsC, e3, hwj], rfl, fun i hi w => ?_⟩
      by_cases e : i = j
      · subst e; omega
      · exact hno i hi (by omega)
  · simp +contextual (disch := first | (simp only [facts, clsL, clsS, clsC, isPtrD]; done) | omega | (simp only [push_nx, put_nx, del_nx]; omega) | (refine Nat.le_antisymm ?_ ?_ <;> simp only [push_nx, put_nx, del_nx] <;> omega) | fail) only [wpy, facts, wpb, cst, wpk, wpl, forall_const, implies_true, false_implies, Int.reduceLE, Int.reduceLT, Nat.reduceLeDiff, UInt8.reduceToNat, ↓reduceIte, Nat.reduceEqDiff, Nat.reduceAdd, reduceCtorEq, Int.reduceToNat, clsL, clsS, clsC, Try.f8, e0, e3, hlen, hlt]
    refine congrArg bo (propext ⟨fun q => ⟨fun a ha => ?_, by omega⟩, fun q => by have := q.2; omega⟩)
    obtain ⟨i, hi, rfl⟩ := List.mem_iff_getElem.1 ha
    exact hno i hi (by omega)
end
noncomputable section
structure Oi (p : PL) (G : List ST) : Prop where
  pin : ∀ s ∈ p.l, s.pins → s.conn ≠ 0
  pos : ∀ s ∈ p.l, s.conn ≠ 0 → 0 < s.conn ∧ s.back ≠ 0
  giv : ∀ s ∈ p.l, s.conn ≠ 0 → ∃ g ∈ G, g.conn = s.conn ∧ g.back = s.back
  apart : p.l.Pairwise fun s t => s.conn ≠ 0 → ¬ (s.conn = t.conn ∧ s.back = t.back)
variable {S : Set0} (hS : StdP S)
include hS
end
noncomputable section
theorem Oi.sub {p : PL} {G : List ST} (I : Oi p G) {l : List ST} (hs : l.Sublist p.l) (n : Int) : Oi ⟨n, l⟩ G :=
  ⟨fun s h => I.pin s (hs.subset h), fun s h => I.pos s (hs.subset h), fun s h => I.giv s (hs.subset h), I.apart.sublist hs⟩
theorem Oi.add {p : PL} {G : List ST} (I : Oi p G) {s : ST} (ht : ¬ takenP G s.conn s.back) (he : addE p s = 0) : Oi (addP p s) (G ++ [s]) := by
  have hok : ¬ (s.conn < 0 ∨ ¬ (s.conn = 0 ↔ s.back = 0)) := fun q => by unfold addE at he; rw [if_pos q] at he; cases he
  have hc : ¬ s.conn < 0 := fun q => hok (.inl q)
  have hb : s.conn = 0 ↔ s.back = 0 := Classical.not_not.1 fun q => hok (.inr q)
  have e : addP p s = ⟨p.last + 1, p.l ++ [addS p s]⟩ := by unfold addP; rw [if_pos he]
  rw [e]
  have hm : ∀ t, t ∈ p.l ++ [addS p s] → t ∈ p.l ∨ t = addS p s := fun t h => by simpa using h
  refine ⟨fun t h hp => ?_, fun t h hz => ?_, fun t h hz => ?_, ?_⟩
  · rcases hm t h with q | rfl
    · exact I.pin t q hp
    · exact hp.elim (fun q => q.elim) fun q => q.elim
  · rcases hm t h with q | rfl
    · exact I.pos t q hz
    · have hz' : s.conn ≠ 0 := hz
      exact ⟨by show 0 < s.conn; omega, fun q => hz' (hb.2 q)⟩
  · rcases hm t h with q | rfl
    · obtain ⟨g, hg, h2⟩ := I.giv t q hz
      exact ⟨g, List.mem_append_left _ hg, h2⟩
    · exact ⟨s, List.mem_append_right _ (List.mem_singleton.2 rfl), rfl, rfl⟩
  · refine List.pairwise_append.2 ⟨I.apart, List.pairwise_singleton _ _, fun a ha b hb2 hz hq => ?_⟩
    rw [List.mem_singleton.1 hb2] at hq
    obtain ⟨g, hg, h1, h2⟩ := I.giv a ha hz
    refine ht ⟨fun q => ?_, g, hg, h1.trans hq.1, h2.trans hq.2⟩
    exact hz (hq.1.trans (hb.2 q))
theorem Oi.set {p : PL} {G : List ST} (I : Oi p G) {j : Nat} (hj : j < p.l.length) {s : ST} (h1 : s.pins → s.conn ≠ 0) (h2 : s.conn = p.l[j].conn) (h3 : s.back = p.l[j].back) : Oi { p with l := p.l.set j s } G := by
  have hmem : p.l[j] ∈ p.l := List.getElem_mem hj
  have e : (p.l.set j s).map (fun t => (t.conn, t.back)) = p.l.map fun t => (t.conn, t.back) := map_set_same _ hj (by simp only [h2, h3])
  refine ⟨fun t h hp => ?_, fun t h hz => ?_, fun t h hz => ?_, ?_⟩
  · rcases List.mem_or_eq_of_mem_set h with q | rfl
    · exact I.pin t q hp
    · exact h1 hp
  · rcases List.mem_or_eq_of_mem_set h with q | rfl
    · exact I.pos t q hz
    · rw [h2] at hz ⊢; rw [h3]; exact I.pos _ hmem hz
  · rcases List.mem_or_eq_of_mem_set h with q | rfl
    · exact I.giv t q hz
    · rw [h2] at hz ⊢; rw [h3]; exact I.giv _ hmem hz
  · have q : (p.l.map fun t => (t.conn, t.back)).Pairwise fun a b : Int × Int => a.1 ≠ 0 → ¬ (a.1 = b.1 ∧ a.2 = b.2) := List.pairwise_map.2 I.apart
    rw [← e] at q
    exact List.pairwise_map.1 q
theorem Oi.bind {p : PL} {G : List ST} (I : Oi p G) {j : Nat} (hj : j < p.l.length) {conn back : Int} {g : ST} (hg : g.conn = conn ∧ g.back = back) (ht : ¬ takenP G conn back) (he : bindE p.l[j] conn back = 0) : Oi { p with l := p.l.set j (bindS p.l[j] conn back) } (G ++ [g]) := by
  have hok : ¬ (conn < 1 ∨ back = 0) := fun q => by unfold bindE at he; rw [if_pos q] at he; cases he
  have hc : 0 < conn := by have : ¬ conn < 1 := fun q => hok (.inl q); omega
  have hb : back ≠ 0 := fun q => hok (.inr q)
  have hp : ¬ p.l[j].pins := fun q => by unfold bindE at he; rw [if_neg hok, if_pos q] at he; cases he
  have e : bindS p.l[j] conn back = { p.l[j] with conn := conn, back := back } := by unfold bindS; rw [if_pos he]
  rw [e]
  have hno : ∀ t ∈ p.l, t.conn ≠ 0 → ¬ (t.conn = conn ∧ t.back = back) := fun t h hz hq => by
    obtain ⟨g0, hg0, q1, q2⟩ := I.giv t h hz
    exact ht ⟨hb, g0, hg0, q1.trans hq.1, q2.trans hq.2⟩
  refine ⟨fun t h hp2 => ?_, fun t h hz => ?_, fun t h hz => ?_, ?_⟩
  · rcases List.mem_or_eq_of_mem_set h with q | rfl
    · exact I.pin t q hp2
    · exact (hp hp2).elim
  · rcases List.mem_or_eq_of_mem_set h with q | rfl
    · exact I.pos t q hz
    · exact ⟨hc, hb⟩
  · rcases List.mem_or_eq_of_mem_set h with q | rfl
    · obtain ⟨g0, hg0, h2⟩ := I.giv t q hz
      exact ⟨g0, List.mem_append_left _ hg0, h2⟩
    · exact ⟨g, List.mem_append_right _ (List.mem_singleton.2 rfl), hg⟩
  · refine List.pairwise_iff_getElem.2 fun a b ha hb2 hab hz hq => ?_
    have ha' : a < p.l.length := by simpa using ha
    have hb' : b < p.l.length := by simpa using hb2
    by_cases haj : j = a
    · subst haj
      have hbj : j ≠ b := by omega
      simp only [List.getElem_set_self, List.getElem_set_ne hbj] at hq hz
      have hz2 : p.l[b].conn ≠ 0 := fun w => by
        have h1 : conn = p.l[b].conn := hq.1
        omega
      exact hno _ (List.getElem_mem hb') hz2 ⟨hq.1.symm, hq.2.symm⟩
    · by_cases hbj : j = b
      · subst hbj
        simp only [List.getElem_set_self, List.getElem_set_ne haj] at hq hz
        exact hno _ (List.getElem_mem ha') hz hq
      · simp only [List.getElem_set_ne haj, List.getElem_set_ne hbj] at hq hz
        exact List.pairwise_iff_getElem.1 I.apart a b ha' hb' hab hz hq
theorem Oi.more {p : PL} {G : List ST} (I : Oi p G) (g : ST) : Oi p (G ++ [g]) :=
  ⟨I.pin, I.pos, fun s h hz => by obtain ⟨g0, h0, h1⟩ := I.giv s h hz; exact ⟨g0, List.mem_append_left _ h0, h1⟩, I.apart⟩
theorem unbR_cases (conn : Int) (s : ST) : unbR conn s = s ∨ unbR conn s = unbS s := by unfold unbR; split <;> simp
theorem Oi.unb {p : PL} {G : List ST} (I : Oi p G) (conn : Int) : Oi ⟨p.last, p.l.map (unbR conn)⟩ G := by
  have key : ∀ t, t ∈ p.l.map (unbR conn) → ∃ s ∈ p.l, t = unbR conn s := fun t h => by
    obtain ⟨s, hs, rfl⟩ := List.mem_map.1 h
    exact ⟨s, hs, rfl⟩
  have zero : ∀ s : ST, (unbS s).conn = 0 := fun _ => rfl
  have nop : ∀ s : ST, ¬ (unbS s).pins := fun s q => q.elim (fun w => w) fun w => w
  refine ⟨fun t h hp => ?_, fun t h hz => ?_, fun t h hz => ?_, ?_⟩
  · obtain ⟨s, hs, rfl⟩ := key t h
    rcases unbR_cases conn s with q | q
    · rw [q] at hp ⊢; exact I.pin s hs hp
    · rw [q] at hp; exact (nop s hp).elim
  · obtain ⟨s, hs, rfl⟩ := key t h
    rcases unbR_cases conn s with q | q
    · rw [q] at hz ⊢; exact I.pos s hs hz
    · rw [q] at hz; exact (hz (zero s)).elim
  · obtain ⟨s, hs, rfl⟩ := key t h
    rcases unbR_cases conn s with q | q
    · rw [q] at hz ⊢; exact I.giv s hs hz
    · rw [q] at hz; exact (hz (zero s)).elim
  · refine List.pairwise_map.2 (I.apart.imp fun {a b} hab hz hq => ?_)
    rcases unbR_cases conn a with q | q
    · rw [q] at hz hq
      rcases unbR_cases conn b with w | w
      · rw [w] at hq; exact hab hz hq
      · rw [w, zero b] at hq; exact hz hq.1
    · rw [q] at hz; exact hz (zero a)
structure Bd (T : Int) (P : MS) : Prop where
  lo : 0 ≤ P.last
  hi : P.last ≤ T
  ids : ∀ e ∈ P.es, e.s.id ≤ P.last
  few : P.es.length ≤ 256
theorem Bd.of_pl {T : Int} {P : MS} (h1 : 0 ≤ P.pl.last) (h2 : P.pl.last ≤ T) (h3 : ∀ s ∈ P.pl.l, s.id ≤ P.pl.last) (h4 : P.pl.l.length ≤ 256) : Bd T P :=
  ⟨h1, h2, fun e he => h3 e.s (List.mem_map.2 ⟨e, he, rfl⟩), by have : P.pl.l.length = P.es.length := List.length_map ..; omega⟩
theorem id_cases (P : MS) (id : Int) : (∃ j, ∃ hj : j < P.es.length, P.es[j].s.id = id) ∨ ∀ e ∈ P.es, e.s.id ≠ id := by
  rcases Classical.em (∃ e ∈ P.es, e.s.id = id) with ⟨e, he, q⟩ | h
  · obtain ⟨j, hj, rfl⟩ := List.mem_iff_getElem.1 he
    exact .inl ⟨j, hj, q⟩
  · exact .inr fun e he q => h ⟨e, he, q⟩
theorem PR.not33 {D : MD} {P : MS} {h : H} (r : PR D P h) {k : Nat} (hk : (∃ c, h.get k = some (.cells c 33 false)) ∨ (∃ c, h.get k = some (.ro c)) ∨ ∃ c, h.get k = some (.cells c 31 true)) : ¬ owns D P k := fun q => by
  rcases q with rfl | rfl | ⟨e, he, rfl⟩
  · rcases hk with ⟨c, g⟩ | ⟨c, g⟩ | ⟨c, g⟩ <;> (rw [r.obj] at g; simp at g)
  · rcases hk with ⟨c, g⟩ | ⟨c, g⟩ | ⟨c, g⟩ <;> (rw [r.map] at g; simp at g)
  · rcases hk with ⟨c, g⟩ | ⟨c, g⟩ | ⟨c, g⟩ <;> (rw [r.ent e he] at g; simp at g)
theorem gv_not {n0 : Nat} {h : H} {gv : V} {G : List ST} {D : MD} {P : MS} (hL : Lst n0 h gv (stc G) 31 8) (r : PR D P h) {k o n m : Nat} (q : gv = .slice k o n m) : n0 ≤ k ∧ k < h.nx ∧ ¬ owns D P k := by
  have hn := stc_len G
  rcases hL with (⟨h0, _⟩ | ⟨b, n', h1, h2, h3, _, h5, _⟩) | ⟨hw, b, h1, h2, h3, h5⟩
  · rw [h0] at q; cases q
  · rw [h3] at q; cases q; exact ⟨h1, h2, r.not33 (.inr (.inr ⟨_, h5⟩))⟩
  · rw [h3] at q; cases q
    refine ⟨h1, h2, fun w => ?_⟩
    rcases w with rfl | rfl | ⟨e, he, rfl⟩
    · rw [r.obj] at h5; simp at h5
    · rw [r.map] at h5; simp at h5
    · rw [r.ent e he] at h5; unfold ST.cells at h5; simp at h5
theorem Bd.up {i : Nat} {P : MS} (b : Bd (i : Int) P) : Bd ((i + 1 : Nat) : Int) P := ⟨b.lo, by have := b.hi; omega, b.ids, b.few⟩
theorem Bd.setj {i : Nat} {P : MS} (b : Bd (i : Int) P) {j : Nat} (hj : j < P.es.length) {s : ST} (hid : s.id = P.es[j].s.id) : Bd ((i + 1 : Nat) : Int) (P.set j P.es[j] s) :=
  ⟨b.lo, by have := b.hi; show P.last ≤ _; omega, fun e he => by
    rcases MS.set_mem hj he with rfl | q
    · show s.id ≤ P.last
      rw [hid]; exact b.ids _ (List.getElem_mem hj)
    · exact b.ids e q, by show (P.es.set _ _).length ≤ _; rw [List.length_set]; exact b.few⟩
theorem bindS_id (s : ST) (c b : Int) : (bindS s c b).id = s.id := by unfold bindS; split <;> rfl
theorem longS_id (s : ST) (on : Prop) : (longS s on).id = s.id := by unfold longS; split <;> rfl
theorem curS_id (s : ST) (on : Prop) : (curS s on).id = s.id := by unfold curS; split <;> rfl
theorem pl_get {P : MS} {j : Nat} (hj : j < P.es.length) (hj' : j < P.pl.l.length) : P.pl.l[j] = P.es[j].s := by simp [MS.pl]
end
end Go.Proofs.Ytcccbbgjmjnagaa
