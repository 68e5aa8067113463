/-
  How the machine's values and blocks stand to the model's.
-/
import Derived.Test.YtfgnpegkcmkeaaaGreatDoorLxC
import Derived.Laws.Sem
import Derived.Laws.Cells
set_option linter.unusedSimpArgs false
set_option linter.unusedVariables false
namespace Go.Lx
noncomputable section
theorem nbeq_ne {a b : Nat} (h : a ≠ b) : Nat.beq a b = false := by
 cases hb : Nat.beq a b
 ·rfl
 ·exact absurd (Nat.eq_of_beq_eq_true hb) h
theorem T.get_leaf {α : Type} (n : Nat) : (T.leaf : T α).get n = none := rfl
theorem T.get_node {α : Type} (l r : T α) (v : Option α) (n : Nat) :
  (T.node l v r).get n = if n = 0 then v else if n % 2 = 1 then l.get (n / 2) else r.get (n / 2 - 1) := by
 show (Bool.rec (motive := fun _ => Option α) (Bool.rec (motive := fun _ => Option α) (r.get (n / 2 - 1)) (l.get (n / 2)) (Nat.beq (n % 2) 1)) v (Nat.beq n 0)) = _
 by_cases h : n = 0
 ·subst h; rfl
 ·have h0 : Nat.beq n 0 = false := nbeq_ne h
  rw [h0, if_neg h]
  by_cases h1 : n % 2 = 1
  ·have h2 : Nat.beq (n % 2) 1 = true := by rw [h1]; rfl
   rw [h2, if_pos h1]
  ·have h2 : Nat.beq (n % 2) 1 = false := nbeq_ne h1
   rw [h2, if_neg h1]
theorem T.single_succ {α : Type} (f n : Nat) (v : Option α) : T.single (f + 1) n v = if n = 0 then T.node .leaf v .leaf else if n % 2 = 1 then .node (T.single f (n / 2) v) none .leaf else .node .leaf none (T.single f (n / 2 - 1) v) := by
 show (Bool.rec (motive := fun _ => T α) (Bool.rec (motive := fun _ => T α) (.node .leaf none (T.single f (n / 2 - 1) v)) (.node (T.single f (n / 2) v) none .leaf) (Nat.beq (n % 2) 1)) (.node .leaf v .leaf) (Nat.beq n 0)) = _
 by_cases h : n = 0
 ·subst h; rfl
 ·have h0 : Nat.beq n 0 = false := nbeq_ne h
  rw [h0, if_neg h]
  by_cases h1 : n % 2 = 1
  ·have h2 : Nat.beq (n % 2) 1 = true := by rw [h1]; rfl
   rw [h2, if_pos h1]
  ·have h2 : Nat.beq (n % 2) 1 = false := nbeq_ne h1
   rw [h2, if_neg h1]
theorem T.set_node {α : Type} (l r : T α) (w : Option α) (n : Nat) (v : Option α) : (T.node l w r).set n v = if n = 0 then T.node l v r else if n % 2 = 1 then .node (l.set (n / 2) v) w r else .node l w (r.set (n / 2 - 1) v) := by
 show (Bool.rec (motive := fun _ => T α) (Bool.rec (motive := fun _ => T α) (.node l w (r.set (n / 2 - 1) v)) (.node (l.set (n / 2) v) w r) (Nat.beq (n % 2) 1)) (.node l v r) (Nat.beq n 0)) = _
 by_cases h : n = 0
 ·subst h; rfl
 ·have h0 : Nat.beq n 0 = false := nbeq_ne h
  rw [h0, if_neg h]
  by_cases h1 : n % 2 = 1
  ·have h2 : Nat.beq (n % 2) 1 = true := by rw [h1]; rfl
   rw [h2, if_pos h1]
  ·have h2 : Nat.beq (n % 2) 1 = false := nbeq_ne h1
   rw [h2, if_neg h1]
theorem T.get_single {α : Type} (v : Option α) : ∀ (f n m : Nat), n < f → (T.single f n v).get m = if m = n then v else none
 | 0, n, m, h => by omega
 | f + 1, n, m, h => by
   rw [T.single_succ]
   by_cases h0 : n = 0
   ·subst h0
    rw [if_pos rfl]
    simp only [T.get_node, T.get_leaf]
    by_cases hm : m = 0 <;> simp [hm]
   ·rw [if_neg h0]
    by_cases h1 : n % 2 = 1
    ·rw [if_pos h1]
     simp only [T.get_node, T.get_leaf]
     rw [T.get_single v f (n / 2) (m / 2) (by omega)]
     by_cases hm : m = n
     ·subst hm; simp [h0, h1]
     ·by_cases hm0 : m = 0
      ·subst hm0; simp [hm]
      ·by_cases hm1 : m % 2 = 1
       ·have : m / 2 ≠ n / 2 := by omega
        simp [hm, hm0, hm1, this]
       ·simp [hm, hm0, hm1]
    ·rw [if_neg h1]
     simp only [T.get_node, T.get_leaf]
     rw [T.get_single v f (n / 2 - 1) (m / 2 - 1) (by omega)]
     by_cases hm : m = n
     ·subst hm; simp [h0, h1]
     ·by_cases hm0 : m = 0
      ·subst hm0; simp [hm]
      ·by_cases hm1 : m % 2 = 1
       ·simp [hm, hm0, hm1]
       ·have : m / 2 - 1 ≠ n / 2 - 1 := by omega
        simp [hm, hm0, hm1, this]
theorem T.get_set {α : Type} (t : T α) : ∀ (n m : Nat) (v : Option α), (t.set n v).get m = if m = n then v else t.get m := by
 induction t with
 | leaf =>
   intro n m v
   show (T.single (n + 1) n v).get m = _
   rw [T.get_single v _ _ _ (by omega), T.get_leaf]
 | node l w r ihl ihr =>
   intro n m v
   rw [T.set_node]
   by_cases h0 : n = 0
   ·subst h0
    rw [if_pos rfl]
    simp only [T.get_node]
    by_cases hm : m = 0 <;> simp [hm]
   ·rw [if_neg h0]
    by_cases h1 : n % 2 = 1
    ·rw [if_pos h1]
     simp only [T.get_node, ihl]
     by_cases hm : m = n
     ·subst hm; simp [h0, h1]
     ·by_cases hm0 : m = 0
      ·subst hm0; simp [hm]
      ·by_cases hm1 : m % 2 = 1
       ·have : m / 2 ≠ n / 2 := by omega
        simp [hm, hm0, hm1, this]
       ·simp [hm, hm0, hm1]
    ·rw [if_neg h1]
     simp only [T.get_node, ihr]
     by_cases hm : m = n
     ·subst hm; simp [h0, h1]
     ·by_cases hm0 : m = 0
      ·subst hm0; simp [hm]
      ·by_cases hm1 : m % 2 = 1
       ·simp [hm, hm0, hm1]
       ·have : m / 2 - 1 ≠ n / 2 - 1 := by omega
        simp [hm, hm0, hm1, this]
theorem T.get_set_same {α : Type} (t : T α) (n : Nat) (v : Option α) : (t.set n v).get n = v := by rw [T.get_set, if_pos rfl]
theorem T.get_set_ne {α : Type} (t : T α) {n m : Nat} (v : Option α) (h : m ≠ n) : (t.set n v).get m = t.get m := by rw [T.get_set, if_neg h]
structure Pl where
 blk : Nat
 off : Nat
 opn : Bool
 esz : Nat
 lim : Nat
abbrev Mu := Nat → Option Pl
def SlRel (p : Pl) (o cap cap' : Nat) (a : Addr) : Prop :=
 (cap = 0 ∧ cap' = 0) ∨ (a = ⟨p.blk, p.off + o, none⟩ ∧ (cap' = cap ∨ (p.opn = true ∧ cap ≤ cap' ∧ p.off + o + cap' * p.esz ≤ p.lim)))
mutual
inductive VRel (μ : Mu) (ν : Nat → Value) : V → Value → Prop
 | bool (b : Bool) : VRel μ ν (.bool b) (.bool b)
 | int (k : IntKind) (n : Int) : VRel μ ν (.int k n) (.int k n)
 | str (b : ByteArray) : VRel μ ν (.str (toNats b)) (.string b)
 | ptr {k o : Nat} {p : Pl} (h : μ k = some p) : VRel μ ν (.ptr k o) (.pointer (some ⟨p.blk, p.off + o, none⟩))
 | nilptr : VRel μ ν .nilptr (.pointer none)
 | slice {k o len cap cap' : Nat} {p : Pl} {a : Addr} (h : μ k = some p) (hl : len ≤ cap) (hs : SlRel p o cap cap' a) : VRel μ ν (.slice k o len cap) (.slice (some a) len cap')
 | nilslice : VRel μ ν .nilslice (.slice none 0 0)
 | map {r : Nat} {p : Pl} (h : μ r = some p) : VRel μ ν (.map r) (.map (some p.blk))
 | nilmap : VRel μ ν .nilmap (.map none)
 | func {f : FuncId} {xs ys : List V} {xs' ys' : List Value} (hx : VsRel μ ν xs xs') (hy : VsRel μ ν ys ys') : VRel μ ν (.func f xs ys) (.func (.func f) ⟨xs'⟩ ⟨ys'⟩)
 | nilfunc : VRel μ ν .nilfunc .nilFunc
 | iface {t : TypeId} {v : V} {v' : Value} (h : VRel μ ν v v') : VRel μ ν (.iface t v) (.iface t v')
 | nilIface : VRel μ ν .nilIface .nilIface
 | agg {cs : List V} {cs' : List Value} (h : VsRel μ ν cs cs') : VRel μ ν (.agg cs) (.agg ⟨cs'⟩)
 | tuple {cs : List V} {cs' : List Value} (h : VsRel μ ν cs cs') : VRel μ ν (.tuple cs) (.tuple ⟨cs'⟩)
 | sym (i : Nat) (h : (ν i).oneCell' = true) : VRel μ ν (.sym i) (ν i)
 | gptr (g o : Nat) : VRel μ ν (.gptr g o) (.pointer (some ⟨g, o, none⟩))
inductive VsRel (μ : Mu) (ν : Nat → Value) : List V → List Value → Prop
 | nil : VsRel μ ν [] []
 | cons {v : V} {r : Value} {vs : List V} {rs : List Value} (h : VRel μ ν v r) (hs : VsRel μ ν vs rs) : VsRel μ ν (v :: vs) (r :: rs)
end
def Mu.le (μ μ' : Mu) : Prop := ∀ k p, μ k = some p → μ' k = some p
theorem Mu.le_refl (μ : Mu) : μ.le μ := fun _ _ h => h
theorem Mu.le_trans {a b c : Mu} (h : Mu.le a b) (h' : Mu.le b c) : Mu.le a c := fun k p hk => h' k p (h k p hk)
mutual
theorem VRel.mono {μ μ' : Mu} {ν : Nat → Value} (hm : Mu.le μ μ') : ∀ {v : V} {r : Value}, VRel μ ν v r → VRel μ' ν v r
 | _, _, .bool b => .bool b
 | _, _, .int k n => .int k n
 | _, _, .str b => .str b
 | _, _, .ptr h => .ptr (hm _ _ h)
 | _, _, .nilptr => .nilptr
 | _, _, .slice h hl hs => .slice (hm _ _ h) hl hs
 | _, _, .nilslice => .nilslice
 | _, _, .map h => .map (hm _ _ h)
 | _, _, .nilmap => .nilmap
 | _, _, .func hx hy => .func (VsRel.mono hm hx) (VsRel.mono hm hy)
 | _, _, .nilfunc => .nilfunc
 | _, _, .iface h => .iface (VRel.mono hm h)
 | _, _, .nilIface => .nilIface
 | _, _, .agg h => .agg (VsRel.mono hm h)
 | _, _, .tuple h => .tuple (VsRel.mono hm h)
 | _, _, .sym i h => .sym i h
 | _, _, .gptr g o => .gptr g o
theorem VsRel.mono {μ μ' : Mu} {ν : Nat → Value} (hm : Mu.le μ μ') : ∀ {vs : List V} {rs : List Value}, VsRel μ ν vs rs → VsRel μ' ν vs rs
 | _, _, .nil => .nil
 | _, _, .cons h hs => .cons (VRel.mono hm h) (VsRel.mono hm hs)
end
section
variable {μ : Mu} {ν : Nat → Value}
theorem VsRel.length {vs : List V} {rs : List Value} (h : VsRel μ ν vs rs) : vs.length = rs.length := by
 induction vs generalizing rs with
 | nil => cases h; rfl
 | cons v vs ih => cases h with | cons h hs => simp [ih hs]
theorem VsRel.get {vs : List V} {rs : List Value} (h : VsRel μ ν vs rs) : ∀ {i : Nat} {v : V}, vs[i]? = some v → ∃ r, rs[i]? = some r ∧ VRel μ ν v r := by
 induction vs generalizing rs with
 | nil => intro i v hv; simp at hv
 | cons x vs ih =>
   cases h with
   | cons h hs =>
     intro i v hv
     cases i with
     | zero => simp at hv; subst hv; exact ⟨_, by simp, h⟩
     | succ i => simp at hv; obtain ⟨r, hr, hv⟩ := ih hs hv; exact ⟨r, by simpa using hr, hv⟩
theorem VsRel.of_get {vs : List V} : ∀ {rs : List Value}, vs.length = rs.length → (∀ (i : Nat) (v : V), vs[i]? = some v → ∃ r, rs[i]? = some r ∧ VRel μ ν v r) → VsRel μ ν vs rs := by
 induction vs with
 | nil => intro rs hl _; cases rs <;> simp at hl; exact .nil
 | cons v vs ih =>
   intro rs hl h
   cases rs with
   | nil => simp at hl
   | cons r rs =>
     obtain ⟨r', hr, hv⟩ := h 0 v (by simp)
     simp at hr; subst hr
     exact .cons hv (ih (by simpa using hl) fun i x hx => by simpa using h (i + 1) x (by simpa using hx))
theorem VsRel.append {a b : List V} {a' b' : List Value} (h : VsRel μ ν a a') (k : VsRel μ ν b b') : VsRel μ ν (a ++ b) (a' ++ b') := by
 induction a generalizing a' with
 | nil => cases h; exact k
 | cons v a ih => cases h with | cons h hs => exact .cons h (ih hs)
theorem VsRel.drop {vs : List V} {rs : List Value} (h : VsRel μ ν vs rs) : ∀ n, VsRel μ ν (vs.drop n) (rs.drop n) := by
 induction vs generalizing rs with
 | nil => cases h; intro n; simp; exact .nil
 | cons v vs ih =>
   cases h with
   | cons h hs => intro n; cases n with | zero => exact .cons h hs | succ n => simpa using ih hs n
theorem VsRel.take {vs : List V} {rs : List Value} (h : VsRel μ ν vs rs) : ∀ n, VsRel μ ν (vs.take n) (rs.take n) := by
 induction vs generalizing rs with
 | nil => cases h; intro n; simp; exact .nil
 | cons v vs ih =>
   cases h with
   | cons h hs => intro n; cases n with | zero => simp; exact .nil | succ n => simpa using .cons h (ih hs n)
theorem VsRel.sub {vs : List V} {rs : List Value} (h : VsRel μ ν vs rs) (a n : Nat) : VsRel μ ν (Lx.sub vs a n) (Lx.sub rs a n) := (h.drop a).take n
theorem VsRel.put {vs xs : List V} {rs ys : List Value} (h : VsRel μ ν vs rs) (hx : VsRel μ ν xs ys) : ∀ n, VsRel μ ν (listPut vs n xs) (listPut rs n ys) := by
 induction vs generalizing rs xs ys with
 | nil => cases h; intro n; cases hx <;> simp only [listPut] <;> exact .nil
 | cons v vs ih =>
   cases h with
   | cons h hs =>
     intro n
     cases hx with
     | nil => simp only [listPut]; exact .cons h hs
     | cons g gs =>
       cases n with
       | zero => simp only [listPut]; exact .cons g (ih hs gs 0)
       | succ n => simp only [listPut]; exact .cons h (ih hs (.cons g gs) n)
theorem VsRel.snoc {a : List V} {a' : List Value} {v : V} {r : Value} (h : VsRel μ ν a a') (k : VRel μ ν v r) : VsRel μ ν (a ++ [v]) (a' ++ [r]) := h.append (.cons k .nil)
theorem VsRel.isEmpty {vs : List V} {rs : List Value} (h : VsRel μ ν vs rs) : vs.isEmpty = rs.isEmpty := by cases h <;> rfl
theorem VRel.oneCell {v : V} {r : Value} (h : VRel μ ν v r) (hc : v.isCell = true) : r.oneCell' = true := by
 cases h <;> first | rfl | (simp [V.isCell] at hc; done) | assumption
theorem VsRel.oneCells {vs : List V} {rs : List Value} (h : VsRel μ ν vs rs) (hc : vs.all V.isCell = true) : ∀ r ∈ rs, r.oneCell' = true := by
 induction vs generalizing rs with
 | nil => cases h; simp
 | cons v vs ih =>
   cases h with
   | cons h hs =>
     simp only [List.all_cons, Bool.and_eq_true] at hc
     intro r hr
     cases hr with
     | head => exact h.oneCell hc.1
     | tail _ hr => exact ih hs hc.2 r hr
theorem VRel.cells {v : V} {r : Value} (h : VRel μ ν v r) : VsRel μ ν v.cells r.cells.toList := by
 cases h with
 | agg h => exact h
 | sym i h =>
   have : (ν i).cells = #[ν i] := by cases hv : ν i <;> simp [hv, Value.oneCell', Value.cells] at h ⊢
   rw [this]; exact .cons (.sym i h) .nil
 | tuple h => exact .cons (.tuple h) .nil
 | bool b => exact .cons (.bool b) .nil
 | int k n => exact .cons (.int k n) .nil
 | str b => exact .cons (.str b) .nil
 | ptr h => exact .cons (.ptr h) .nil
 | nilptr => exact .cons .nilptr .nil
 | slice h hl hs => exact .cons (.slice h hl hs) .nil
 | nilslice => exact .cons .nilslice .nil
 | map h => exact .cons (.map h) .nil
 | nilmap => exact .cons .nilmap .nil
 | func hx hy => exact .cons (.func hx hy) .nil
 | nilfunc => exact .cons .nilfunc .nil
 | iface h => exact .cons (.iface h) .nil
 | nilIface => exact .cons .nilIface .nil
 | gptr g o => exact .cons (.gptr g o) .nil
theorem VRel.undef : VRel μ ν undefV undef := .tuple .nil
end
inductive ESRel (μ : Mu) (ν : Nat → Value) : List ME → List MapEntry → Prop
 | nil : ESRel μ ν [] []
 | cons {k v : V} {k' v' : Value} {b : Nat} {es : List ME} {es' : List MapEntry} (hk : VRel μ ν k k') (hv : VRel μ ν v v') (h : ESRel μ ν es es') : ESRel μ ν (⟨k, v, b⟩ :: es) (⟨k', v', b⟩ :: es')
theorem ESRel.mono {μ μ' : Mu} {ν : Nat → Value} (hm : Mu.le μ μ') {es : List ME} {es' : List MapEntry} (h : ESRel μ ν es es') : ESRel μ' ν es es' := by
 induction h with
 | nil => exact .nil
 | cons hk hv _ ih => exact .cons (hk.mono hm) (hv.mono hm) ih
def ORel (P : Program) (μ : Mu) (ν : Nat → Value) (p : Pl) (H : Array Obj) : Ob → Prop
 | .cells c e opn => p.opn = opn ∧ (opn = true → szT P e = some p.esz) ∧ ∃ rc frz, H[p.blk]? = some (.cells rc e frz) ∧ (opn = false → p.off = 0) ∧ p.off + c.length ≤ p.lim ∧ p.lim ≤ rc.size ∧
    (∀ i, i < p.lim → ¬ (frz.1 ≤ i ∧ i < frz.2)) ∧ ∀ i v, c[i]? = some v → ∃ r, rc[p.off + i]? = some r ∧ VRel μ ν v r
 | .map es clock => ∃ res, H[p.blk]? = some (.map ⟨res⟩ clock) ∧ ESRel μ ν es res
 | .siter s pos => p.off = 0 ∧ ∃ b, toNats b = s ∧ H[p.blk]? = some (.stringIter b pos)
 | .ro c => p.opn = false ∧ ∃ rc e frz, H[p.blk]? = some (.cells rc e frz) ∧ ∀ i v, c[i]? = some v → ∃ r, rc[p.off + i]? = some r ∧ VRel μ ν v r
 | .miter none since seen last => p.off = 0 ∧ H[p.blk]? = some (.mapIter none since ⟨seen⟩ last)
 | .miter (some m) since seen last => p.off = 0 ∧ ∃ q, μ m = some q ∧ H[p.blk]? = some (.mapIter (some q.blk) since ⟨seen⟩ last)
theorem ORel.mono {P : Program} {μ μ' : Mu} {ν : Nat → Value} {p : Pl} {H H' : Array Obj} {ob : Ob} (hm : Mu.le μ μ') (hH : H'[p.blk]? = H[p.blk]?) (h : ORel P μ ν p H ob) : ORel P μ' ν p H' ob := by
 cases ob with
 | cells c e opn =>
   obtain ⟨h1, h2, rc, frz, h3, hw, h4, h5, h6, h7⟩ := h
   exact ⟨h1, h2, rc, frz, hH.trans h3, hw, h4, h5, h6, fun i v hv => let ⟨r, hr, hv⟩ := h7 i v hv; ⟨r, hr, hv.mono hm⟩⟩
 | map es clock => obtain ⟨res, h1, h2⟩ := h; exact ⟨res, hH.trans h1, h2.mono hm⟩
 | siter s pos => obtain ⟨h0, b, h1, h2⟩ := h; exact ⟨h0, b, h1, hH.trans h2⟩
 | ro c => obtain ⟨h0, rc, e, frz, h1, h2⟩ := h; exact ⟨h0, rc, e, frz, hH.trans h1, fun i v hv => let ⟨r, hr, hv⟩ := h2 i v hv; ⟨r, hr, hv.mono hm⟩⟩
 | miter m since seen last =>
   cases m with
   | none => obtain ⟨h0, h⟩ := h; exact ⟨h0, hH.trans h⟩
   | some m => obtain ⟨h0, q, h1, h2⟩ := h; exact ⟨h0, q, hm _ _ h1, hH.trans h2⟩
theorem ORel.there {P : Program} {μ : Mu} {ν : Nat → Value} {p : Pl} {H : Array Obj} {ob : Ob} (h : ORel P μ ν p H ob) : p.blk < H.size := by
 have key : ∀ {x : Obj}, H[p.blk]? = some x → p.blk < H.size := fun hx => (Array.getElem?_eq_some_iff.1 hx).1
 cases ob with
 | cells c e opn => obtain ⟨_, _, rc, frz, h3, _⟩ := h; exact key h3
 | map es clock => obtain ⟨res, h1, h2⟩ := h; exact key h1
 | siter s pos => obtain ⟨_, b, h1, h2⟩ := h; exact key h2
 | ro c => obtain ⟨_, rc, e, frz, h1, h2⟩ := h; exact key h1
 | miter m since seen last =>
   cases m with
   | none => exact key h.2
   | some m => obtain ⟨_, q, h1, h2⟩ := h; exact key h2
structure Rel (P : Program) (μ : Mu) (ν : Nat → Value) (h : T Ob) (H : Array Obj) : Prop where
 ob : ∀ k o, h.get k = some o → ∃ p, μ k = some p ∧ ORel P μ ν p H o
 sep : ∀ k k' o o' p p', h.get k = some o → h.get k' = some o' → k ≠ k' → (o.isRo && o'.isRo) = false → μ k = some p → μ k' = some p' → p.blk ≠ p'.blk
def upd (μ : Mu) (k : Nat) (p : Pl) : Mu := fun j => if j = k then some p else μ j
theorem upd_same (μ : Mu) (k : Nat) (p : Pl) : upd μ k p k = some p := by simp [upd]
theorem upd_ne (μ : Mu) {k j : Nat} (p : Pl) (h : j ≠ k) : upd μ k p j = μ j := by simp [upd, h]
theorem upd_le {μ : Mu} {k : Nat} (p : Pl) (h : μ k = none) : μ.le (upd μ k p) := fun j q hj => by
 have : j ≠ k := fun e => by rw [e, h] at hj; cases hj
 rw [upd_ne _ _ this]; exact hj
structure StepOk (P : Program) (μ : Mu) (ν : Nat → Value) (h : T Ob) (n : Nat) (w : World) (μ' : Mu) (h' : T Ob) (n' : Nat) (w' : World) : Prop where
 le : μ.le μ'
 new : ∀ k, ¬ (n ≤ k ∧ k < n') → μ' k = μ k
 rel : Rel P μ' ν h' w'.heap
 os : w'.os = w.os
 tape : w'.tape = w.tape
 output : w'.output = w.output
 size : w.heap.size ≤ w'.heap.size
 block : ∀ b, b < w.heap.size → (∀ k p, μ k = some p → p.blk ≠ b) → w'.heap[b]? = w.heap[b]?
 newblk : ∀ k p, μ' k = some p → μ k = none → w.heap.size ≤ p.blk ∨ ∃ j q, μ j = some q ∧ q.blk = p.blk
 ro : ∀ k c p, h.get k = some (.ro c) → μ k = some p → h'.get k = some (.ro c) ∧ w'.heap[p.blk]? = w.heap[p.blk]?
theorem StepOk.refl {P : Program} {μ : Mu} {ν : Nat → Value} {h : T Ob} {n : Nat} {w : World} (hr : Rel P μ ν h w.heap) : StepOk P μ ν h n w μ h n w :=
 ⟨Mu.le_refl _, fun _ _ => rfl, hr, rfl, rfl, rfl, Nat.le_refl _, fun _ _ _ => rfl, fun k p h1 h2 => (by rw [h1] at h2; cases h2), fun _ _ _ h1 _ => ⟨h1, rfl⟩⟩
theorem StepOk.trans {P : Program} {μ μ1 μ2 : Mu} {ν : Nat → Value} {h h1 h2 : T Ob} {n n1 n2 : Nat} {w w1 w2 : World}
  (a : StepOk P μ ν h n w μ1 h1 n1 w1) (b : StepOk P μ1 ν h1 n1 w1 μ2 h2 n2 w2) (hn : n ≤ n1) (hn' : n1 ≤ n2) : StepOk P μ ν h n w μ2 h2 n2 w2 where
 le := Mu.le_trans a.le b.le
 new := fun k hk => by rw [b.new k (by omega), a.new k (by omega)]
 rel := b.rel
 os := b.os.trans a.os
 tape := b.tape.trans a.tape
 output := b.output.trans a.output
 size := Nat.le_trans a.size b.size
 block := fun x hx hf => by
  rw [b.block x (Nat.lt_of_lt_of_le hx a.size), a.block x hx hf]
  intro k p hk he
  cases hm : μ k with
  | some q =>
    have := a.le k q hm
    rw [this] at hk; cases hk
    exact hf k _ hm he
  | none =>
    rcases a.newblk k p hk hm with hs | ⟨j, q, hj, hq⟩
    ·omega
    ·exact hf j q hj (hq.trans he)
 newblk := fun k p hk hm => by
  cases h1 : μ1 k with
  | some q =>
    have := b.le k q h1
    rw [this] at hk; cases hk
    exact a.newblk k _ h1 hm
  | none =>
    rcases b.newblk k p hk h1 with hs | ⟨j, q, hj, hq⟩
    ·exact .inl (Nat.le_trans a.size hs)
    ·cases hm' : μ j with
     | some q' =>
       have := a.le j q' hm'
       rw [this] at hj; cases hj
       exact .inr ⟨j, _, hm', hq⟩
     | none =>
       rcases a.newblk j q hj hm' with hs | ⟨i, r, hi, hr⟩
       ·exact .inl (by omega)
       ·exact .inr ⟨i, r, hi, hr.trans hq⟩
 ro := fun k c p h1 hp => by
  obtain ⟨q1, q2⟩ := a.ro k c p h1 hp
  obtain ⟨r1, r2⟩ := b.ro k c p q1 (a.le k p hp)
  exact ⟨r1, r2.trans q2⟩
theorem StepOk.drew {P : Program} {μ μ' : Mu} {ν : Nat → Value} {h h' : T Ob} {n n' : Nat} {w w' : World} (d : Nat)
  (a : StepOk P μ ν h n { w with drawn := d } μ' h' n' w') : StepOk P μ ν h n w μ' h' n' w' :=
 ⟨a.le, a.new, a.rel, a.os, a.tape, a.output, a.size, a.block, a.newblk, a.ro⟩
theorem Rel.alloc {P : Program} {μ : Mu} {ν : Nat → Value} {h : T Ob} {H : Array Obj} (hr : Rel P μ ν h H) {k : Nat} (hk : μ k = none) {pl : Pl} (hb : pl.blk = H.size) {O : Obj} {ob : Ob}
  (ho : ORel P (upd μ k pl) ν pl (H.push O) ob) : Rel P (upd μ k pl) ν (h.set k (some ob)) (H.push O) where
 ob := fun j o hj => by
  rw [T.get_set] at hj
  split at hj
  ·rename_i e; subst e; injection hj with hj; subst hj; exact ⟨pl, upd_same _ _ _, ho⟩
  ·rename_i e
   obtain ⟨p, hp, hor⟩ := hr.ob j o hj
   refine ⟨p, by rw [upd_ne _ _ e]; exact hp, hor.mono (upd_le _ hk) ?_⟩
   have := hor.there
   rw [Array.getElem?_push, if_neg (by omega)]
 sep := fun i j o o' p p' hi hj hne hro hp hp' => by
  rw [T.get_set] at hi hj
  have bound : ∀ a q x, a ≠ k → h.get a = some x → upd μ k pl a = some q → q.blk < H.size := fun a q x ha hx hq => by
   rw [upd_ne _ _ ha] at hq
   obtain ⟨p, hp, hor⟩ := hr.ob a x hx
   rw [hp] at hq; cases hq; exact hor.there
  by_cases ei : i = k
  ·have ej : j ≠ k := fun e => hne (ei.trans e.symm)
   rw [if_neg ej] at hj
   subst ei
   rw [upd_same] at hp; cases hp
   have := bound j p' o' ej hj hp'
   omega
  ·rw [if_neg ei] at hi
   by_cases ej : j = k
   ·subst ej
    rw [upd_same] at hp'; cases hp'
    have := bound i p o ei hi hp
    omega
   ·rw [if_neg ej] at hj
    rw [upd_ne _ _ ei] at hp; rw [upd_ne _ _ ej] at hp'
    exact hr.sep i j o o' p p' hi hj hne hro hp hp'
theorem Rel.setOb {P : Program} {μ : Mu} {ν : Nat → Value} {h : T Ob} {H H' : Array Obj} (hr : Rel P μ ν h H) {k : Nat} {p : Pl} {ob0 ob : Ob} (h0 : h.get k = some ob0) (h0r : ob0.isRo = false) (hp : μ k = some p)
  (ho : ORel P μ ν p H' ob) (hH : ∀ b, b ≠ p.blk → H'[b]? = H[b]?) : Rel P μ ν (h.set k (some ob)) H' where
 ob := fun j o hj => by
  rw [T.get_set] at hj
  split at hj
  ·rename_i e; subst e; injection hj with hj; subst hj; exact ⟨p, hp, ho⟩
  ·rename_i e
   obtain ⟨q, hq, hor⟩ := hr.ob j o hj
   exact ⟨q, hq, hor.mono (Mu.le_refl _) (hH _ (hr.sep j k o ob0 q p hj h0 e (by rw [h0r, Bool.and_false]) hq hp))⟩
 sep := fun i j o o' q q' hi hj hne hro hq hq' => by
  rw [T.get_set] at hi hj
  have there : ∀ a x, (if a = k then some ob else h.get a) = some x → ∃ y, h.get a = some y ∧ (y.isRo = false ∨ y = x) := fun a x hx => by
   by_cases e : a = k
   ·subst e; exact ⟨_, h0, .inl h0r⟩
   ·rw [if_neg e] at hx; exact ⟨_, hx, .inr rfl⟩
  obtain ⟨x, hx, hx2⟩ := there i o hi
  obtain ⟨y, hy, hy2⟩ := there j o' hj
  refine hr.sep i j x y q q' hx hy hne ?_ hq hq'
  rcases hx2 with h | rfl
  ·rw [h, Bool.false_and]
  ·rcases hy2 with h | rfl
   ·rw [h, Bool.and_false]
   ·exact hro
theorem Rel.rebind {P : Program} {μ : Mu} {ν : Nat → Value} {h : T Ob} {H H' : Array Obj} (hr : Rel P μ ν h H) {k k2 : Nat} {p pl : Pl} {ob0 ob : Ob} (h0 : h.get k = some ob0) (h0r : ob0.isRo = false) (hp : μ k = some p)
  (hk2 : μ k2 = none) (hb : pl.blk = p.blk) (ho : ORel P (upd μ k2 pl) ν pl H' ob) (hH : ∀ b, b ≠ p.blk → H'[b]? = H[b]?) :
  Rel P (upd μ k2 pl) ν ((h.set k none).set k2 (some ob)) H' where
 ob := fun j o hj => by
  rw [T.get_set] at hj
  split at hj
  ·rename_i e; subst e; injection hj with hj; subst hj; exact ⟨pl, upd_same _ _ _, ho⟩
  ·rename_i e
   rw [T.get_set] at hj
   split at hj
   ·cases hj
   ·rename_i e'
    obtain ⟨q, hq, hor⟩ := hr.ob j o hj
    exact ⟨q, by rw [upd_ne _ _ e]; exact hq, hor.mono (upd_le _ hk2) (hH _ (hr.sep j k o ob0 q p hj h0 e' (by rw [h0r, Bool.and_false]) hq hp))⟩
 sep := fun i j o o' q q' hi hj hne hro hq hq' => by
  rw [T.get_set] at hi hj
  have old : ∀ a x r, a ≠ k2 → (if a = k2 then some ob else (h.set k none).get a) = some x → upd μ k2 pl a = some r → a ≠ k ∧ h.get a = some x ∧ μ a = some r := fun a x r ha hx hq => by
   rw [if_neg ha, T.get_set] at hx
   rw [upd_ne _ _ ha] at hq
   by_cases e : a = k
   ·rw [if_pos e] at hx; cases hx
   ·rw [if_neg e] at hx; exact ⟨e, hx, hq⟩
  by_cases ei : i = k2
  ·have ej : j ≠ k2 := fun e => hne (ei.trans e.symm)
   obtain ⟨e1, e2, e3⟩ := old j o' q' ej hj hq'
   subst ei
   rw [upd_same] at hq; cases hq
   rw [hb]
   exact fun e => hr.sep j k o' ob0 q' p e2 h0 e1 (by rw [h0r, Bool.and_false]) e3 hp e.symm
  ·obtain ⟨e1, e2, e3⟩ := old i o q ei hi hq
   by_cases ej : j = k2
   ·subst ej
    rw [upd_same] at hq'; cases hq'
    rw [hb]
    exact hr.sep i k o ob0 q p e2 h0 e1 (by rw [h0r, Bool.and_false]) e3 hp
   ·obtain ⟨f1, f2, f3⟩ := old j o' q' ej hj hq'
    exact hr.sep i j o o' q q' e2 f2 hne hro e3 f3
theorem Rel.drop {P : Program} {μ : Mu} {ν : Nat → Value} {h : T Ob} {H : Array Obj} (hr : Rel P μ ν h H) (k : Nat) : Rel P μ ν (h.set k none) H where
 ob := fun j o hj => by
  rw [T.get_set] at hj
  split at hj
  ·cases hj
  ·exact hr.ob j o hj
 sep := fun i j o o' p p' hi hj hne hro hp hp' => by
  rw [T.get_set] at hi hj
  split at hi
  ·cases hi
  ·split at hj
   ·cases hj
   ·exact hr.sep i j o o' p p' hi hj hne hro hp hp'
end
end Go.Lx
