/-
  Functions that stand in by a contract of the shelf or by a run of their own: strings' Index (whatever the variable MaxLen holds), closed functions. A variable of the program's shape.
-/
import Derived.Test.YtfgnpegkcmkeaaaGreatDoorLyF
import Derived.Shelf.Strings.Search2
import Derived.Handed
set_option linter.unusedSimpArgs false
set_option linter.unusedVariables false
namespace Go.Lx
open Go.ChangeShapes Go.WideShapes Go.ChangeAt Go.RowKit Go.Shelf Go.Proofs
def isPre : List Nat → List Nat → Bool
 | [], _ => true
 | _ :: _, [] => false
 | a :: x, b :: y => Nat.beq a b && isPre x y
def indexN (sub : List Nat) : List Nat → Nat → Int
 | [], i => bif sub.isEmpty then i else -1
 | b :: l, i => bif isPre sub (b :: l) then i else indexN sub l (i + 1)
theorem isPre_eq : ∀ (a b : List UInt8), isPre (a.map (·.toNat)) (b.map (·.toNat)) = a.isPrefixOf b
 | [], b => by simp [isPre]
 | x :: a, [] => by simp [isPre]
 | x :: a, y :: b => by
   simp only [List.map_cons, isPre, List.isPrefixOf, isPre_eq a b]
   congr 1
   by_cases h : x = y
   ·subst h; simp
   ·have : x.toNat ≠ y.toNat := fun e => h (UInt8.toNat.inj e)
    rw [nbeq_ne this]; simp [h]
theorem indexN_eq (sub : List UInt8) : ∀ (l : List UInt8) (i : Nat), indexN (sub.map (·.toNat)) (l.map (·.toNat)) i = if Lib.index l sub = -1 then -1 else Lib.index l sub + i
 | [], i => by
   simp only [List.map_nil, indexN, Lib.index, List.isEmpty_map]
   by_cases hp : sub.isEmpty = true
   ·simp [hp]
   ·have hp' : sub.isEmpty = false := by simpa using hp
    simp [hp']
 | b :: l, i => by
   have ih := indexN_eq sub l (i + 1)
   have hge := Lib.index_ge l sub
   rw [List.map_cons, indexN, ← List.map_cons, isPre_eq, ih]
   simp only [Lib.index]
   by_cases hp : sub.isPrefixOf (b :: l) = true
   ·simp [hp]
   ·have hp' : sub.isPrefixOf (b :: l) = false := Bool.eq_false_iff.2 hp
    simp only [hp', cond_false, Bool.false_eq_true, if_false]
    by_cases h : Lib.index l sub = -1
    ·simp [h]
    ·simp only [h, if_false, beq_iff_eq]
     rw [if_neg (by omega)]
     push_cast
     omega
def index2 : List V → Option V
 | [.str a, .str b] => bif Nat.blt a.length 4294967281 then some (.int .i64 (indexN b a 0)) else none
 | _ => none
theorem extSum_index {P : Program} {ρ : Ren} {gl : T (List V)} {m : Int} (L : Lays.n219 P ρ) (hm : gl.get (ρ.g 1) = some [.int .i64 m]) (he : Enters P (ρ.f 219)) : ExtSum P gl (ρ.f 219) (pureM index2) := by
 refine ⟨local_pureM _, fun vs v s s' w μ ν rs h hr hf hg ha => ?_⟩
 unfold pureM at h
 cases hv : index2 vs with
 | none => rw [hv] at h; exact (err_ok h).elim
 | some x =>
   rw [hv] at h
   obtain ⟨rfl, rfl⟩ := ret_ok h
   unfold index2 at hv
   split at hv
   ·rename_i a b
    cases hb : Nat.blt a.length 4294967281
    ·rw [hb, cond_false] at hv; cases hv
    rw [hb, cond_true] at hv
    rw [blt_iff] at hb
    injection hv with hv; subst hv
    cases ha with
    | cons h1 h2 =>
      cases h2 with
      | cons h2 h3 =>
        cases h3
        cases h1 with
        | str A =>
          cases h2 with
          | str B =>
            obtain ⟨rc, e, frz, g1, g2⟩ := hg.there _ _ hm
            obtain ⟨r, g3, g4⟩ := g2 0 _ rfl
            have hr0 : r = .int .i64 m := by cases g4 (fun _ => none) (fun _ => undef); rfl
            subst hr0
            have hcell : w.cell? ⟨ρ.g 1, 0, none⟩ = some (.int .i64 m) := by rw [cell_at g1]; exact g3
            have hsz : A.size < 4294967281 := by rw [toNats_length] at hb; exact hb
            left
            refine ⟨he _ _, (Any.stringslite_Index L A B m w hsz hcell).mono ?_⟩
            rintro e' w' ⟨rfl, rfl⟩
            refine ⟨_, rfl, μ, ?_, StepOk.refl hr⟩
            have e1 : indexN (toNats B) (toNats A) 0 = Lib.index A.data.toList B.data.toList := by
             unfold toNats
             rw [indexN_eq]
             by_cases h : Lib.index A.data.toList B.data.toList = -1
             ·rw [if_pos h, h]
             ·rw [if_neg h]; simp
            rw [e1]
            exact .int _ _
   ·cases hv
def constTrue (vs : List V) : M V := match vs with
 | [] => Lx.ret (.bool true)
 | _ => err "const"
theorem extSum_true (c : Cfg) (hm : c.P.follows .mixedOrders = true) (hs : SumOk c) {n : Nat} {f : FuncId} (h : yes (callM c (n + 1) f [] st0) = true) (hsu : c.sum f = none) (he : Enters c.P f) {gl : T (List V)} (hgl : gl = c.gl) : ExtSum c.P gl f constTrue := by
 subst hgl
 refine ⟨fun vs => ?_, fun vs v s s' w μ ν rs h' hr hf hg ha => ?_⟩
 ·cases vs with
  | nil => exact Local.ret _
  | cons a l => exact Local.err _
 ·cases vs with
  | cons a l => exact (err_ok (s := s) h').elim
  | nil =>
    cases ha
    obtain ⟨rfl, rfl⟩ := ret_ok h'
    obtain ⟨s2, h2⟩ := yes_ok h
    left
    refine ⟨he _ _, (callM_calls c hm hs h2 hsu (μ := fun _ => none) (ν := ν) (rs := []) rel_empty (fun _ _ _ => rfl) ⟨hg.there, fun g c k p h1 h2 => (by cases h2), hg.face, hg.tab⟩ .nil).mono ?_⟩
    rintro e w' ⟨r, rfl, μ1, hv, st⟩
    cases hv
    have hblk : ∀ b, b < w.heap.size → w'.heap[b]? = w.heap[b]? := fun b hb => st.block b hb fun _ _ h => by cases h
    refine ⟨_, rfl, μ, .bool _, Mu.le_refl _, fun _ _ => rfl, ⟨fun k o hk => ?_, hr.sep⟩, st.os, st.tape, st.output, st.size, fun b hb _ => hblk b hb, fun k p h1 h2 => (by rw [h1] at h2; cases h2), fun j c0 q h1 hq => by
     obtain ⟨q', hq', ho⟩ := hr.ob j _ h1
     rw [hq] at hq'; cases hq'
     exact ⟨h1, hblk _ ho.there⟩⟩
    obtain ⟨p, hp, hor⟩ := hr.ob k o hk
    exact ⟨p, hp, hor.mono (Mu.le_refl _) (hblk _ hor.there)⟩
theorem shaped_int {P : Program} {w : World} (h : w.ShapedOpen P) {g : Nat} {zero : Array Value} {t : TypeId} {k : IntKind} (hg : g < P.globals.size) (h0 : ((begin P (fun _ _ => 0) default).world.heap[g]?).bind Obj.row? = some (zero, t)) (hz : zero.size = 1)
  (hb : P.buildable t = true) (hu : P.underlying t = some (.int k)) (hct : P.cellTypes P.depth t = some [t]) : ∃ m, Holds w g [.int k m] := by
 obtain ⟨cs, h1, h2, h3⟩ := h.1 g zero t hg h0
 obtain ⟨ts, h4, _, h5⟩ := h3 hb
 rw [hct] at h4
 injection h4 with h4; subst h4
 have hlt : 0 < cs.size := by omega
 obtain ⟨u, h6, h7⟩ := h5 0 cs[0] (by simp [hlt])
 simp at h6
 subst h6
 unfold Cell.ok at h7
 rw [hu] at h7
 cases hv : cs[0] with
 | int k' m =>
   rw [hv] at h7
   obtain ⟨rfl, _⟩ := h7
   refine ⟨m, cs, _, _, h1, fun i v hi => ?_⟩
   cases i with
   | zero =>
     injection hi with hi; subst hi
     exact ⟨.int k' m, by rw [Array.getElem?_eq_getElem hlt, hv], fun μ ν => .int _ _⟩
   | succ i => simp at hi
 | _ => rw [hv] at h7; simp at h7
end Go.Lx
