/-
  Several texts, joined.
-/
import Derived.Test.YthhdkonpejmgcaaGreatDoorLy2
import Derived.Shelf.Strings.Search2
import Derived.Handed
/-
  Functions that stand in by a contract of the shelf or by a run of their own: strings' Index (whatever the variable MaxLen holds), closed functions. A variable of the program's shape.
-/
set_option linter.unusedSimpArgs false
set_option linter.unusedVariables false
namespace Go.Lx
open Go.ChangeShapes Go.WideShapes Go.ChangeAt Go.RowKit Go.Shelf Go.Proofs

def isPre : List Nat → List Nat → Bool
  | [], _ => true
  | _ :: _, [] => false
  | a :: x, b :: y => Nat.beq a b && isPre x y

def indexN (sub : List Nat) : List Nat → Nat → Int
  | [], i => bif sub.isEmpty then i else -1
  | b :: l, i => bif isPre sub (b :: l) then i else indexN sub l (i + 1)

theorem isPre_eq : ∀ (a b : List UInt8), isPre (a.map (·.toNat)) (b.map (·.toNat)) = a.isPrefixOf b
  | [], b => by simp [isPre]
  | x :: a, [] => by simp [isPre]
  | x :: a, y :: b => by
    simp only [List.map_cons, isPre, List.isPrefixOf, isPre_eq a b]
    congr 1
    by_cases h : x = y
    · subst h; simp
    · have : x.toNat ≠ y.toNat := fun e => h (UInt8.toNat.inj e)
      rw [nbeq_ne this]; simp [h]

theorem indexN_eq (sub : List UInt8) : ∀ (l : List UInt8) (i : Nat), indexN (sub.map (·.toNat)) (l.map (·.toNat)) i = if Lib.index l sub = -1 then -1 else Lib.index l sub + i
  | [], i => by
    simp only [List.map_nil, indexN, Lib.index, List.isEmpty_map]
    by_cases hp : sub.isEmpty = true
    · simp [hp]
    · have hp' : sub.isEmpty = false := by simpa using hp
      simp [hp']
  | b :: l, i => by
    have ih := indexN_eq sub l (i + 1)
    have hge := Lib.index_ge l sub
    rw [List.map_cons, indexN, ← List.map_cons, isPre_eq, ih]
    simp only [Lib.index]
    by_cases hp : sub.isPrefixOf (b :: l) = true
    · simp [hp]
    · have hp' : sub.isPrefixOf (b :: l) = false := Bool.eq_false_iff.2 hp
      simp only [hp', cond_false, Bool.false_eq_true, if_false]
      by_cases h : Lib.index l sub = -1
      · simp [h]
      · simp only [h, if_false, beq_iff_eq]
        rw [if_neg (by omega)]
        push_cast
        omega

def index2 : List V → Option V
  | [.str a, .str b] => bif Nat.blt a.length 4294967281 then some (.int .i64 (indexN b a 0)) else none
  | _ => none

theorem extSum_index {P : Program} {ρ : Ren} {gl : T (List V)} {m : Int} (L : Lays.n219 P ρ) (hm : gl.get (ρ.g 1) = some [.int .i64 m]) (he : Enters P (ρ.f 219)) : ExtSum P gl (ρ.f 219) (pureM index2) := by
  refine ⟨local_pureM _, fun vs v s s' w μ ν rs h hr hf hg ha => ?_⟩
  unfold pureM at h
  cases hv : index2 vs with
  | none => rw [hv] at h; exact (err_ok h).elim
  | some x =>
    rw [hv] at h
    obtain ⟨rfl, rfl⟩ := ret_ok h
    unfold index2 at hv
    split at hv
    · rename_i a b
      cases hb : Nat.blt a.length 4294967281
      · rw [hb, cond_false] at hv; cases hv
      rw [hb, cond_true] at hv
      rw [blt_iff] at hb
      injection hv with hv; subst hv
      cases ha with
      | cons h1 h2 =>
        cases h2 with
        | cons h2 h3 =>
          cases h3
          cases h1 with
          | str A =>
            cases h2 with
            | str B =>
              obtain ⟨rc, e, frz, g1, g2⟩ := hg.there _ _ hm
              obtain ⟨r, g3, g4⟩ := g2 0 _ rfl
              have hr0 : r = .int .i64 m := by cases g4 (fun _ => none) (fun _ => undef); rfl
              subst hr0
              have hcell : w.cell? ⟨ρ.g 1, 0, none⟩ = some (.int .i64 m) := by rw [cell_at g1]; exact g3
              have hsz : A.size < 4294967281 := by rw [toNats_length] at hb; exact hb
              left
              refine ⟨he _ _, (Any.stringslite_Index L A B m w hsz hcell).mono ?_⟩
              rintro e' w' ⟨rfl, rfl⟩
              refine ⟨_, rfl, μ, ?_, StepOk.refl hr⟩
              have e1 : indexN (toNats B) (toNats A) 0 = Lib.index A.data.toList B.data.toList := by
                unfold toNats
                rw [indexN_eq]
                by_cases h : Lib.index A.data.toList B.data.toList = -1
                · rw [if_pos h, h]
                · rw [if_neg h]; simp
              rw [e1]
              exact .int _ _
    · cases hv

/-! ### A closed function, run by itself -/

def constTrue (vs : List V) : M V := match vs with
  | [] => Lx.ret (.bool true)
  | _ => err "const"

theorem extSum_true (c : Cfg) (hm : c.P.follows .mixedOrders = true) (hs : SumOk c) {n : Nat} {f : FuncId} (h : yes (callM c (n + 1) f [] st0) = true) (hsu : c.sum f = none) (he : Enters c.P f) {gl : T (List V)} (hgl : gl = c.gl) : ExtSum c.P gl f constTrue := by
  subst hgl
  refine ⟨fun vs => ?_, fun vs v s s' w μ ν rs h' hr hf hg ha => ?_⟩
  · cases vs with
    | nil => exact Local.ret _
    | cons a l => exact Local.err _
  · cases vs with
    | cons a l => exact (err_ok (s := s) h').elim
    | nil =>
      cases ha
      obtain ⟨rfl, rfl⟩ := ret_ok h'
      obtain ⟨s2, h2⟩ := yes_ok h
      left
      refine ⟨he _ _, (callM_calls c hm hs h2 hsu (μ := fun _ => none) (ν := ν) (rs := []) rel_empty (fun _ _ _ => rfl) ⟨hg.there, fun g c k p h1 h2 => (by cases h2), hg.face, hg.tab⟩ .nil).mono ?_⟩
      rintro e w' ⟨r, rfl, μ1, hv, st⟩
      cases hv
      have hblk : ∀ b, b < w.heap.size → w'.heap[b]? = w.heap[b]? := fun b hb => st.block b hb fun _ _ h => by cases h
      refine ⟨_, rfl, μ, .bool _, Mu.le_refl _, fun _ _ => rfl, ⟨fun k o hk => ?_, hr.sep⟩, st.os, st.tape, st.output, st.size, fun b hb _ => hblk b hb, fun k p h1 h2 => (by rw [h1] at h2; cases h2), fun j c0 q h1 hq => by
        obtain ⟨q', hq', ho⟩ := hr.ob j _ h1
        rw [hq] at hq'; cases hq'
        exact ⟨h1, hblk _ ho.there⟩⟩
      obtain ⟨p, hp, hor⟩ := hr.ob k o hk
      exact ⟨p, hp, hor.mono (Mu.le_refl _) (hblk _ hor.there)⟩

/-! ### A variable that no row lists -/

theorem shaped_int {P : Program} {w : World} (h : w.ShapedOpen P) {g : Nat} {zero : Array Value} {t : TypeId} {k : IntKind} (hg : g < P.globals.size) (h0 : ((begin P (fun _ _ => 0) default).world.heap[g]?).bind Obj.row? = some (zero, t)) (hz : zero.size = 1)
    (hb : P.buildable t = true) (hu : P.underlying t = some (.int k)) (hct : P.cellTypes P.depth t = some [t]) : ∃ m, Holds w g [.int k m] := by
  obtain ⟨cs, h1, h2, h3⟩ := h.1 g zero t hg h0
  obtain ⟨ts, h4, _, h5⟩ := h3 hb
  rw [hct] at h4
  injection h4 with h4; subst h4
  have hlt : 0 < cs.size := by omega
  obtain ⟨u, h6, h7⟩ := h5 0 cs[0] (by simp [hlt])
  simp at h6
  subst h6
  unfold Cell.ok at h7
  rw [hu] at h7
  cases hv : cs[0] with
  | int k' m =>
    rw [hv] at h7
    obtain ⟨rfl, _⟩ := h7
    refine ⟨m, cs, _, _, h1, fun i v hi => ?_⟩
    cases i with
    | zero =>
      injection hi with hi; subst hi
      exact ⟨.int k' m, by rw [Array.getElem?_eq_getElem hlt, hv], fun μ ν => .int _ _⟩
    | succ i => simp at hi
  | _ => rw [hv] at h7; simp at h7

/-- as the guide's, with the world's shape told too -/
theorem returns_shaped {H : Type} {enc : TypeId × Value → H} {a : Assume} {C : Checked} {os : Os} {f : FuncId} {fn : Func} {s : ChangeSpec} {conds : List PathCond} {apart fresh handsOn again : Bool} {X : World → Array Value → Prop}
    (hX : ∀ (w w' : World) (args : Array Value), w.heap = w'.heap → X w args → X w' args)
    (own : ownKnob C.prog.godebug = none) (started : os.Started) (noInit : C.prog.inits.idxOf? f = none) (hfn : C.prog.funcs[f]? = some fn)
    (witness : ∃ (w : World) (tape : Tape) (i : Input), w.os = os ∧ (w.forCall tape i).Shaped C.prog ∧ i.vars = [] ∧ Input.okWide C.prog (w.forCall tape i) .any w.heap.size f i ∧
      ((s.pre enc C.prog fn conds apart (w.forCall tape i).memory i.args ∧ X (w.forCall tape i).memory i.args) ∧ sizedMet enc C.prog fn (OpenSpec.ofChange s) apart (w.forCall tape i).memory i.args) ∧ a.holds C.prog (lone (Frame.enter C.prog f i.args .normal) [] (w.forCall tape i)))
    (contract : ∀ (W : World) (base : Nat) (args : Array Value) (ds gs : List (DataW H)) (before : List MemPlace), W.ShapedOpen C.prog →
      (∀ (j : Nat) t v, fn.params[j]? = some t → args[j]? = some v → Value.okWide C.prog W .any base t v) →
      DataW.Whole enc C.prog fn.params.toList s.vars apart W args.toList ds gs before → X W args →
      Calls C.prog f args W fun e W' => ∃ v, e = .returned v ∧ s.post enc C.prog fn apart fresh handsOn again W args v W') :
    ReturnsInHanded a C os f .any (fun w args => (s.pre enc C.prog fn conds apart w args ∧ X w args) ∧ sizedMet enc C.prog fn (OpenSpec.ofChange s) apart w args) (s.post enc C.prog fn apart fresh handsOn again) := by
  refine returnsInHanded_of_calls own started noInit witness ?_
  intro w tape i _ hsh _ hok hpre _
  obtain ⟨_, _, _, fn', hfn', _, _, _, _, hval⟩ := hok
  obtain rfl : fn' = fn := Option.some.inj (hfn'.symm.trans hfn)
  obtain ⟨⟨⟨ds, gs, before, hw, hc⟩, hx⟩, hz⟩ := hpre
  refine (contract (w.forCall tape i) w.heap.size i.args ds gs before hsh hval (DataW.Whole.of_heap (w' := w.forCall tape i) (by rfl) hw) (hX _ _ _ (by rfl) hx)).mono fun e W' ⟨v, he, hp⟩ => ?_
  subst he
  exact ChangeSpec.post_blind hp

end Go.Lx

/-
  A call that was run by itself, on arguments without an address: what it gave may stand in for it: a value without an address, or one with one new row of such values.
-/
set_option linter.unusedSimpArgs false
set_option linter.unusedVariables false
namespace Go.Lx
open Go.Shelf Go.Proofs
noncomputable section

mutual
/-- no address in it -/
def flat : V → Bool
  | .bool _ | .int _ _ | .str _ | .nilptr | .nilslice | .nilmap | .nilfunc | .nilIface | .gptr _ _ => true
  | .agg cs => flatL cs
  | .tuple cs => flatL cs
  | .iface _ v => flat v
  | _ => false
def flatL : List V → Bool
  | [] => true
  | v :: l => flat v && flatL l
end

section
variable {μ μ' : Mu} {ν : Nat → Value}
mutual
theorem flat_rel : ∀ {v : V} {r : Value}, flat v = true → VRel μ ν v r → VRel μ' ν v r
  | .bool _, _, _, .bool b => .bool b
  | .int _ _, _, _, .int k n => .int k n
  | .str _, _, _, .str b => .str b
  | .nilptr, _, _, .nilptr => .nilptr
  | .nilslice, _, _, .nilslice => .nilslice
  | .nilmap, _, _, .nilmap => .nilmap
  | .nilfunc, _, _, .nilfunc => .nilfunc
  | .nilIface, _, _, .nilIface => .nilIface
  | .gptr _ _, _, _, .gptr g o => .gptr g o
  | .agg cs, _, h, .agg hs => .agg (flatL_rel (by simpa [flat] using h) hs)
  | .tuple cs, _, h, .tuple hs => .tuple (flatL_rel (by simpa [flat] using h) hs)
  | .iface t v, _, h, .iface hv => .iface (flat_rel (by simpa [flat] using h) hv)
  | .ptr _ _, _, h, _ => by simp [flat] at h
  | .slice _ _ _ _, _, h, _ => by simp [flat] at h
  | .map _, _, h, _ => by simp [flat] at h
  | .func _ _ _, _, h, _ => by simp [flat] at h
  | .sym _, _, h, _ => by simp [flat] at h
theorem flatL_rel : ∀ {vs : List V} {rs : List Value}, flatL vs = true → VsRel μ ν vs rs → VsRel μ' ν vs rs
  | [], _, _, .nil => .nil
  | v :: l, _, h, .cons hv hs => by
    simp only [flatL, Bool.and_eq_true] at h
    exact .cons (flat_rel h.1 hv) (flatL_rel h.2 hs)
end
end

theorem flatL_get : ∀ {l : List V} {i : Nat} {v : V}, flatL l = true → l[i]? = some v → flat v = true
  | [], i, v, _, h => by simp at h
  | x :: l, i, v, hf, h => by
    simp only [flatL, Bool.and_eq_true] at hf
    cases i with
    | zero => simp at h; subst h; exact hf.1
    | succ i => exact flatL_get hf.2 (by simpa using h)

mutual
/-- are these the same texts and numbers? -/
def sameA : V → V → Bool
  | .str a, .str b => eqNats a b
  | .int k a, .int k' b => decide (k = k') && decide (a = b)
  | .bool a, .bool b => decide (a = b)
  | .nilslice, .nilslice => true
  | .agg a, .agg b => sameArgs a b
  | _, _ => false
def sameArgs : List V → List V → Bool
  | [], [] => true
  | x :: l, y :: m => sameA x y && sameArgs l m
  | _, _ => false
end

mutual
theorem sameA_eq : ∀ {a b : V}, sameA a b = true → a = b
  | .str a, b, h => by cases b <;> first | (simp [sameA] at h; done) | skip
                       exact congrArg V.str (eqNats_iff.1 (by simpa [sameA] using h))
  | .int k a, b, h => by cases b <;> first | (simp [sameA] at h; done) | skip
                         simp only [sameA, Bool.and_eq_true, decide_eq_true_eq] at h
                         rw [h.1, h.2]
  | .bool a, b, h => by cases b <;> first | (simp [sameA] at h; done) | skip
                        simp only [sameA, decide_eq_true_eq] at h
                        rw [h]
  | .nilslice, b, h => by cases b <;> first | (simp [sameA] at h; done) | rfl
  | .agg a, b, h => by cases b <;> first | (simp [sameA] at h; done) | skip
                       exact congrArg V.agg (sameArgs_eq (by simpa [sameA] using h))
  | .nilptr, b, h | .nilmap, b, h | .nilfunc, b, h | .nilIface, b, h | .gptr _ _, b, h | .tuple _, b, h | .iface _ _, b, h | .ptr _ _, b, h | .slice _ _ _ _, b, h | .map _, b, h | .func _ _ _, b, h | .sym _, b, h => by cases b <;> simp [sameA] at h
theorem sameArgs_eq : ∀ {a b : List V}, sameArgs a b = true → a = b
  | [], [], _ => rfl
  | [], _ :: _, h => by simp [sameArgs] at h
  | _ :: _, [], h => by simp [sameArgs] at h
  | x :: l, y :: m, h => by
    simp only [sameArgs, Bool.and_eq_true] at h
    rw [sameA_eq h.1, sameArgs_eq h.2]
end

/-- what a call gave: a new row, and the values beside it -/
structure Memo where
  args : List V
  len : Nat
  cells : List V
  elem : TypeId
  rest : List V

/-- a function at arguments that are known: its new row is laid -/
def memoM : List Memo → List V → M V
  | [], _ => err "memo"
  | m :: l, vs => bif sameArgs m.args vs then (bif Nat.beq m.len 0 then Lx.ret (.tuple (.nilslice :: m.rest)) else bnd (alloc (.cells m.cells m.elem true)) fun k => Lx.ret (.tuple (.slice k 0 m.len m.len :: m.rest))) else memoM l vs

theorem local_memo : ∀ (l : List Memo) (vs : List V), Local (memoM l vs)
  | [], _ => Local.err _
  | m :: l, vs => by
    unfold memoM
    exact Local.cond (Local.cond (Local.ret _) (Local.bnd (Local.alloc _) fun _ => Local.ret _)) (local_memo l vs)

/-- what a run must have shown -/
def MemoOk (c : Cfg) (n : Nat) (f : FuncId) (m : Memo) : Prop :=
  flatL m.rest = true ∧ flatL m.cells = true ∧ flatL m.args = true ∧
  ((m.len = 0 ∧ ∃ s, callM c (n + 1) f m.args st0 = .ok (.tuple (.nilslice :: m.rest)) s) ∨
   (m.len ≠ 0 ∧ ∃ k s, callM c (n + 1) f m.args st0 = .ok (.tuple (.slice k 0 m.len m.len :: m.rest)) s ∧ s.heap.get k = some (.cells m.cells m.elem true)))

/-- the run, with the row's block -/
def gave (r : R V) (k : Nat) : Option (V × Option Ob) := R.rec (motive := fun _ => Option (V × Option Ob)) (fun v s => some (v, s.heap.get k)) (fun _ => none) r

theorem memoOk_row {c : Cfg} {n : Nat} {f : FuncId} {m : Memo} {k : Nat} (h0 : m.len ≠ 0) (h1 : flatL m.rest = true) (h2 : flatL m.cells = true) (h3 : flatL m.args = true)
    (h : gave (callM c (n + 1) f m.args st0) k = some (.tuple (.slice k 0 m.len m.len :: m.rest), some (.cells m.cells m.elem true))) : MemoOk c n f m := by
  refine ⟨h1, h2, h3, .inr ⟨h0, ?_⟩⟩
  cases hr : callM c (n + 1) f m.args st0 with
  | fail w => rw [hr] at h; cases h
  | ok v s =>
    rw [hr] at h
    have h' : some (v, s.heap.get k) = some (V.tuple (.slice k 0 m.len m.len :: m.rest), some (Ob.cells m.cells m.elem true)) := h
    injection h' with h'
    injection h' with e1 e2
    subst e1
    exact ⟨k, s, rfl, e2⟩

theorem memoOk_nil {c : Cfg} {n : Nat} {f : FuncId} {m : Memo} (h0 : m.len = 0) (h1 : flatL m.rest = true) (h2 : flatL m.cells = true) (h3 : flatL m.args = true)
    (h : (gave (callM c (n + 1) f m.args st0) 0).map (·.1) = some (.tuple (.nilslice :: m.rest))) : MemoOk c n f m := by
  refine ⟨h1, h2, h3, .inl ⟨h0, ?_⟩⟩
  cases hr : callM c (n + 1) f m.args st0 with
  | fail w => rw [hr] at h; cases h
  | ok v s =>
    rw [hr] at h
    have h' : some v = some (V.tuple (.nilslice :: m.rest)) := h
    injection h' with e1
    subst e1
    exact ⟨s, rfl⟩

theorem extSum_memo (c : Cfg) (hm : c.P.follows .mixedOrders = true) (hs : SumOk c) {f : FuncId} (hsu : c.sum f = none) (he : Enters c.P f) {gl : T (List V)} (hgl : gl = c.gl) : ∀ {l : List Memo}, (∀ m ∈ l, ∃ n, MemoOk c n f m) → ExtSum c.P gl f (memoM l)
  | [], _ => ⟨fun vs => Local.err _, fun vs v s s' w μ ν rs h => (err_ok (s := s) h).elim⟩
  | m :: l, hl => by
    have ih := extSum_memo c hm hs hsu he hgl (l := l) fun x hx => hl x (by simp [hx])
    refine ⟨local_memo _, fun vs v s s' w μ ν rs h hr hf hg ha => ?_⟩
    unfold memoM at h
    cases hsame : sameArgs m.args vs
    · rw [hsame, cond_false] at h
      exact ih.2 vs v s s' w μ ν rs h hr hf hg ha
    rw [hsame, cond_true] at h
    obtain rfl := sameArgs_eq hsame
    obtain ⟨n, f1, f2, f3, hrun⟩ := hl m (by simp)
    subst hgl
    have hg0 : Globs c.gl (fun _ => none) .leaf w := ⟨hg.there, (fun g c k p h1 h2 => by cases h2), hg.face, hg.tab⟩
    have ha0 : VsRel (fun _ => none) ν m.args rs := flatL_rel f3 ha
    left
    rcases hrun with ⟨h0, s2, h2⟩ | ⟨hlen, k, s2, h2, hk⟩
    · rw [h0, show Nat.beq 0 0 = true from rfl, cond_true] at h
      obtain ⟨rfl, rfl⟩ := ret_ok h
      refine ⟨he _ _, (callM_calls c hm hs h2 hsu (μ := fun _ => none) (ν := ν) rel_empty (fun _ _ _ => rfl) hg0 ha0).mono ?_⟩
      rintro e w' ⟨r, rfl, μ1, hv, st⟩
      have hblk : ∀ b, b < w.heap.size → w'.heap[b]? = w.heap[b]? := fun b hb => st.block b hb fun _ _ h => by cases h
      refine ⟨_, rfl, μ, flat_rel (by simp [flat, flatL, f1]) hv, Mu.le_refl _, fun _ _ => rfl, ⟨fun j o hj => ?_, hr.sep⟩, st.os, st.tape, st.output, st.size, fun b hb _ => hblk b hb, fun j p h1 h2 => (by rw [h1] at h2; cases h2), fun j c0 q h1 hq => by
        obtain ⟨q', hq', ho⟩ := hr.ob j _ h1
        rw [hq] at hq'; cases hq'
        exact ⟨h1, hblk _ ho.there⟩⟩
      obtain ⟨p, hp, hor⟩ := hr.ob j o hj
      exact ⟨p, hp, hor.mono (Mu.le_refl _) (hblk _ hor.there)⟩
    · have hz : Nat.beq m.len 0 = false := nbeq_ne hlen
      rw [hz, cond_false] at h
      obtain ⟨k', s3, g1, g2⟩ := bnd_ok h
      obtain ⟨rfl, rfl⟩ := ret_ok g2
      obtain ⟨rfl, rfl⟩ := alloc_ok g1
      have hk' : μ s.next = none := hf _ (Nat.le_refl _) (Nat.lt_succ_self _)
      refine ⟨he _ _, (callM_calls c hm hs h2 hsu (μ := fun _ => none) (ν := ν) rel_empty (fun _ _ _ => rfl) hg0 ha0).mono ?_⟩
      rintro e w' ⟨r, rfl, μ1, hv, st⟩
      have hblk : ∀ b, b < w.heap.size → w'.heap[b]? = w.heap[b]? := fun b hb => st.block b hb fun _ _ h => by cases h
      obtain ⟨p, hp, hor⟩ := st.rel.ob k _ hk
      have hnew : w.heap.size ≤ p.blk := by
        rcases st.newblk k p hp rfl with h | ⟨j, q, hj, _⟩
        · exact h
        · cases hj
      obtain ⟨q1, q2, rc, frz, q3, q4, q5, q6, q7, q8⟩ := hor
      have hor' : ORel c.P (upd μ s.next p) ν p w'.heap (.cells m.cells m.elem true) := by
        refine ⟨q1, q2, rc, frz, q3, q4, q5, q6, q7, fun i v hi => ?_⟩
        obtain ⟨r, hr1, hr2⟩ := q8 i v hi
        exact ⟨r, hr1, flat_rel (flatL_get f2 hi) hr2⟩
      refine ⟨_, rfl, upd μ s.next p, ?_, upd_le _ hk', fun j hj => upd_ne _ _ (by intro e; exact hj (by rw [e]; exact ⟨Nat.le_refl _, Nat.lt_succ_self _⟩)), ⟨fun j o hj => ?_, fun i j o o' a b hi hj hne hro ha hb => ?_⟩, st.os, st.tape, st.output, st.size, fun b hb _ => hblk b hb, fun j q h1 h2 => ?_, fun j c0 q h1 h2 => ?_⟩
      · cases hv with
        | tuple hv =>
          cases hv with
          | cons h1 h2 =>
            refine .tuple (.cons ?_ (flatL_rel f1 h2))
            cases h1 with
            | slice h3 h4 h5 =>
              rw [hp] at h3; cases h3
              exact .slice (upd_same _ _ _) h4 h5
      · rw [T.get_set] at hj
        split at hj
        · rename_i e; subst e; injection hj with hj; subst hj; exact ⟨p, upd_same _ _ _, hor'⟩
        · rename_i e
          obtain ⟨q, hq, hor2⟩ := hr.ob j o hj
          exact ⟨q, by rw [upd_ne _ _ e]; exact hq, hor2.mono (upd_le _ hk') (hblk _ hor2.there)⟩
      · rw [T.get_set] at hi hj
        have old : ∀ x ob q, x ≠ s.next → s.heap.get x = some ob → upd μ s.next p x = some q → q.blk < w.heap.size := by
          intro x ob q hx h1 h2
          rw [upd_ne _ _ hx] at h2
          obtain ⟨q', hq', hor2⟩ := hr.ob x ob h1
          rw [hq'] at h2; cases h2
          exact hor2.there
        by_cases ei : i = s.next
        · have ej : j ≠ s.next := fun e => hne (ei.trans e.symm)
          rw [if_neg ej] at hj
          subst ei
          rw [upd_same] at ha; cases ha
          have := old j o' b ej hj hb
          omega
        · rw [if_neg ei] at hi
          by_cases ej : j = s.next
          · subst ej
            rw [upd_same] at hb; cases hb
            have := old i o a ei hi ha
            omega
          · rw [if_neg ej] at hj
            rw [upd_ne _ _ ei] at ha; rw [upd_ne _ _ ej] at hb
            exact hr.sep i j o o' a b hi hj hne hro ha hb
      · by_cases e : j = s.next
        · subst e; rw [upd_same] at h1; cases h1; exact .inl hnew
        · rw [upd_ne _ _ e] at h1; rw [h1] at h2; cases h2
      · have hne : j ≠ s.next := fun e => by rw [e, hk'] at h2; cases h2
        obtain ⟨q', hq', ho⟩ := hr.ob j _ h1
        rw [h2] at hq'; cases hq'
        exact ⟨by rw [T.get_set, if_neg hne]; exact h1, hblk _ ho.there⟩
end
end Go.Lx
