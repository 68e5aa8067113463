/-
  Operators, texts, slices, conversions, ranges over texts, in a form that rewriting works out.
-/
import Derived.Test.YtkibhdbmamfjcaaDoorWxG
set_option linter.unusedSimpArgs false
set_option linter.unusedVariables false
namespace Go.Wx
open Go.Lx
noncomputable section

/-! ### Operators -/

theorem eqNats_iff : ∀ {a b : List Nat}, eqNats a b = true ↔ a = b
  | [], [] => by simp [eqNats]
  | [], _ :: _ => by simp [eqNats]
  | _ :: _, [] => by simp [eqNats]
  | x :: a, y :: b => by simp [eqNats, eqNats_iff (a := a) (b := b), Nat.beq_eq]

/-- bitwise 'or', 'and', 'xor', 'and not' of a kind -/
def iOr (k : IntKind) (a b : Int) : Int := k.wrap ((BitVec.ofInt k.bits a ||| BitVec.ofInt k.bits b).toNat)
def iAnd (k : IntKind) (a b : Int) : Int := k.wrap ((BitVec.ofInt k.bits a &&& BitVec.ofInt k.bits b).toNat)
def iXor (k : IntKind) (a b : Int) : Int := k.wrap ((BitVec.ofInt k.bits a ^^^ BitVec.ofInt k.bits b).toNat)
def iAndNot (k : IntKind) (a b : Int) : Int := k.wrap ((BitVec.ofInt k.bits a &&& ~~~ (BitVec.ofInt k.bits b)).toNat)
def iShl (k : IntKind) (a b : Int) : Int := k.wrap (a * 2 ^ (min b.toNat k.bits))
def iShr (k : IntKind) (a b : Int) : Int := a.fdiv (2 ^ (min b.toNat k.bits))

section
variable {P : Program} {t : TypeId} {c : Bool} {k k' : IntKind} {a b : Int} {x y : List Nat}
theorem bin_add : binV P .add t c (.int k a) (.int k b) = some (.int k (k.wrap (a + b))) := by simp [binV, binInt]
theorem bin_sub : binV P .sub t c (.int k a) (.int k b) = some (.int k (k.wrap (a - b))) := by simp [binV, binInt]
theorem bin_mul : binV P .mul t c (.int k a) (.int k b) = some (.int k (k.wrap (a * b))) := by simp [binV, binInt]
theorem bin_quo : binV P .quo t c (.int k a) (.int k b) = if b = 0 then none else some (.int k (k.wrap (a.tdiv b))) := by simp [binV, binInt]
theorem bin_rem : binV P .rem t c (.int k a) (.int k b) = if b = 0 then none else some (.int k (a.tmod b)) := by simp [binV, binInt]
theorem bin_or : binV P .or t c (.int k a) (.int k b) = some (.int k (iOr k a b)) := by simp [binV, binInt, iOr]
theorem bin_and : binV P .and t c (.int k a) (.int k b) = some (.int k (iAnd k a b)) := by simp [binV, binInt, iAnd]
theorem bin_xor : binV P .xor t c (.int k a) (.int k b) = some (.int k (iXor k a b)) := by simp [binV, binInt, iXor]
theorem bin_andNot : binV P .andNot t c (.int k a) (.int k b) = some (.int k (iAndNot k a b)) := by simp [binV, binInt, iAndNot]
theorem bin_shl : binV P .shl t c (.int k a) (.int k' b) = if b < 0 then none else some (.int k (iShl k a b)) := by simp [binV, iShl]
theorem bin_shr : binV P .shr t c (.int k a) (.int k' b) = if b < 0 then none else some (.int k (iShr k a b)) := by simp [binV, iShr]
theorem bin_eql : binV P .eql t c (.int k a) (.int k b) = some (bo (a = b)) := by
  unfold bo; simp [binV, binInt]; by_cases h : a = b <;> simp [h]
theorem bin_neq : binV P .neq t c (.int k a) (.int k b) = some (bo (¬ a = b)) := by
  unfold bo; simp [binV, binInt]; by_cases h : a = b <;> simp [h]
theorem bin_lss : binV P .lss t c (.int k a) (.int k b) = some (bo (a < b)) := by unfold bo; simp [binV, binInt]
theorem bin_leq : binV P .leq t c (.int k a) (.int k b) = some (bo (a ≤ b)) := by unfold bo; simp [binV, binInt]
theorem bin_gtr : binV P .gtr t c (.int k a) (.int k b) = some (bo (b < a)) := by unfold bo; simp [binV, binInt]
theorem bin_geq : binV P .geq t c (.int k a) (.int k b) = some (bo (b ≤ a)) := by unfold bo; simp [binV, binInt]
theorem str_eql : binV P .eql t c (.str x) (.str y) = some (bo (x = y)) := by
  unfold bo; simp only [binV, binStr, Option.some.injEq, V.bool.injEq]
  by_cases h : x = y
  · simp [h, eqNats_iff.2 (rfl : y = y)]
  · simp only [h, decide_false]
    cases he : eqNats x y with
    | false => rfl
    | true => exact (h (eqNats_iff.1 he)).elim
theorem str_neq : binV P .neq t c (.str x) (.str y) = some (bo (¬ x = y)) := by
  unfold bo; simp only [binV, binStr, Option.some.injEq, V.bool.injEq]
  by_cases h : x = y
  · simp [h, eqNats_iff.2 (rfl : y = y)]
  · simp only [h, not_false_eq_true, decide_true]
    cases he : eqNats x y with
    | false => rfl
    | true => exact (h (eqNats_iff.1 he)).elim
theorem str_lss : binV P .lss t c (.str x) (.str y) = some (bo (ltNats x y = true)) := by unfold bo; simp [binV, binStr]
theorem str_add : binV P .add t c (.str x) (.str y) = if x.length + y.length ≤ 9223372036854775807 then some (.str (x ++ y)) else none := by
  simp only [binV, binStr]
  by_cases h : x.length + y.length ≤ 9223372036854775807
  · simp [h, ble_iff.2 h]
  · simp only [if_neg h]
    have : Nat.ble (x.length + y.length) 9223372036854775807 = false := by
      cases hb : Nat.ble (x.length + y.length) 9223372036854775807 with
      | false => rfl
      | true => exact (h (Nat.le_of_ble_eq_true hb)).elim
    rw [this]; rfl
theorem un_not {p : Prop} : unV .not (bo p) = some (bo (¬ p)) := by
  unfold bo unV; by_cases h : p <;> simp [h]
theorem un_not_bool {b : Bool} : unV .not (.bool b) = some (bo (b = false)) := by
  unfold bo unV; cases b <;> simp
theorem un_neg : unV .neg (.int k a) = some (.int k (k.wrap (0 - a))) := rfl
theorem un_xor : unV .xor (.int k a) = some (.int k (iXor k (if k.signed then -1 else k.max) a)) := by simp [unV, binInt, iXor]
end

/-! ### Cells of a value -/
theorem cells_int (k : IntKind) (n : Int) : (V.int k n).cells = [.int k n] := rfl
theorem cells_str (s : List Nat) : (V.str s).cells = [.str s] := rfl
theorem cells_bo (p : Prop) : (bo p).cells = [bo p] := rfl
theorem cells_bool (b : Bool) : (V.bool b).cells = [.bool b] := rfl
theorem cells_ptr (b o : Nat) : (V.ptr b o).cells = [.ptr b o] := rfl
theorem cells_gptr (b o : Nat) : (V.gptr b o).cells = [.gptr b o] := rfl
theorem cells_nilptr : V.nilptr.cells = [.nilptr] := rfl
theorem cells_slice (b o l c : Nat) : (V.slice b o l c).cells = [.slice b o l c] := rfl
theorem cells_nilslice : V.nilslice.cells = [.nilslice] := rfl
theorem cells_map (r : Nat) : (V.map r).cells = [.map r] := rfl
theorem cells_nilmap : V.nilmap.cells = [.nilmap] := rfl
theorem cells_func (f : FuncId) (a b : List V) : (V.func f a b).cells = [.func f a b] := rfl
theorem cells_agg (l : List V) : (V.agg l).cells = l := rfl
theorem isCell_int (k : IntKind) (n : Int) : (V.int k n).isCell = true := rfl
theorem isCell_str (s : List Nat) : (V.str s).isCell = true := rfl
theorem isCell_bo (p : Prop) : (bo p).isCell = true := rfl
theorem isCell_bool (b : Bool) : (V.bool b).isCell = true := rfl
theorem isCell_ptr (b o : Nat) : (V.ptr b o).isCell = true := rfl
theorem isCell_gptr (b o : Nat) : (V.gptr b o).isCell = true := rfl
theorem isCell_nilptr : V.nilptr.isCell = true := rfl
theorem isCell_slice (b o l c : Nat) : (V.slice b o l c).isCell = true := rfl
theorem isCell_nilslice : V.nilslice.isCell = true := rfl
theorem isCell_map (r : Nat) : (V.map r).isCell = true := rfl
theorem isCell_nilmap : V.nilmap.isCell = true := rfl
theorem isCell_func (f : FuncId) (a b : List V) : (V.func f a b).isCell = true := rfl
theorem listPut_nil {α : Type} (l : List α) (n : Nat) : listPut l n [] = l := by cases l <;> cases n <;> rfl
theorem listPut_zero {α : Type} (x : α) (l : List α) (v : α) (vs : List α) : listPut (x :: l) 0 (v :: vs) = v :: listPut l 0 vs := rfl
theorem listPut_succ {α : Type} (x : α) (l : List α) (n : Nat) (v : α) (vs : List α) : listPut (x :: l) (n + 1) (v :: vs) = x :: listPut l n (v :: vs) := rfl

/-! ### Texts -/

section
variable {c : Cfg} {Ok : Nat → Prop} {env : Env} {h : H} {K : V → H → Fp → Prop} {p : Prop}

theorem optP_val {ok : Prop} {v v' : V} {lg : List LE} (e : ok → v = v') : optP ok v lg h K = optP ok v' lg h K := by
  unfold optP
  by_cases ho : ok
  · rw [e ho]
  · simp [ho]

/-- may an index be taken, of what type's description -/
def idxOk (d : Option TypeDesc) (P : Program) (t : TypeId) (x i : V) : Prop := match d, x, i with
  | some .string, .str s, .int _ i => 0 ≤ i ∧ i.toNat < s.length
  | _, _, _ => okO (indexV P t x i)
def idxT (P : Program) (t : TypeId) (x i : V) : V := match x, i with
  | .str s, .int _ i => .int .u8 (s.getD i.toNat 0 : Nat)
  | _, _ => getO' (indexV P t x i)
theorem idxOk_str (P : Program) (t : TypeId) (s : List Nat) (k : IntKind) (i : Int) : idxOk (some .string) P t (.str s) (.int k i) = (0 ≤ i ∧ i.toNat < s.length) := rfl
theorem idxT_str (P : Program) (t : TypeId) (s : List Nat) (k : IntKind) (i : Int) : idxT P t (.str s) (.int k i) = .int .u8 (s.getD i.toNat 0 : Nat) := rfl
theorem index_str (P : Program) (t : TypeId) (hu : P.underlying t = some .string) (s : List Nat) (k : IntKind) (i : Int) : indexV P t (.str s) (.int k i) = if 0 ≤ i ∧ i.toNat < s.length then some (.int .u8 (s.getD i.toNat 0 : Nat)) else none := by
  unfold indexV pureO opIndex
  rw [hu]
  cases i with
  | negSucc n => simp [Lx.err]
  | ofNat n =>
    simp only
    by_cases hn : n < s.length
    · rw [if_pos ⟨by simp, by simpa using hn⟩, List.getElem?_eq_getElem hn]
      simp [Lx.ret, List.getD_eq_getElem?_getD, List.getElem?_eq_getElem hn]
    · rw [if_neg (by simp; omega), List.getElem?_eq_none (by omega)]
      rfl
theorem opW_idx (t : TypeId) (x i : Operand) : opW c Ok (.index t x i) env h K = optP (idxOk (c.P.underlying t) c.P t (evalE env x) (evalE env i)) (idxT c.P t (evalE env x) (evalE env i)) [] h K := by
  rw [opW_index]
  generalize evalE env x = x
  generalize evalE env i = i
  have h1 : okO (indexV c.P t x i) = idxOk (c.P.underlying t) c.P t x i := by
    unfold idxOk
    split
    · rename_i s k n hu
      rw [index_str _ _ hu, okO_ite]
    · rfl
  rw [h1]
  refine optP_val fun hok => ?_
  unfold idxT
  split
  · rename_i s k n
    rw [← h1] at hok
    cases hu : c.P.underlying t with
    | none => unfold indexV pureO opIndex at hok; rw [hu] at hok; simp [okO, Lx.err] at hok
    | some d =>
      cases d <;> try (unfold indexV pureO opIndex at hok; rw [hu] at hok; simp [okO, Lx.err] at hok; done)
      rw [index_str _ _ hu] at hok ⊢
      rw [okO_ite] at hok
      rw [if_pos hok]
      rfl
  · rfl
theorem gOp_idx (t : TypeId) (x i : Operand) : gOp c Ok p (.index t x i) env h K = (imp p (idxOk (c.P.underlying t) c.P t (evalE env x) (evalE env i)) ∧ K (gv p (idxT c.P t (evalE env x) (evalE env i))) h (.lg [])) := by
  rw [gOp_pure fun K => opW_idx (K := K) t x i, glog_nil]

/-! ### Operations without the heap, by their types -/

def lenO (d : Option TypeDesc) (x : V) : Option V := match d, x with
  | some .string, .str s => some (.int .i64 s.length)
  | some (.slice _), .nilslice => some (.int .i64 (0 : Nat))
  | some (.slice _), .slice _ _ n _ => some (.int .i64 n)
  | _, _ => none
theorem lenO_str (s : List Nat) : lenO (some .string) (.str s) = some (.int .i64 s.length) := rfl
theorem lenO_nil (e : TypeId) : lenO (some (.slice e)) .nilslice = some (.int .i64 (0 : Nat)) := rfl
theorem lenO_slice (e : TypeId) (b o n m : Nat) : lenO (some (.slice e)) (.slice b o n m) = some (.int .i64 n) := rfl
theorem nb (b : Builtin) (args : Array Operand) (ts : Array TypeId) : ∀ k, Op.call ⟨.builtin b, args, ts⟩ = .call k → ∀ f, k.callee ≠ .value f := by
  intro k e f; cases e; simp
theorem opM_pure {o : Op} {m : M V} {ov : Option V} (hn : ∀ k, o = .call k → ∀ f, k.callee ≠ .value f) (e : opM c.P c.gl noCall (evalE env) o = m) (hm : ∀ s, match ov with
    | some v => m s = .ok v s
    | none => ∃ w, m s = .fail w) : opW c Ok o env h K = optP (okO ov) (getO' ov) [] h K := by
  subst e
  refine opW_opt hn (fun v e => ?_) (fun e => ?_)
  · have := hm h.st; rw [e] at this; exact this
  · have := hm h.st; rw [e] at this; exact this
theorem opW_len (x : Operand) (t : TypeId) (hc : clsL (c.P.underlying t) = 0) : opW c Ok (.call ⟨.builtin .len, #[x], #[t]⟩) env h K = optP (okO (lenO (c.P.underlying t) (evalE env x))) (getO' (lenO (c.P.underlying t) (evalE env x))) [] h K := by
  refine opM_pure (nb _ _ _) (m := lenM c.P t (evalE env x)) rfl fun s => ?_
  unfold lenM lenO
  cases hu : c.P.underlying t with
  | none => exact ⟨_, rfl⟩
  | some d =>
    rw [hu] at hc
    cases d <;> try (cases hc; done)
    all_goals (cases evalE env x <;> first | rfl | exact ⟨_, rfl⟩)
theorem gOp_len (x : Operand) (t : TypeId) (hc : clsL (c.P.underlying t) = 0) : gOp c Ok p (.call ⟨.builtin .len, #[x], #[t]⟩) env h K = (imp p (okO (lenO (c.P.underlying t) (evalE env x))) ∧ K (gv p (getO' (lenO (c.P.underlying t) (evalE env x)))) h (.lg [])) := by
  rw [gOp_pure fun K => opW_len (K := K) x t hc, glog_nil]

/-- a slice of a text: may it be taken, and what it is -/
def strLo (lo : Option V) : Int := match lo with
  | some (.int _ i) => i
  | _ => 0
def strHi (s : List Nat) (hi : Option V) : Int := match hi with
  | some (.int _ i) => i
  | _ => s.length
def isIntO (o : Option V) : Bool := match o with
  | none => true
  | some (.int _ _) => true
  | _ => false
def slOk (x : V) (lo hi : Option V) : Prop := match x with
  | .str s => isIntO lo = true ∧ isIntO hi = true ∧ 0 ≤ strLo lo ∧ strLo lo ≤ strHi s hi ∧ strHi s hi ≤ s.length
  | _ => False
def slT (x : V) (lo hi : Option V) : V := match x with
  | .str s => .str ((s.take (strHi s hi).toNat).drop (strLo lo).toNat)
  | _ => undefV
theorem slOk_00 (s : List Nat) : slOk (.str s) none none = True := by simp [slOk, isIntO, strLo, strHi]
theorem slOk_10 (s : List Nat) (k : IntKind) (a : Int) : slOk (.str s) (some (.int k a)) none = (0 ≤ a ∧ a ≤ s.length) := by simp [slOk, isIntO, strLo, strHi]
theorem slOk_01 (s : List Nat) (k : IntKind) (b : Int) : slOk (.str s) none (some (.int k b)) = (0 ≤ b ∧ b ≤ s.length) := by simp [slOk, isIntO, strLo, strHi]
theorem slOk_11 (s : List Nat) (k k' : IntKind) (a b : Int) : slOk (.str s) (some (.int k a)) (some (.int k' b)) = (0 ≤ a ∧ a ≤ b ∧ b ≤ s.length) := by simp [slOk, isIntO, strLo, strHi]
theorem slT_00 (s : List Nat) : slT (.str s) none none = .str s := by simp [slT, strLo, strHi]
theorem slT_10 (s : List Nat) (k : IntKind) (a : Int) : slT (.str s) (some (.int k a)) none = .str (s.drop a.toNat) := by simp [slT, strLo, strHi]
theorem slT_01 (s : List Nat) (k : IntKind) (b : Int) : slT (.str s) none (some (.int k b)) = .str (s.take b.toNat) := by simp [slT, strLo, strHi]
theorem slT_11 (s : List Nat) (k k' : IntKind) (a b : Int) : slT (.str s) (some (.int k a)) (some (.int k' b)) = .str ((s.take b.toNat).drop a.toNat) := by simp [slT, strLo, strHi]

theorem inI_iff {i : Int} {n : Nat} : inI i n = true ↔ 0 ≤ i ∧ i ≤ n := by
  unfold inI
  cases i with
  | ofNat m => simp only [Nat.ble_eq]; constructor
               · intro h; exact ⟨by simp, by simpa using h⟩
               · intro h; simpa using h.2
  | negSucc m => simp
theorem sub_eq {s : List Nat} {l h : Nat} (hl : l ≤ h) : sub s l (h - l) = (s.take h).drop l := by
  unfold sub
  rw [List.drop_take]
theorem slice_str {P : Program} {t : TypeId} (hu : P.underlying t = some .string) (s : List Nat) (lo hi : Option V) (st : St) : (slOk (.str s) lo hi → sliceM P t (.str s) lo hi none st = .ok (slT (.str s) lo hi) st) ∧ (¬ slOk (.str s) lo hi → ∃ w, sliceM P t (.str s) lo hi none st = .fail w) := by
  have key : boundsV lo hi none s.length s.length = @ite _ (slOk (.str s) lo hi) (Classical.propDecidable _) (some ((strLo lo).toNat, (strHi s hi).toNat, s.length)) none := by
    have hb : boundO hi s.length s.length = if isIntO hi = true ∧ 0 ≤ strHi s hi ∧ strHi s hi ≤ s.length then some (strHi s hi).toNat else none := by
      cases hi with
      | none => simp [boundO, isIntO, strHi]
      | some v =>
        cases v <;> simp [boundO, isIntO, strHi]
        rename_i k i
        by_cases hi : inI i s.length = true
        · rw [hi, if_pos (inI_iff.1 hi)]; rfl
        · rw [Bool.eq_false_iff.2 hi, if_neg (fun q => hi (inI_iff.2 q))]; rfl
    have ha : ∀ H : Nat, boundO lo H 0 = if isIntO lo = true ∧ 0 ≤ strLo lo ∧ strLo lo ≤ H then some (strLo lo).toNat else none := by
      intro H
      cases lo with
      | none => simp [boundO, isIntO, strLo]
      | some v =>
        cases v <;> simp [boundO, isIntO, strLo]
        rename_i k i
        by_cases hi : inI i H = true
        · rw [hi, if_pos (inI_iff.1 hi)]; rfl
        · rw [Bool.eq_false_iff.2 hi, if_neg (fun q => hi (inI_iff.2 q))]; rfl
    unfold boundsV
    rw [show boundO none s.length s.length = some s.length from rfl]
    simp only
    rw [hb]
    by_cases h1 : isIntO hi = true ∧ 0 ≤ strHi s hi ∧ strHi s hi ≤ s.length
    · rw [if_pos h1]
      simp only
      rw [ha]
      by_cases h2 : isIntO lo = true ∧ 0 ≤ strLo lo ∧ strLo lo ≤ ((strHi s hi).toNat : Int)
      · rw [if_pos h2]
        have h3 : slOk (.str s) lo hi := ⟨h2.1, h1.1, h2.2.1, by have := h2.2.2; omega, h1.2.2⟩
        rw [if_pos h3]
      · rw [if_neg h2]
        have h3 : ¬ slOk (.str s) lo hi := fun q => h2 ⟨q.1, q.2.2.1, by have := q.2.2.2.1; omega⟩
        rw [if_neg h3]
    · rw [if_neg h1]
      have h3 : ¬ slOk (.str s) lo hi := fun q => h1 ⟨q.2.1, by have := q.2.2.1; have := q.2.2.2.1; omega, q.2.2.2.2⟩
      rw [if_neg h3]
  unfold sliceM
  rw [hu]
  simp only [Option.isSome, cond_false]
  rw [key]
  refine ⟨fun h => ?_, fun h => ?_⟩
  · rw [if_pos h]
    simp only
    have h4 := h.2.2.2.1
    have h5 := h.2.2.1
    rw [sub_eq (by omega)]
    rfl
  · rw [if_neg h]
    exact ⟨_, rfl⟩
theorem opW_slice_str (t : TypeId) (x : Operand) (lo hi : Option Operand) (hc : clsS (c.P.underlying t) = 0) : opW c Ok (.slice t x lo hi none) env h K = optP (slOk (evalE env x) (lo.map (evalE env)) (hi.map (evalE env))) (slT (evalE env x) (lo.map (evalE env)) (hi.map (evalE env))) [] h K := by
  have hu : c.P.underlying t = some .string := by
    unfold clsS at hc
    split at hc
    · assumption
    · cases hc
  have e0 : opM c.P c.gl noCall (evalE env) (.slice t x lo hi none) h.st = sliceM c.P t (evalE env x) (lo.map (evalE env)) (hi.map (evalE env)) none h.st := rfl
  cases hv : evalE env x
  case str s =>
    rw [hv] at e0
    by_cases hok : slOk (.str s) (lo.map (evalE env)) (hi.map (evalE env))
    · rw [opW_ret (nc trivial) (e0.trans ((slice_str hu s _ _ _).1 hok))]
      simp [optP, hok]
    · obtain ⟨w, e⟩ := (slice_str hu s (lo.map (evalE env)) (hi.map (evalE env)) h.st).2 hok
      rw [opW_fail (nc trivial) (e0.trans e)]
      simp [optP, hok]
  all_goals
    rw [hv] at e0
    rw [opW_fail (w := "slice") (nc trivial) (e0.trans (by unfold sliceM; rw [hu]; rfl))]
    simp [optP, slOk]
theorem gOp_slice_str (t : TypeId) (x : Operand) (lo hi : Option Operand) (hc : clsS (c.P.underlying t) = 0) : gOp c Ok p (.slice t x lo hi none) env h K = (imp p (slOk (evalE env x) (lo.map (evalE env)) (hi.map (evalE env))) ∧ K (gv p (slT (evalE env x) (lo.map (evalE env)) (hi.map (evalE env)))) h (.lg [])) := by
  rw [gOp_pure fun K => opW_slice_str (K := K) t x lo hi hc, glog_nil]

/-- a conversion into a number -/
def cvO (s d : Option TypeDesc) (x : V) : Option V := match s, d, x with
  | some _, some (.int k), .int _ n => some (.int k (k.wrap n))
  | _, _, _ => none
theorem cvO_int (s : TypeDesc) (k k' : IntKind) (n : Int) : cvO (some s) (some (.int k)) (.int k' n) = some (.int k (k.wrap n)) := rfl
theorem opW_conv_int (s t : TypeId) (x : Operand) (hc : clsC (c.P.underlying t) = 0) : opW c Ok (.convert s t x) env h K = optP (okO (cvO (c.P.underlying s) (c.P.underlying t) (evalE env x))) (getO' (cvO (c.P.underlying s) (c.P.underlying t) (evalE env x))) [] h K := by
  refine opM_pure (nc trivial) (m := convertM c.P s t (evalE env x)) rfl fun st => ?_
  unfold convertM cvO
  cases hu : c.P.underlying t with
  | none => rw [hu] at hc; cases hc
  | some d =>
    rw [hu] at hc
    cases d <;> try (cases hc; done)
    cases hs : c.P.underlying s with
    | none => exact ⟨_, rfl⟩
    | some d' => cases d' <;> cases evalE env x <;> first | rfl | exact ⟨_, rfl⟩
theorem gOp_conv_int (s t : TypeId) (x : Operand) (hc : clsC (c.P.underlying t) = 0) : gOp c Ok p (.convert s t x) env h K = (imp p (okO (cvO (c.P.underlying s) (c.P.underlying t) (evalE env x))) ∧ K (gv p (getO' (cvO (c.P.underlying s) (c.P.underlying t) (evalE env x)))) h (.lg [])) := by
  rw [gOp_pure fun K => opW_conv_int (K := K) s t x hc, glog_nil]

theorem indexAddr_slice {P : Program} {t e : TypeId} {sz : Nat} (hu : P.underlying t = some (.slice e)) (hs : szT P e = some sz) (k o n m : Nat) (kd : IntKind) (i : Int) : indexAddrV P t (.slice k o n m) (.int kd i) = if 0 ≤ i ∧ i < n then some (.ptr k (o + i.toNat * sz)) else none := by
  unfold indexAddrV pureO opIndexAddr
  rw [hu]
  cases i with
  | negSucc j => simp [Lx.err]
  | ofNat j =>
    simp only [hs]
    by_cases hj : j < n
    · rw [if_pos ⟨by simp, by simpa using hj⟩, show Nat.blt j n = true by simpa [Nat.blt_eq] using hj]
      rfl
    · rw [if_neg (by simp; omega)]
      have : Nat.blt j n = false := by
        cases hb : Nat.blt j n with
        | false => rfl
        | true => exact (hj (by simpa [Nat.blt_eq] using hb)).elim
      rw [this]
      rfl
theorem boolT : V.bool true = bo True := bo_true.symm
theorem boolF : V.bool false = bo False := bo_false.symm

/-! ### The machine's own steps, one by one -/

def goL (n0 : Nat) (Ok : Nat → Prop) (m : M V) (h : H) (lg : List LE) (K : V → H → Fp → Prop) : Prop := match m ⟨h.heap, h.nx, lg⟩ with
  | .ok v s => LogOk Ok n0 s.log ∧ K v (ofSt s) (.lg s.log)
  | .fail _ => False
theorem opW_goL {o : Op} {m : M V} (hn : ∀ k, o = .call k → ∀ f, k.callee ≠ .value f) (e : opM c.P c.gl noCall (evalE env) o = m) : opW c Ok o env h K = goL h.nx Ok m h [] K := by
  subst e
  exact opW_plain hn
variable {n0 : Nat} {lg : List LE}
theorem goL_ret (v : V) : goL n0 Ok (Lx.ret v) h lg K = (LogOk Ok n0 lg ∧ K v h (.lg lg)) := rfl
theorem goL_err (w : String) : goL n0 Ok (Lx.err w) h lg K = False := rfl
theorem goL_opt_some (v : V) (w : String) : goL n0 Ok (Lx.opt (some v) w) h lg K = (LogOk Ok n0 lg ∧ K v h (.lg lg)) := rfl
theorem goL_cond (b : Bool) (x y : M V) : goL n0 Ok (bif b then x else y) h lg K = ((b = true → goL n0 Ok x h lg K) ∧ (b = false → goL n0 Ok y h lg K)) := by cases b <;> simp
theorem goL_ite (q : Prop) [Decidable q] (x y : M V) : goL n0 Ok (if q then x else y) h lg K = ((q → goL n0 Ok x h lg K) ∧ (¬ q → goL n0 Ok y h lg K)) := by by_cases hq : q <;> simp [hq]
theorem goL_alloc (ob : Ob) (f : Nat → M V) : goL n0 Ok (Lx.bnd (Lx.alloc ob) f) h lg K = goL n0 Ok (f h.nx) (h.push ob) (.wrd h.nx :: lg) K := rfl
theorem goL_ld (k o n : Nat) (f : List V → M V) : goL n0 Ok (Lx.bnd (Lx.ld k o n) f) h lg K = ∃ cs, rdC (h.get k) o n = some cs ∧ goL n0 Ok (f cs) h (.rd k o n :: lg) K := by
  unfold goL Lx.bnd Lx.ld rdC H.get
  simp only
  cases hg : h.heap.get k with
  | none => simp
  | some ob =>
    cases ob <;> simp only <;> try simp
    rename_i c e p
    cases hb : Nat.ble (o + n) c.length <;> simp
theorem goL_blk (k : Nat) (f : Nat × TypeId × Bool → M V) : goL n0 Ok (Lx.bnd (Lx.blk k) f) h lg K = ∃ cs e p, h.get k = some (.cells cs e p) ∧ goL n0 Ok (f (cs.length, e, p)) h (.rdd k :: lg) K := by
  unfold goL Lx.bnd Lx.blk H.get
  simp only
  cases hg : h.heap.get k with
  | none => simp
  | some ob => cases ob <;> first | (simp; done) | exact propext ⟨fun q => ⟨_, _, _, rfl, q⟩, fun ⟨_, _, _, e, q⟩ => by cases e; exact q⟩
theorem goL_getO (k : Nat) (f : Ob → M V) : goL n0 Ok (Lx.bnd (Lx.getO k) f) h lg K = ∃ ob, h.get k = some ob ∧ ob.isCells = false ∧ goL n0 Ok (f ob) h (.rdd k :: lg) K := by
  unfold goL Lx.bnd Lx.getO H.get
  simp only
  cases hg : h.heap.get k with
  | none => simp
  | some ob => cases hb : ob.isCells <;> simp [hb]
theorem goL_kill (k : Nat) (f : Unit → M V) : goL n0 Ok (Lx.bnd (Lx.kill k) f) h lg K = ∃ cs e p, h.get k = some (.cells cs e p) ∧ goL n0 Ok (f ()) (h.del k) (.wrd k :: .rdd k :: lg) K := by
  unfold goL Lx.bnd Lx.kill H.get H.del
  simp only
  cases hg : h.heap.get k with
  | none => simp
  | some ob => cases ob <;> simp
theorem goL_setO (k : Nat) (o : Ob) (f : Unit → M V) : goL n0 Ok (Lx.bnd (Lx.setO k o) f) h lg K = ∃ ob, h.get k = some ob ∧ ob.isCells = false ∧ o.isCells = false ∧ goL n0 Ok (f ()) (h.put k o) (.wrd k :: .rdd k :: lg) K := by
  unfold goL Lx.bnd Lx.setO H.get H.put
  simp only
  cases hg : h.heap.get k with
  | none => simp
  | some ob => cases hb : ob.isCells <;> cases ho : o.isCells <;> simp [hb, ho]
theorem goL_stc (k o : Nat) (vs : List V) (f : Unit → M V) : goL n0 Ok (Lx.bnd (Lx.stc k o vs) f) h lg K = ∃ cs e p, h.get k = some (.cells cs e p) ∧ o + vs.length ≤ cs.length ∧ vs.all V.isCell = true ∧ goL n0 Ok (f ()) (h.put k (.cells (listPut cs o vs) e p)) (.wr k o vs.length :: lg) K := by
  unfold goL Lx.bnd Lx.stc H.get H.put
  simp only
  cases hg : h.heap.get k with
  | none => simp
  | some ob =>
    cases ob <;> first | (simp; done) | skip
    rename_i c e p
    simp only
    by_cases hl : (Nat.ble (o + vs.length) c.length && vs.all V.isCell) = true
    · rw [hl]
      simp only [Bool.and_eq_true] at hl
      exact propext ⟨fun q => ⟨_, _, _, rfl, Nat.le_of_ble_eq_true hl.1, hl.2, q⟩, fun ⟨_, _, _, e, _, _, q⟩ => by cases e; exact q⟩
    · rw [Bool.eq_false_iff.2 hl]
      refine propext ⟨fun q => q.elim, fun ⟨_, _, _, e, h1, h2, q⟩ => ?_⟩
      cases e
      refine hl ?_
      simp only [Bool.and_eq_true]
      exact ⟨ble_iff.2 h1, h2⟩
theorem opW_convert (s t : TypeId) (x : Operand) : opW c Ok (.convert s t x) env h K = goL h.nx Ok (convertM c.P s t (evalE env x)) h [] K := opW_goL (nc trivial) rfl
theorem opW_slice (t : TypeId) (x : Operand) (lo hi mx : Option Operand) : opW c Ok (.slice t x lo hi mx) env h K = goL h.nx Ok (sliceM c.P t (evalE env x) (lo.map (evalE env)) (hi.map (evalE env)) (mx.map (evalE env))) h [] K := opW_goL (nc trivial) rfl
theorem opW_lookup (t : TypeId) (x i : Operand) (ok : Bool) : opW c Ok (.lookup t x i ok) env h K = goL h.nx Ok (lookupM c.P t (evalE env x) (evalE env i) ok) h [] K := opW_goL (nc trivial) rfl
theorem opW_mapUpdate (t : TypeId) (m k v : Operand) : opW c Ok (.mapUpdate t m k v) env h K = goL h.nx Ok (mapUpdateM c.P t (evalE env m) (evalE env k) (evalE env v)) h [] K := opW_goL (nc trivial) rfl
theorem opW_insert (t : TypeId) (m k v : Operand) : opW c Ok (.insert t m k v) env h K = goL h.nx Ok (mapUpdateM c.P t (evalE env m) (evalE env k) (evalE env v)) h [] K := opW_goL (nc trivial) rfl
theorem opW_range (t : TypeId) (x : Operand) : opW c Ok (.range t x) env h K = goL h.nx Ok (rangeM c.P t (evalE env x)) h [] K := opW_goL (nc trivial) rfl
theorem opW_next (x : Operand) (b : Bool) : opW c Ok (.next x b) env h K = goL h.nx Ok (nextM (evalE env x) b) h [] K := opW_goL (nc trivial) rfl
theorem opW_makeMap (t : TypeId) (r : Option Operand) : opW c Ok (.makeMap t r) env h K = goL h.nx Ok (opMakeMap c.P t (r.map (evalE env))) h [] K := opW_goL (nc trivial) rfl
theorem opW_makeSlice (t : TypeId) (l m : Operand) : opW c Ok (.makeSlice t l m) env h K = goL h.nx Ok (opMakeSlice c.P t (evalE env l) (evalE env m)) h [] K := opW_goL (nc trivial) rfl
theorem opW_builtin (b : Builtin) (args : Array Operand) (ts : Array TypeId) : opW c Ok (.call ⟨.builtin b, args, ts⟩) env h K = goL h.nx Ok (builtinM c.P b ts (args.toList.map (evalE env))) h [] K := opW_goL (nb _ _ _) rfl
theorem LogOk_cons_wrd {k : Nat} : LogOk Ok n0 (.wrd k :: lg) = ((n0 ≤ k ∨ Ok k) ∧ LogOk Ok n0 lg) := propext ⟨fun q => ⟨q (.wrd k) (by simp) rfl, fun e he => q e (by simp [he])⟩, fun q e he hw => by
  rcases List.mem_cons.1 he with rfl | he
  · exact q.1
  · exact q.2 e he hw⟩
theorem LogOk_cons_wr {k o n : Nat} : LogOk Ok n0 (.wr k o n :: lg) = ((n0 ≤ k ∨ Ok k) ∧ LogOk Ok n0 lg) := propext ⟨fun q => ⟨q (.wr k o n) (by simp) rfl, fun e he => q e (by simp [he])⟩, fun q e he hw => by
  rcases List.mem_cons.1 he with rfl | he
  · exact q.1
  · exact q.2 e he hw⟩
theorem LogOk_cons_rd {k o n : Nat} : LogOk Ok n0 (.rd k o n :: lg) = LogOk Ok n0 lg := propext ⟨fun q e he => q e (by simp [he]), fun q e he hw => by
  rcases List.mem_cons.1 he with rfl | he
  · cases hw
  · exact q e he hw⟩
theorem LogOk_cons_rdd {k : Nat} : LogOk Ok n0 (.rdd k :: lg) = LogOk Ok n0 lg := propext ⟨fun q e he => q e (by simp [he]), fun q e he hw => by
  rcases List.mem_cons.1 he with rfl | he
  · cases hw
  · exact q e he hw⟩
theorem LogOk_nil' : LogOk Ok n0 [] = True := by simp [LogOk]
end
end
end Go.Wx
