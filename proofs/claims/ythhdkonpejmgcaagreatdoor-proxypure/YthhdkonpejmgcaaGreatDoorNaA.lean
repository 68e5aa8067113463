/-
  Several texts, joined.
-/
import Derived.Test.YthhdkonpejmgcaaGreatDoorBgA
import Derived.Test.YthhdkonpejmgcaaGreatDoorLvA
import Derived.Test.YthhdkonpejmgcaaGreatDoorRows
import Derived.Lay
import Derived.KernelRfl
/-
  The type that an interface datum names, found without asking every type for its name; the world of the witness.
-/
namespace Go.Proofs.YthhdkonpejmgcaaGreatDoor
open Go Go.Proofs
set_option linter.unusedVariables false
set_option maxRecDepth 100000
def es : String := "*errors.errorString"
/-- may the type at 'u' bear the name? -/
def mayb (P : Program) (u : Nat) : Bool :=
  match P.info? u with
  | some i => match i.desc with
    | .named n _ => n == "*errors.errorString"
    | .pointer e => match P.info? e with
      | some ie => match ie.desc with
        | .named m _ => m == "errors.errorString"
        | .bool | .int _ | .float _ | .string => ie.str == "errors.errorString"
        | _ => false
      | none => false
    | .bool | .int _ | .float _ | .string => i.str == "*errors.errorString"
    | _ => false
  | none => false
theorem app_inj {s : String} (h : "*" ++ s = "*errors.errorString") : s = "errors.errorString" := by
  have := congrArg String.toList h
  rw [String.toList_append] at this
  have h2 : ("*errors.errorString" : String).toList = Char.ofNat 42 :: ("errors.errorString" : String).toList := by decide +kernel
  have h3 : ("*" : String).toList = [Char.ofNat 42] := by decide +kernel
  rw [h2, h3] at this
  exact String.toList_inj.1 (List.cons.inj this).2
theorem app_ne {s : String} (h : "*" ++ s = "errors.errorString") : False := by
  have := congrArg String.toList h
  rw [String.toList_append] at this
  have h2 : ("errors.errorString" : String).toList = Char.ofNat 101 :: ("rrors.errorString" : String).toList := by decide +kernel
  have h3 : ("*" : String).toList = [Char.ofNat 42] := by decide +kernel
  rw [h2, h3] at this
  exact absurd (List.cons.inj this).1 (by decide)
theorem mayb_of (P : Program) (u : Nat) (h : P.typeName? 3 u = some "*errors.errorString") : mayb P u = true := by
  unfold Program.typeName? at h
  unfold mayb
  cases hi : P.info? u with
  | none => rw [hi] at h; cases h
  | some i =>
    rw [hi] at h
    simp only at h ⊢
    cases hd : i.desc with
    | named n r =>
      rw [hd] at h
      simp only at h ⊢
      split at h
      · cases h; rfl
      · cases h
    | pointer e =>
      rw [hd] at h
      simp only at h ⊢
      cases h2 : P.typeName? 2 e with
      | none => rw [h2] at h; cases h
      | some m =>
        rw [h2] at h
        have hm : m = "errors.errorString" := app_inj (by simpa using h)
        subst hm
        unfold Program.typeName? at h2
        cases he : P.info? e with
        | none => rw [he] at h2; cases h2
        | some ie =>
          rw [he] at h2
          simp only at h2 ⊢
          cases hd2 : ie.desc with
          | named n r =>
            rw [hd2] at h2
            simp only at h2 ⊢
            split at h2
            · cases h2; rfl
            · cases h2
          | pointer e' =>
            rw [hd2] at h2
            simp only at h2
            cases h3 : P.typeName? 1 e' with
            | none => rw [h3] at h2; cases h2
            | some m' =>
              rw [h3] at h2
              exact (app_ne (s := m') (by simpa using h2)).elim
          | bool | int | float | string =>
            rw [hd2] at h2
            simp only at h2 ⊢
            split at h2
            · cases h2
            · rw [beq_iff_eq]; exact Option.some.inj h2
          | _ => rw [hd2] at h2; cases h2
    | bool | int | float | string =>
      rw [hd] at h
      simp only at h ⊢
      split at h
      · cases h
      · rw [beq_iff_eq]; exact Option.some.inj h
    | _ => rw [hd] at h; cases h
theorem find_first (n K : Nat) (p : Nat → Bool) (hK : K < n) (h : p K = true) (hl : ∀ j, j < K → p j = false) : (List.range n).find? p = some K := by
  rw [List.find?_range_eq_some]
  exact ⟨h, by simpa using hK, fun j hj => by rw [hl j hj]; rfl⟩
theorem below_ok : (List.range 834).all (fun u => !mayb Tryz.prog u) = true := by kernel_rfl
theorem name834 : Tryz.prog.typeName? 3 834 = some "*errors.errorString" := by kernel_rfl
theorem types_size : Nat.blt 834 Tryz.prog.types.size = true := by kernel_rfl
theorem es_find : ((List.range Tryz.prog.types.size).find? fun u => Tryz.prog.typeName? 3 u == some "*errors.errorString") = some 834 :=
  find_first _ _ _ (by rw [← Nat.blt_eq]; exact types_size) (by rw [name834]; exact beq_self_eq_true _) fun j hj => by
    cases hb : (Tryz.prog.typeName? 3 j == some "*errors.errorString") with
    | false => rfl
    | true =>
      have h1 := mayb_of Tryz.prog j (by simpa using hb)
      have h2 := List.all_eq_true.1 below_ok j (List.mem_range.2 hj)
      rw [h1] at h2
      cases h2
end Go.Proofs.YthhdkonpejmgcaaGreatDoor

/-
  The world of the witness, with the two sentinels' type told.
-/
namespace Go.Proofs.YthhdkonpejmgcaaGreatDoor
open Go Go.Proofs
set_option linter.unusedVariables false
set_option maxRecDepth 100000
def laidL : List (String × DataW Unit) := [("math/bits.deBruijn32tab", Rows.laid_math_bits_deBruijn32tab), ("math/bits.deBruijn64tab", Rows.laid_math_bits_deBruijn64tab), ("internal/strconv.uint64pow10", Rows.laid_internal_strconv_uint64pow10), ("unicode/utf8.acceptRanges", Rows.laid_unicode_utf8_acceptRanges), ("strconv.ErrRange", Rows.laid_strconv_ErrRange), ("strconv.ErrSyntax", Rows.laid_strconv_ErrSyntax), ("unicode.White_Space", Rows.laid_unicode_White_Space), ("strings.asciiSpace", Rows.laid_strings_asciiSpace), ("sluicegate/proxy.killed", Rows.laid_sluicegate_proxy_killed), ("unicode/utf8.first", Rows.laid_unicode_utf8_first)]
noncomputable def layE (t n : Nat) (d : DataW Unit) : Option (List Value × List Obj) :=
  match Tryz.prog.underlying t with
  | some (.interface _) => match d.lay Tryz.prog 834 n with
    | some x => match Lay.pack Tryz.prog 834 x.1 with
      | some v => some ([.iface 834 v], x.2)
      | none => none
    | none => none
  | _ => none
theorem layE_eq (t n : Nat) (d : DataW Unit) : (DataW.iface "*errors.errorString" d).lay Tryz.prog t n = layE t n d := by
  unfold DataW.lay layE
  rw [es_find]
  cases Tryz.prog.underlying t with
  | none => rfl
  | some x => cases x <;> rfl
noncomputable def layF (d : DataW Unit) (t n : Nat) : Option (List Value × List Obj) :=
  match d with
  | .iface name e => if name = "*errors.errorString" then layE t n e else (DataW.iface name e).lay Tryz.prog t n
  | d => d.lay Tryz.prog t n
theorem layF_eq (d : DataW Unit) (t n : Nat) : d.lay Tryz.prog t n = layF d t n := by
  cases d with
  | iface name e =>
    show _ = if name = "*errors.errorString" then layE t n e else (DataW.iface name e).lay Tryz.prog t n
    by_cases h : name = "*errors.errorString"
    · rw [if_pos h, h, layE_eq]
    · rw [if_neg h]
  | _ => rfl
noncomputable def layL (n : Nat) : List (String × DataW Unit) → Option (List (Nat × List Value) × List Obj)
  | [] => some ([], [])
  | x :: r => match Tryz.prog.globalNamed x.1 with
    | some g => match Tryz.prog.globals[g]? with
      | some gl => match layF x.2 gl.type n with
        | some y => match layL (n + y.2.length) r with
          | some z => some ((g, y.1) :: z.1, y.2 ++ z.2)
          | none => none
        | none => none
      | none => none
    | none => none
theorem layL_eq : ∀ (l : List (String × DataW Unit)) (n : Nat), Lay.layList Tryz.prog n l = layL n l
  | [], _ => rfl
  | x :: r, n => by
    unfold Lay.layList layL
    cases Tryz.prog.globalNamed x.1 with
    | none => rfl
    | some g =>
      simp only
      cases Tryz.prog.globals[g]? with
      | none => rfl
      | some gl =>
        simp only [layF_eq]
        cases layF x.2 gl.type n with
        | none => rfl
        | some y => simp only [layL_eq r]; rfl
theorem layL_fun : Lay.layList Tryz.prog = layL := by funext n l; exact layL_eq l n
def holdBy (w₀ : World) : World :=
  let s : World := { w₀ with heap := (w₀.heap.toList.map fun | .pending c t => .cells c t | o => o).toArray }
  { s with heap := s.heap ++ (#[] : Array Obj) }
theorem hold_by (P : Program) (os : Os) : World.holding P os ⟨#[], #[], []⟩ = holdBy (begin P (fun _ _ => 0) os).world := rfl
def layBy (L : Nat → List (String × DataW Unit) → Option (List (Nat × List Value) × List Obj)) (w : World) (l : List (String × DataW Unit)) : World :=
  match L w.heap.size l with
  | some y => { w with heap := ⟨Lay.setRows w.heap.toList y.1 ++ y.2⟩ }
  | none => w
theorem lay_by (P : Program) (w : World) (l : List (String × DataW Unit)) : w.layVars P l = layBy (Lay.layList P) w l := rfl
noncomputable def W1 (os : Os) : World := holdBy (beginW Tryz.prog W0 (fun _ _ => 0) os).world
noncomputable def W2 (os : Os) : World := layBy layL (W1 os) laidL
theorem holding_eq (os : Os) : World.holding Tryz.prog os ⟨#[], #[], []⟩ = W1 os := by rw [hold_by, begin0]; rfl
theorem laidAll_eq (os : Os) : World.laidAll Tryz.prog os laidL = W2 os := by
  unfold World.laidAll
  rw [holding_eq, lay_by, layL_fun]; rfl
def zipOne (P : Program) (w : World) (a b : Obj) : Bool :=
  match a.row? with
  | none => true
  | some (zero, t) => match b with
    | .cells cs t' frozen => decide (t' = t) && decide (frozen = (0, 0)) && cs.size == zero.size && (!P.buildable t || match P.cellTypes P.depth t with | some ts => Lay.zipOk P w cs.toList ts | none => false)
    | _ => false
def zipGo (P : Program) (w : World) : Nat → List Obj → List Obj → Bool
  | 0, _, _ => true
  | n + 1, a :: l0, b :: l => zipOne P w a b && zipGo P w n l0 l
  | _ + 1, _, _ => false
theorem zipGo_at {P : Program} {w : World} : ∀ (n : Nat) (l0 l : List Obj), zipGo P w n l0 l = true → ∀ g, g < n → ∃ a b, l0[g]? = some a ∧ l[g]? = some b ∧ zipOne P w a b = true
  | 0, _, _, _, g, hg => absurd hg (by omega)
  | n + 1, [], _, h, _, _ => by cases h
  | n + 1, _ :: _, [], h, _, _ => by cases h
  | n + 1, a :: l0, b :: l, h, g, hg => by
    simp only [zipGo, Bool.and_eq_true] at h
    cases g with
    | zero => exact ⟨a, b, rfl, rfl, h.1⟩
    | succ g => exact zipGo_at n l0 l h.2 g (by omega)
theorem zipB_by {P : Program} {w : World} (n : Nat) (hn : P.globals.size = n) (h : zipGo P w n (begin P (fun _ _ => 0) default).world.heap.toList w.heap.toList = true) : w.variablesZipB P = true := by
  unfold World.variablesZipB
  rw [hn]
  refine List.all_eq_true.2 fun g hg => ?_
  obtain ⟨a, b, h1, h2, h3⟩ := zipGo_at n _ _ h g (List.mem_range.1 hg)
  rw [Array.getElem?_toList] at h1 h2
  simp only [h1, h2, Option.bind_some]
  unfold zipOne at h3
  cases hr : a.row? with
  | none => rfl
  | some x =>
    obtain ⟨zero, t⟩ := x
    rw [hr] at h3
    cases b <;> exact h3
end Go.Proofs.YthhdkonpejmgcaaGreatDoor

/-
  The laid rows and blocks, as they are.
-/
namespace Go.Proofs.YthhdkonpejmgcaaGreatDoor
open Go Go.Proofs
set_option linter.unusedVariables false
set_option maxRecDepth 100000
def u8 (n : Nat) : Value := .int .u8 n
def rowsL : List (Nat × List Value) := [(.mk 7 [u8 0, u8 1, u8 28, u8 2, u8 29, u8 14, u8 24, u8 3, u8 30, u8 22, u8 20, u8 15, u8 25, u8 17, u8 4, u8 8, u8 31, u8 27, u8 13, u8 23, u8 21, u8 19, u8 16, u8 7, u8 26, u8 12, u8 18, u8 6, u8 11, u8 5, u8 10, u8 9]), (.mk 8 [u8 0, u8 1, u8 56, u8 2, u8 57, u8 49, u8 28, u8 3, u8 61, u8 58, u8 42, u8 50, u8 38, u8 29, u8 17, u8 4, u8 62, u8 47, u8 59, u8 36, u8 45, u8 43, u8 51, u8 22, u8 53, u8 39, u8 33, u8 30, u8 24, u8 18, u8 12, u8 5, u8 63, u8 55, u8 48, u8 27, u8 60, u8 41, u8 37, u8 16, u8 46, u8 35, u8 44, u8 21, u8 52, u8 32, u8 23, u8 11, u8 54, u8 26, u8 40, u8 15, u8 34, u8 20, u8 31, u8 10, u8 25, u8 14, u8 19, u8 9, u8 13, u8 8, u8 7, u8 6]), (.mk 3 [(.int .u64 1), (.int .u64 10), (.int .u64 100), (.int .u64 1000), (.int .u64 10000), (.int .u64 100000), (.int .u64 1000000), (.int .u64 10000000), (.int .u64 100000000), (.int .u64 1000000000), (.int .u64 10000000000), (.int .u64 100000000000), (.int .u64 1000000000000), (.int .u64 10000000000000), (.int .u64 100000000000000), (.int .u64 1000000000000000), (.int .u64 10000000000000000), (.int .u64 100000000000000000), (.int .u64 1000000000000000000), (.int .u64 10000000000000000000)]), (.mk 10 [u8 128, u8 191, u8 160, u8 191, u8 128, u8 159, u8 144, u8 191, u8 128, u8 143, u8 0, u8 0, u8 0, u8 0, u8 0, u8 0, u8 0, u8 0, u8 0, u8 0, u8 0, u8 0, u8 0, u8 0, u8 0, u8 0, u8 0, u8 0, u8 0, u8 0, u8 0, u8 0]), (.mk 6 [(.iface 834 (.pointer (.some (.mk 17 0 .none))))]), (.mk 5 [(.iface 834 (.pointer (.some (.mk 18 0 .none))))]), (.mk 4 [(.pointer (.some (.mk 19 0 .none)))]), (.mk 2 [u8 0, u8 0, u8 0, u8 0, u8 0, u8 0, u8 0, u8 0, u8 0, u8 1, u8 1, u8 1, u8 1, u8 1, u8 0, u8 0, u8 0, u8 0, u8 0, u8 0, u8 0, u8 0, u8 0, u8 0, u8 0, u8 0, u8 0, u8 0, u8 0, u8 0, u8 0, u8 0, u8 1, u8 0, u8 0, u8 0, u8 0, u8 0, u8 0, u8 0, u8 0, u8 0, u8 0, u8 0, u8 0, u8 0, u8 0, u8 0, u8 0, u8 0, u8 0, u8 0, u8 0, u8 0, u8 0, u8 0, u8 0, u8 0, u8 0, u8 0, u8 0, u8 0, u8 0, u8 0, u8 0, u8 0, u8 0, u8 0, u8 0, u8 0, u8 0, u8 0, u8 0, u8 0, u8 0, u8 0, u8 0, u8 0, u8 0, u8 0, u8 0, u8 0, u8 0, u8 0, u8 0, u8 0, u8 0, u8 0, u8 0, u8 0, u8 0, u8 0, u8 0, u8 0, u8 0, u8 0, u8 0, u8 0, u8 0, u8 0, u8 0, u8 0, u8 0, u8 0, u8 0, u8 0, u8 0, u8 0, u8 0, u8 0, u8 0, u8 0, u8 0, u8 0, u8 0, u8 0, u8 0, u8 0, u8 0, u8 0, u8 0, u8 0, u8 0, u8 0, u8 0, u8 0, u8 0, u8 0, u8 0, u8 0, u8 0, u8 0, u8 0, u8 0, u8 0, u8 0, u8 0, u8 0, u8 0, u8 0, u8 0, u8 0, u8 0, u8 0, u8 0, u8 0, u8 0, u8 0, u8 0, u8 0, u8 0, u8 0, u8 0, u8 0, u8 0, u8 0, u8 0, u8 0, u8 0, u8 0, u8 0, u8 0, u8 0, u8 0, u8 0, u8 0, u8 0, u8 0, u8 0, u8 0, u8 0, u8 0, u8 0, u8 0, u8 0, u8 0, u8 0, u8 0, u8 0, u8 0, u8 0, u8 0, u8 0, u8 0, u8 0, u8 0, u8 0, u8 0, u8 0, u8 0, u8 0, u8 0, u8 0, u8 0, u8 0, u8 0, u8 0, u8 0, u8 0, u8 0, u8 0, u8 0, u8 0, u8 0, u8 0, u8 0, u8 0, u8 0, u8 0, u8 0, u8 0, u8 0, u8 0, u8 0, u8 0, u8 0, u8 0, u8 0, u8 0, u8 0, u8 0, u8 0, u8 0, u8 0, u8 0, u8 0, u8 0, u8 0, u8 0, u8 0, u8 0, u8 0, u8 0, u8 0, u8 0, u8 0, u8 0, u8 0, u8 0, u8 0, u8 0, u8 0, u8 0, u8 0, u8 0, u8 0, u8 0, u8 0, u8 0, u8 0, u8 0, u8 0, u8 0, u8 0, u8 0, u8 0]), (.mk 0 [(.int .u16 1317), (.string (.mk ⟨[55, 48, 49, 48, 48]⟩)), (.string (.mk ⟨[107, 105, 108, 108, 101, 100]⟩))]), (.mk 9 [u8 240, u8 240, u8 240, u8 240, u8 240, u8 240, u8 240, u8 240, u8 240, u8 240, u8 240, u8 240, u8 240, u8 240, u8 240, u8 240, u8 240, u8 240, u8 240, u8 240, u8 240, u8 240, u8 240, u8 240, u8 240, u8 240, u8 240, u8 240, u8 240, u8 240, u8 240, u8 240, u8 240, u8 240, u8 240, u8 240, u8 240, u8 240, u8 240, u8 240, u8 240, u8 240, u8 240, u8 240, u8 240, u8 240, u8 240, u8 240, u8 240, u8 240, u8 240, u8 240, u8 240, u8 240, u8 240, u8 240, u8 240, u8 240, u8 240, u8 240, u8 240, u8 240, u8 240, u8 240, u8 240, u8 240, u8 240, u8 240, u8 240, u8 240, u8 240, u8 240, u8 240, u8 240, u8 240, u8 240, u8 240, u8 240, u8 240, u8 240, u8 240, u8 240, u8 240, u8 240, u8 240, u8 240, u8 240, u8 240, u8 240, u8 240, u8 240, u8 240, u8 240, u8 240, u8 240, u8 240, u8 240, u8 240, u8 240, u8 240, u8 240, u8 240, u8 240, u8 240, u8 240, u8 240, u8 240, u8 240, u8 240, u8 240, u8 240, u8 240, u8 240, u8 240, u8 240, u8 240, u8 240, u8 240, u8 240, u8 240, u8 240, u8 240, u8 240, u8 240, u8 240, u8 240, u8 240, u8 240, u8 241, u8 241, u8 241, u8 241, u8 241, u8 241, u8 241, u8 241, u8 241, u8 241, u8 241, u8 241, u8 241, u8 241, u8 241, u8 241, u8 241, u8 241, u8 241, u8 241, u8 241, u8 241, u8 241, u8 241, u8 241, u8 241, u8 241, u8 241, u8 241, u8 241, u8 241, u8 241, u8 241, u8 241, u8 241, u8 241, u8 241, u8 241, u8 241, u8 241, u8 241, u8 241, u8 241, u8 241, u8 241, u8 241, u8 241, u8 241, u8 241, u8 241, u8 241, u8 241, u8 241, u8 241, u8 241, u8 241, u8 241, u8 241, u8 241, u8 241, u8 241, u8 241, u8 241, u8 241, u8 241, u8 241, u8 2, u8 2, u8 2, u8 2, u8 2, u8 2, u8 2, u8 2, u8 2, u8 2, u8 2, u8 2, u8 2, u8 2, u8 2, u8 2, u8 2, u8 2, u8 2, u8 2, u8 2, u8 2, u8 2, u8 2, u8 2, u8 2, u8 2, u8 2, u8 2, u8 2, u8 19, u8 3, u8 3, u8 3, u8 3, u8 3, u8 3, u8 3, u8 3, u8 3, u8 3, u8 3, u8 3, u8 35, u8 3, u8 3, u8 52, u8 4, u8 4, u8 4, u8 68, u8 241, u8 241, u8 241, u8 241, u8 241, u8 241, u8 241, u8 241, u8 241, u8 241, u8 241])]
def blksL : List Obj := [(.cells ⟨[(.string (.mk ⟨[118, 97, 108, 117, 101, 32, 111, 117, 116, 32, 111, 102, 32, 114, 97, 110, 103, 101]⟩))]⟩ 836 (.mk 0 0)), (.cells ⟨[(.string (.mk ⟨[105, 110, 118, 97, 108, 105, 100, 32, 115, 121, 110, 116, 97, 120]⟩))]⟩ 836 (.mk 0 0)), (.cells ⟨[(.slice (.some (.mk 20 0 .none)) 7 7), (.slice .none 0 0), (.int .i64 2)]⟩ 796 (.mk 0 0)), (.cells ⟨[(.int .u16 9), (.int .u16 13), (.int .u16 1), (.int .u16 32), (.int .u16 133), (.int .u16 101), (.int .u16 160), (.int .u16 5760), (.int .u16 5600), (.int .u16 8192), (.int .u16 8202), (.int .u16 1), (.int .u16 8232), (.int .u16 8233), (.int .u16 1), (.int .u16 8239), (.int .u16 8287), (.int .u16 48), (.int .u16 12288), (.int .u16 12288), (.int .u16 1)]⟩ 798 (.mk 0 0))]
theorem lay_lit : layL 17 laidL = some (rowsL, blksL) := by kernel_rfl
theorem w1_size (os : Os) : (W1 os).heap.size = 17 := by kernel_rfl
theorem n_globals : Tryz.prog.globals.size = 12 := by kernel_rfl
noncomputable def W3 (os : Os) : World := { W1 os with heap := ⟨Lay.setRows (W1 os).heap.toList rowsL ++ blksL⟩ }
theorem w2_eq (os : Os) : W2 os = W3 os := by
  unfold W2 layBy
  rw [w1_size, lay_lit]
  rfl
theorem nums_ok : decide (rowsL.map (·.1)).Nodup = true := by kernel_rfl
theorem rows_ok (os : Os) : (rowsL.all fun r => Lay.isRow (W1 os).heap.toList[r.1]? && !([] : List Nat).contains r.1) = true := by kernel_rfl
theorem fits_of {P : Program} {w : World} {l : List (String × DataW Unit)} {y : List (Nat × List Value) × List Obj} (hy : Lay.layList P w.heap.size l = some y) (h1 : decide (y.1.map (·.1)).Nodup = true)
    (h2 : (y.1.all fun r => Lay.isRow w.heap.toList[r.1]? && !([] : List Nat).contains r.1) = true) : w.layFits P l [] = true := by
  unfold World.layFits
  rw [hy]
  simp only [h1, h2, List.all_nil, Bool.and_self]
theorem ifaces_of {P : Program} {w w' : World} {l : List (String × DataW Unit)} {y : List (Nat × List Value) × List Obj} (hy : Lay.layList P w.heap.size l = some y) (h1 : (y.1.all fun r => r.2.all (Lay.okV P w')) = true)
    (h2 : y.2.all (Lay.okO P w') = true) : w.layIfaces P l w' = true := by
  unfold World.layIfaces
  rw [hy]
  simp only [h1, h2, Bool.and_self]
theorem laid_y (os : Os) : Lay.layList Tryz.prog (W1 os).heap.size laidL = some (rowsL, blksL) := by
  rw [w1_size, layL_fun]
  exact lay_lit
theorem w3_fits (os : Os) : (W1 os).layFits Tryz.prog laidL [] = true := fits_of (laid_y os) nums_ok (rows_ok os)
end Go.Proofs.YthhdkonpejmgcaaGreatDoor

/-
  The blocks behind the variables.
-/
namespace Go.Proofs.YthhdkonpejmgcaaGreatDoor
open Go Go.Proofs
set_option linter.unusedVariables false
set_option maxRecDepth 100000
theorem w3_rest (os : Os) (args : Array Value) : (((W3 os).forCall (fun _ _ => 0) ⟨#[], args, []⟩).heap.toList.drop Tryz.prog.globals.size).take ((begin Tryz.prog (fun _ _ => 0) default).world.heap.size - Tryz.prog.globals.size) =
    (begin Tryz.prog (fun _ _ => 0) default).world.heap.toList.drop Tryz.prog.globals.size := by
  rw [begin0]
  kernel_rfl
end Go.Proofs.YthhdkonpejmgcaaGreatDoor

/-
  Each interface value that was laid is a value of its type.
-/
namespace Go.Proofs.YthhdkonpejmgcaaGreatDoor
open Go Go.Proofs
set_option linter.unusedVariables false
set_option maxRecDepth 100000
theorem okv_rows (os : Os) : (rowsL.all fun r => r.2.all (Lay.okV Tryz.prog (W3 os))) = true := by kernel_rfl
theorem oko_blks (os : Os) : blksL.all (Lay.okO Tryz.prog (W3 os)) = true := by kernel_rfl
theorem w3_ifaces (os : Os) : (W1 os).layIfaces Tryz.prog laidL (W3 os) = true := ifaces_of (laid_y os) (okv_rows os) (oko_blks os)
end Go.Proofs.YthhdkonpejmgcaaGreatDoor

/-
  The shape of each variable.
-/
namespace Go.Proofs.YthhdkonpejmgcaaGreatDoor
open Go Go.Proofs
set_option linter.unusedVariables false
set_option maxRecDepth 100000
theorem w3_zip (os : Os) (args : Array Value) : ((W3 os).forCall (fun _ _ => 0) ⟨#[], args, []⟩).variablesZipB Tryz.prog = true :=
  zipB_by 12 n_globals (by rw [begin0]; kernel_rfl)
end Go.Proofs.YthhdkonpejmgcaaGreatDoor

/-
  The witness: shaped, and the variables laid.
-/
namespace Go.Proofs.YthhdkonpejmgcaaGreatDoor
open Go Go.Proofs
set_option linter.unusedVariables false
set_option maxRecDepth 100000
theorem w3_shaped (os : Os) (args : Array Value) : ((W3 os).forCall (fun _ _ => 0) ⟨#[], args, []⟩).Shaped Tryz.prog := World.shaped_of_ZipB (w3_zip os args) (w3_rest os args)
theorem w3_laid (os : Os) (args : Array Value) : laidMet Tryz.prog laidL ((W3 os).forCall (fun _ _ => 0) ⟨#[], args, []⟩).memory := by
  have h := laidMet_laidAll (P := Tryz.prog) (os := os) (laid := laidL) args (by rw [holding_eq]; exact w3_fits os) (by rw [holding_eq, laidAll_eq, w2_eq]; exact w3_ifaces os)
  rw [laidAll_eq, w2_eq] at h
  exact h
end Go.Proofs.YthhdkonpejmgcaaGreatDoor
