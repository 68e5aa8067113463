/-
  Several texts of one walk, joined.
-/
import Derived.Test.YtfgnpegkcmkeaaaGreatDoorRsB
import Derived.Test.YtfgnpegkcmkeaaaGreatDoorRsA
import Derived.Test.YtfgnpegkcmkeaaaGreatDoorLyY
import Derived.Test.YtfgnpegkcmkeaaaGreatDoorAdA
set_option linter.unusedSimpArgs false
set_option linter.unusedVariables false
set_option linter.defProp false
set_option maxRecDepth 20000
set_option maxHeartbeats 2000000
namespace Go.Proofs.YtfgnpegkcmkeaaaGreatDoor.Rs
open Go.Proofs Go.Lx Go.Wx Go.IntWalk
noncomputable section
def leB (x : Int) : Nat → List Nat
 | 0 => []
 | n + 1 => leB x n ++ [(x / 256 ^ n % 256).toNat]
theorem leB_len (x : Int) : ∀ n, (leB x n).length = n
 | 0 => rfl
 | n + 1 => by unfold leB; rw [List.length_append, leB_len x n]; rfl
theorem leB_ok (x : Int) : ∀ n, ∀ b ∈ leB x n, b < 256
 | 0, b, h => by cases h
 | n + 1, b, h => by
   unfold leB at h
   rcases List.mem_append.1 h with h | h
   ·exact leB_ok x n b h
   ·rw [List.mem_singleton] at h
    omega
def intB (x : Int) : List Nat := if x ≤ 250 then leB x 1 else if x < 65536 then 252 :: leB x 2 else if x < 16777216 then 253 :: leB x 3 else 254 :: leB x 8
def lenB (t : List Nat) : List Nat := intB t.length ++ t
theorem intB_ok (x : Int) : ∀ b ∈ intB x, b < 256 := fun b h => by
 unfold intB at h
 split at h
 ·exact leB_ok _ _ b h
 ·split at h
  ·rcases List.mem_cons.1 h with h | h
   ·omega
   ·exact leB_ok _ _ b h
  ·split at h
   ·rcases List.mem_cons.1 h with h | h
    ·omega
    ·exact leB_ok _ _ b h
   ·rcases List.mem_cons.1 h with h | h
    ·omega
    ·exact leB_ok _ _ b h
theorem intB_len (x : Int) : 1 ≤ (intB x).length ∧ (intB x).length ≤ 9 := by
 unfold intB
 split
 ·rw [leB_len]; omega
 ·split
  ·rw [List.length_cons, leB_len]; omega
  ·split
   ·rw [List.length_cons, leB_len]; omega
   ·rw [List.length_cons, leB_len]; omega
theorem intB_byte {x : Int} (h0 : 0 ≤ x) (h : x ≤ 250) : intB x = [x.toNat] := by
 unfold intB
 rw [if_pos h]
 show [] ++ [(x / 256 ^ 0 % 256).toNat] = _
 rw [List.nil_append, Int.pow_zero, Int.ediv_one]
 congr 1
 omega
theorem intB_two {x : Int} (h : ¬ x ≤ 250) (h2 : x < 256) : intB x = [252, x.toNat, 0] := by
 unfold intB
 rw [if_neg h, if_pos oM]
 show 252 :: (([] ++ [(x / 256 ^ 0 % 256).toNat]) ++ [(x / 256 ^ 1 % 256).toNat]) = _
 have e0 : x / 256 ^ 0 % 256 = x := by rw [Int.pow_zero, Int.ediv_one]; omega
 have e1 : x / 256 ^ 1 % 256 = 0 := by
  have : (256 : Int) ^ 1 = 256 := rfl
  rw [this]; omega
 rw [e0, e1]
 rfl
theorem lenB_ok {t : List Nat} (h : ∀ b ∈ t, b < 256) : ∀ b ∈ lenB t, b < 256 := fun b hb => by
 rcases List.mem_append.1 hb with q | q
 ·exact intB_ok _ b q
 ·exact h b q
theorem lenB_len {t : List Nat} (h : t.length ≤ 255) : t.length + 1 ≤ (lenB t).length ∧ (lenB t).length ≤ 264 := by
 unfold lenB
 have := intB_len t.length
 rw [List.length_append]
 omega
theorem byI_cons (a : Nat) (l : List Nat) : byI (a :: l) 0 = a := rfl
theorem byI_cons1 (a b : Nat) (l : List Nat) : byI (a :: b :: l) 1 = b := rfl
theorem txF_lenB {t r : List Nat} (h : t.length ≤ 255) (hb : ∀ b ∈ t ++ r, b < 256) : txF (lenB t ++ r) = (t, (lenB t).length, 0) := by
 unfold lenB
 by_cases h1 : (t.length : Int) ≤ 250
 ·rw [intB_byte oM h1, Int.toNat_natCast]
  have e : iiF ([t.length] ++ t ++ r) = ((t.length : Int), 1, 0) := by
   show iiF (t.length :: (t ++ r)) = _
   unfold iiF
   rw [if_neg (by simp), byI_cons, if_pos h1]
  unfold txF
  rw [e]
  simp only [ne_eq, not_true_eq_false, if_false]
  rw [if_neg (by simp only [List.length_append, List.length_singleton]; omega)]
  have e2 : 1 + ((t.length : Int)).toNat = ([t.length] ++ t).length := by rw [List.length_append, List.length_singleton]; omega
  rw [e2, List.take_left' rfl]
  rfl
 ·rw [intB_two h1 oM, Int.toNat_natCast]
  have hl : ∀ b ∈ t.length :: 0 :: (t ++ r), b < 256 := fun b q => by
   rcases List.mem_cons.1 q with q | q
   ·omega
   ·rcases List.mem_cons.1 q with q | q
    ·omega
    ·exact hb b q
  have e : iiF ([252, t.length, 0] ++ t ++ r) = ((t.length : Int), 3, 0) := by
   show iiF (252 :: t.length :: 0 :: (t ++ r)) = _
   unfold iiF
   rw [if_neg (by simp), byI_cons]
   rw [if_neg dC, if_neg dC]
   rw [show iiS ((252 : Nat) : Int) = 2 from rfl]
   rw [if_neg (by simp only [List.length_cons]; omega)]
   rw [show (252 :: t.length :: 0 :: (t ++ r)).drop 1 = t.length :: 0 :: (t ++ r) from rfl, rdX_two hl, byI_cons, byI_cons1]
   simp
  unfold txF
  rw [e]
  simp only [ne_eq, not_true_eq_false, if_false]
  rw [if_neg (by simp only [List.length_append, List.length_cons, List.length_nil]; omega)]
  have e2 : 3 + ((t.length : Int)).toNat = ([252, t.length, 0] ++ t).length := by simp only [List.length_append, List.length_cons, List.length_nil]; omega
  rw [e2, List.take_left' rfl]
  rfl
def cellB (t : List Nat) : List Nat := if t = [0] then [251] else lenB t
def rowB (ts : List (List Nat)) : List Nat := ts.flatMap cellB
theorem cellB_ok {t : List Nat} (h : ∀ b ∈ t, b < 256) : ∀ b ∈ cellB t, b < 256 := fun b hb => by
 unfold cellB at hb
 split at hb
 ·rw [List.mem_singleton] at hb; omega
 ·exact lenB_ok h b hb
theorem rowB_ok : ∀ {ts : List (List Nat)}, (∀ t ∈ ts, t.length ≤ 255 ∧ ∀ b ∈ t, b < 256) → ∀ b ∈ rowB ts, b < 256 := fun {ts} h b hb => by
 obtain ⟨t, ht, q⟩ := List.mem_flatMap.1 hb
 exact cellB_ok (h t ht).2 b q
theorem cellB_len {t : List Nat} (h : t.length ≤ 255) : 1 ≤ (cellB t).length ∧ (cellB t).length ≤ 264 := by
 unfold cellB
 split
 ·exact ⟨Nat.le_refl _, by show 1 ≤ 264; omega⟩
 ·have := lenB_len h; omega
theorem rowB_len : ∀ {ts : List (List Nat)}, (∀ t ∈ ts, t.length ≤ 255 ∧ ∀ b ∈ t, b < 256) → (rowB ts).length ≤ ts.length * 264
 | [], _ => Nat.le_refl _
 | t :: ts, h => by
   have h1 := (cellB_len (h t (List.mem_cons_self ..)).1).2
   have h2 := rowB_len (ts := ts) fun x hx => h x (List.mem_cons_of_mem _ hx)
   show (cellB t ++ rowB ts).length ≤ (ts.length + 1) * 264
   rw [List.length_append]
   omega
theorem lenB_cons (t : List Nat) (h : t.length ≤ 255) : ∃ a l, lenB t = a :: l ∧ (a ≤ 250 ∨ a = 252) := by
 unfold lenB
 by_cases h1 : (t.length : Int) ≤ 250
 ·rw [intB_byte oM h1]
  exact ⟨_, _, rfl, .inl oM⟩
 ·rw [intB_two h1 oM]
  exact ⟨_, _, rfl, .inr rfl⟩
theorem rtE_rowB : ∀ {ts : List (List Nat)}, (∀ t ∈ ts, t.length ≤ 255 ∧ ∀ b ∈ t, b < 256) → rtE ts.length (rowB ts) = 0
 | [], _ => rfl
 | t :: ts, h => by
   have h1 := h t (List.mem_cons_self ..)
   have h2 : ∀ x ∈ ts, x.length ≤ 255 ∧ ∀ b ∈ x, b < 256 := fun x hx => h x (List.mem_cons_of_mem _ hx)
   have ih := rtE_rowB h2
   show rtE (ts.length + 1) (cellB t ++ rowB ts) = 0
   unfold rtE cellB
   by_cases ht : t = [0]
   ·rw [if_pos ht]
    rw [if_pos ⟨by simp, rfl⟩]
    exact ih
   ·rw [if_neg ht]
    obtain ⟨a, l, e, ha⟩ := lenB_cons t h1.1
    rw [if_neg (fun q => by rw [e] at q; have := q.2; rw [List.cons_append, byI_cons] at this; omega)]
    rw [txF_lenB h1.1 (fun b hb => by
     rcases List.mem_append.1 hb with q | q
     ·exact h1.2 b q
     ·exact rowB_ok h2 b q)]
    simp only [ne_eq, not_true_eq_false, if_false]
    rw [if_neg oM, List.drop_left' rfl]
    exact ih
theorem rowB_first {ts : List (List Nat)} (h : ∀ t ∈ ts, t.length ≤ 255 ∧ ∀ b ∈ t, b < 256) (hn : 0 < ts.length) : ∃ a l, rowB ts = a :: l ∧ a ≤ 252 := by
 cases ts with
 | nil => cases hn
 | cons t ts =>
   show ∃ a l, cellB t ++ rowB ts = a :: l ∧ a ≤ 252
   unfold cellB
   split
   ·exact ⟨251, _, rfl, by omega⟩
   ·obtain ⟨a, l, e, ha⟩ := lenB_cons t (h t (List.mem_cons_self ..)).1
    rw [e]
    exact ⟨a, _, rfl, by omega⟩
end
end Go.Proofs.YtfgnpegkcmkeaaaGreatDoor.Rs
set_option linter.unusedSectionVars false
namespace Go.Proofs.YtfgnpegkcmkeaaaGreatDoor.Rs
open Go.Proofs Go.Lx Go.Wx Go.IntWalk
noncomputable section
structure StdK (S : Set0) : Prop extends StdR S where
 ownK : ∀ f, f ∈ [4, 8, 10, 12, 13, 14, 25, 26, 27, 28, 29, 30, 31, 33, 34, 35, 39, 66, 67, 68, 69, 74, 76, 112, 113, 114, 116, 118, 119, 132, 153, 154] → sums S.exts f = none
 fmt : sums S.exts 65 = some (pureM fmtV)
abbrev LB (n0 : Nat) (h : H) (v : V) (l : List Nat) : Prop := Lst n0 h v (bytesV l) 5 1
theorem bytesV_app (a b : List Nat) : bytesV (a ++ b) = bytesV a ++ bytesV b := by simp [bytesV]
theorem bytesV_all (l : List Nat) : (bytesV l).all V.isCell = true := by simp [bytesV, V.isCell]
theorem LB.acc {n0 : Nat} {h : H} {v : V} {l : List Nat} (a : LB n0 h v l) (hl : l ≠ []) : Wx.Acc n0 h v (bytesV l) 5 1 := by
 rcases a with q | ⟨q, _⟩
 ·exact q
 ·cases l with
  | nil => exact absurd rfl hl
  | cons x l => simp [bytesV] at q
theorem LB.bs {n0 : Nat} {h : H} {v : V} {l : List Nat} (a : LB n0 h v l) (hb : ∀ x ∈ l, x < 256) : BS 5 h v l := BS.of_lst hb a
theorem LB.mono {n0 n1 : Nat} {h : H} {v : V} {l : List Nat} (a : LB n1 h v l) (hn : n0 ≤ n1) : LB n0 h v l := by
 rcases a with q | ⟨q1, b, q2, q3, q4, q5⟩
 ·exact .inl (q.mono hn)
 ·exact .inr ⟨q1, b, Nat.le_trans hn q2, q3, q4, q5⟩
section
variable {c : Cfg} {Ok : Nat → Prop} {env : Env} {h1 : H} {K : V → H → Fp → Prop}
theorem app_row {s x : Operand} {n0 n : Nat} {l cs : List Nat} {sv : V} {ob : Ob} {t tx : TypeId} (hap : apI c.P t = some (5, 1, 1)) (htx : ∃ d, c.P.underlying tx = some d ∧ isIntD d = false) (hsv : evalE env s = sv) (hxv : evalE env x = .slice h1.nx 0 n n) (hob : ob = .cells (bytesV cs) 5 false) (hn : cs.length = n) (hs : LB n0 h1 sv l) (hl : l.length + n ≤ 1073741824)
  (hOk : ∀ k, n0 ≤ k → Ok k) (hn0 : n0 ≤ h1.nx)
  (hK : ∀ v h' L, LB n0 h' v (l ++ cs) → h1.nx + 1 ≤ h'.nx → (∀ k, k < n0 → h'.get k = h1.get k) → (∀ le ∈ L, h1.nx ≤ blkOf le ∨ ∃ o n m, sv = .slice (blkOf le) o n m) → K v h' (.lg L)) : opW c Ok (.call ⟨.builtin .append, #[s, x], #[t, tx]⟩) env (h1.push ob) K := by
 subst hob
 subst hn
 refine append_lst (n0 := n0) (sv := sv) (xv := .slice h1.nx 0 cs.length cs.length) (cells := bytesV l) (new := bytesV cs) hsv hxv hap htx (hs.ext ((Ext.refl h1).push _)) (.inr ⟨h1.nx, 0, cs.length, cs.length, rfl, Nat.lt_succ_self _, by rw [push_eq rfl]; exact rdC_all (by rw [bytesV_length, Nat.mul_one]), by rw [bytesV_length, Nat.mul_one]⟩) (bytesV_all _) ?_ dC hOk (by show n0 ≤ h1.nx + 1; omega) ?_
 ·rw [bytesV_length, bytesV_length]
  exact hl
 intro v h' L hl' hn' _ hk' hL
 rw [← bytesV_app] at hl'
 refine hK v h' L hl' hn' (fun k hk => by rw [hk' k hk, push_ne oM]) fun le hle => ?_
 rcases hL le hle with ⟨⟨o, n, m, e⟩, _⟩ | ⟨e, _⟩ | e
 ·injection e with e1; exact .inl oM
 ·exact .inl (by have : h1.nx + 1 ≤ blkOf le := e; omega)
 ·exact .inr e
theorem app_one {s x : Operand} {n0 cc : Nat} {l : List Nat} {sv : V} {ob : Ob} {t tx : TypeId} (hap : apI c.P t = some (5, 1, 1)) (htx : ∃ d, c.P.underlying tx = some d ∧ isIntD d = false) (hsv : evalE env s = sv) (hxv : evalE env x = .slice h1.nx 0 1 1) (hob : ob = .cells [.int .u8 (cc : Int)] 5 false) (hs : LB n0 h1 sv l) (hl : l.length < 2 ^ 29)
  (hOk : ∀ k, n0 ≤ k → Ok k) (hn0 : n0 ≤ h1.nx)
  (hK : ∀ v h' L, LB n0 h' v (l ++ [cc]) → h1.nx + 1 ≤ h'.nx → (∀ k, k < n0 → h'.get k = h1.get k) → (∀ le ∈ L, h1.nx ≤ blkOf le ∨ ∃ o n m, sv = .slice (blkOf le) o n m) → K v h' (.lg L)) : opW c Ok (.call ⟨.builtin .append, #[s, x], #[t, tx]⟩) env (h1.push ob) K :=
 app_row hap htx hsv hxv (cs := [cc]) hob rfl hs oM hOk hn0 hK
end
theorem cl_rd0 {n0 n1 k o m : Nat} (h1 : k < n0) : fpApart (.cl n0 n1 nil1) (.lg [.rd k o m]) := fun e he => .inr (by rw [List.mem_singleton.1 he]; exact ⟨rfl, h1, fun q => q.elim⟩)
theorem cl_wrd0 {n0 n1 k : Nat} (h1 : n1 ≤ k) : fpApart (.cl n0 n1 nil1) (.lg [.wrd k]) := fun e he => .inl (by rw [List.mem_singleton.1 he]; exact h1)
theorem ap48K : apI Tryz.prog 48 = some (5, 1, 1) := ap48
theorem tx48 : ∃ d, Tryz.prog.underlying 48 = some d ∧ isIntD d = false := ⟨.slice 5, by kernel_rfl, rfl⟩
theorem tx9 : ∃ d, Tryz.prog.underlying 9 = some d ∧ isIntD d = false := ⟨.string, by kernel_rfl, rfl⟩
theorem leB_get (x : Int) : ∀ (n i : Nat) (hi : i < n), (leB x n)[i]'(by rw [leB_len]; exact hi) = (x / 256 ^ i % 256).toNat
 | 0, i, hi => by cases hi
 | n + 1, i, hi => by
   unfold leB
   by_cases h : i < n
   ·rw [List.getElem_append_left (by rw [leB_len]; exact h)]
    exact leB_get x n i h
   ·obtain rfl : i = n := oM
    rw [List.getElem_append_right (by rw [leB_len]; exact Nat.le_refl _)]
    simp [leB_len]
theorem iShr_pow {x : Int} {i : Nat} (hi : i ≤ 7) : iShr .u64 x (8 * (i : Int)) = x / 256 ^ i := by
 unfold iShr
 have e : (2 : Int) ^ (min (8 * (i : Int)).toNat IntKind.u64.bits) = 256 ^ i := by
  have : IntKind.u64.bits = 64 := rfl
  rw [this, Nat.min_eq_left oM, show (8 * (i : Int)).toNat = 8 * i by omega, Int.pow_mul]
  rfl
 rw [e, Int.fdiv_eq_ediv_of_nonneg _ (Int.pow_nonneg dC)]
theorem leB_at (x : Int) (n i : Nat) (hn : n ≤ 8) (hi : i < n) : IntKind.u8.wrap (iShr .u64 x (8 * (i : Int))) = (((leB x n)[i]'(by rw [leB_len]; exact hi) : Nat) : Int) := by
 rw [iShr_pow oM, leB_get x n i hi, IntKind.wrap_u8]
 omega
variable {S : Set0} (hS : StdK S)
include hS
theorem afixG_spec {v : V} {l : List Nat} {h : H} (a : BS 5 h v l) (hl : l.length < 2 ^ 27) (x : Int) (n : Nat) (hn : 1 ≤ n ∧ n ≤ 8) (hx : 0 ≤ x ∧ x < 256 ^ n) : Pure S.cfg 76 [v, .int .u64 x, .int .i64 n] h fun w h' => ∃ lv, w = .tuple [lv, .int .i64 0] ∧ LB h.nx h' lv (l ++ leB x n) := by
 refine inn Tryz.func76 (hS.ownK _ dC) rfl rfl ?_
 have n1 : ¬ n < 1 := oM
 have n2 : ¬ 8 < n := oM
 have s2 : IntKind.i64.wrap (8 * (n : Int)) = 8 * (n : Int) := i64_in _ oM
 have s3 : ¬ (8 * (n : Int) < 0) := oM
 have s1 : (n : Int) < 8 → iShr .u64 x (8 * (n : Int)) = 0 := fun q => by
  rw [iShr_pow oM]
  exact Int.ediv_eq_zero_of_lt hx.1 hx.2
 refine ww1 (cj @Tryz.f76.eq_1 <| cj n1 <| cj n2 <| cj s2 <| cj s3 s1) ?_
 refine callF_pure (bclone_spec hS.toStdB a oM) ?_
 intro w1 h1 hx1 hw1
 have n1 := hx1.1
 refine ww0 ?_
 refine run_loop (fun k env h' => ∃ i : Nat, k = n - i ∧ i ≤ n ∧ env 1 = .int .u64 x ∧ env 29 = .int .i64 n ∧ env 30 = .int .i64 i ∧ Ext h h' ∧ ∃ lv, env 8 = lv ∧ LB h.nx h' lv (l ++ (leB x n).take i)) n ⟨0, ?_⟩ ?_
 ·refine ww0 ?_
  exact ⟨rfl, hx1, _, rfl, hw1⟩
 rintro k env h' ⟨i, rfl, hi, e1, e29, e30, hxx, lv, e8, hlv⟩
 have n2 := hxx.1
 by_cases hin : i < n
 ·have w1 : IntKind.i64.wrap (8 * (i : Int)) = 8 * (i : Int) := i64_in _ oM
  have w2 : ¬ (8 * (i : Int) < 0) := oM
  have w3 := leB_at x n i hn.2 hin
  refine ww1 (cj e1 <| cj e29 <| cj e30 <| cj e8 <| cj hin <| cj w1 <| cj w2 w3) ?_
  refine app_one (n0 := h.nx) ap48K tx48 (by exact wv1 e8) (by exact wv0) rfl hlv ?_ (fun k hk => by rw [fresh_def]; exact .inl hk) oM ?_
  ·rw [List.length_append, List.length_take]; omega
  intro v2 h2 L2 hl2 hn2 hk2 hL2
  refine ww1 (cj e1 <| cj e29 e30) ?_
  refine ⟨n - (i + 1), by omega, i + 1, rfl, by omega, rfl, ⟨by omega, fun k hk => by rw [hk2 k hk, hxx.2 k hk]⟩, ?_⟩
  rw [List.take_succ_eq_append_getElem (by rw [leB_len]; exact hin), ← List.append_assoc]
  exact ⟨_, rfl, hl2⟩
 ·obtain rfl : i = n := oM
  rw [List.take_of_length_le (by rw [leB_len]; exact Nat.le_refl _)] at hlv
  refine ww1 (cj e1 <| cj e29 <| cj e30 <| cj e8 hin) ?_
  exact ⟨hxx, _, rfl, hlv⟩
theorem rfixG_spec {v : V} {l : List Nat} {h : H} (a : BS 5 h v l) (hl : l.length < 2 ^ 27) (x : Int) (n : Nat) (hn : 1 ≤ n ∧ n ≤ 8) (hx : 0 ≤ x ∧ x < 256 ^ n) : Pure S.cfg 114 [v, .int .u64 x, .int .i64 n] h fun w h' => LB h.nx h' w (l ++ leB x n) := by
 refine inn Tryz.func114 (hS.ownK _ dC) rfl rfl ?_
 refine ww1 @Tryz.f114.eq_1 ?_
 refine callF_pure (afixG_spec hS a hl x n hn hx) ?_
 rintro _ h1 hx1 ⟨lv, rfl, hlv⟩
 refine ww0 ?_
 exact ⟨hx1, hlv⟩
theorem cofix_spec {v : V} {l : List Nat} {h : H} (a : BS 5 h v l) (hl : l.length < 2 ^ 27) (x : Int) (n : Nat) (hn : 1 ≤ n ∧ n ≤ 8) (hx : 0 ≤ x ∧ x < 256 ^ n) : Pure S.cfg 39 [v, .int .u64 x, .int .i64 n] h fun w h' => LB h.nx h' w (l ++ leB x n) := by
 refine inn Tryz.func39 (hS.ownK _ dC) rfl rfl ?_
 refine ww1 @Tryz.f39.eq_1 ?_
 refine callF_pure (afixG_spec hS a hl x n hn hx) ?_
 rintro _ h1 hx1 ⟨lv, rfl, hlv⟩
 refine ww0 ?_
 exact ⟨hx1, hlv⟩
theorem form_spec (x : Int) (h : H) : Pure S.cfg 153 [.int .u64 x] h fun v _ => v = .tuple [.int .u8 (formI x).1, .int .i64 (formI x).2] := by
 refine inn Tryz.func153 (hS.ownR _ dC) rfl rfl ?_
 unfold formI
 by_cases h1 : x ≤ 250
 ·rw [if_pos h1]
  refine ww1 (cj @Tryz.f153.eq_1 h1) ?_
  exact Ext.refl _
 rw [if_neg h1]
 by_cases h2 : x < 65536
 ·rw [if_pos h2]
  refine ww1 (cj @Tryz.f153.eq_1 <| cj h1 h2) ?_
  exact Ext.refl _
 rw [if_neg h2]
 by_cases h3 : x < 16777216
 ·rw [if_pos h3]
  refine ww1 (cj @Tryz.f153.eq_1 <| cj h1 <| cj h2 h3) ?_
  exact Ext.refl _
 ·rw [if_neg h3]
  refine ww1 (cj @Tryz.f153.eq_1 <| cj h1 <| cj h2 h3) ?_
  exact Ext.refl _
theorem aint_spec {v : V} {l : List Nat} {h : H} (a : BS 5 h v l) (hl : l.length < 2 ^ 26) (x : Int) (hx : 0 ≤ x ∧ x < 65536) : Pure S.cfg 113 [v, .int .u64 x] h fun w h' => LB h.nx h' w (l ++ intB x) := by
 refine inn Tryz.func113 (hS.ownK _ dC) rfl rfl ?_
 refine ww1 @Tryz.f113.eq_1 ?_
 refine callF_pure (form_spec hS x _) ?_
 rintro _ h1 hx1 rfl
 have n1 := hx1.1
 unfold formI intB
 by_cases c1 : x ≤ 250
 ·rw [if_pos c1, if_pos c1]
  refine ww0 ?_
  refine callF_pure (bclone_spec hS.toStdB (a.ext hx1) oM) ?_
  intro w2 h2 hx2 hw2
  have n2 := hx2.1
  refine ww0 ?_
  refine callF_pure (afixG_spec hS (LB.bs hw2 a.1) oM x 1 oM ⟨hx.1, by omega⟩) ?_
  rintro _ h3 hx3 ⟨lv, rfl, hlv⟩
  refine ww0 ?_
  exact ⟨(hx1.trans hx2).trans hx3, LB.mono hlv oM⟩
 ·rw [if_neg c1, if_neg c1, if_pos hx.2, if_pos hx.2]
  refine ww0 ?_
  refine callF_pure (bclone_spec hS.toStdB (a.ext hx1) oM) ?_
  intro w2 h2 hx2 hw2
  have n2 := hx2.1
  refine wew0 ?_
  refine app_one (n0 := h1.nx) ap48K tx48 (by exact wv0) (by exact wv0) rfl hw2 oM (fun k hk => by rw [fresh_def]; exact .inl oM) oM ?_
  intro v3 h3 L3 hl3 hn3 hk3 hL3
  refine ww0 ?_
  have hb3 : ∀ b ∈ l ++ [252], b < 256 := fun b hb => by
   rcases List.mem_append.1 hb with q | q
   ·exact a.1 b q
   ·rw [List.mem_singleton] at q; omega
  refine callF_pure (afixG_spec hS (LB.bs hl3 hb3) (by rw [List.length_append]; show l.length + 1 < _; omega) x 2 oM ⟨hx.1, by omega⟩) ?_
  rintro _ h4 hx4 ⟨lv, rfl, hlv⟩
  refine ww0 ?_
  have hx3 : Ext h h3 := ⟨by omega, fun k hk => by rw [hk3 k oM, hx2.2 k oM, hx1.2 k hk]⟩
  refine ⟨hx3.trans hx4, ?_⟩
  rw [List.append_assoc] at hlv
  exact LB.mono hlv oM
theorem atext_spec {v : V} {l : List Nat} {h : H} (a : BS 5 h v l) (hl : l.length < 2 ^ 26) (t : List Nat) (ht : t.length < 65536) : Pure S.cfg 116 [v, .str t] h fun w h' => LB h.nx h' w (l ++ lenB t) := by
 refine inn Tryz.func116 (hS.ownK _ dC) rfl rfl ?_
 have w1 : IntKind.u64.wrap (t.length : Int) = t.length := u64_in _ oM
 refine ww1 (cj @Tryz.f116.eq_1 w1) ?_
 refine callF_pure (aint_spec hS a hl t.length oM) ?_
 intro v1 h1 hx1 hl1
 have n1 := hx1.1
 have li := intB_len t.length
 refine ww0 ?_
 have ha1 := hl1.acc (fun q => by rw [List.append_eq_nil_iff] at q; rw [q.2] at li; exact absurd li.1 dC)
 unfold lenB
 rw [← List.append_assoc]
 by_cases h0 : t = []
 ·subst h0
  rw [List.append_nil]
  refine append_str0 (sv := v1) (by exact wv0) ?_ ap48K tx9 (by exact wv0) ?_
  ·rcases ha1 with ⟨q, _⟩ | ⟨b, n, _, _, q, _⟩
   ·exact .inl q
   ·exact .inr ⟨_, _, _, _, q⟩
  refine ww0 ?_
  exact ⟨hx1, hl1⟩
 refine append_strV (sv := v1) (bs := t) (by exact wv0) ap48K tx9 ha1 (by exact wv0) (List.length_pos_iff.2 h0) (by rw [bytesV_length, List.length_append]; omega) (fun k hk => by rw [fresh_def]; exact .inl hk) ?_ n1
 intro v2 h2 L2 ha2 hs2 hL2
 rw [← bytesV_app] at ha2
 refine ww0 ?_
 exact ⟨⟨by have := hs2.1; omega, fun k hk => by rw [hs2.2 k oM fun o n m q => ha1.ne hk q, hx1.2 k hk]⟩, .inl ha2⟩
end
noncomputable section
structure Cmd (X : RX) (k fl : Int) (d : List Nat) : Prop where
 k : 0 ≤ k ∧ k < 256
 t : (∀ b ∈ X.x1, b < 256) ∧ X.x1.length ≤ 140737488351232
 x2 : 0 ≤ X.x2 ∧ X.x2 < 4294967296
 x3 : 0 ≤ X.x3 ∧ X.x3 < 65536
 fl : 0 ≤ fl ∧ fl < 256
 x5 : 0 ≤ X.x5 ∧ X.x5 < 4294967296
 x6 : 0 ≤ X.x6 ∧ X.x6 < 65536
 d : d.length ≤ 140737488351232
def Tail (X : RX) (k : Int) (l : List Nat) : Prop := (shapeF k = 1 → l = X.x1) ∧ (shapeF k = 4 → 6 ≤ l.length) ∧ (shapeF k = 5 → l.length = 4)
def ApI (X : RX) (k fl : Int) (h : H) (env : Env) (h' : H) : Prop := ∃ v l, env 7 = v ∧ env 3 = .ptr h.nx 0 ∧ h'.get h.nx = some (.cells (cmdC X k fl) 52 false) ∧ LB (h.nx + 1) h' v (k.toNat :: l) ∧ (∀ b ∈ l, b < 256) ∧ l.length ≤ 140737488351232 + 9 ∧ Tail X k l ∧ (shapeF k = 1 ∨ l.length ≤ 9) ∧ Ext h h'
variable {S : Set0} (hS : StdK S)
include hS
theorem apcmd_spec {X : RX} {d : List Nat} {h : H} (b : BS 5 h X.x7 d) {k fl : Int} (hc : Cmd X k fl d) : Pure S.cfg 13 [.nilslice, .agg (cmdC X k fl)] h fun w h' => (¬ cmdOk X k fl d.length → w = .tuple [.nilslice, .int .i64 2]) ∧ (cmdOk X k fl d.length → ∃ v l, w = .tuple [v, .int .i64 0] ∧ BS 5 h' v (k.toNat :: l) ∧ Tail X k l ∧ ∀ j, j < h.nx → Off v j) := by
 refine inn Tryz.func13 (hS.ownK _ dC) rfl rfl ?_
 obtain ⟨x1, x2⟩ := b.cell
 have ck := fun h b => check_spec hS.toStdR (X := X) (d := d) (h := h) b k fl
 unfold cmdC at ck ⊢
 refine ww1 (cj @Tryz.f13.eq_1 <| cj x1 x2) ?_
 generalize hhA : H.push h _ = hA
 have hxA : Ext h hA := by rw [← hhA]; exact (Ext.refl h).push _
 have nA : hA.nx = h.nx + 1 := by rw [← hhA]; rfl
 have gA : hA.get h.nx = some (.cells (cmdC X k fl) 52 false) := by rw [← hhA]; exact push_eq rfl
 clear hhA
 refine callF_pure (ck _ (b.ext hxA)) ?_
 rintro _ h1 hx1 rfl
 have n1 := hx1.1
 have hxh1 := hxA.trans hx1
 have g1 := (hx1.2 h.nx oM).trans gA
 have g1' := g1
 unfold cmdC at g1'
 by_cases hk : cmdOk X k fl d.length
 case neg =>
  rw [if_neg hk]
  refine wew0 ?_
  exact ⟨hxh1, fun q => absurd q hk⟩
 rw [if_pos hk]
 refine wew0 ?_
 refine draw_by [(1, 3), (1, 4)] kR ?_
 refine ww0 ?_
 refine callF_pure (bclone_spec hS.toStdB (BS.nil 5 _) dC) ?_
 intro w2 h2 hx2 hw2
 have n2 := hx2.1
 have hxh2 := hxh1.trans hx2
 have g2' := (hx2.2 h.nx oM).trans g1'
 refine ww1 g2' ?_
 refine app_one (n0 := h1.nx) (cc := k.toNat) ap48K tx48 (by exact wv0) (by exact wv0) (by rw [Int.toNat_of_nonneg hc.k.1]) hw2 dC (fun k hk => by rw [fresh_def]; exact .inl oM) oM ?_
 intro v3 h3 L3 hl3 hn3 hk3 hL3
 have hxh3 : Ext h h3 := ⟨by omega, fun j hj => by rw [hk3 j oM, hxh2.2 j hj]⟩
 have g3 : h3.get h.nx = some (.cells (cmdC X k fl) 52 false) := (hk3 h.nx oM).trans ((hx2.2 h.nx oM).trans g1)
 have g3' := g3
 unfold cmdC at g3'
 refine ww1 g3' ?_
 refine ⟨fun p hp => ?_, callF_pure (shape_spec hS.toStdR k _) ?_⟩
 ·simp only [List.mem_cons, List.not_mem_nil, or_false] at hp
  rcases hp with rfl | rfl
  ·exact pair_one rfl rfl (cl_rd0 oM)
  ·exact pair_one rfl rfl (cl_wrd0 (Nat.le_refl _))
 rintro _ h4 hx4 rfl
 have n4 := hx4.1
 have hxh4 := hxh3.trans hx4
 have g4 := (hx4.2 h.nx oM).trans g3
 have g4' := (hx4.2 h.nx oM).trans g3'
 have hl4 := LB.mono (hl3.ext hx4) (show h.nx + 1 ≤ h1.nx by omega)
 refine wr0 ?_
 refine run_blk_cut (ApI X k fl h) ?_ ?_
 ·have nt : ∀ {j : Int} {l : List Nat}, shapeF k = j → ¬ j = 1 → ¬ j = 4 → ¬ j = 5 → Tail X k l := fun hj q1 q4 q5 => by
   unfold Tail
   rw [hj]
   exact ⟨fun q => absurd q q1, fun q => absurd q q4, fun q => absurd q q5⟩
  have ok5 : ∀ j, h.nx + 1 ≤ j → fresh h.nx nil1 j := fun j hj => by rw [fresh_def]; exact .inl oM
  have bk : BS 5 h4 v3 [k.toNat] := LB.bs hl4 fun x hx => by
   rw [List.mem_singleton] at hx
   have := hc.k
   omega
  have fin : ∀ {h' : H} {v : V} {l : List Nat}, Ext h4 h' → LB h4.nx h' v ([k.toNat] ++ l) → h'.get h.nx = some (.cells (cmdC X k fl) 52 false) ∧ LB (h.nx + 1) h' v (k.toNat :: l) ∧ Ext h h' := fun {h'} {v} {l} hx hl => ⟨(hx.2 h.nx oM).trans g4, LB.mono hl oM, hxh4.trans hx⟩
  have w2 : IntKind.u64.wrap X.x2 = X.x2 := u64_in _ (by have := hc.x2; omega)
  have w3 : IntKind.u64.wrap X.x3 = X.x3 := u64_in _ (by have := hc.x3; omega)
  have w5 : IntKind.u64.wrap X.x5 = X.x5 := u64_in _ (by have := hc.x5; omega)
  have w6 : IntKind.u64.wrap X.x6 = X.x6 := u64_in _ (by have := hc.x6; omega)
  rcases shape_in k with hs | hs | hs | hs | hs | hs | hs | hs | hs
  ·rw [hs]
   refine wew0 ?_
   exact ⟨v3, [], rfl, rfl, g4, hl4, fun b hb => (by cases hb), by decide, nt hs dC dC dC, .inr dC, hxh4⟩
  ·rw [hs]
   refine wew1 g4' ?_
   have ha4 := LB.acc hl4 (by simp)
   refine append_strB (sv := v3) (bs := X.x1) (by exact wv0) ap48K tx9 ha4 (by exact wv0) (by rw [bytesV_length]; have := hc.t.2; simp only [List.nil_append, List.length_singleton]; omega) ok5 oM ?_
   intro v6 h6 L6 ha6 hs6 hL6
   rw [← bytesV_app] at ha6
   refine wew0 ?_
   have hk6 : ∀ j, j < h.nx + 1 → h6.get j = h4.get j := fun j hj => hs6.2 j oM fun o n m q => ha4.ne hj q
   exact ⟨v6, X.x1, rfl, rfl, (hk6 _ (Nat.lt_succ_self _)).trans g4, .inl ha6, hc.t.1, by have := hc.t.2; omega, ⟨fun _ => rfl, fun q => absurd (hs.symm.trans q) dC, fun q => absurd (hs.symm.trans q) dC⟩, .inl hs, Nat.le_trans hxh4.1 hs6.1, fun j hj => (hk6 j oM).trans (hxh4.2 j hj)⟩
  ·rw [hs]
   refine wew1 (cj g4' w5) ?_
   refine callF_pure (cofix_spec hS bk (show (1 : Nat) < 2 ^ 27 by decide) X.x5 4 dC hc.x5) ?_
   intro v6 h6 hx6 hl6
   refine wew0 ?_
   obtain ⟨f1, f2, f3⟩ := fin hx6 hl6
   exact ⟨v6, _, rfl, rfl, f1, f2, leB_ok _ _, by rw [leB_len]; omega, nt hs dC dC dC, .inr (by rw [leB_len]; decide), f3⟩
  ·rw [hs]
   refine wew1 (cj g4' w2) ?_
   refine draw_by [(4, 6), (2, 7), (4, 7)] kR ?_
   refine ww1 (cj g4' w2) ?_
   refine callF_pure (cofix_spec hS bk (show (1 : Nat) < 2 ^ 27 by decide) X.x2 4 dC hc.x2) ?_
   intro v6 h6 hx6 hl6
   have n6 := hx6.1
   have g6' := (hx6.2 h.nx oM).trans g4'
   refine ww1 (cj g6' w2) ?_
   have hfl := hc.fl
   refine app_row (n0 := h4.nx) (cs := [fl.toNat, 1, 0, 0, 0]) ap48K tx48 (by exact wv0) (by exact wv0) (by show _ = Ob.cells [.int .u8 (fl.toNat : Int), _, _, _, _] 5 false; rw [Int.toNat_of_nonneg hfl.1]; rfl) rfl hl6 (by rw [List.length_append, leB_len]; exact (show (1 : Nat) + 4 + 5 ≤ 1073741824 by decide)) (fun j hj => by rw [fresh_def]; exact .inl oM) oM ?_
   intro v7 h7 L7 hl7 hn7 hk7 hL7
   refine wew0 ?_
   have hk7' : ∀ j, j < h4.nx → h7.get j = h4.get j := fun j hj => (hk7 j hj).trans (hx6.2 j hj)
   refine ⟨fun p hp => ?_, ?_⟩
   ·simp only [List.mem_cons, List.not_mem_nil, or_false] at hp
    rcases hp with rfl | rfl | rfl
    ·exact pair_one rfl rfl (cl_rd0 oM)
    ·exact pair_one rfl rfl (apart_blk fun x hx y hy => by rw [List.mem_singleton.1 hx, List.mem_singleton.1 hy]; show h.nx ≠ h6.nx; omega)
    ·exact pair_one rfl rfl (cl_wrd0 (Nat.le_refl _))
   have l9 : (leB X.x2 4 ++ [fl.toNat, 1, 0, 0, 0]).length = 9 := by rw [List.length_append, leB_len]; rfl
   refine ⟨v7, leB X.x2 4 ++ [fl.toNat, 1, 0, 0, 0], rfl, rfl, (hk7' _ oM).trans g4, by rw [List.append_assoc] at hl7; exact LB.mono hl7 oM, fun x hx => ?_, by rw [l9]; decide, nt hs dC dC dC, .inr (by rw [l9]; decide), ⟨by omega, fun j hj => (hk7' j oM).trans (hxh4.2 j hj)⟩⟩
   rcases List.mem_append.1 hx with q | q
   ·exact leB_ok _ _ x q
   ·simp only [List.mem_cons, List.not_mem_nil, or_false] at q
    omega
  ·rw [hs]
   refine wew1 (cj g4' <| cj w2 w3) ?_
   refine draw_by [(4, 6)] kR ?_
   refine ww1 (cj g4' <| cj w2 w3) ?_
   refine callF_pure (cofix_spec hS bk (show (1 : Nat) < 2 ^ 27 by decide) X.x2 4 dC hc.x2) ?_
   intro v6 h6 hx6 hl6
   have n6 := hx6.1
   have g6' := (hx6.2 h.nx oM).trans g4'
   refine ww1 (cj g6' <| cj w2 w3) ?_
   have b6 := LB.bs hl6 fun x hx => by
    rcases List.mem_append.1 hx with q | q
    ·exact bk.1 x q
    ·exact leB_ok _ _ x q
   refine callF_pure (cofix_spec hS b6 (by rw [List.length_append, leB_len]; exact (show (1 : Nat) + 4 < 2 ^ 27 by decide)) X.x3 2 dC hc.x3) ?_
   intro v7 h7 hx7 hl7
   refine wew0 ?_
   obtain ⟨f1, f2, f3⟩ := fin (hx6.trans hx7) (l := leB X.x2 4 ++ leB X.x3 2) (by rw [← List.append_assoc]; exact LB.mono hl7 n6)
   refine ⟨fun p hp => ?_, ?_⟩
   ·rw [List.mem_singleton.1 hp]
    exact pair_one rfl rfl (cl_rd0 oM)
   have l9 : (leB X.x2 4 ++ leB X.x3 2).length = 6 := by rw [List.length_append, leB_len, leB_len]
   refine ⟨v7, _, rfl, rfl, f1, f2, fun x hx => ?_, by rw [l9]; omega, ⟨fun q => absurd (hs.symm.trans q) dC, fun _ => (by rw [l9]; decide), fun q => absurd (hs.symm.trans q) dC⟩, .inr (by rw [l9]; decide), f3⟩
   rcases List.mem_append.1 hx with q | q
   ·exact leB_ok _ _ x q
   ·exact leB_ok _ _ x q
  ·rw [hs]
   refine wew1 (cj g4' w2) ?_
   refine callF_pure (cofix_spec hS bk (show (1 : Nat) < 2 ^ 27 by decide) X.x2 4 dC hc.x2) ?_
   intro v6 h6 hx6 hl6
   refine wew0 ?_
   obtain ⟨f1, f2, f3⟩ := fin hx6 hl6
   exact ⟨v6, _, rfl, rfl, f1, f2, leB_ok _ _, by rw [leB_len]; omega, ⟨fun q => absurd (hs.symm.trans q) dC, fun q => absurd (hs.symm.trans q) dC, fun _ => leB_len _ _⟩, .inr (by rw [leB_len]; decide), f3⟩
  ·rw [hs]
   refine wew1 (cj g4' w6) ?_
   refine callF_pure (cofix_spec hS bk (show (1 : Nat) < 2 ^ 27 by decide) X.x6 2 dC hc.x6) ?_
   intro v6 h6 hx6 hl6
   refine wew0 ?_
   obtain ⟨f1, f2, f3⟩ := fin hx6 hl6
   exact ⟨v6, _, rfl, rfl, f1, f2, leB_ok _ _, by rw [leB_len]; omega, nt hs dC dC dC, .inr (by rw [leB_len]; decide), f3⟩
  ·rw [hs]
   refine wew1 (cj g4' <| cj w2 w5) ?_
   refine draw_by [(4, 6)] kR ?_
   refine ww1 (cj g4' <| cj w2 w5) ?_
   refine callF_pure (cofix_spec hS bk (show (1 : Nat) < 2 ^ 27 by decide) X.x2 4 dC hc.x2) ?_
   intro v6 h6 hx6 hl6
   have n6 := hx6.1
   have g6' := (hx6.2 h.nx oM).trans g4'
   refine ww1 (cj g6' <| cj w2 w5) ?_
   have b6 := LB.bs hl6 fun x hx => by
    rcases List.mem_append.1 hx with q | q
    ·exact bk.1 x q
    ·exact leB_ok _ _ x q
   refine callF_pure (cofix_spec hS b6 (by rw [List.length_append, leB_len]; exact (show (1 : Nat) + 4 < 2 ^ 27 by decide)) X.x5 4 dC hc.x5) ?_
   intro v7 h7 hx7 hl7
   refine wew0 ?_
   obtain ⟨f1, f2, f3⟩ := fin (hx6.trans hx7) (l := leB X.x2 4 ++ leB X.x5 4) (by rw [← List.append_assoc]; exact LB.mono hl7 n6)
   refine ⟨fun p hp => ?_, ?_⟩
   ·rw [List.mem_singleton.1 hp]
    exact pair_one rfl rfl (cl_rd0 oM)
   have l9 : (leB X.x2 4 ++ leB X.x5 4).length = 8 := by rw [List.length_append, leB_len, leB_len]
   refine ⟨v7, _, rfl, rfl, f1, f2, fun x hx => ?_, by rw [l9]; omega, nt hs dC dC dC, .inr (by rw [l9]; decide), f3⟩
   rcases List.mem_append.1 hx with q | q
   ·exact leB_ok _ _ x q
   ·exact leB_ok _ _ x q
  ·rw [hs]
   refine wew0 ?_
   exact ⟨v3, [], rfl, rfl, g4, hl4, fun b hb => (by cases hb), by decide, nt hs dC dC dC, .inr dC, hxh4⟩
 rintro env h5 ⟨v5, l5, e7, e3, g5, hl5, hb5, hm5, ht5, hs5, hx5⟩
 have n5 := hx5.1
 have g5' := g5
 unfold cmdC at g5'
 refine ww1 (cj e7 <| cj e3 <| cj g5' <| cj x1 x2) ?_
 have ha5 := LB.acc hl5 (by simp)
 have n5' : h.nx + 1 ≤ h5.nx := by
  rcases ha5 with ⟨_, q⟩ | ⟨b, n, q1, q2, _⟩
  ·simp [bytesV] at q
  ·omega
 refine append_bsB (sv := v5) (xv := X.x7) (new := bytesV d) (by exact wv1 e7) (by exact wv0) ap48K tx48 ha5 (b.ext hx5).src (bytesV_all _) ?_ (fun j hj => by rw [fresh_def]; exact .inl oM) oM ?_
 ·rw [bytesV_length, bytesV_length]
  have hd := hc.d
  have ht := hc.t.2
  show l5.length + 1 + d.length ≤ _
  rcases hs5 with q | q
  ·obtain ⟨_, _, _, _, _, _, q7, _⟩ := hk
   rw [q] at q7
   have : d.length = 0 := by
    rcases q7 with q7 | q7 | q7 | q7
    ·exact absurd q7 dC
    ·exact absurd q7 dC
    ·exact absurd q7 dC
    ·exact q7
   omega
  ·omega
 intro v6 h6 L6 ha6 hn6 hk6 hk6' hL6
 rw [← bytesV_app] at ha6
 refine ww1 (cj e7 e3) ?_
 have hx6 : Ext h h6 := ⟨by omega, fun j hj => (hk6' j oM).trans (hx5.2 j hj)⟩
 have hd0 : shapeF k = 1 ∨ shapeF k = 5 → d = [] := fun q => by
  obtain ⟨_, _, _, _, _, _, q7, _⟩ := hk
  refine List.eq_nil_of_length_eq_zero ?_
  rcases q with q | q <;> rw [q] at q7 <;> rcases q7 with q7 | q7 | q7 | q7 <;> first | exact q7 | exact absurd q7 dC
 refine ⟨hx6, fun q => absurd hk q, fun _ => ⟨v6, l5 ++ d, rfl, BS.of_acc (fun x hx => ?_) ha6, ⟨fun q => ?_, fun q => ?_, fun q => ?_⟩, fun j hj o n m q => ha6.ne oM q⟩⟩
 ·rcases List.mem_cons.1 hx with q | q
  ·have := hc.k; omega
  ·rcases List.mem_append.1 q with q | q
   ·exact hb5 x q
   ·exact b.1 x q
 ·rw [hd0 (.inl q), List.append_nil]; exact ht5.1 q
 ·rw [List.length_append]; have := ht5.2.1 q; omega
 ·rw [hd0 (.inr q), List.append_nil]; exact ht5.2.2 q
end
noncomputable section
def zX : RX := ⟨[], 0, 0, 0, 0, .nilslice⟩
structure KS (h : H) (k5 : Nat) (X : RX) (k fl : Int) (R : Rd) (h' : H) : Prop where
 z : h'.get h.nx = some (.cells (cmdC zX 0 0) 52 false)
 o : h'.get k5 = some (.cells (cmdC X k fl) 52 false)
 x : X.x7.cells = [X.x7] ∧ X.x7.isCell = true
 r : RdS 5 136 h.nx (h.nx + 1) R h'
 e : Ext h h'
 lt : h.nx + 1 < k5 ∧ k5 < h'.nx
theorem KS.call {h h1 h2 : H} {k5 : Nat} {X : RX} {k fl : Int} {R R1 : Rd} (a : KS h k5 X k fl R h1) (b : RdR 136 h.nx (h.nx + 1) R1 h1 h2) : KS h k5 X k fl R1 h2 :=
 have lt := a.lt
 have n := b.2.1
 ⟨by rw [b.2.2 _ oM oM]; exact a.z, by rw [b.2.2 _ oM oM]; exact a.o, a.x, b.1, But.ext a.e b.2 oM, ⟨lt.1, by omega⟩⟩
theorem KS.put {h h1 : H} {k5 : Nat} {X : RX} {k fl : Int} {R : Rd} (a : KS h k5 X k fl R h1) (X' : RX) (fl' : Int) (hx : X'.x7.cells = [X'.x7] ∧ X'.x7.isCell = true) : KS h k5 X' k fl' R (h1.put k5 (.cells (cmdC X' k fl') 52 false)) :=
 have lt := a.lt
 ⟨by rw [put_ne oM]; exact a.z, put_eq rfl, hx, a.r.keep (Nat.le_refl _) (by rw [put_ne oM]) fun j hj => by rw [put_ne oM], a.e.put oM _, lt⟩
theorem KS.bad {h h1 : H} {k5 : Nat} {X : RX} {k fl : Int} {R : Rd} {v : V} (a : KS h k5 X k fl R h1) (hv : h1.get (h.nx + 1) = some (.cells [v, .int .i64 R.e] 136 false)) (e : Int) : KS h k5 X k fl ⟨R.bs, e⟩ (h1.put (h.nx + 1) (.cells [v, .int .i64 e] 136 false)) := by
 have lt := a.lt
 obtain ⟨⟨v', g, hb, ho⟩, hlt⟩ := a.r
 rw [hv] at g
 injection g with g
 injection g with g
 injection g with g
 subst g
 exact ⟨by rw [put_ne oM]; exact a.z, by rw [put_ne oM]; exact a.o, a.x, RdS.put (R := ⟨R.bs, e⟩) hb ho hlt, a.e.put oM _, lt⟩
theorem KS.ext {h h1 h2 : H} {k5 : Nat} {X : RX} {k fl : Int} {R : Rd} (a : KS h k5 X k fl R h1) (x : Ext h1 h2) : KS h k5 X k fl R h2 := a.call ⟨a.r.ext x, But.of_ext x⟩
def CeI (k : Int) (l : List Nat) (h : H) (k5 : Nat) (env : Env) (h' : H) : Prop := ∃ X fl R, env 2 = .ptr h.nx 0 ∧ env 3 = .int .i64 0 ∧ env 4 = .ptr (h.nx + 1) 0 ∧ env 5 = .ptr k5 0 ∧ KS h k5 X k fl R h' ∧ R.bs.length ≤ l.length
def CrI (k : Int) (l : List Nat) (h : H) (k5 : Nat) (env : Env) (h' : H) : Prop := ∃ X fl R, env 2 = .ptr h.nx 0 ∧ env 3 = .int .i64 0 ∧ env 4 = .ptr (h.nx + 1) 0 ∧ env 5 = .ptr k5 0 ∧ KS h k5 X k fl R h' ∧ (shapeF k = 1 → R = ⟨[], 0⟩ ∧ X.x1 = l) ∧ (shapeF k = 4 → 6 ≤ l.length → R = ⟨[], 0⟩) ∧ (shapeF k = 5 → l.length = 4 → R = ⟨[], 0⟩)
variable {S : Set0} (hS : StdK S)
include hS
theorem kfix_spec {n0 r : Nat} {R : Rd} {h : H} (a : RdS 5 136 n0 r R h) (hl : R.bs.length < 2 ^ 28) (n : Nat) (hn : 1 ≤ n ∧ n ≤ 8) : callW S.cfg (· = r) 67 [.ptr r 0, .int .i64 n] h fun v h' => v = .int .u64 (R.fix n).1 ∧ RdR 136 n0 r (R.fix n).2 h h' := by
 refine inn Tryz.func67 (hS.ownK _ dC) rfl rfl ?_
 have a' := a
 obtain ⟨⟨v, g, hb, ho⟩, hlt⟩ := a
 obtain ⟨c1, c2⟩ := hb.cell
 unfold Rd.fix
 by_cases he : R.e ≠ 0
 ·have he' : ¬ R.e = 0 := he
  rw [if_pos he]
  refine ww1 (cj @Tryz.f67.eq_1 <| cj g he') ?_
  exact ⟨a', But.refl r h⟩
 have he0 := Classical.not_not.1 he
 have he' := eq_true he0
 rw [if_neg he]
 refine ww1 (cj @Tryz.f67.eq_1 <| cj g he') ?_
 refine callF_exact (rfx_spec hS.toStdB hb oM n hn) ?_
 by_cases h5 : R.bs.length < n
 ·rw [if_pos h5, if_pos h5, if_pos h5]
  refine ww1 (cj g n40) ?_
  exact ⟨RdS.put (R := ⟨R.bs, 4⟩) hb ho hlt, (But.refl r h).put _⟩
 ·rw [if_neg h5, if_neg h5, if_neg h5]
  refine ww1 g ?_
  refine drop_bs (i := n) hb ubs szb (by exact wv0) (by exact wv0) oM fun w L hw ho2 _ => ?_
  obtain ⟨d1, d2⟩ := hw.cell
  refine ww1 (cj g <| cj d1 <| cj d2 he0) ?_
  exact ⟨RdS.put (R := ⟨R.bs.drop n, 0⟩) hw (fun k hk => ho2 k (ho k hk)) hlt, (But.refl r h).put _⟩
theorem krest_spec {n0 r : Nat} {R : Rd} {h : H} (a : RdS 5 136 n0 r R h) (hl : R.bs.length < 2 ^ 28) : callW S.cfg (· = r) 68 [.ptr r 0] h fun w h' => BS 5 h' w R.bs ∧ (∀ k, k < h.nx → Off w k) ∧ RdR 136 n0 r ⟨[], R.e⟩ h h' := by
 refine inn Tryz.func68 (hS.ownK _ dC) rfl rfl ?_
 obtain ⟨⟨v, g, hb, ho⟩, hlt⟩ := a
 refine ww1 (cj @Tryz.f68.eq_1 g) ?_
 refine callF_pure (bclone_spec hS.toStdB hb hl) ?_
 intro w h1 hx hw
 have g1 : h1.get r = some (.cells [v, .int .i64 R.e] 136 false) := by rw [hx.2 r hlt.2]; exact g
 have hlt1 : n0 ≤ r ∧ r < h1.nx := ⟨hlt.1, Nat.lt_of_lt_of_le hlt.2 hx.1⟩
 refine ww1 g1 ?_
 exact ⟨(BS.of_lst hb.1 hw).put (hw.off r hlt.2), fun k hk => hw.off k hk, RdS.put (R := ⟨[], R.e⟩) (BS.nil _ _) (fun _ _ _ _ _ q => by cases q) hlt1, (But.of_ext hx).put _⟩
theorem cmdread_spec {v : V} {k : Int} {l : List Nat} {h : H} (hk : 0 ≤ k ∧ k < 256) (a : BS 5 h v (k.toNat :: l)) (hl : l.length < 2 ^ 20) : Pure S.cfg 30 [v] h fun w _ => ∃ X kk fl e, w = .tuple [.agg (cmdC X kk fl), .int .i64 e] ∧ (X.x7.cells = [X.x7] ∧ X.x7.isCell = true) ∧ (e = 0 → kk = k) ∧ (shapeF k = 1 → e = 0 ∧ X.x1 = l) ∧ (shapeF k = 4 → 6 ≤ l.length → e = 0) ∧ (shapeF k = 5 → l.length = 4 → e = 0) := by
 refine inn Tryz.func30 (hS.ownK _ dC) rfl rfl ?_
 obtain ⟨c1, c2⟩ := a.cell
 refine ww1 (cj @Tryz.f30.eq_1 <| cj c1 c2) ?_
 generalize hhA : H.push _ (Ob.cells [v, V.int IntKind.i64 0] 136 false) = hA
 have hxA : Ext h hA := by rw [← hhA]; exact ((Ext.refl h).push _).push _
 have nA : hA.nx = h.nx + 2 := by rw [← hhA]; rfl
 have gR : hA.get (h.nx + 1) = some (.cells [v, .int .i64 0] 136 false) := by rw [← hhA]; exact push_eq rfl
 have gZ : hA.get h.nx = some (.cells (cmdC zX 0 0) 52 false) := by rw [← hhA, push_ne (by simp only [push_nx]; omega)]; exact push_eq rfl
 clear hhA
 have a2 : RdS 5 136 h.nx (h.nx + 1) ⟨k.toNat :: l, 0⟩ hA := ⟨⟨v, gR, a.ext hxA, fun j hj => a.off hj⟩, by omega, by omega⟩
 have okf : ∀ j, j = h.nx + 1 → fresh h.nx nil1 j := fun j hj => by rw [fresh_def]; exact .inl oM
 have hfx : (Rd.mk (k.toNat :: l) 0).fix 1 = (k, ⟨l, 0⟩) := by
  unfold Rd.fix
  rw [if_neg (fun q => q rfl), if_neg (by simp), rdX_one a.1, byI_cons, Int.toNat_of_nonneg hk.1]
  rfl
 refine callF_of (kfix_spec hS a2 (by show l.length + 1 < _; omega) 1 dC) okf ?_
 rw [hfx]
 rintro _ h1 ⟨rfl, r1⟩
 have n1 := r1.2.1
 have w1 : IntKind.u8.wrap k = k := by rw [IntKind.wrap_u8]; omega
 obtain ⟨⟨v1, g1, hb1, ho1⟩, hlt1⟩ := r1.1
 have gZ1 : h1.get h.nx = some (.cells (cmdC zX 0 0) 52 false) := by rw [r1.2.2 _ oM oM]; exact gZ
 refine ww1 (cj w1 g1) ?_
 generalize hhB : H.put (H.push h1 _) h1.nx _ = hB
 have hxB : Ext h1 hB := by rw [← hhB]; exact Ext.new _ _ _
 have nB : hB.nx = h1.nx + 1 := by rw [← hhB]; rfl
 have gB : hB.get h1.nx = some (.cells (cmdC zX k 0) 52 false) := by rw [← hhB]; exact put_eq rfl
 clear hhB
 have s0 : KS h h1.nx zX k 0 ⟨l, 0⟩ hB := ⟨by rw [hxB.2 _ oM]; exact gZ1, gB, ⟨rfl, rfl⟩, r1.1.ext hxB, (But.ext hxA r1.2 oM).trans hxB, by omega, by omega⟩
 refine ⟨.inr oM, callF_pure (shape_spec hS.toStdR k _) ?_⟩
 rintro _ h2 hx2 rfl
 have s2 := s0.ext hx2
 have hl2 : (Rd.mk l 0).bs.length < 2 ^ 28 := by show l.length < _; omega
 have fl : ∀ (R : Rd) n, (R.fix n).2.bs.length ≤ R.bs.length := Rd.fix_len
 refine wr0 ?_
 refine run_blk_cut (CrI k l h h1.nx) ?_ ?_
 ·rcases shape_in k with hs | hs | hs | hs | hs | hs | hs | hs | hs
  ·rw [hs]
   refine wew0 ?_
   exact ⟨zX, 0, _, rfl, rfl, rfl, rfl, s2, fun q => absurd (hs.symm.trans q) dC, fun q => absurd (hs.symm.trans q) dC, fun q => absurd (hs.symm.trans q) dC⟩
  ·rw [hs]
   refine wew0 ?_
   refine callF_of (krest_spec hS s2.r hl2) okf ?_
   rintro w3 h3 ⟨hw3, ho3, r3⟩
   have s3 := s2.call r3
   have g3 := s3.o
   have n3 := s3.lt
   unfold cmdC at g3
   obtain ⟨L3, _, hc3⟩ := hw3.str
   refine ww1 (cj hc3 g3) ?_
   exact ⟨.inr oM, ⟨l, 0, 0, 0, 0, .nilslice⟩, 0, _, rfl, rfl, rfl, rfl, s3.put ⟨l, 0, 0, 0, 0, .nilslice⟩ 0 ⟨rfl, rfl⟩, fun _ => ⟨rfl, rfl⟩, fun q => absurd (hs.symm.trans q) dC, fun q => absurd (hs.symm.trans q) dC⟩
  ·rw [hs]
   refine wew0 ?_
   refine callF_of (kfix_spec hS s2.r hl2 4 dC) okf ?_
   rintro _ h3 ⟨rfl, r3⟩
   have s3 := s2.call r3
   have g3 := s3.o
   have n3 := s3.lt
   unfold cmdC at g3
   refine ww1 g3 ?_
   exact ⟨.inr oM, ⟨[], 0, 0, IntKind.u32.wrap ((Rd.mk l 0).fix 4).1, 0, .nilslice⟩, 0, _, rfl, rfl, rfl, rfl, s3.put ⟨[], 0, 0, IntKind.u32.wrap ((Rd.mk l 0).fix 4).1, 0, .nilslice⟩ 0 ⟨rfl, rfl⟩, fun q => absurd (hs.symm.trans q) dC, fun q => absurd (hs.symm.trans q) dC, fun q => absurd (hs.symm.trans q) dC⟩
  ·rw [hs]
   refine wew0 ?_
   refine callF_of (kfix_spec hS s2.r hl2 4 dC) okf ?_
   rintro _ h3 ⟨rfl, r3⟩
   have s3 := s2.call r3
   refine ww0 ?_
   have l3 := fl ⟨l, 0⟩ 4
   refine callF_of (kfix_spec hS s3.r (Nat.lt_of_le_of_lt l3 hl2) 1 dC) okf ?_
   rintro _ h4 ⟨rfl, r4⟩
   have s4 := s3.call r4
   have l4 := fl ((Rd.mk l 0).fix 4).2 1
   have g4 := s4.o
   have n4 := s4.lt
   unfold cmdC at g4
   obtain ⟨⟨v4, g4r, hb4, ho4⟩, hlt4⟩ := s4.r
   refine wr1 (cj g4 g4r) ?_
   refine ⟨.inr oM, .inr oM, ?_⟩
   have s5 := (s4.put ⟨[], IntKind.u32.wrap ((Rd.mk l 0).fix 4).1, 0, 0, 0, .nilslice⟩ 0 ⟨rfl, rfl⟩).put ⟨[], IntKind.u32.wrap ((Rd.mk l 0).fix 4).1, 0, 0, 0, .nilslice⟩ (IntKind.u8.wrap (((Rd.mk l 0).fix 4).2.fix 1).1) ⟨rfl, rfl⟩
   have g5r : ∀ o1 o2, ((h4.put h1.nx o1).put h1.nx o2).get (h.nx + 1) = some (.cells [v4, .int .i64 (((Rd.mk l 0).fix 4).2.fix 1).2.e] 136 false) := fun o1 o2 => by rw [put_ne oM, put_ne oM]; exact g4r
   refine run_cut (CeI k l h h1.nx) ?_ ?_
   ·by_cases he : (((Rd.mk l 0).fix 4).2.fix 1).2.e = 0
    ·by_cases hf : 1 < IntKind.u8.wrap (((Rd.mk l 0).fix 4).2.fix 1).1
     ·have he' := eq_true he
      refine ww1 (cj he' <| cj hf g5r) ?_
      exact ⟨.inr oM, _, _, _, rfl, rfl, rfl, rfl, s5.bad (g5r _ _) 5, Nat.le_trans l4 l3⟩
     ·have he' := eq_true he
      refine ww1 (cj he' <| cj hf g5r) ?_
      exact ⟨_, _, _, rfl, rfl, rfl, rfl, s5, Nat.le_trans l4 l3⟩
    ·refine ww1 (cj he g5r) ?_
     exact ⟨_, _, _, rfl, rfl, rfl, rfl, s5, Nat.le_trans l4 l3⟩
   rintro env h6 ⟨X6, f6, R6, e2, e3, e4, e5, s6, l6⟩
   refine ww1 e4 ?_
   refine callF_of (kfix_spec hS s6.r (Nat.lt_of_le_of_lt l6 hl2) 4 dC) okf ?_
   rintro _ h7 ⟨rfl, r7⟩
   have s7 := s6.call r7
   have l7 := Nat.le_trans (fl R6 4) l6
   obtain ⟨⟨v7, g7r, hb7, ho7⟩, hlt7⟩ := s7.r
   refine wr1 (cj e4 g7r) ?_
   refine run_cut (CeI k l h h1.nx) ?_ ?_
   ·by_cases hx : (R6.fix 4).1 = 1
    ·have hx' := eq_true hx
     refine ww1 (cj hx' <| cj g7r <| cj e2 <| cj e3 <| cj e4 e5) ?_
     exact ⟨_, _, _, e2, e3, e4, e5, s7, l7⟩
    ·by_cases he : (R6.fix 4).2.e = 0
     ·have he' := eq_true he
      refine ww1 (cj hx <| cj he' <| cj g7r <| cj e2 <| cj e3 <| cj e4 e5) ?_
      exact ⟨.inr oM, _, _, _, e2, e3, e4, e5, s7.bad g7r 5, l7⟩
     ·refine ww1 (cj hx <| cj he <| cj g7r <| cj e2 <| cj e3 <| cj e4 e5) ?_
      exact ⟨_, _, _, e2, e3, e4, e5, s7, l7⟩
   rintro env h8 ⟨X8, f8, R8, e2, e3, e4, e5, s8, l8⟩
   refine ww1 e4 ?_
   refine callF_of (krest_spec hS s8.r (Nat.lt_of_le_of_lt l8 hl2)) okf ?_
   rintro w9 h9 ⟨hw9, ho9, r9⟩
   have s9 := s8.call r9
   have g9 := s9.o
   have n9 := s9.lt
   unfold cmdC at g9
   obtain ⟨d1, d2⟩ := hw9.cell
   refine ww1 (cj e2 <| cj e3 <| cj e4 <| cj e5 <| cj g9 <| cj d1 d2) ?_
   exact ⟨.inr oM, _, _, _, e2, e3, e4, e5, s9.put ⟨X8.x1, X8.x2, X8.x3, X8.x5, X8.x6, w9⟩ f8 ⟨d1, d2⟩, fun q => absurd (hs.symm.trans q) dC, fun q => absurd (hs.symm.trans q) dC, fun q => absurd (hs.symm.trans q) dC⟩
  ·rw [hs]
   refine wew0 ?_
   refine callF_of (kfix_spec hS s2.r hl2 4 dC) okf ?_
   rintro _ h3 ⟨rfl, r3⟩
   have s3 := s2.call r3
   refine ww0 ?_
   have l3 := fl ⟨l, 0⟩ 4
   refine callF_of (kfix_spec hS s3.r (Nat.lt_of_le_of_lt l3 hl2) 2 dC) okf ?_
   rintro _ h4 ⟨rfl, r4⟩
   have s4 := s3.call r4
   have l4 := fl ((Rd.mk l 0).fix 4).2 2
   refine ww0 ?_
   refine callF_of (krest_spec hS s4.r (Nat.lt_of_le_of_lt l4 (Nat.lt_of_le_of_lt l3 hl2))) okf ?_
   rintro w5 h5 ⟨hw5, ho5, r5⟩
   have s5 := s4.call r5
   have g5 := s5.o
   have n5 := s5.lt
   unfold cmdC at g5
   obtain ⟨d1, d2⟩ := hw5.cell
   refine ww1 (cj g5 <| cj d1 d2) ?_
   refine ⟨.inr oM, .inr oM, .inr oM, ⟨[], IntKind.u32.wrap ((Rd.mk l 0).fix 4).1, IntKind.u16.wrap (((Rd.mk l 0).fix 4).2.fix 2).1, 0, 0, w5⟩, 0, _, rfl, rfl, rfl, rfl, ((s5.put ⟨[], IntKind.u32.wrap ((Rd.mk l 0).fix 4).1, 0, 0, 0, .nilslice⟩ 0 ⟨rfl, rfl⟩).put ⟨[], IntKind.u32.wrap ((Rd.mk l 0).fix 4).1, IntKind.u16.wrap (((Rd.mk l 0).fix 4).2.fix 2).1, 0, 0, .nilslice⟩ 0 ⟨rfl, rfl⟩).put ⟨[], IntKind.u32.wrap ((Rd.mk l 0).fix 4).1, IntKind.u16.wrap (((Rd.mk l 0).fix 4).2.fix 2).1, 0, 0, w5⟩ 0 ⟨d1, d2⟩, fun q => absurd (hs.symm.trans q) dC, fun _ q => ?_, fun q => absurd (hs.symm.trans q) dC⟩
   have f4 : (Rd.mk l 0).fix 4 = (rdX l 4, ⟨l.drop 4, 0⟩) := by
    unfold Rd.fix
    rw [if_neg (fun q => q rfl), if_neg (by show ¬ l.length < 4; omega)]
   have f2 : (Rd.mk (l.drop 4) 0).fix 2 = (rdX (l.drop 4) 2, ⟨(l.drop 4).drop 2, 0⟩) := by
    unfold Rd.fix
    rw [if_neg (fun q => q rfl), if_neg (by show ¬ (l.drop 4).length < 2; rw [List.length_drop]; omega)]
   rw [f4]
   show Rd.mk [] ((Rd.mk (l.drop 4) 0).fix 2).2.e = _
   rw [f2]
  ·rw [hs]
   refine wew0 ?_
   refine callF_of (kfix_spec hS s2.r hl2 4 dC) okf ?_
   rintro _ h3 ⟨rfl, r3⟩
   have s3 := s2.call r3
   have g3 := s3.o
   have n3 := s3.lt
   unfold cmdC at g3
   refine ww1 g3 ?_
   exact ⟨.inr oM, ⟨[], IntKind.u32.wrap ((Rd.mk l 0).fix 4).1, 0, 0, 0, .nilslice⟩, 0, _, rfl, rfl, rfl, rfl, s3.put ⟨[], IntKind.u32.wrap ((Rd.mk l 0).fix 4).1, 0, 0, 0, .nilslice⟩ 0 ⟨rfl, rfl⟩, fun q => absurd (hs.symm.trans q) dC, fun q => absurd (hs.symm.trans q) dC, fun _ q => (by unfold Rd.fix; rw [if_neg (fun q => q rfl), if_neg (by show ¬ l.length < 4; omega)]; show Rd.mk (l.drop 4) 0 = _; rw [List.drop_of_length_le oM])⟩
  ·rw [hs]
   refine wew0 ?_
   refine callF_of (kfix_spec hS s2.r hl2 2 dC) okf ?_
   rintro _ h3 ⟨rfl, r3⟩
   have s3 := s2.call r3
   have g3 := s3.o
   have n3 := s3.lt
   unfold cmdC at g3
   refine ww1 g3 ?_
   exact ⟨.inr oM, ⟨[], 0, 0, 0, IntKind.u16.wrap ((Rd.mk l 0).fix 2).1, .nilslice⟩, 0, _, rfl, rfl, rfl, rfl, s3.put ⟨[], 0, 0, 0, IntKind.u16.wrap ((Rd.mk l 0).fix 2).1, .nilslice⟩ 0 ⟨rfl, rfl⟩, fun q => absurd (hs.symm.trans q) dC, fun q => absurd (hs.symm.trans q) dC, fun q => absurd (hs.symm.trans q) dC⟩
  ·rw [hs]
   refine wew0 ?_
   refine callF_of (kfix_spec hS s2.r hl2 4 dC) okf ?_
   rintro _ h3 ⟨rfl, r3⟩
   have s3 := s2.call r3
   refine ww0 ?_
   have l3 := fl ⟨l, 0⟩ 4
   refine callF_of (kfix_spec hS s3.r (Nat.lt_of_le_of_lt l3 hl2) 4 dC) okf ?_
   rintro _ h4 ⟨rfl, r4⟩
   have s4 := s3.call r4
   have g4 := s4.o
   have n4 := s4.lt
   unfold cmdC at g4
   refine ww1 g4 ?_
   exact ⟨.inr oM, .inr oM, ⟨[], IntKind.u32.wrap ((Rd.mk l 0).fix 4).1, 0, IntKind.u32.wrap (((Rd.mk l 0).fix 4).2.fix 4).1, 0, .nilslice⟩, 0, _, rfl, rfl, rfl, rfl, (s4.put ⟨[], IntKind.u32.wrap ((Rd.mk l 0).fix 4).1, 0, 0, 0, .nilslice⟩ 0 ⟨rfl, rfl⟩).put ⟨[], IntKind.u32.wrap ((Rd.mk l 0).fix 4).1, 0, IntKind.u32.wrap (((Rd.mk l 0).fix 4).2.fix 4).1, 0, .nilslice⟩ 0 ⟨rfl, rfl⟩, fun q => absurd (hs.symm.trans q) dC, fun q => absurd (hs.symm.trans q) dC, fun q => absurd (hs.symm.trans q) dC⟩
  ·rw [hs]
   refine wew0 ?_
   refine callF_of (krest_spec hS s2.r hl2) okf ?_
   rintro w3 h3 ⟨hw3, ho3, r3⟩
   have s3 := s2.call r3
   have g3 := s3.o
   have n3 := s3.lt
   unfold cmdC at g3
   obtain ⟨d1, d2⟩ := hw3.cell
   refine ww1 (cj g3 <| cj d1 d2) ?_
   exact ⟨.inr oM, ⟨[], 0, 0, 0, 0, w3⟩, 0, _, rfl, rfl, rfl, rfl, s3.put ⟨[], 0, 0, 0, 0, w3⟩ 0 ⟨d1, d2⟩, fun q => absurd (hs.symm.trans q) dC, fun q => absurd (hs.symm.trans q) dC, fun q => absurd (hs.symm.trans q) dC⟩
 rintro env h3 ⟨X, f3, R, e2, e3, e4, e5, s3, q1, q4, q5⟩
 obtain ⟨⟨v3, g3r, hb3, ho3⟩, hlt3⟩ := s3.r
 have lv3 := hb3.len 5
 have g3 := s3.o
 have z3 := s3.z
 have n3 := s3.lt
 have x3 := s3.e
 obtain ⟨d1, d2⟩ := s3.x
 unfold cmdC at g3 z3 ⊢
 unfold zX at z3
 by_cases he : R.e = 0
 ·have he' := eq_true he
  by_cases hl0 : 0 < R.bs.length
  ·refine wew1 (cj e2 <| cj e3 <| cj e4 <| cj e5 <| cj g3r <| cj g3 <| cj z3 <| cj lv3 <| cj he' <| cj hl0 <| cj d1 d2) ?_
   refine ⟨.inr oM, draw_by [(4, 5)] kR ?_⟩
   refine ww1 (cj e2 <| cj e3 <| cj e4 <| cj e5 <| cj g3r <| cj g3 <| cj z3 <| cj lv3 <| cj he' <| cj hl0 <| cj d1 d2) ?_
   refine ⟨fun p hp => ?_, (x3.put oM _).put (Nat.le_refl _) _, zX, 0, 0, _, rfl, ⟨rfl, rfl⟩, fun q => absurd q dC, fun q => absurd (q1 q).1 (fun (e : R = ⟨[], 0⟩) => by rw [e] at hl0; exact absurd hl0 dC), fun q w => absurd (q4 q w) (fun (e : R = ⟨[], 0⟩) => by rw [e] at hl0; exact absurd hl0 dC), fun q w => absurd (q5 q w) (fun (e : R = ⟨[], 0⟩) => by rw [e] at hl0; exact absurd hl0 dC)⟩
   rw [List.mem_singleton.1 hp]
   exact pair_one rfl rfl (apart_blk fun x hx y hy => by rw [List.mem_singleton.1 hx, List.mem_singleton.1 hy]; show h.nx + 1 ≠ h.nx; omega)
  ·have hl1 := List.length_eq_zero_iff.1 (show R.bs.length = 0 by omega)
   refine ww1 (cj e2 <| cj e3 <| cj e4 <| cj e5 <| cj g3r <| cj g3 <| cj z3 <| cj lv3 <| cj he' <| cj hl0 <| cj d1 d2) ?_
   exact ⟨x3.put (Nat.le_refl _) _, X, k, f3, 0, rfl, ⟨d1, d2⟩, fun _ => rfl, fun q => ⟨rfl, (q1 q).2⟩, fun _ _ => rfl, fun _ _ => rfl⟩
 ·refine ww1 (cj e2 <| cj e3 <| cj e4 <| cj e5 <| cj g3r <| cj g3 <| cj z3 <| cj lv3 <| cj he <| cj d1 d2) ?_
  refine draw_by [(4, 5)] kR ?_
  refine ww1 (cj e2 <| cj e3 <| cj e4 <| cj e5 <| cj g3r <| cj g3 <| cj z3 <| cj lv3 <| cj he <| cj d1 d2) ?_
  refine ⟨fun p hp => ?_, x3.put (Nat.le_refl _) _, zX, 0, 0, _, rfl, ⟨rfl, rfl⟩, fun q => absurd q he, fun q => absurd (q1 q).1 (fun (e : R = ⟨[], 0⟩) => he (by rw [e])), fun q w => absurd (q4 q w) (fun (e : R = ⟨[], 0⟩) => he (by rw [e])), fun q w => absurd (q5 q w) (fun (e : R = ⟨[], 0⟩) => he (by rw [e]))⟩
  rw [List.mem_singleton.1 hp]
  exact pair_one rfl rfl (apart_blk fun x hx y hy => by rw [List.mem_singleton.1 hx, List.mem_singleton.1 hy]; show h.nx + 1 ≠ h.nx; omega)
end
noncomputable section
def okP (f : Nat) (c : Int) : List Nat := [f, 0, 0, 2, 0, 0, 0] ++ @ite _ (sessP c) (Classical.propDecidable _) [0] []
def okA : List V := [.int .u64 0, .int .u64 0, .int .u16 2, .int .u16 0, .str [], .nilslice]
theorem not_trk (c : Int) : ¬ trkP c 2 := fun q => q.2 rfl
variable {S : Set0} (hS : StdK S)
include hS
theorem apok_spec (c : Int) (last : Prop) (f : Nat) (hf : f = @ite _ last (Classical.propDecidable _) 254 0) (h : H) : Pure S.cfg 69 [.nilslice, .int .u32 c, .agg okA, bo last] h fun w h' => ∃ v, w = .tuple [v, .int .i64 0] ∧ LB h.nx h' v (okP f c) := by
 refine inn Tryz.func69 (hS.ownK _ dC) rfl rfl ?_
 unfold okA
 refine ww1 @Tryz.f69.eq_1 ?_
 generalize hhA : H.push h _ = hA
 have hxA : Ext h hA := by rw [← hhA]; exact (Ext.refl h).push _
 have nA : hA.nx = h.nx + 1 := by rw [← hhA]; rfl
 have gA : hA.get h.nx = some (.cells okA 63 false) := by rw [← hhA]; exact push_eq rfl
 clear hhA
 have gA' := gA
 unfold okA at gA'
 refine gCall_split (fun q => absurd q dC) (fun _ => ?_)
 refine wr1 (cj @Nat.lt_irrefl @Int.lt_irrefl) ?_
 refine cond_no (p := False) (by first | rfl | simp +contextual (disch := first | exact dd | fail) only [wpy, fW, Int.reduceLE, Int.reduceLT, Nat.reduceLeDiff, UInt8.reduceToNat, ↓reduceIte, Nat.reduceEqDiff, Nat.reduceAdd, reduceCtorEq, Int.reduceToNat]) (fun q => q) ?_
 refine wr0 ?_
 refine run_cut (fun env h' => h' = hA ∧ env 0 = .nilslice ∧ env 1 = .int .u32 c ∧ env 6 = .ptr h.nx 0 ∧ env 10 = .int .u8 (f : Int)) ?_ ?_
 ·by_cases hl : last
  ·rw [if_pos hl] at hf
   have hl' := eq_true hl
   subst hf
   exact wv1 hl'
  ·rw [if_neg hl] at hf
   subst hf
   exact wv1 hl
 rintro env hB ⟨hB0, e0, e1, e6, e10⟩
 subst hB0
 refine ww1 (cj e0 <| cj e1 <| cj e6 e10) ?_
 refine callF_pure (bclone_spec hS.toStdB (BS.nil 5 _) dC) ?_
 intro w2 h2 hx2 hw2
 have n2 := hx2.1
 have g2 := (hx2.2 h.nx oM).trans gA'
 refine ww1 (cj e0 <| cj e1 <| cj e6 e10) ?_
 have f255 : f = 254 ∨ f = 0 := by
  by_cases hl : last
  ·rw [if_pos hl] at hf; exact .inl hf
  ·rw [if_neg hl] at hf; exact .inr hf
 have ok1 : ∀ j, h.nx + 1 ≤ j → fresh h.nx nil1 j := fun j hj => by rw [fresh_def]; exact .inl oM
 refine app_one (n0 := h.nx + 1) (cc := f) ap48K tx48 (by exact wv0) (by exact wv0) rfl (LB.mono hw2 oM) dC ok1 oM ?_
 intro v3 h3 L3 hl3 hn3 hk3 hL3
 have g3 := (hk3 h.nx oM).trans g2
 refine ww1 (cj e1 e6) ?_
 refine draw_by [(3, 5)] kR ?_
 refine ww1 (cj e1 <| cj e6 g3) ?_
 have b3 : BS 5 h3 v3 [f] := LB.bs hl3 fun x hx => by
  rw [List.mem_singleton] at hx
  omega
 refine callF_pure (aint_spec hS b3 (show (1 : Nat) < 2 ^ 26 by decide) 0 dC) ?_
 intro v4 h4 hx4 hl4
 have n4 := hx4.1
 have g4 := (hx4.2 h.nx oM).trans g3
 have i0 : intB 0 = [0] := rfl
 rw [i0] at hl4
 refine ww1 (cj e1 <| cj e6 g4) ?_
 have b4 : BS 5 h4 v4 [f, 0] := LB.bs hl4 fun x hx => by
  simp only [List.cons_append, List.nil_append, List.mem_cons, List.not_mem_nil, or_false] at hx
  omega
 refine callF_pure (aint_spec hS b4 (show (2 : Nat) < 2 ^ 26 by decide) 0 dC) ?_
 intro v5 h5 hx5 hl5
 have n5 := hx5.1
 have g5 := (hx5.2 h.nx oM).trans g4
 rw [i0] at hl5
 refine ww1 (cj e1 <| cj e6 g5) ?_
 refine ⟨fun p hp => ?_, draw_by [(4, 6)] kR ?_⟩
 ·rw [List.mem_singleton.1 hp]
  exact pair_one rfl rfl (cl_rd0 oM)
 have w2 : IntKind.u64.wrap 2 = 2 := rfl
 have w0 : IntKind.u64.wrap 0 = 0 := rfl
 refine ww1 (cj e1 <| cj e6 <| cj g5 w2) ?_
 have b5 : BS 5 h5 v5 [f, 0, 0] := LB.bs hl5 fun x hx => by
  simp only [List.cons_append, List.nil_append, List.mem_cons, List.not_mem_nil, or_false] at hx
  omega
 refine callF_pure (rfixG_spec hS b5 (show (3 : Nat) < 2 ^ 27 by decide) 2 2 dC dC) ?_
 intro v6 h6 hx6 hl6
 have n6 := hx6.1
 have g6 := (hx6.2 h.nx oM).trans g5
 rw [show leB 2 2 = [2, 0] from rfl] at hl6
 refine ww1 (cj e1 <| cj e6 <| cj g6 w0) ?_
 have b6 : BS 5 h6 v6 [f, 0, 0, 2, 0] := LB.bs hl6 fun x hx => by
  simp only [List.cons_append, List.nil_append, List.mem_cons, List.not_mem_nil, or_false] at hx
  omega
 refine callF_pure (rfixG_spec hS b6 (show (5 : Nat) < 2 ^ 27 by decide) 0 2 dC dC) ?_
 intro v7 h7 hx7 hl7
 have n7 := hx7.1
 have g7 := (hx7.2 h.nx oM).trans g6
 rw [show leB 0 2 = [0, 0] from rfl] at hl7
 refine ww1 (cj e1 <| cj e6 g7) ?_
 refine ⟨fun p hp => ?_, ?_⟩
 ·rw [List.mem_singleton.1 hp]
  exact pair_one rfl rfl (cl_rd0 oM)
 refine callF_exact (has_spec hS.toStdB c 8388608 h7) ?_
 have hxh7 : Ext h h7 := ⟨by omega, fun j hj => by rw [hx7.2 j oM, hx6.2 j oM, hx5.2 j oM, hx4.2 j oM, hk3 j oM, hx2.2 j oM, hxA.2 j hj]⟩
 have hl7' : LB (h.nx + 1) h7 v7 [f, 0, 0, 2, 0, 0, 0] := LB.mono hl7 oM
 have b7 : BS 5 h7 v7 [f, 0, 0, 2, 0, 0, 0] := LB.bs hl7' fun x hx => by
  simp only [List.mem_cons, List.not_mem_nil, or_false] at hx
  omega
 by_cases hc : hasP c 8388608
 ·have e : okP f c = [f, 0, 0, 2, 0, 0, 0] ++ [0] := by unfold okP; rw [if_pos (show sessP c from hc)]
  rw [e]
  have hc' := eq_true hc
  refine ww1 (cj e1 <| cj e6 <| cj g7 hc') ?_
  refine callF_pure (atext_spec hS b7 (show (7 : Nat) < 2 ^ 26 by decide) [] dC) ?_
  intro v8 h8 hx8 hl8
  have n8 := hx8.1
  have g8 := (hx8.2 h.nx oM).trans g7
  rw [show lenB [] = [0] from rfl] at hl8
  refine ww1 (cj e1 <| cj e6 g8) ?_
  refine callF_pure (tracked_spec hS.toStdB c 0 0 2 0 [] .nilslice ⟨rfl, rfl⟩ _) ?_
  rintro _ h9 hx9 rfl
  have ht : ¬ trkP c 2 := not_trk c
  refine ww1 ht ?_
  exact ⟨(hxh7.trans hx8).trans hx9, _, rfl, LB.mono (hl8.ext hx9) oM⟩
 ·have e : okP f c = [f, 0, 0, 2, 0, 0, 0] := by unfold okP; rw [if_neg (show ¬ sessP c from hc)]; rfl
  rw [e]
  refine ww1 (cj e1 <| cj e6 <| cj g7 hc) ?_
  refine append_str0 (sv := v7) (by exact wv0) ?_ ap48K tx9 (by exact wv0) ?_
  ·rcases LB.acc hl7' (by simp) with ⟨q, _⟩ | ⟨b, n, _, _, q, _⟩
   ·exact .inl q
   ·exact .inr ⟨_, _, _, _, q⟩
  refine ww0 ?_
  exact ⟨hxh7, _, rfl, LB.mono hl7' (Nat.le_succ _)⟩
end
noncomputable section
def txC (t : List Nat) : List V := [.int .i64 7, .int .i64 0, .int .u64 0, .str t, bo False, .int .i64 0, .int .i64 0, .int .i64 0, .int .i64 0, .int .i64 0, .int .i64 0, .int .i64 0]
def zvC : List V := [.int .i64 0, .int .i64 0, .int .u64 0, .str [], bo False, .int .i64 0, .int .i64 0, .int .i64 0, .int .i64 0, .int .i64 0, .int .i64 0, .int .i64 0]
def vaC (t : List Nat) : List V := if t = [0] then zvC else txC t
def vkC (k : Int) (t : List Nat) : List V := [.int .i64 k, .int .i64 0, .int .u64 0, .str t, bo False, .int .i64 0, .int .i64 0, .int .i64 0, .int .i64 0, .int .i64 0, .int .i64 0, .int .i64 0]
theorem vaC_form (t : List Nat) : ∃ k s, vaC t = vkC k s ∧ ((k = 0 ∧ t = [0]) ∨ (k = 7 ∧ s = t ∧ ¬ t = [0])) := by
 unfold vaC
 by_cases h : t = [0]
 ·rw [if_pos h]; exact ⟨0, [], rfl, .inl ⟨rfl, h⟩⟩
 ·rw [if_neg h]; exact ⟨7, t, rfl, .inr ⟨rfl, rfl, h⟩⟩
def vasC (ts : List (List Nat)) : List V := ts.flatMap vaC
theorem vaC_len (t : List Nat) : (vaC t).length = 12 := by unfold vaC; split <;> rfl
theorem vasC_len : ∀ ts : List (List Nat), (vasC ts).length = ts.length * 12
 | [] => rfl
 | t :: ts => by
   have := vasC_len ts
   unfold vasC at this ⊢
   rw [List.flatMap_cons, List.length_append, this, vaC_len, List.length_cons]
   omega
theorem vasC_at : ∀ (ts : List (List Nat)) (i : Nat) (hi : i < ts.length), ((vasC ts).drop (i * 12)).take 12 = vaC ts[i]
 | [], i, h => by cases h
 | t :: ts, 0, _ => by
   unfold vasC
   rw [List.flatMap_cons, Nat.zero_mul, List.drop_zero, List.take_left' (vaC_len t)]
   rfl
 | t :: ts, i + 1, h => by
   have := vasC_at ts i (by simpa using h)
   unfold vasC at this ⊢
   rw [List.flatMap_cons, show (i + 1) * 12 = 12 + i * 12 by omega, ← List.drop_drop, List.drop_left' (vaC_len t), this]
   rfl
theorem bo_f : bo False = V.bool false := by simp [bo]
theorem eqs_refl : ∀ s : List Nat, eqNats s s = true
 | [] => rfl
 | x :: s => by
   show (Nat.beq x x && eqNats s s) = true
   rw [eqs_refl s]
   simp
theorem eq148 (t : List Nat) : eqT Tryz.prog 148 (.agg (txC t)) (.agg (txC t)) = some true := by
 have e : eqT Tryz.prog 148 (.agg (txC t)) (.agg (txC t)) = (match some (eqNats t t) with
  | some true => some true
  | r => r) := by
  unfold txC
  rw [bo_f]
  kernel_rfl
 rw [e, eqs_refl]
theorem eq148b (c : Bool) (t : List Nat) : binV Tryz.prog .eql 148 c (.agg (txC t)) (.agg (txC t)) = some (bo True) := by
 show eqOpV Tryz.prog .eql 148 _ _ = _
 unfold eqOpV
 rw [eq148]
 simp [bo]
theorem ne148 (c : Bool) (t : List Nat) : binV Tryz.prog .eql 148 c (.agg (txC t)) (.agg zvC) = some (bo False) := by
 unfold txC zvC
 rw [bo_f]
 kernel_rfl
theorem eqz148 (c : Bool) : binV Tryz.prog .eql 148 c (.agg zvC) (.agg zvC) = some (bo True) := by
 rw [show bo True = .bool true by simp [bo]]
 unfold zvC
 rw [bo_f]
 kernel_rfl
variable {S : Set0} (hS : StdK S)
include hS
theorem kind253 (h : H) : Pure S.cfg 132 [.agg [.int .u8 253, bo False]] h fun v _ => v = .int .i64 7 := by
 refine inn Tryz.func132 (hS.ownK _ dC) rfl rfl ?_
 refine wew1 @Tryz.f132.eq_1 ?_
 refine callF_pure (known_spec hS.toStdR 253 dC _) ?_
 rintro _ h1 hx rfl
 have hk := eq_true (show knownP 253 from by unfold knownP; omega)
 refine ww1 hk ?_
 exact ((Ext.refl h).push _).trans hx
theorem size253 (h : H) : Pure S.cfg 154 [.int .u8 253] h fun v _ => v = .int .i64 0 := by
 refine inn Tryz.func154 (hS.ownK _ dC) rfl rfl ?_
 refine wew1 @Tryz.f154.eq_1 ?_
 exact Ext.refl _
theorem texts_spec (h : H) : Pure S.cfg 119 [] h fun v _ => v = .agg [.int .u8 253, bo False] := by
 refine inn Tryz.func119 (hS.ownK _ dC) rfl rfl ?_
 refine ww1 @Tryz.f119.eq_1 ?_
 exact ((Ext.refl h).push _).put (Nat.le_refl _) _
theorem vchk_spec (t : List Nat) (ht : t.length ≤ 255) (h : H) : Pure S.cfg 118 [.agg (vaC t), .agg [.int .u8 253, bo False]] h fun v _ => v = .int .i64 0 := by
 refine inn Tryz.func118 (hS.ownK _ dC) rfl rfl ?_
 have q1 := fun c => eq148b c t
 have q2 := fun c => ne148 c t
 have q3 := eqz148
 have ht2 : t.length ≤ 16777216 := oM
 have ht3 : (t.length : Int) ≤ 16777216 := oM
 unfold vaC
 by_cases h0 : t = [0]
 ·rw [if_pos h0]
  unfold zvC at q3 ⊢
  refine ww1 @Tryz.f118.eq_1 ?_
  generalize hhA : H.push _ (Ob.cells [V.int IntKind.u8 253, bo False] 200 false) = hA
  have hxA : Ext h hA := by rw [← hhA]; exact ((Ext.refl h).push (.cells zvC 148 false)).push _
  have gA : hA.get h.nx = some (.cells zvC 148 false) := by rw [← hhA, push_ne (by simp only [push_nx]; omega)]; exact push_eq rfl
  have nA : hA.nx = h.nx + 2 := by rw [← hhA]; rfl
  clear hhA
  refine callF_pure (kind253 hS _) ?_
  rintro _ h1 hx1 rfl
  have g1 := (hx1.2 h.nx oM).trans gA
  unfold zvC at g1
  simp +contextual (disch := first | exact dd | fail) only [wpy, fW, Int.reduceLE, Int.reduceLT, Nat.reduceLeDiff, UInt8.reduceToNat, ↓reduceIte, Nat.reduceEqDiff, Nat.reduceAdd, reduceCtorEq, Int.reduceToNat, Tryz.f118, Int.reduceLT, g1, q3]
  exact hxA.trans hx1
 ·rw [if_neg h0]
  unfold txC at q1 q2 ⊢
  unfold zvC at q2
  refine ww1 @Tryz.f118.eq_1 ?_
  generalize hhA : H.push _ (Ob.cells [V.int IntKind.u8 253, bo False] 200 false) = hA
  have hxA : Ext h hA := by rw [← hhA]; exact ((Ext.refl h).push (.cells (txC t) 148 false)).push _
  have gA : hA.get h.nx = some (.cells (txC t) 148 false) := by rw [← hhA, push_ne (by simp only [push_nx]; omega)]; exact push_eq rfl
  have gB : hA.get (h.nx + 1) = some (.cells [.int .u8 253, bo False] 200 false) := by rw [← hhA]; exact push_eq rfl
  have nA : hA.nx = h.nx + 2 := by rw [← hhA]; rfl
  clear hhA
  refine callF_pure (kind253 hS _) ?_
  rintro _ h1 hx1 rfl
  have g1 := (hx1.2 h.nx oM).trans gA
  have b1 := (hx1.2 (h.nx + 1) oM).trans gB
  unfold txC at g1
  simp +contextual (disch := first | exact dd | fail) only [wpy, fW, Int.reduceLE, Int.reduceLT, Nat.reduceLeDiff, UInt8.reduceToNat, ↓reduceIte, Nat.reduceEqDiff, Nat.reduceAdd, reduceCtorEq, Int.reduceToNat, Tryz.f118, Int.reduceLT, g1, b1, q2]
  refine callF_pure (size253 hS _) ?_
  rintro _ h2 hx2 rfl
  have g2 := (hx2.2 h.nx (by have := hx1.1; omega)).trans g1
  refine wr1 (cj @Tryz.f118.eq_1 g2) ?_
  iterate 7
   refine wer1 @Tryz.f118.eq_1 ?_
   refine cond_no (p := False) (by first | rfl | simp +contextual (disch := first | exact dd | fail) only [wpy, fW, Int.reduceLE, Int.reduceLT, Nat.reduceLeDiff, UInt8.reduceToNat, ↓reduceIte, Nat.reduceEqDiff, Nat.reduceAdd, reduceCtorEq, Int.reduceToNat, Int.reduceEq]) (fun q => q) ?_
  refine wew1 (cj @Tryz.f118.eq_1 <| cj g2 <| cj q1 ht3) ?_
  exact (hxA.trans hx1).trans hx2
theorem rowap_spec {v : V} {ts : List (List Nat)} {h : H} (a : RW 148 12 ts.length h v (vasC ts)) (hn : ts.length ≤ 4096) (ht : ∀ t ∈ ts, t.length ≤ 255 ∧ ∀ b ∈ t, b < 256) : Pure S.cfg 74 [.nilslice, v] h fun w h' => ∃ lv, w = .tuple [lv, .int .i64 0] ∧ LB h.nx h' lv (rowB ts) := by
 refine inn Tryz.func74 (hS.ownK _ dC) rfl rfl ?_
 have a1 := a.len 148
 have hn' : ¬ 4096 < ts.length := oM
 have hn'' : ¬ (4096 : Int) < ts.length := oM
 have at1 : ∀ {h' : H} (i : Nat), Ext h h' → (hi : i < ts.length) → ∃ b o m, v = .slice b o ts.length m ∧ rdV (some (12, true)) (h'.get b) (o + i * 12) = some (.agg (vaC ts[i])) := fun {h'} i hx hi => by
  obtain ⟨b, o, m, hv⟩ := a.at oM
  obtain ⟨_, hb, _, hr⟩ := RW.rd (hv ▸ a)
  have hr1 := hr (i * 12) 12 (by rw [vasC_len]; omega)
  rw [vasC_at ts i hi] at hr1
  exact ⟨b, o, m, hv, by rw [hx.2 b hb]; exact hr1⟩
 refine ww1 (cj @Tryz.f74.eq_1 <| cj a1 <| cj hn' hn'') ?_
 refine run_blk_cut (fun env h' => env 0 = .nilslice ∧ env 1 = v ∧ Ext h h') ?_ ?_
 ·refine run_loop (fun k env h' => ∃ i : Nat, k = ts.length - i ∧ i ≤ ts.length ∧ env 0 = .nilslice ∧ env 1 = v ∧ env 14 = v ∧ env 15 = .int .i64 ts.length ∧ env 16 = .int .i64 i ∧ Ext h h') ts.length ⟨0, ?_⟩ ?_
  ·refine ww0 ?_
   exact ⟨(Nat.sub_zero _).symm, Ext.refl _⟩
  rintro k env h' ⟨i, rfl, hi, e0, e1, e14, e15, e16, hx⟩
  by_cases hin : i < ts.length
  ·have hin' : (i : Int) < ts.length := oM
   obtain ⟨b, o, m, hv, hr⟩ := at1 i hx hin
   have nn := hx.1
   have ck := fun h => vchk_spec hS ts[i] (ht _ (List.getElem_mem hin)).1 h
   obtain ⟨k0, s0, hvc, _⟩ := vaC_form ts[i]
   rw [hvc] at ck hr
   unfold vkC at ck hr
   refine ww1 (cj e0 <| cj e1 <| cj e14 <| cj e15 <| cj e16 <| cj hin <| cj hin' <| cj hv hr) ?_
   refine ⟨.inr oM, draw_by [(0, 1)] kR ?_⟩
   generalize hhB : H.put (H.push h' _) h'.nx _ = hB
   have hxB : Ext h' hB := by rw [← hhB]; exact Ext.new _ _ _
   have nB : hB.nx = h'.nx + 1 := by rw [← hhB]; rfl
   have gB : hB.get h'.nx = some (.cells (vkC k0 s0) 148 false) := by rw [← hhB]; exact put_eq rfl
   clear hhB
   unfold vkC at gB
   refine ww1 gB ?_
   refine callF_pure (texts_spec hS _) ?_
   rintro _ h3 hx3 rfl
   refine ww0 ?_
   refine callF_pure (ck _) ?_
   rintro _ h4 hx4 rfl
   have w1 : IntKind.i64.wrap ((i : Int) + 1) = ((i + 1 : Nat) : Int) := i64_in _ oM
   refine ww1 (cj e0 <| cj e1 <| cj e14 <| cj e15 <| cj e16 w1) ?_
   have nB3 := hx3.1
   have nB4 := hx4.1
   refine ⟨fun p hp => ?_, ts.length - (i + 1), by omega, i + 1, rfl, by omega, hv, hv, rfl, ((hx.trans hxB).trans hx3).trans hx4⟩
   rw [List.mem_singleton.1 hp]
   exact pair_one rfl rfl fun e he => by rw [List.mem_singleton.1 he]; exact ⟨rfl, .inr (show h'.nx < _ by omega), fun q => q.elim⟩
  ·refine ww1 (cj e0 <| cj e1 <| cj e14 <| cj e15 <| cj e16 hin) ?_
   exact hx
 rintro env h1 ⟨e0, e1, hx1⟩
 refine ww1 (cj e0 e1) ?_
 refine callF_pure (bclone_spec hS.toStdB (BS.nil 5 _) dC) ?_
 intro w2 h2 hx2 hw2
 have n1 := hx1.1
 have n2 := hx2.1
 refine ww1 (cj e0 <| cj e1 a1) ?_
 refine run_blk_cut (fun env h' => ∃ lv, env 8 = lv ∧ Ext h h' ∧ LB h.nx h' lv (rowB ts)) ?_ ?_
 ·refine run_loop (fun k env h' => ∃ i : Nat, k = ts.length - i ∧ i ≤ ts.length ∧ env 27 = v ∧ env 28 = .int .i64 ts.length ∧ env 29 = .int .i64 i ∧ Ext h h' ∧ ∃ lv, env 8 = lv ∧ LB h.nx h' lv (rowB (ts.take i))) ts.length ⟨0, ?_⟩ ?_
  ·refine ww0 ?_
   exact ⟨(Nat.sub_zero _).symm, hx1.trans hx2, _, rfl, LB.mono hw2 oM⟩
  rintro k env h' ⟨i, rfl, hi, e27, e28, e29, hx, lv, e8, hl⟩
  have nn := hx.1
  by_cases hin : i < ts.length
  ·have hin' : (i : Int) < ts.length := oM
   obtain ⟨b, o, m, hv, hr⟩ := at1 i hx hin
   obtain ⟨k0, s0, hvc, hk0⟩ := vaC_form ts[i]
   rw [hvc] at hr
   unfold vkC at hr
   have hrow : rowB (ts.take (i + 1)) = rowB (ts.take i) ++ cellB ts[i] := by
    unfold rowB
    rw [List.take_succ_eq_append_getElem hin, List.flatMap_append]
    simp
   have hlen : (rowB (ts.take i)).length ≤ i * 264 := by
    have := rowB_len (ts := ts.take i) fun t q => ht t (List.mem_of_mem_take q)
    rw [List.length_take, Nat.min_eq_left hi] at this
    exact this
   have hok : ∀ b ∈ rowB (ts.take i), b < 256 := rowB_ok fun t q => ht t (List.mem_of_mem_take q)
   have w1 : IntKind.i64.wrap ((i : Int) + 1) = ((i + 1 : Nat) : Int) := i64_in _ oM
   have hne := (cellB_len (ht _ (List.getElem_mem hin)).1).1
   rcases hk0 with ⟨rfl, h0⟩ | ⟨rfl, rfl, h0⟩
   ·refine ww1 (cj e27 <| cj e28 <| cj e29 <| cj e8 <| cj hin <| cj hin' <| cj hv hr) ?_
    refine ⟨.inr oM, ?_⟩
    generalize hhB : H.put (H.push h' _) h'.nx _ = hB
    have hxB : Ext h' hB := by rw [← hhB]; exact Ext.new _ _ _
    have nB : hB.nx = h'.nx + 1 := by rw [← hhB]; rfl
    clear hhB
    refine app_one (n0 := h.nx) (cc := 251) ap48K tx48 (by exact wv1 e8) (by exact wv1 nB) rfl (hl.ext hxB) oM (fun j hj => by rw [fresh_def]; exact .inl hj) oM ?_
    intro v5 h5 L5 hl5 hn5 hk5 hL5
    refine ww1 (cj e27 <| cj e28 <| cj e29 w1) ?_
    refine ⟨ts.length - (i + 1), by omega, i + 1, rfl, by omega, hv, rfl, ⟨by omega, fun j hj => by rw [hk5 j hj, hxB.2 j oM, hx.2 j hj]⟩, _, rfl, ?_⟩
    rw [hrow, show cellB ts[i] = [251] from by unfold cellB; rw [if_pos h0]]
    exact hl5
   ·refine wew1 (cj e27 <| cj e28 <| cj e29 <| cj e8 <| cj hin <| cj hin' <| cj hv hr) ?_
    refine ⟨.inr oM, ?_⟩
    generalize hhB : H.put (H.push h' _) h'.nx _ = hB
    have hxB : Ext h' hB := by rw [← hhB]; exact Ext.new _ _ _
    have nB : hB.nx = h'.nx + 1 := by rw [← hhB]; rfl
    have gB : hB.get h'.nx = some (.cells (vkC 7 ts[i]) 148 false) := by rw [← hhB]; exact put_eq rfl
    clear hhB
    unfold vkC at gB
    refine callF_pure (atext_spec hS ((LB.bs hl hok).ext hxB) oM ts[i] (by have := (ht _ (List.getElem_mem hin)).1; omega)) ?_
    intro v5 h5 hx5 hl5
    refine ww1 (cj e27 <| cj e28 <| cj e29 w1) ?_
    have n5 := hx5.1
    refine ⟨ts.length - (i + 1), by omega, i + 1, rfl, by omega, hv, rfl, (hx.trans hxB).trans hx5, _, rfl, ?_⟩
    rw [hrow, show cellB ts[i] = lenB ts[i] from by unfold cellB; rw [if_neg h0]]
    exact LB.mono hl5 oM
  ·obtain rfl : i = ts.length := oM
   rw [List.take_length] at hl
   refine ww1 (cj e27 <| cj e28 <| cj e29 <| cj e8 hin) ?_
   exact ⟨_, rfl, hx, hl⟩
 rintro env h5 ⟨lv, e8, hx5, hl5⟩
 refine ww1 e8 ?_
 exact ⟨hx5, _, rfl, hl5⟩
end
noncomputable section
section
variable {c : Cfg} {Ok : Nat → Prop} {env : Env} {h : H} {K : V → H → Fp → Prop}
theorem append_full {s x : Operand} {t tx : TypeId} {e e2 sz bytes b k b2 o2 n m : Nat} {old new : List V} (hsv : evalE env s = .slice b 0 k k) (hb : h.get b = some (.cells old e2 false)) (ho : old.length = k * sz) (hap : apI c.P t = some (e, sz, bytes)) (htx : ∃ d, c.P.underlying tx = some d ∧ isIntD d = false) (hx : evalE env x = .slice b2 o2 n m) (hn : 0 < n)
  (hr : rdC (h.get b2) o2 (n * sz) = some new) (hroom : k + n ≤ 1073741824) (hK : ∀ L, (∀ le ∈ L, blkOf le = b ∨ blkOf le = b2 ∨ blkOf le = h.nx) → K (.slice h.nx 0 (k + n) (k + n)) (h.push (.cells (old ++ new) e true)) (.lg L)) : opW c Ok (.call ⟨.builtin .append, #[s, x], #[t, tx]⟩) env h K := by
 obtain ⟨z, hu, h1, h2, h3, hb1, hb2⟩ := apI_inv hap
 rw [opW_append_slice hap htx hx, goL_ld, hsv]
 refine ⟨new, hr, ?_⟩
 have hn' : Nat.beq n 0 = false := by
  cases hb : Nat.beq n 0 with
  | false => rfl
  | true => have := Nat.eq_of_beq_eq_true hb; omega
 have hcap : Nat.ble (k + n) k = false := by
  cases hb : Nat.ble (k + n) k with
  | false => rfl
  | true => have := Nat.le_of_ble_eq_true hb; omega
 have hro : roomy (k + n) bytes = true := roomy_of hroom hb2
 unfold appendCore
 simp only [hn', cond_false, hcap, hro, cond_true]
 unfold growM
 rw [goL_blk]
 refine ⟨old, e2, false, hb, ?_⟩
 simp only
 rw [goL_ld]
 refine ⟨old, ?_, ?_⟩
 ·rw [hb]
  exact rdC_all ho
 ·simp only [cond_false]
  rw [goL_alloc, goL_ret]
  refine ⟨?_, hK _ fun le hle => ?_⟩
  ·rw [LogOk_cons_wrd, LogOk_cons_rd, LogOk_cons_rdd, LogOk_cons_rd]
   exact ⟨.inl (Nat.le_refl _), LogOk_nil⟩
  ·simp only [List.mem_cons, List.not_mem_nil, or_false] at hle
   rcases hle with rfl | rfl | rfl | rfl
   ·exact .inr (.inr rfl)
   ·exact .inl rfl
   ·exact .inl rfl
   ·exact .inr (.inl rfl)
end
def Stays (e : TypeId) (h h' : H) : Prop := h.nx ≤ h'.nx ∧ ∀ k, k < h.nx → (∀ cs, h.get k ≠ some (.cells cs e true)) → h'.get k = h.get k
theorem Stays.ext {e : TypeId} {h h' : H} (x : Ext h h') : Stays e h h' := ⟨x.1, fun k hk _ => x.2 k hk⟩
def QK {α : Type} (e : TypeId) (Q : H → V → α → Prop) : Prop := ∀ (h h' : H) (w : V) (a : α), Q h w a → Stays e h h' → Q h' w a
def PBL (e : TypeId) (n0 : Nat) (h : H) (lv : V) (cs : List V) : Prop := Wx.Acc n0 h lv cs e 1 ∨ ∃ b, lv = .slice b 0 cs.length cs.length ∧ n0 ≤ b ∧ b < h.nx ∧ h.get b = some (.cells cs e false)
def PG {α : Type} (e : TypeId) (Q : H → V → α → Prop) (n0 : Nat) (h : H) (lv : V) (xs : List α) : Prop := ∃ cs, PBL e n0 h lv cs ∧ cs.length = xs.length ∧ ∀ i (hi : i < xs.length) (hc : i < cs.length), Q h cs[i] xs[i]
section
variable {α : Type} {e : TypeId} {Q : H → V → α → Prop}
theorem PBL.ext {n0 : Nat} {h h' : H} {lv : V} {cs : List V} (a : PBL e n0 h lv cs) (x : Ext h h') : PBL e n0 h' lv cs := by
 rcases a with a | ⟨b, q1, q2, q3, q4⟩
 ·exact .inl (a.ext x)
 ·exact .inr ⟨b, q1, q2, Nat.lt_of_lt_of_le q3 x.1, by rw [x.2 b q3]; exact q4⟩
theorem PG.ext (hQ : QK e Q) {n0 : Nat} {h h' : H} {lv : V} {xs : List α} (a : PG e Q n0 h lv xs) (x : Ext h h') : PG e Q n0 h' lv xs := by
 obtain ⟨cs, q1, q2, q3⟩ := a
 exact ⟨cs, q1.ext x, q2, fun i hi hc => hQ _ _ _ _ (q3 i hi hc) (Stays.ext x)⟩
theorem PG.mono {n0 n1 : Nat} {h : H} {lv : V} {xs : List α} (a : PG e Q n1 h lv xs) (hn : n0 ≤ n1) : PG e Q n0 h lv xs := by
 obtain ⟨cs, q1, q2, q3⟩ := a
 refine ⟨cs, ?_, q2, q3⟩
 rcases q1 with q | ⟨b, p1, p2, p3, p4⟩
 ·exact .inl (q.mono hn)
 ·exact .inr ⟨b, p1, Nat.le_trans hn p2, p3, p4⟩
theorem PG.one (hQ : QK e Q) {n0 : Nat} {h : H} {v : V} {x : α} (hv : Q h v x) (hn : n0 ≤ h.nx) : PG e Q n0 (h.push (.cells [v] e false)) (.slice h.nx 0 1 1) [x] := by
 refine ⟨[v], .inr ⟨h.nx, rfl, hn, Nat.lt_succ_self _, push_eq rfl⟩, rfl, fun i hi hc => ?_⟩
 obtain rfl : i = 0 := by have : i < 1 := hi; omega
 exact hQ _ _ _ _ hv (Stays.ext ((Ext.refl h).push _))
theorem PG.nil (n0 : Nat) (h : H) : PG e Q n0 h .nilslice [] := ⟨[], .inl (.inl ⟨rfl, rfl⟩), rfl, fun i hi _ => absurd hi (Nat.not_lt_zero i)⟩
theorem PG.rw {n0 : Nat} {h : H} {lv : V} {xs : List α} (a : PG e Q n0 h lv xs) : ∃ cs, RW e 1 xs.length h lv cs ∧ ∀ i (hi : i < xs.length) (hc : i < cs.length), Q h cs[i] xs[i] := by
 obtain ⟨cs, q1, q2, q3⟩ := a
 refine ⟨cs, ?_, q3⟩
 rcases q1 with q | ⟨b, p1, p2, p3, p4⟩
 ·exact rw_of_lst (.inl q) dC (by rw [q2, Nat.mul_one])
 ·exact ⟨by rw [q2, Nat.mul_one], .inr ⟨b, 0, cs.length, by rw [p1, q2], p3, by rw [q2]; exact Nat.le_refl _, by rw [p4]; exact rdC_all (by rw [q2, Nat.mul_one]), fun kc e' fl w hf => by rw [p4] at w; cases w; cases hf⟩⟩
end
theorem BS.qk {e : TypeId} (he : e ≠ 5) : QK e (fun h v (l : List Nat) => BS 5 h v l) := fun h h' w l b st => by
 refine BS.keep b st.1 fun k hk' ⟨o, n, m, q⟩ => st.2 k hk' fun cs' e' => ?_
 rcases b.2 with ⟨q1, _⟩ | ⟨b', o', m', q1, _, _, _, q2⟩
 ·rw [q] at q1; cases q1
 ·rw [q] at q1
  injection q1 with q1
  subst q1
  exact absurd (q2 _ e true (by rw [e']; rfl) rfl) he
theorem RW.qk {e e2 sz : TypeId} {α : Type} {n : α → Nat} {f : α → List V} (he : e ≠ e2) : QK e (fun h v (x : α) => RW e2 sz (n x) h v (f x)) := fun h h' w l b st => by
 refine RW.keep b st.1 fun k hk' ⟨o, n', m, q⟩ => st.2 k hk' fun cs' e' => ?_
 rcases b.2 with ⟨q1, _⟩ | ⟨b', o', m', q1, _, _, _, q2⟩
 ·rw [q] at q1; cases q1
 ·rw [q] at q1
  injection q1 with q1
  subst q1
  exact absurd (q2 _ e true (by rw [e']; rfl) rfl) he
section
variable {α : Type} {e bytes : TypeId} {Q : H → V → α → Prop} {c : Cfg} {Ok : Nat → Prop} {env : Env} {h1 : H} {K : V → H → Fp → Prop}
theorem app_pg (hQ : QK e Q) {s x : Operand} {t tx : TypeId} {n0 : Nat} {xs : List α} {a : α} {sv v : V} {ob : Ob} (hap : apI c.P t = some (e, 1, bytes)) (htx : ∃ d, c.P.underlying tx = some d ∧ isIntD d = false) (hsv : evalE env s = sv) (hxv : evalE env x = .slice h1.nx 0 1 1) (hob : ob = .cells [v] e false) (hv : Q h1 v a) (hvc : v.isCell = true) (hs : PG e Q n0 h1 sv xs) (hl : xs.length < 2 ^ 29)
  (hOk : ∀ k, n0 ≤ k → Ok k) (hn0 : n0 ≤ h1.nx)
  (hK : ∀ v' h' L, PG e Q n0 h' v' (xs ++ [a]) → Stays e h1 h' → (∀ k, k < n0 → h'.get k = h1.get k) → (∀ le ∈ L, h1.nx ≤ blkOf le ∨ ∃ o n m, sv = .slice (blkOf le) o n m) → K v' h' (.lg L)) : opW c Ok (.call ⟨.builtin .append, #[s, x], #[t, tx]⟩) env (h1.push ob) K := by
 subst hob
 obtain ⟨cs, q1, q2, q3⟩ := hs
 have xP : Ext h1 (h1.push (.cells [v] e false)) := (Ext.refl h1).push _
 have fin : ∀ {v' : V} {h' : H}, PBL e n0 h' v' (cs ++ [v]) → Stays e h1 h' → PG e Q n0 h' v' (xs ++ [a]) := fun {v'} {h'} p b => by
  refine ⟨cs ++ [v], p, by rw [List.length_append, List.length_append, q2]; rfl, fun i hi hc => ?_⟩
  by_cases hil : i < xs.length
  ·rw [List.getElem_append_left oM, List.getElem_append_left hil]
   exact hQ _ _ _ _ (q3 i hil oM) b
  ·obtain rfl : i = xs.length := by rw [List.length_append] at hi; have : i < xs.length + 1 := hi; omega
   rw [List.getElem_append_right oM, List.getElem_append_right oM]
   simp only [q2, Nat.sub_self, List.getElem_cons_zero]
   exact hQ _ _ _ _ hv b
 rcases q1 with q | ⟨b, p1, p2, p3, p4⟩
 ·refine append_lst (n0 := n0) (sv := sv) (xv := .slice h1.nx 0 1 1) (cells := cs) (new := [v]) hsv hxv hap htx (.inl (q.ext xP)) (.inr ⟨h1.nx, 0, 1, 1, rfl, Nat.lt_succ_self _, by rw [push_eq rfl]; rfl, rfl⟩) (by simp [hvc]) (by rw [q2]; show xs.length + 1 ≤ _; omega) dC hOk (by show n0 ≤ h1.nx + 1; omega) ?_
  intro v' h' L hl' hn' hk' hk0 hL
  have hn1 : h1.nx + 1 ≤ h'.nx := hn'
  have st : Stays e h1 h' := ⟨by omega, fun k hk hne => by
   rw [hk' k (by show k < h1.nx + 1; omega) (fun o n m ee => ?_), push_ne oM]
   rcases q with ⟨q, _⟩ | ⟨b, n', _, _, q, _, qg, _⟩
   ·rw [q] at ee; cases ee
   ·rw [q] at ee; injection ee with e1; subst e1; exact hne _ qg⟩
  refine hK v' h' L (fin (.inl (acc_of hl' (by simp))) st) st (fun k hk => by rw [hk0 k hk, push_ne oM]) fun le hle => ?_
  rcases hL le hle with ⟨⟨o, n, m, ee⟩, _⟩ | ⟨ee, _⟩ | ee
  ·injection ee with e1; exact .inl oM
  ·exact .inl (by have : h1.nx + 1 ≤ blkOf le := ee; omega)
  ·exact .inr ee
 ·refine append_full (b := b) (k := cs.length) (b2 := h1.nx) (o2 := 0) (n := 1) (m := 1) (old := cs) (new := [v]) (e2 := e) (by rw [hsv, p1]) (by rw [xP.2 b p3]; exact p4) (by rw [Nat.mul_one]) hap htx hxv dC (by rw [push_eq rfl]; rfl) (by rw [q2]; omega) fun L hL => ?_
  have xQ : Ext h1 ((h1.push (.cells [v] e false)).push (.cells (cs ++ [v]) e true)) := xP.push _
  have e1 : (cs ++ [v]).length = cs.length + 1 := by simp
  refine hK _ _ L (fin (.inl (.inr ⟨_, cs.length + 1, by show n0 ≤ h1.nx + 1; omega, Nat.lt_succ_self _, rfl, by omega, push_eq rfl, by rw [e1, Nat.mul_one]⟩)) (Stays.ext xQ)) (Stays.ext xQ) (fun k hk => xQ.2 k oM) fun le hle => ?_
  rcases hL le hle with q | q | q
  ·exact .inr ⟨0, cs.length, cs.length, by rw [p1, q]⟩
  ·exact .inl oM
  ·exact .inl (by have : blkOf le = h1.nx + 1 := q; omega)
end
abbrev PB (n0 : Nat) (h : H) (lv : V) (ls : List (List Nat)) : Prop := PG 48 (fun h v (l : List Nat) => BS 5 h v l) n0 h lv ls
theorem pbK : QK 48 (fun h v (l : List Nat) => BS 5 h v l) := BS.qk dC
abbrev TB (n0 : Nat) (h : H) (lv : V) (rows : List (List (List Nat))) : Prop := PG 38 (fun h v (r : List (List Nat)) => RW 9 1 r.length h v (r.map V.str)) n0 h lv rows
theorem tbK : QK 38 (fun h v (r : List (List Nat)) => RW 9 1 r.length h v (r.map V.str)) := RW.qk dC
theorem ap45K : apI Tryz.prog 45 = some (48, 1, 24) := ap45
theorem tx45 : ∃ d, Tryz.prog.underlying 45 = some d ∧ isIntD d = false := ⟨.slice 48, by kernel_rfl, rfl⟩
end
noncomputable section
def Tx (t : List Nat) : Prop := t.length ≤ 255 ∧ ∀ b ∈ t, b < 256
theorem Tx.itoa {n : Int} (h : -9223372036854775808 ≤ n) (h2 : n ≤ 9223372036854775807) : Tx (itoaF n) := ⟨Nat.le_trans (Ad.itoaF_len h h2) dC, fun b hb => by
 unfold itoaF toN at hb
 obtain ⟨x, _, rfl⟩ := List.mem_map.1 hb
 exact x.toNat_lt⟩
def i64R (x : Int) : Prop := -9223372036854775808 ≤ x ∧ x ≤ 9223372036854775807
theorem i64W (x : Int) : i64R (IntKind.i64.wrap x) := by
 have := IntKind.wrap_i64 x
 unfold i64R
 rw [this]
 omega
variable {S : Set0} (hS : StdK S)
include hS
theorem digits_spec (x : Int) (hx : i64R x) (h : H) : Pure S.cfg 25 [.int .i64 x] h fun v _ => ∃ t, v = .str t ∧ Tx t := by
 refine inn Tryz.func25 (hS.ownK _ dC) rfl rfl ?_
 obtain ⟨x1, x2⟩ := hx
 have key : ∀ n : Int, -9223372036854775808 ≤ n → n ≤ 9223372036854775807 → ∀ h, Exact S.cfg 65 [.int .i64 n, .int .i64 10] h (.str (itoaF n)) := fun n q1 q2 h => Ad.sum_exact hS.fmt (by
  show (if -9223372036854775808 ≤ n ∧ n ≤ 9223372036854775807 then some (V.str (itoaF n)) else none) = _
  rw [if_pos ⟨q1, q2⟩])
 refine ww1 (cj @Tryz.f25.eq_1 <| cj @opW_max @maxV_int) ?_
 by_cases hp : 0 < x
 ·rw [if_pos hp]
  refine callF_exact (key x x1 x2 _) ?_
  refine ww0 ?_
  exact ⟨Ext.refl _, _, rfl, Tx.itoa x1 x2⟩
 ·rw [if_neg hp]
  refine callF_exact (key 0 dC dC _) ?_
  refine ww0 ?_
  exact ⟨Ext.refl _, _, rfl, Tx.itoa dC dC⟩
theorem whole_spec (x : Int) (hx : i64R x) (h : H) : Pure S.cfg 26 [.int .i64 x] h fun v _ => ∃ t, v = .str t ∧ Tx t := by
 refine inn Tryz.func26 (hS.ownK _ dC) rfl rfl ?_
 refine ww1 @Tryz.f26.eq_1 ?_
 refine callF_pure (digits_spec hS x hx _) ?_
 rintro _ h1 hx1 ⟨t, rfl, ht⟩
 refine ww0 ?_
 exact ⟨hx1, _, rfl, ht⟩
theorem yes_spec (p : Prop) (h : H) : Pure S.cfg 27 [bo p] h fun v _ => ∃ t, v = .str t ∧ Tx t := by
 refine inn Tryz.func27 (hS.ownK _ dC) rfl rfl ?_
 by_cases hp : p
 ·have hp' := eq_true hp
  refine ww1 (cj @Tryz.f27.eq_1 hp') ?_
  exact ⟨Ext.refl _, _, rfl, by unfold Tx; decide⟩
 ·refine ww1 (cj @Tryz.f27.eq_1 hp) ?_
  exact ⟨Ext.refl _, _, rfl, by unfold Tx; decide⟩
theorem named_spec {v : V} {ns : List (List Nat)} {h : H} (a : RW 9 1 ns.length h v (ns.map V.str)) (hn : ns.length ≤ 100) (ht : ∀ t ∈ ns, Tx t) (i : Int) : Pure S.cfg 66 [v, .int .i64 i] h fun w _ => ∃ t, w = .str t ∧ Tx t := by
 refine inn Tryz.func66 (hS.ownK _ dC) rfl rfl ?_
 have a1 := a.len 9
 by_cases h1 : i < 0
 ·refine ww1 (cj @Tryz.f66.eq_1 <| cj h1 a1) ?_
  exact ⟨Ext.refl _, _, rfl, by unfold Tx; decide⟩
 by_cases h2 : (ns.length : Int) ≤ i
 ·refine ww1 (cj @Tryz.f66.eq_1 <| cj h1 <| cj h2 a1) ?_
  exact ⟨Ext.refl _, _, rfl, by unfold Tx; decide⟩
 obtain ⟨k, rfl⟩ : ∃ k : Nat, i = k := ⟨i.toNat, by omega⟩
 have hk : k < ns.length := oM
 have h2' : ¬ ns.length ≤ k := oM
 obtain ⟨b, o, m, rfl⟩ := a.at oM
 obtain ⟨_, hb, hr, _⟩ := RW.rd a
 have hr1 := hr k 1 (by rw [List.length_map]; exact hk)
 rw [List.getElem_map] at hr1
 refine ww1 (cj @Tryz.f66.eq_1 <| cj h1 <| cj h2 <| cj h2' <| cj a1 <| cj hk hr1) ?_
 exact ⟨Ext.refl _, _, rfl, ht _ (List.getElem_mem hk)⟩
structure CnV where
 n : Int
 st : Int
 cl : Int
 since : Int
def CnV.cells (x : CnV) : List V := [.int .i64 x.n, .int .i64 x.st, .int .i64 x.cl, .int .i64 x.since]
def cnC (l : List CnV) : List V := l.flatMap CnV.cells
def CnV.Ok (x : CnV) : Prop := i64R x.n ∧ i64R x.cl
structure SeV where
 n : Int
 user : List Nat
 schema : List Nat
 st : Int
 pin : Prop
def SeV.cells (x : SeV) : List V := [.int .i64 x.n, .str x.user, .str x.schema, .int .i64 x.st, bo x.pin]
def seC (l : List SeV) : List V := l.flatMap SeV.cells
def SeV.Ok (x : SeV) : Prop := i64R x.n ∧ Tx x.user ∧ Tx x.schema
structure WaV where
 cl : Int
 until_ : Int
def WaV.cells (x : WaV) : List V := [.int .i64 x.cl, .int .i64 x.until_]
def waC (l : List WaV) : List V := l.flatMap WaV.cells
structure DiV where
 t : List Nat
 n : Int
def DiV.cells (x : DiV) : List V := [.str x.t, .int .i64 x.n]
def diC (l : List DiV) : List V := l.flatMap DiV.cells
omit hS in
theorem flat_len {α : Type} {f : α → List V} {k : Nat} (hk : ∀ x, (f x).length = k) : ∀ l : List α, (l.flatMap f).length = l.length * k
 | [] => by simp
 | x :: l => by rw [List.flatMap_cons, List.length_append, hk, flat_len hk l, List.length_cons, Nat.succ_mul]; omega
omit hS in
theorem flat_at {α : Type} {f : α → List V} {k : Nat} (hk : ∀ x, (f x).length = k) : ∀ (l : List α) (i : Nat) (hi : i < l.length), ((l.flatMap f).drop (i * k)).take k = f l[i]
 | [], i, h => by cases h
 | x :: l, 0, _ => by
   rw [List.flatMap_cons, Nat.zero_mul, List.drop_zero, List.take_left' (hk x)]
   rfl
 | x :: l, i + 1, h => by
   rw [List.flatMap_cons, show (i + 1) * k = k + i * k by rw [Nat.succ_mul]; omega, ← List.drop_drop, List.drop_left' (hk x), flat_at hk l i (by simpa using h)]
   rfl
omit hS in
theorem row_at {α : Type} {f : α → List V} {k : Nat} {e : TypeId} (hk : ∀ x, (f x).length = k) {l : List α} {h h' : H} {v : V} (a : RW e k l.length h v (l.flatMap f)) (hx : Ext h h') (i : Nat) (hi : i < l.length) : ∃ b o m, v = .slice b o l.length m ∧ rdV (some (k, true)) (h'.get b) (o + i * k) = some (.agg (f l[i])) := by
 obtain ⟨b, o, m, hv⟩ := a.at oM
 obtain ⟨_, hb, _, hr⟩ := RW.rd (hv ▸ a)
 have hr1 := hr (i * k) k (by rw [flat_len hk, ← Nat.succ_mul]; exact Nat.mul_le_mul_right k hi)
 rw [flat_at hk l i hi] at hr1
 exact ⟨b, o, m, hv, by rw [hx.2 b hb]; exact hr1⟩
end
noncomputable section
theorem ap39K : apI Tryz.prog 39 = some (38, 1, 24) := ap39
theorem tx39 : ∃ d, Tryz.prog.underlying 39 = some d ∧ isIntD d = false := ⟨.slice 38, by kernel_rfl, rfl⟩
structure SnV where
 now : Int
 lim : Int
 paused : Prop
 vc : V
 vw : V
 vs : V
 vd : V
def SnV.cells (s : SnV) : List V := [.int .i64 s.now, .int .i64 s.lim, bo s.paused, s.vc, s.vw, s.vs, s.vd]
structure SnOk (s : SnV) (h : H) (cs : List CnV) (ws : List WaV) (ss : List SeV) (ds : List DiV) : Prop where
 now : i64R s.now
 lim : i64R s.lim
 fc : RW 132 4 cs.length h s.vc (cnC cs)
 fw : RW 31 2 ws.length h s.vw (waC ws)
 fs : RW 109 5 ss.length h s.vs (seC ss)
 fd : RW 95 2 ds.length h s.vd (diC ds)
theorem SnOk.ext {s : SnV} {h h' : H} {cs : List CnV} {ws : List WaV} {ss : List SeV} {ds : List DiV} (a : SnOk s h cs ws ss ds) (x : Ext h h') : SnOk s h' cs ws ss ds := ⟨a.now, a.lim, a.fc.ext x, a.fw.ext x, a.fs.ext x, a.fd.ext x⟩
def RowsOk (k : Nat) (rows : List (List (List Nat))) : Prop := ∀ r ∈ rows, r.length = k ∧ ∀ t ∈ r, Tx t
theorem RowsOk.snoc {k : Nat} {rows : List (List (List Nat))} {r : List (List Nat)} (a : RowsOk k rows) (h : r.length = k ∧ ∀ t ∈ r, Tx t) : RowsOk k (rows ++ [r]) := fun x hx => by
 rcases List.mem_append.1 hx with q | q
 ·exact a x q
 ·rw [List.mem_singleton.1 q]; exact h
theorem rw_built {h : H} {cs : List V} {ts : List (List Nat)} {n : Nat} (hc : cs = ts.map V.str) (hn : ts.length = n) : RW 9 1 ts.length (h.push (.cells cs 9 false)) (.slice h.nx 0 n n) (ts.map V.str) := by
 subst hc
 subst hn
 exact ⟨by rw [List.length_map, Nat.mul_one], .inr ⟨h.nx, 0, ts.length, rfl, Nat.lt_succ_self _, Nat.le_refl _, by rw [push_eq rfl]; exact rdC_all (by rw [List.length_map, Nat.mul_one]), fun kc e' fl w hf => by rw [push_eq rfl] at w; cases w; cases hf⟩⟩
theorem rd_cl0 {n0 n1 k o m : Nat} (h : k < n0) : fpApart (.lg [.rd k o m]) (.cl n0 n1 nil1) := fun e he => by rw [List.mem_singleton.1 he]; exact ⟨rfl, .inr h, fun q => q.elim⟩
theorem tx_cons {t : List Nat} {ts : List (List Nat)} (h : Tx t) (h2 : ∀ x ∈ ts, Tx x) : ∀ x ∈ t :: ts, Tx x := fun x hx => by
 rcases List.mem_cons.1 hx with q | q
 ·rw [q]; exact h
 ·exact h2 x q
variable {S : Set0} (hS : StdK S)
include hS
theorem conns_spec {s : SnV} {cs : List CnV} {ws : List WaV} {ss : List SeV} {ds : List DiV} {h : H} (a : SnOk s h cs ws ss ds) (hn : cs.length ≤ 200) (hok : ∀ x ∈ cs, x.Ok) : Pure S.cfg 28 [.agg s.cells] h fun w h' => ∃ rows, TB h.nx h' w rows ∧ rows.length = cs.length ∧ RowsOk 4 rows := by
 refine inn Tryz.func28 (hS.ownK _ dC) rfl rfl ?_
 obtain ⟨c1, c2⟩ := a.fc.cell
 obtain ⟨w1, w2⟩ := a.fw.cell
 obtain ⟨s1, s2⟩ := a.fs.cell
 obtain ⟨d1, d2⟩ := a.fd.cell
 have a1 := a.fc.len 132
 unfold SnV.cells
 refine ww1 (cj @Tryz.f28.eq_1 <| cj c1 <| cj c2 <| cj w1 <| cj w2 <| cj s1 <| cj s2 <| cj d1 <| cj d2 a1) ?_
 generalize hhA : H.push h _ = hA
 have hxA : Ext h hA := by rw [← hhA]; exact (Ext.refl h).push _
 have nA : hA.nx = h.nx + 1 := by rw [← hhA]; rfl
 have gA : hA.get h.nx = some (.cells s.cells 37 false) := by rw [← hhA]; exact push_eq rfl
 clear hhA
 unfold SnV.cells at gA
 refine run_blk_cut (fun env h' => ∃ lv rows, env 3 = lv ∧ Ext hA h' ∧ TB (h.nx + 1) h' lv rows ∧ rows.length = cs.length ∧ RowsOk 4 rows) ?_ ?_
 ·refine run_loop (fun k env h' => ∃ i : Nat, k = cs.length - i ∧ i ≤ cs.length ∧ env 1 = .ptr h.nx 0 ∧ env 9 = s.vc ∧ env 10 = .int .i64 cs.length ∧ env 11 = .int .i64 i ∧ ∃ lv rows, env 3 = lv ∧ Ext hA h' ∧ TB (h.nx + 1) h' lv rows ∧ rows.length = i ∧ RowsOk 4 rows) cs.length ⟨0, ?_⟩ ?_
  ·refine ww0 ?_
   exact ⟨(Nat.sub_zero _).symm, _, [], rfl, Ext.refl _, PG.nil _ _, rfl, fun r hr => by cases hr⟩
  rintro k env h' ⟨i, rfl, hi, e1, e9, e10, e11, lv, rows, e3, hx, hT, hl, hR⟩
  have nn := hx.1
  by_cases hin : i < cs.length
  ·have hin' : (i : Int) < cs.length := oM
   obtain ⟨b, o, m, hv, hr⟩ := row_at (f := CnV.cells) (k := 4) (fun _ => rfl) a.fc (hxA.trans hx) i hin
   have gb := (hx.2 h.nx oM).trans gA
   have ho := hok _ (List.getElem_mem hin)
   unfold CnV.cells at hr
   refine wr1 (cj e1 <| cj e9 <| cj e10 <| cj e11 <| cj e3 <| cj hin hin') ?_
   refine cond_yes (p := True) (by first | rfl | simp +contextual (disch := first | exact dd | fail) only [wpy, fW, Int.reduceLE, Int.reduceLT, Nat.reduceLeDiff, UInt8.reduceToNat, ↓reduceIte, Nat.reduceEqDiff, Nat.reduceAdd, reduceCtorEq, Int.reduceToNat]) trivial ?_
   rw [run_skip, kont_seq, run_seq, run_block, run_seq]
   refine run_cut (fun env2 h2 => env2 1 = .ptr h.nx 0 ∧ env2 3 = lv ∧ env2 9 = s.vc ∧ env2 10 = .int .i64 cs.length ∧ env2 11 = .int .i64 i ∧ env2 5 = .ptr h'.nx 0 ∧ Ext h' h2 ∧ h2.nx = h'.nx + 1 ∧ h2.get h'.nx = some (.cells cs[i].cells 132 false)) ?_ ?_
   ·refine ww1 (cj e1 <| cj e9 <| cj e10 <| cj e11 <| cj e3 <| cj hin <| cj hin' <| cj hv hr) ?_
    exact ⟨.inr oM, Ext.new _ _ _, rfl⟩
   rintro env2 hB ⟨e1, e3, e9, e10, e11, e5, hxB, nB, gB⟩
   unfold CnV.cells at gB
   have gbB := (hxB.2 h.nx oM).trans gb
   rw [run_seq]
   refine run_cut (fun env3 h2 => env3 1 = .ptr h.nx 0 ∧ env3 3 = lv ∧ env3 9 = s.vc ∧ env3 10 = .int .i64 cs.length ∧ env3 11 = .int .i64 i ∧ env3 5 = .ptr h'.nx 0 ∧ hB = h2 ∧ env3 6 = .str [0]) ?_ ?_
   ·exact wv1 (cj e1 <| cj e9 <| cj e10 <| cj e11 <| cj e3 e5)
   rintro env3 h3 ⟨e1, e3, e9, e10, e11, e5, hq, e6⟩
   subst hq
   rw [run_seq]
   refine run_cut (fun env4 h2 => env4 1 = .ptr h.nx 0 ∧ env4 3 = lv ∧ env4 9 = s.vc ∧ env4 10 = .int .i64 cs.length ∧ env4 11 = .int .i64 i ∧ env4 5 = .ptr h'.nx 0 ∧ Ext hB h2 ∧ ∃ t, env4 6 = .str t ∧ Tx t) ?_ ?_
   ·by_cases hst : cs[i].st = 4
    ·have hst' := eq_true hst
     refine ww1 (cj e1 <| cj e3 <| cj e5 <| cj e6 <| cj e9 <| cj e10 <| cj e11 <| cj gB <| cj hst' gbB) ?_
     refine callF_pure (digits_spec hS _ (i64W _) _) ?_
     rintro _ h4 hx4 ⟨t, rfl, ht⟩
     refine ww1 (cj e1 <| cj e3 <| cj e5 <| cj e6 <| cj e9 <| cj e10 e11) ?_
     exact ⟨hx4, _, rfl, ht⟩
    ·refine ww1 (cj e1 <| cj e3 <| cj e5 <| cj e6 <| cj e9 <| cj e10 <| cj e11 <| cj gB hst) ?_
     exact ⟨Ext.refl _, _, rfl, by unfold Tx; decide⟩
   rintro env4 h4 ⟨e1, e3, e9, e10, e11, e5, hx4, t4, e6, ht4⟩
   have n4 := hx4.1
   have g4 := (hx4.2 h'.nx oM).trans gB
   refine ww1 (cj e1 <| cj e3 <| cj e5 <| cj e6 <| cj e9 <| cj e10 <| cj e11 g4) ?_
   have hrn := rw_built (h := h4) (ts := [[], [111, 112, 101, 110, 105, 110, 103], [104, 101, 108, 100], [114, 101, 115, 101, 116, 116, 105, 110, 103], [105, 100, 108, 101]]) (n := 5) rfl rfl
   refine callF_pure (named_spec hS hrn dC (by unfold Tx; decide) _) ?_
   rintro _ h5 hx5 ⟨t5, rfl, ht5⟩
   have hx45 : Ext h4 h5 := ((Ext.refl h4).push _).trans hx5
   have n5 := hx45.1
   have g5 := (hx45.2 h'.nx oM).trans g4
   refine ww1 (cj e1 <| cj e3 <| cj e5 <| cj e6 <| cj e9 <| cj e10 e11) ?_
   refine draw_by [(3, 6)] kR ?_
   refine ww1 (cj e1 <| cj e3 <| cj e5 <| cj e6 <| cj e9 <| cj e10 <| cj e11 g5) ?_
   refine callF_pure (whole_spec hS _ ho.1 _) ?_
   rintro _ h6 hx6 ⟨t6, rfl, ht6⟩
   have n6 := hx6.1
   have g6 := (hx6.2 h'.nx oM).trans g5
   refine ww1 (cj e1 <| cj e3 <| cj e5 <| cj e6 <| cj e9 <| cj e10 <| cj e11 g6) ?_
   refine callF_pure (whole_spec hS _ ho.2 _) ?_
   rintro _ h7 hx7 ⟨t7, rfl, ht7⟩
   have n7 := hx7.1
   refine ww1 (cj e1 <| cj e3 <| cj e5 <| cj e6 <| cj e9 <| cj e10 e11) ?_
   have hx27 : Ext h' h7 := (((hxB.trans hx4).trans hx45).trans hx6).trans hx7
   have xP : Ext h7 (h7.push (.cells [.str t6, .str t5, .str t7, .str t4] 9 false)) := (Ext.refl h7).push _
   refine app_pg tbK (n0 := h.nx + 1) (sv := lv) (xs := rows) (a := [t6, t5, t7, t4]) (v := .slice h7.nx 0 4 4) ap39K tx39 (by exact wv1 e3) rfl rfl (rw_built (ts := [t6, t5, t7, t4]) rfl rfl) rfl ((hT.ext tbK hx27).ext tbK xP) oM (fun j hj => by rw [fresh_def]; exact .inl oM) (by show h.nx + 1 ≤ h7.nx + 1; omega) ?_
   intro v8 h8 L8 hT8 st8 hk8 hL8
   have n8 : h7.nx + 1 ≤ h8.nx := st8.1
   have w1 : IntKind.i64.wrap ((i : Int) + 1) = ((i + 1 : Nat) : Int) := i64_in _ oM
   refine ww1 (cj e1 <| cj e3 <| cj e5 <| cj e6 <| cj e9 <| cj e10 <| cj e11 w1) ?_
   refine ⟨fun p hp => ?_, cs.length - (i + 1), by omega, i + 1, rfl, by omega, rfl, _, rows ++ [[t6, t5, t7, t4]], rfl, ⟨by omega, fun j hj => ?_⟩, hT8, by rw [List.length_append, hl]; rfl, hR.snoc ⟨rfl, tx_cons ht6 (tx_cons ht5 (tx_cons ht7 (tx_cons ht4 fun x hx => by cases hx)))⟩⟩
   ·rw [List.mem_singleton.1 hp]
    exact pair_one rfl rfl (cl_rd0 oM)
   ·rw [hk8 j oM, xP.2 j oM, hx27.2 j oM, hx.2 j hj]
  ·obtain rfl : i = cs.length := oM
   refine ww1 (cj e1 <| cj e9 <| cj e10 <| cj e11 <| cj e3 hin) ?_
   exact ⟨_, rows, rfl, hx, hT, hl, hR⟩
 rintro env h5 ⟨lv, rows, e3, hx5, hT, hl, hR⟩
 refine ww1 e3 ?_
 exact ⟨hxA.trans hx5, rows, hT.mono oM, hl, hR⟩
theorem seats_spec {s : SnV} {cs : List CnV} {ws : List WaV} {ss : List SeV} {ds : List DiV} {h : H} (a : SnOk s h cs ws ss ds) (hn : ss.length ≤ 200) (hok : ∀ x ∈ ss, x.Ok) : Pure S.cfg 29 [.agg s.cells] h fun w h' => ∃ rows, TB h.nx h' w rows ∧ rows.length = ss.length ∧ RowsOk 5 rows := by
 refine inn Tryz.func29 (hS.ownK _ dC) rfl rfl ?_
 obtain ⟨c1, c2⟩ := a.fc.cell
 obtain ⟨w1, w2⟩ := a.fw.cell
 obtain ⟨s1, s2⟩ := a.fs.cell
 obtain ⟨d1, d2⟩ := a.fd.cell
 have a1 := a.fs.len 109
 unfold SnV.cells
 refine ww1 (cj @Tryz.f29.eq_1 <| cj c1 <| cj c2 <| cj w1 <| cj w2 <| cj s1 <| cj s2 <| cj d1 <| cj d2 a1) ?_
 generalize hhA : H.push h _ = hA
 have hxA : Ext h hA := by rw [← hhA]; exact (Ext.refl h).push _
 have nA : hA.nx = h.nx + 1 := by rw [← hhA]; rfl
 clear hhA
 refine run_blk_cut (fun env h' => ∃ lv rows, env 3 = lv ∧ Ext hA h' ∧ TB (h.nx + 1) h' lv rows ∧ rows.length = ss.length ∧ RowsOk 5 rows) ?_ ?_
 ·refine run_loop (fun k env h' => ∃ i : Nat, k = ss.length - i ∧ i ≤ ss.length ∧ env 8 = s.vs ∧ env 9 = .int .i64 ss.length ∧ env 10 = .int .i64 i ∧ ∃ lv rows, env 3 = lv ∧ Ext hA h' ∧ TB (h.nx + 1) h' lv rows ∧ rows.length = i ∧ RowsOk 5 rows) ss.length ⟨0, ?_⟩ ?_
  ·refine ww0 ?_
   exact ⟨(Nat.sub_zero _).symm, _, [], rfl, Ext.refl _, PG.nil _ _, rfl, fun r hr => by cases hr⟩
  rintro k env h' ⟨i, rfl, hi, e8, e9, e10, lv, rows, e3, hx, hT, hl, hR⟩
  have nn := hx.1
  by_cases hin : i < ss.length
  ·have hin' : (i : Int) < ss.length := oM
   obtain ⟨b, o, m, hv, hr⟩ := row_at (f := SeV.cells) (k := 5) (fun _ => rfl) a.fs (hxA.trans hx) i hin
   have ho := hok _ (List.getElem_mem hin)
   unfold SeV.cells at hr
   refine ww1 (cj e8 <| cj e9 <| cj e10 <| cj e3 <| cj hin <| cj hin' <| cj hv hr) ?_
   refine ⟨.inr oM, ?_⟩
   generalize hhB : H.put (H.push h' _) h'.nx _ = hB
   have hxB : Ext h' hB := by rw [← hhB]; exact Ext.new _ _ _
   have nB : hB.nx = h'.nx + 1 := by rw [← hhB]; rfl
   have gB : hB.get h'.nx = some (.cells ss[i].cells 109 false) := by rw [← hhB]; exact put_eq rfl
   clear hhB
   unfold SeV.cells at gB
   have hrn := rw_built (h := hB) (ts := [[108, 111, 103, 105, 110], [105, 100, 108, 101], [119, 97, 105, 116, 115], [114, 101, 112, 108, 97, 121, 115], [112, 114, 101, 112, 97, 114, 101, 115], [114, 117, 110, 115], [102, 105, 108, 101, 115], [99, 104, 97, 110, 103, 101, 115], [111, 118, 101, 114]]) (n := 9) rfl rfl
   rw [nB] at hrn
   refine callF_pure (named_spec hS hrn dC (by unfold Tx; decide) _) ?_
   rintro _ h5 hx5 ⟨t5, rfl, ht5⟩
   have hxB5 : Ext hB h5 := ((Ext.refl hB).push _).trans hx5
   have n5 := hxB5.1
   have g5 := (hxB5.2 h'.nx oM).trans gB
   refine ww1 (cj e3 <| cj e8 <| cj e9 e10) ?_
   refine draw_by [(3, 5), (3, 7), (3, 10), (5, 11), (7, 11)] kR ?_
   refine ww1 (cj e3 <| cj e8 <| cj e9 <| cj e10 g5) ?_
   refine callF_pure (whole_spec hS _ ho.1 _) ?_
   rintro _ h6 hx6 ⟨t6, rfl, ht6⟩
   have n6 := hx6.1
   have g6 := (hx6.2 h'.nx oM).trans g5
   refine ww1 (cj e3 <| cj e8 <| cj e9 <| cj e10 g6) ?_
   refine callF_pure (yes_spec hS _ _) ?_
   rintro _ h7 hx7 ⟨t7, rfl, ht7⟩
   have n7 := hx7.1
   refine ww1 (cj e3 <| cj e8 <| cj e9 e10) ?_
   have hx27 : Ext h' h7 := (((hxB.trans hxB5).trans hx6).trans hx7)
   have xP : Ext h7 (h7.push (.cells [.str t6, .str ss[i].user, .str ss[i].schema, .str t5, .str t7] 9 false)) := (Ext.refl h7).push _
   refine app_pg tbK (n0 := h.nx + 1) (sv := lv) (xs := rows) (a := [t6, ss[i].user, ss[i].schema, t5, t7]) (v := .slice h7.nx 0 5 5) ap39K tx39 (by exact wv1 e3) rfl rfl (rw_built (ts := [t6, ss[i].user, ss[i].schema, t5, t7]) rfl rfl) rfl ((hT.ext tbK hx27).ext tbK xP) oM (fun j hj => by rw [fresh_def]; exact .inl oM) (by show h.nx + 1 ≤ h7.nx + 1; omega) ?_
   intro v8 h8 L8 hT8 st8 hk8 hL8
   have n8 : h7.nx + 1 ≤ h8.nx := st8.1
   have w1 : IntKind.i64.wrap ((i : Int) + 1) = ((i + 1 : Nat) : Int) := i64_in _ oM
   refine ww1 (cj e3 <| cj e8 <| cj e9 <| cj e10 w1) ?_
   refine ⟨fun p hp => ?_, ss.length - (i + 1), by omega, i + 1, rfl, by omega, hv, rfl, _, rows ++ [[t6, ss[i].user, ss[i].schema, t5, t7]], rfl, ⟨by omega, fun j hj => ?_⟩, hT8, by rw [List.length_append, hl]; rfl, hR.snoc ⟨rfl, tx_cons ht6 (tx_cons ho.2.1 (tx_cons ho.2.2 (tx_cons ht5 (tx_cons ht7 fun x hx => by cases hx))))⟩⟩
   ·simp only [List.mem_cons, List.not_mem_nil, or_false] at hp
    rcases hp with rfl | rfl | rfl | rfl | rfl
    ·exact pair_one rfl rfl (cl_rd0 oM)
    ·exact pair_one rfl rfl (cl_rd0 oM)
    ·exact pair_one rfl rfl (cl_rd0 oM)
    ·exact pair_one rfl rfl (rd_cl0 oM)
    ·exact pair_one rfl rfl (rd_cl0 oM)
   ·rw [hk8 j oM, xP.2 j oM, hx27.2 j oM, hx.2 j hj]
  ·obtain rfl : i = ss.length := oM
   refine ww1 (cj e8 <| cj e9 <| cj e10 <| cj e3 hin) ?_
   exact ⟨_, rows, rfl, hx, hT, hl, hR⟩
 rintro env h5 ⟨lv, rows, e3, hx5, hT, hl, hR⟩
 refine ww1 e3 ?_
 exact ⟨hxA.trans hx5, rows, hT.mono oM, hl, hR⟩
end
noncomputable section
def colsK : Nat → List (List Nat)
 | 1 => [[110, 111, 119], [108, 105, 109, 105, 116], [112, 97, 117, 115, 101, 100], [98, 97, 99, 107, 101, 110, 100, 115], [119, 97, 105, 116, 101, 114, 115], [99, 108, 105, 101, 110, 116, 115]]
 | 2 => [[98, 97, 99, 107, 101, 110, 100], [115, 116, 97, 116, 101], [99, 108, 105, 101, 110, 116], [105, 100, 108, 101]]
 | 3 => [[99, 108, 105, 101, 110, 116], [117, 115, 101, 114], [115, 99, 104, 101, 109, 97], [115, 116, 97, 116, 101], [112, 105, 110, 110, 101, 100]]
 | 4 => [[99, 108, 105, 101, 110, 116], [108, 101, 102, 116]]
 | 5 => [[100, 105, 103, 101, 115, 116], [99, 111, 117, 110, 116]]
 | _ => []
def jnK : Nat → List Nat
 | 1 => [110, 111, 119, 32, 108, 105, 109, 105, 116, 32, 112, 97, 117, 115, 101, 100, 32, 98, 97, 99, 107, 101, 110, 100, 115, 32, 119, 97, 105, 116, 101, 114, 115, 32, 99, 108, 105, 101, 110, 116, 115]
 | 2 => [98, 97, 99, 107, 101, 110, 100, 32, 115, 116, 97, 116, 101, 32, 99, 108, 105, 101, 110, 116, 32, 105, 100, 108, 101]
 | 3 => [99, 108, 105, 101, 110, 116, 32, 117, 115, 101, 114, 32, 115, 99, 104, 101, 109, 97, 32, 115, 116, 97, 116, 101, 32, 112, 105, 110, 110, 101, 100]
 | 4 => [99, 108, 105, 101, 110, 116, 32, 108, 101, 102, 116]
 | 5 => [100, 105, 103, 101, 115, 116, 32, 99, 111, 117, 110, 116]
 | _ => []
def colP (s : List Nat) : List Nat := lenB [100, 101, 102] ++ (lenB [] ++ (lenB [] ++ (lenB [] ++ (lenB s ++ (lenB s ++ [12, 45, 0, 255, 0, 0, 0, 253, 0, 0, 0, 0, 0])))))
def eofP : List Nat := [254, 0, 0, 2, 0]
def errP (code : Int) (st tx : List Nat) : List Nat := 255 :: (leB code 2 ++ 35 :: (st ++ tx))
def e1 : Int × List Nat × List Nat := (1047, [48, 56, 83, 48, 49], [117, 110, 107, 110, 111, 119, 110, 32, 99, 111, 109, 109, 97, 110, 100])
def e2 : Int × List Nat × List Nat := (1064, [52, 50, 48, 48, 48], [110, 111, 32, 111, 114, 100, 101, 114])
structure StdT (S : Set0) : Prop extends StdK S where
 ad : Ad.StdA S
 flds : ∀ k, 1 ≤ k → k ≤ 5 → ∀ h, Pure S.cfg 23 [.str (jnK k)] h fun v h' => RW 9 1 (colsK k).length h' v ((colsK k).map V.str)
 cnt : ∀ n : Nat, n = 2 ∨ n = 4 ∨ n = 5 ∨ n = 6 → ∀ h, Pure S.cfg 71 [.nilslice, .int .i64 n] h fun w h' => ∃ v, w = .tuple [v, .int .i64 0] ∧ BS 5 h' v [n]
 col : ∀ k s, 1 ≤ k → k ≤ 5 → s ∈ colsK k → ∀ h, Pure S.cfg 72 [.nilslice, .agg [.str [], .str [], .str [], .str s, .str s, .int .u16 45, .int .u32 255, .int .u8 253, .int .u16 0, .int .u8 0]] h fun w h' => ∃ v, w = .tuple [v, .int .i64 0] ∧ BS 5 h' v (colP s)
 eof : ∀ h, Pure S.cfg 73 [.nilslice, .agg [.int .u16 0, .int .u16 2]] h fun w h' => BS 5 h' w eofP
 err : ∀ e, e = e1 ∨ e = e2 → ∀ h, Pure S.cfg 70 [.nilslice, .agg [.int .u16 e.1, .str e.2.1, .str e.2.2]] h fun w h' => ∃ v, w = .tuple [v, .int .i64 0] ∧ BS 5 h' v (errP e.1 e.2.1 e.2.2)
def showE (k n : Int) : Int := if Ad.okZ k n ∧ k ≤ 5 then 0 else 2
def cntK (k : Nat) (a b c d : Nat) : Nat := match k with
 | 1 => 1
 | 2 => a
 | 3 => c
 | 4 => b
 | _ => d
variable {S : Set0} (hS : StdT S)
include hS
theorem shown_spec {s : SnV} {cs : List CnV} {ws : List WaV} {ss : List SeV} {ds : List DiV} {h : H} (a : SnOk s h cs ws ss ds) (hn : cs.length ≤ 200 ∧ ws.length ≤ 200 ∧ ss.length ≤ 200 ∧ ds.length ≤ 200) (okc : ∀ x ∈ cs, x.Ok) (oks : ∀ x ∈ ss, x.Ok) (okw : ∀ x ∈ ws, i64R x.cl) (okd : ∀ x ∈ ds, i64R x.n ∧ ∀ b ∈ x.t, b < 256) (k n : Int) : Pure S.cfg 8 [.agg [.int .i64 k, .int .i64 n], .agg s.cells] h fun w h' => (¬ showE k n = 0 → w = .tuple [.nilslice, .nilslice, .int .i64 2]) ∧ (showE k n = 0 → ∃ cv rv rows, w = .tuple [cv, rv, .int .i64 0] ∧ RW 9 1 (colsK k.toNat).length h' cv ((colsK k.toNat).map V.str) ∧ TB h.nx h' rv rows ∧ RowsOk (colsK k.toNat).length rows ∧ rows.length = cntK k.toNat cs.length ws.length ss.length ds.length) := by
 refine inn Tryz.func8 (hS.ownK _ dC) rfl rfl ?_
 obtain ⟨c1, c2⟩ := a.fc.cell
 obtain ⟨w1, w2⟩ := a.fw.cell
 obtain ⟨s1, s2⟩ := a.fs.cell
 obtain ⟨d1, d2⟩ := a.fd.cell
 have lc := a.fc.len 132
 have lw := a.fw.len 31
 have ls := a.fs.len 109
 have ld := a.fd.len 95
 have cok := fun h b => conns_spec hS.toStdK (h := h) b hn.1 okc (s := s) (ws := ws) (ss := ss) (ds := ds)
 have sok := fun h b => seats_spec hS.toStdK (h := h) b hn.2.2.1 oks (s := s) (cs := cs) (ws := ws) (ds := ds)
 unfold SnV.cells at cok sok ⊢
 refine ww1 (cj @Tryz.f8.eq_1 <| cj c1 <| cj c2 <| cj w1 <| cj w2 <| cj s1 <| cj s2 <| cj d1 d2) ?_
 generalize hhA : H.push (H.push h _) _ = hA
 have hxA : Ext h hA := by rw [← hhA]; exact ((Ext.refl h).push _).push _
 have nA : hA.nx = h.nx + 2 := by rw [← hhA]; rfl
 have gK : hA.get h.nx = some (.cells [.int .i64 k, .int .i64 n] 24 false) := by rw [← hhA, push_ne (by simp only [push_nx]; omega)]; exact push_eq rfl
 have gA : hA.get (h.nx + 1) = some (.cells s.cells 37 false) := by rw [← hhA]; exact push_eq rfl
 clear hhA
 unfold SnV.cells at gA
 refine callF_pure (Ad.print_spec hS.ad k n _) ?_
 rintro _ h1 hx1 rfl
 have n1 := hx1.1
 have gK1 := (hx1.2 h.nx oM).trans gK
 have gA1 := (hx1.2 (h.nx + 1) oM).trans gA
 have a1 := a.ext (hxA.trans hx1)
 unfold Ad.printV showE
 by_cases hz : Ad.okZ k n
 case neg =>
  rw [if_neg hz, if_neg (fun q => hz q.1)]
  refine wew0 ?_
  exact hxA.trans hx1
 rw [if_pos hz]
 have hx0 := hxA.trans hx1
 have okf : ∀ j, h.nx + 2 ≤ j → fresh h.nx nil1 j := fun j hj => by rw [fresh_def]; exact .inl oM
 have hk : k = 1 ∨ k = 2 ∨ k = 3 ∨ k = 4 ∨ k = 5 ∨ 6 ≤ k := by have := hz.1; omega
 rcases hk with rfl | rfl | rfl | rfl | rfl | hk
 ·rw [if_pos ⟨hz, by decide⟩]
  refine wew1 gK1 ?_
  refine draw_by [(2, 4), (2, 7), (5, 7), (2, 10), (5, 10), (8, 10), (2, 14), (5, 14), (8, 14), (12, 14), (2, 18), (5, 18), (8, 18), (12, 18), (16, 18)] kR ?_
  have lenR : ∀ {m : Nat}, m ≤ 200 → i64R (m : Int) := fun hm => by unfold i64R; omega
  refine ww1 (cj gA1 <| cj lc <| cj lw ls) ?_
  refine callF_pure (digits_spec hS.toStdK _ a.now _) ?_
  rintro _ h2 hx2 ⟨t2, rfl, ht2⟩
  have n2 := hx2.1
  have gA2 := (hx2.2 (h.nx + 1) oM).trans gA1
  refine ww1 (cj gA2 <| cj lc <| cj lw ls) ?_
  refine callF_pure (whole_spec hS.toStdK _ a.lim _) ?_
  rintro _ h3 hx3 ⟨t3, rfl, ht3⟩
  have n3 := hx3.1
  have gA3 := (hx3.2 (h.nx + 1) oM).trans gA2
  refine ww1 (cj gA3 <| cj lc <| cj lw ls) ?_
  refine callF_pure (yes_spec hS.toStdK _ _) ?_
  rintro _ h4 hx4 ⟨t4, rfl, ht4⟩
  have n4 := hx4.1
  have gA4 := (hx4.2 (h.nx + 1) oM).trans gA3
  refine ww1 (cj gA4 <| cj lc <| cj lw ls) ?_
  refine callF_pure (whole_spec hS.toStdK _ (lenR hn.1) _) ?_
  rintro _ h5 hx5 ⟨t5, rfl, ht5⟩
  have n5 := hx5.1
  have gA5 := (hx5.2 (h.nx + 1) oM).trans gA4
  refine ww1 (cj gA5 <| cj lc <| cj lw ls) ?_
  refine callF_pure (whole_spec hS.toStdK _ (lenR hn.2.1) _) ?_
  rintro _ h6 hx6 ⟨t6, rfl, ht6⟩
  have n6 := hx6.1
  have gA6 := (hx6.2 (h.nx + 1) oM).trans gA5
  refine ww1 (cj gA6 <| cj lc <| cj lw ls) ?_
  refine callF_pure (whole_spec hS.toStdK _ (lenR hn.2.2.1) _) ?_
  rintro _ h7 hx7 ⟨t7, rfl, ht7⟩
  have n7 := hx7.1
  have gA7 := (hx7.2 (h.nx + 1) oM).trans gA6
  refine ww0 ?_
  have hx17 : Ext h1 h7 := ((((hx2.trans hx3).trans hx4).trans hx5).trans hx6).trans hx7
  refine ⟨fun p hp => ?_, ?_⟩
  ·simp only [List.mem_cons, List.not_mem_nil, or_false] at hp
   rcases hp with rfl | rfl | rfl | rfl | rfl | rfl | rfl | rfl | rfl | rfl | rfl | rfl | rfl | rfl | rfl
   all_goals exact pair_one rfl rfl (cl_rd0 oM)
  generalize hhB : H.push h7 _ = hB
  have xB : Ext h7 hB := by rw [← hhB]; exact (Ext.refl h7).push _
  have rB : RW 9 1 6 hB (.slice h7.nx 0 6 6) ([t2, t3, t4, t5, t6, t7].map V.str) := by rw [← hhB]; exact rw_built (ts := [t2, t3, t4, t5, t6, t7]) rfl rfl
  have nB : hB.nx = h7.nx + 1 := by rw [← hhB]; rfl
  clear hhB
  refine callF_pure (hS.flds 1 dC dC _) ?_
  intro v8 h8 hx8 hr8
  have n8 := hx8.1
  refine wew0 ?_
  have xP : Ext h8 (h8.push (.cells [.slice h7.nx 0 6 6] 38 false)) := (Ext.refl h8).push _
  refine ⟨(hx0.trans (hx17.trans (xB.trans hx8))).trans xP, v8, .slice h8.nx 0 1 1, [[t2, t3, t4, t5, t6, t7]], rfl, hr8.ext xP, PG.one tbK (rB.ext hx8) oM, fun r hr => ?_, rfl⟩
  rw [List.mem_singleton.1 hr]
  exact ⟨rfl, tx_cons ht2 (tx_cons ht3 (tx_cons ht4 (tx_cons ht5 (tx_cons ht6 (tx_cons ht7 fun x hx => by cases hx)))))⟩
 ·rw [if_pos ⟨hz, by decide⟩]
  refine wew1 gK1 ?_
  refine draw_by [(0, 1)] kR ?_
  refine ww0 ?_
  refine callF_pure (hS.flds 2 dC dC _) ?_
  intro v2 h2 hx2 hr2
  have n2 := hx2.1
  have gA2 := (hx2.2 (h.nx + 1) oM).trans gA1
  refine ww1 gA2 ?_
  refine callF_pure (cok _ (a1.ext hx2)) ?_
  rintro v3 h3 hx3 ⟨rows, hT3, hl3, hR3⟩
  obtain ⟨b1, b2⟩ := hr2.cell
  refine wew0 ?_
  refine ⟨fun p hp => ?_, hx0.trans (hx2.trans hx3), v2, v3, rows, rfl, hr2.ext hx3, hT3.mono oM, hR3, hl3⟩
  rw [List.mem_singleton.1 hp]
  exact pair_one rfl rfl (cl_rd0 oM)
 ·rw [if_pos ⟨hz, by decide⟩]
  refine wew1 gK1 ?_
  refine draw_by [(0, 1)] kR ?_
  refine ww0 ?_
  refine callF_pure (hS.flds 3 dC dC _) ?_
  intro v2 h2 hx2 hr2
  have n2 := hx2.1
  have gA2 := (hx2.2 (h.nx + 1) oM).trans gA1
  refine ww1 gA2 ?_
  refine callF_pure (sok _ (a1.ext hx2)) ?_
  rintro v3 h3 hx3 ⟨rows, hT3, hl3, hR3⟩
  obtain ⟨b1, b2⟩ := hr2.cell
  refine wew0 ?_
  refine ⟨fun p hp => ?_, hx0.trans (hx2.trans hx3), v2, v3, rows, rfl, hr2.ext hx3, hT3.mono oM, hR3, hl3⟩
  rw [List.mem_singleton.1 hp]
  exact pair_one rfl rfl (cl_rd0 oM)
 ·rw [if_pos ⟨hz, by decide⟩]
  refine wew1 (cj gK1 <| cj gA1 lw) ?_
  refine run_blk_cut (fun env h' => ∃ lv rows, env 9 = lv ∧ Ext h1 h' ∧ TB h1.nx h' lv rows ∧ rows.length = ws.length ∧ RowsOk 2 rows) ?_ ?_
  ·refine run_loop (fun m env h' => ∃ i : Nat, m = ws.length - i ∧ i ≤ ws.length ∧ env 3 = .ptr (h.nx + 1) 0 ∧ env 65 = s.vw ∧ env 66 = .int .i64 ws.length ∧ env 67 = .int .i64 i ∧ ∃ lv rows, env 9 = lv ∧ Ext h1 h' ∧ TB h1.nx h' lv rows ∧ rows.length = i ∧ RowsOk 2 rows) ws.length ⟨0, ?_⟩ ?_
   ·refine ww0 ?_
    exact ⟨(Nat.sub_zero _).symm, _, [], rfl, Ext.refl _, PG.nil _ _, rfl, fun r hr => by cases hr⟩
   rintro m env h' ⟨i, rfl, hi, e3, ea, eb, ec, lv, rows, e9, hx, hT, hl, hR⟩
   have nn := hx.1
   by_cases hin : i < ws.length
   ·have hin' : (i : Int) < ws.length := oM
    obtain ⟨b, o, m, hv, hr⟩ := row_at (f := WaV.cells) (k := 2) (fun _ => rfl) a1.fw hx i hin
    have gb := (hx.2 (h.nx + 1) oM).trans gA1
    unfold WaV.cells at hr
    refine ww1 (cj e3 <| cj ea <| cj eb <| cj ec <| cj e9 <| cj hin <| cj hin' <| cj hv hr) ?_
    refine ⟨.inr oM, ?_⟩
    generalize hhB : H.put (H.push h' _) h'.nx _ = hB
    have hxB : Ext h' hB := by rw [← hhB]; exact Ext.new _ _ _
    have nB : hB.nx = h'.nx + 1 := by rw [← hhB]; rfl
    have gB : hB.get h'.nx = some (.cells ws[i].cells 31 false) := by rw [← hhB]; exact put_eq rfl
    clear hhB
    unfold WaV.cells at gB
    have gbB := (hxB.2 (h.nx + 1) oM).trans gb
    refine draw_by [(3, 5), (3, 7)] kR ?_
    refine ww1 (cj e3 <| cj e9 gB) ?_
    refine callF_pure (whole_spec hS.toStdK _ (okw _ (List.getElem_mem hin)) _) ?_
    rintro _ h6 hx6 ⟨t6, rfl, ht6⟩
    have n6 := hx6.1
    have g6 := (hx6.2 h'.nx oM).trans gB
    have gb6 := (hx6.2 (h.nx + 1) oM).trans gbB
    refine ww1 (cj e3 <| cj e9 <| cj g6 gb6) ?_
    refine callF_pure (digits_spec hS.toStdK _ (i64W _) _) ?_
    rintro _ h7 hx7 ⟨t7, rfl, ht7⟩
    have n7 := hx7.1
    refine ww1 (cj e3 e9) ?_
    have hx27 : Ext h' h7 := (hxB.trans hx6).trans hx7
    have xP : Ext h7 (h7.push (.cells [.str t6, .str t7] 9 false)) := (Ext.refl h7).push _
    refine app_pg tbK (n0 := h1.nx) (sv := lv) (xs := rows) (a := [t6, t7]) (v := .slice h7.nx 0 2 2) ap39K tx39 (by exact wv1 e9) rfl rfl (rw_built (ts := [t6, t7]) rfl rfl) rfl ((hT.ext tbK hx27).ext tbK xP) oM (fun j hj => okf j oM) (by show h1.nx ≤ h7.nx + 1; omega) ?_
    intro v8 h8 L8 hT8 st8 hk8 hL8
    have n8 : h7.nx + 1 ≤ h8.nx := st8.1
    have w1 : IntKind.i64.wrap ((i : Int) + 1) = ((i + 1 : Nat) : Int) := i64_in _ oM
    refine ww1 (cj e3 <| cj e9 <| cj ea <| cj eb <| cj ec w1) ?_
    refine ⟨fun p hp => ?_, ws.length - (i + 1), by omega, i + 1, rfl, by omega, hv, rfl, _, rows ++ [[t6, t7]], rfl, ⟨by omega, fun j hj => ?_⟩, hT8, by rw [List.length_append, hl]; rfl, hR.snoc ⟨rfl, tx_cons ht6 (tx_cons ht7 fun x hx => by cases hx)⟩⟩
    ·simp only [List.mem_cons, List.not_mem_nil, or_false] at hp
     rcases hp with rfl | rfl
     all_goals exact pair_one rfl rfl (cl_rd0 oM)
    ·rw [hk8 j oM, xP.2 j oM, hx27.2 j oM, hx.2 j hj]
   ·obtain rfl : i = ws.length := oM
    refine ww1 (cj e3 <| cj ea <| cj eb <| cj ec <| cj e9 hin) ?_
    exact ⟨_, rows, rfl, hx, hT, hl, hR⟩
  rintro env h5 ⟨lv, rows, e9, hx5, hT, hl, hR⟩
  refine ww1 e9 ?_
  refine callF_pure (hS.flds 4 dC dC _) ?_
  intro v6 h6 hx6 hr6
  refine wew1 e9 ?_
  exact ⟨hx0.trans (hx5.trans hx6), v6, lv, rows, rfl, hr6, (hT.ext tbK hx6).mono oM, hR, hl⟩
 ·rw [if_pos ⟨hz, by decide⟩]
  refine wew1 (cj gK1 <| cj gA1 ld) ?_
  refine run_blk_cut (fun env h' => ∃ lv rows, env 9 = lv ∧ Ext h1 h' ∧ TB h1.nx h' lv rows ∧ rows.length = ds.length ∧ RowsOk 2 rows) ?_ ?_
  ·refine run_loop (fun m env h' => ∃ i : Nat, m = ds.length - i ∧ i ≤ ds.length ∧ env 3 = .ptr (h.nx + 1) 0 ∧ env 90 = s.vd ∧ env 91 = .int .i64 ds.length ∧ env 92 = .int .i64 i ∧ ∃ lv rows, env 9 = lv ∧ Ext h1 h' ∧ TB h1.nx h' lv rows ∧ rows.length = i ∧ RowsOk 2 rows) ds.length ⟨0, ?_⟩ ?_
   ·refine ww0 ?_
    exact ⟨(Nat.sub_zero _).symm, _, [], rfl, Ext.refl _, PG.nil _ _, rfl, fun r hr => by cases hr⟩
   rintro m env h' ⟨i, rfl, hi, e3, ea, eb, ec, lv, rows, e9, hx, hT, hl, hR⟩
   have nn := hx.1
   by_cases hin : i < ds.length
   ·have hin' : (i : Int) < ds.length := oM
    obtain ⟨b, o, m, hv, hr⟩ := row_at (f := DiV.cells) (k := 2) (fun _ => rfl) a1.fd hx i hin
    have gb := (hx.2 (h.nx + 1) oM).trans gA1
    unfold DiV.cells at hr
    refine ww1 (cj e3 <| cj ea <| cj eb <| cj ec <| cj e9 <| cj hin <| cj hin' <| cj hv hr) ?_
    refine ⟨.inr oM, ?_⟩
    generalize hhB : H.put (H.push h' _) h'.nx _ = hB
    have hxB : Ext h' hB := by rw [← hhB]; exact Ext.new _ _ _
    have nB : hB.nx = h'.nx + 1 := by rw [← hhB]; rfl
    have gB : hB.get h'.nx = some (.cells ds[i].cells 95 false) := by rw [← hhB]; exact put_eq rfl
    clear hhB
    unfold DiV.cells at gB
    have gbB := (hxB.2 (h.nx + 1) oM).trans gb
    have okt := (okd _ (List.getElem_mem hin)).2
    refine draw_by [(2, 10), (4, 10)] kR ?_
    refine ww1 (cj e3 <| cj e9 <| cj gB <| cj @opW_min @minV_int) ?_
    refine ⟨⟨by split <;> omega, by split <;> omega⟩, callF_pure (whole_spec hS.toStdK _ (okd _ (List.getElem_mem hin)).1 _) ?_⟩
    rintro _ h7 hx7 ⟨t7, rfl, ht7⟩
    have n7 := hx7.1
    refine ww1 (cj e3 e9) ?_
    have ht6 : Tx (List.take (if ds[i].t.length < 255 then (ds[i].t.length : Int) else 255).toNat ds[i].t) := ⟨by rw [List.length_take]; split <;> omega, fun b hb => okt b (List.mem_of_mem_take hb)⟩
    generalize List.take (if ds[i].t.length < 255 then (ds[i].t.length : Int) else 255).toNat ds[i].t = t6 at ht6 ⊢
    have hx27 : Ext h' h7 := hxB.trans hx7
    have xP : Ext h7 (h7.push (.cells [.str t6, .str t7] 9 false)) := (Ext.refl h7).push _
    refine app_pg tbK (n0 := h1.nx) (sv := lv) (xs := rows) (a := [t6, t7]) (v := .slice h7.nx 0 2 2) ap39K tx39 (by exact wv1 e9) rfl rfl (rw_built (ts := [t6, t7]) rfl rfl) rfl ((hT.ext tbK hx27).ext tbK xP) oM (fun j hj => okf j oM) (by show h1.nx ≤ h7.nx + 1; omega) ?_
    intro v8 h8 L8 hT8 st8 hk8 hL8
    have n8 : h7.nx + 1 ≤ h8.nx := st8.1
    have w1 : IntKind.i64.wrap ((i : Int) + 1) = ((i + 1 : Nat) : Int) := i64_in _ oM
    refine ww1 (cj e3 <| cj e9 <| cj ea <| cj eb <| cj ec w1) ?_
    refine ⟨fun p hp => ?_, ds.length - (i + 1), by omega, i + 1, rfl, by omega, hv, rfl, _, rows ++ [[t6, t7]], rfl, ⟨by omega, fun j hj => ?_⟩, hT8, by rw [List.length_append, hl]; rfl, hR.snoc ⟨rfl, tx_cons ht6 (tx_cons ht7 fun x hx => by cases hx)⟩⟩
    ·simp only [List.mem_cons, List.not_mem_nil, or_false] at hp
     rcases hp with rfl | rfl
     all_goals exact pair_one rfl rfl (rd_cl0 oM)
    ·rw [hk8 j oM, xP.2 j oM, hx27.2 j oM, hx.2 j hj]
   ·obtain rfl : i = ds.length := oM
    refine ww1 (cj e3 <| cj ea <| cj eb <| cj ec <| cj e9 hin) ?_
    exact ⟨_, rows, rfl, hx, hT, hl, hR⟩
  rintro env h5 ⟨lv, rows, e9, hx5, hT, hl, hR⟩
  refine ww1 e9 ?_
  refine callF_pure (hS.flds 5 dC dC _) ?_
  intro v6 h6 hx6 hr6
  refine wew1 e9 ?_
  exact ⟨hx0.trans (hx5.trans hx6), v6, lv, rows, rfl, hr6, (hT.ext tbK hx6).mono oM, hR, hl⟩
 ·rw [if_neg (fun q => by have := q.2; omega)]
  have m1 : ¬ k = 1 := oM
  have m2 : ¬ k = 2 := oM
  have m3 : ¬ k = 3 := oM
  have m4 : ¬ k = 4 := oM
  have m5 : ¬ k = 5 := oM
  refine ww1 (cj gK1 <| cj m1 <| cj m2 <| cj m3 <| cj m4 m5) ?_
  exact ⟨hx0, fun q => absurd q dC⟩
end
end Go.Proofs.YtfgnpegkcmkeaaaGreatDoor.Rs
