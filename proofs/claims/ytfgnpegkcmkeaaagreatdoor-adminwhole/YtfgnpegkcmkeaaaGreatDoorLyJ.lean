/-
  utf8.DecodeRuneInString stands in at every text, by the shelf's contract; its table of pairs as a row lists it.
-/
import Derived.Test.YtfgnpegkcmkeaaaGreatDoorLyI
import Derived.Shelf.Unicode.DecodeAny
set_option linter.unusedSimpArgs false
set_option linter.unusedVariables false
namespace Go.Lx
noncomputable section
open Go.ChangeShapes Go.WideShapes Go.ChangeAt Go.RowKit Go.Proofs Go.Shelf
def decG (s : List Nat) : Nat × Nat := if s = [] then (65533, 0) else dec s
def decStr : List V → Option V
 | [.str s] => some (.tuple [.int .i32 (decG s).1, .int .i64 (decG s).2])
 | _ => none
theorem extSum_decode {P : Program} {ρ : Ren} {gl : T (List V)} (L : Lays.n197 P ρ) {c3 c4 : List V} (h3 : gl.get (ρ.g 3) = some c3) (h4 : gl.get (ρ.g 4) = some c4)
  (e3 : ∀ c, c < 256 → c3[c]? = some (.int .u8 (Lib.firstT c))) (e4 : ∀ i, i < 16 → c4[2 * i]? = some (.int .u8 (Lib.accLo i)) ∧ c4[2 * i + 1]? = some (.int .u8 (Lib.accHi i))) (he : Enters P (ρ.f 197)) : ExtSum P gl (ρ.f 197) (pureM decStr) := by
 refine ⟨local_pureM _, fun vs v s s' w μ ν rs h hr hf hg ha => ?_⟩
 unfold pureM at h
 cases hv : decStr vs with
 | none => rw [hv] at h; exact (err_ok h).elim
 | some x =>
   rw [hv] at h
   obtain ⟨rfl, rfl⟩ := ret_ok h
   unfold decStr at hv
   split at hv
   ·rename_i a
    injection hv with hv; subst hv
    cases ha with
    | cons h1 h2 =>
      cases h2
      cases h1 with
      | str A =>
        have cellOf : ∀ {g : Nat} {cl : List V}, gl.get g = some cl → ∀ {i : Nat} {k : IntKind} {n : Int}, cl[i]? = some (.int k n) → w.cell? ⟨g, i, none⟩ = some (.int k n) := by
         intro g cl hgl i k n hi
         obtain ⟨rc, e, frz, g1, g2⟩ := hg.there _ _ hgl
         obtain ⟨r, g3, g4⟩ := g2 i _ hi
         have hr0 : r = .int k n := by cases g4 (fun _ => none) (fun _ => undef); rfl
         subst hr0
         rw [cell_at g1]; exact g3
        have hT : Lib.Utf8Tabs (ρ.g 3) (ρ.g 4) w := ⟨fun c hc => cellOf h3 (e3 c hc), fun i hi => ⟨cellOf h4 (e4 i hi).1, cellOf h4 (e4 i hi).2⟩⟩
        left
        refine ⟨he _ _, (Any.utf8_DecodeRuneInString L A w hT).mono ?_⟩
        rintro e' w' ⟨rfl, hb⟩
        have e1 : Lib.decodeGo A = decG (toNats A) := by
         unfold Lib.decodeGo decG
         by_cases h0 : A.size = 0
         ·have : toNats A = [] := List.eq_nil_of_length_eq_zero (by rw [toNats_length]; exact h0)
          rw [if_pos h0, if_pos this]
         ·have : ¬ toNats A = [] := fun e => h0 (by rw [← toNats_length, e]; rfl)
          rw [if_neg h0, if_neg this, dec_eq]
          rfl
        rw [e1]
        refine ⟨_, rfl, μ, .tuple (.cons (.int _ _) (.cons (.int _ _) .nil)), ?_⟩
        exact StepOk.below hr hb
   ·cases hv
def listedPairs : DataW Unit → List Int
 | .agg l => l.flatMap listedInts
 | _ => []
theorem laid_pairs {P : Program} {w : World} {laid : List (String × DataW Unit)} (h : laidMet P laid w) {name : String} {d : DataW Unit} (hm : (name, d) ∈ laid) {k : IntKind} {n g t e e1 : Nat} {f0 f1 : Field}
  (hd : d = .agg ((List.range n).map fun i => .agg [.lit (.int k ((listedPairs d).getD (2 * i) 0)), .lit (.int k ((listedPairs d).getD (2 * i + 1) 0))])) (hl : (listedPairs d).length = 2 * n) (hg : P.globalNamed name = some g)
  (ht : (P.globals[g]?).map (·.type) = some t) (hu : P.underlying t = some (.array n e)) (he : P.underlying e = some (.struct #[f0, f1])) (h0 : P.underlying f0.type = some (.int k)) (h1 : P.underlying f1.type = some (.int k))
  (o0 : f0.offset = 0) (o1 : f1.offset = 1) (c0 : P.cellsOf f0.type = 1) (c1 : P.cellsOf f1.type = 1) (hc : P.cellsOf e = 2) : Holds w g ((listedPairs d).map (V.int k)) := by
 obtain ⟨ps, hlv, _, _⟩ := h
 obtain ⟨g', t', cs, fuel, p, q1, q2, q3, q4⟩ := laid_vars hlv hm
 rw [hg] at q1; injection q1 with q1; subst q1
 rw [ht] at q2; injection q2 with q2; subst q2
 obtain ⟨el, frz, hb⟩ := var_block hg q3
 obtain ⟨xs, m, _, ex, _, hxl, hel⟩ := DataW.trod_array hu q4
 refine ⟨cs, el, frz, hb, fun i v hi => ?_⟩
 rw [List.getElem?_map] at hi
 cases hni : (listedPairs d)[i]? with
 | none => rw [hni] at hi; cases hi
 | some z =>
   rw [hni] at hi
   injection hi with hi; subst hi
   have hlen : i < 2 * n := by rw [← hl]; exact (List.getElem?_eq_some_iff.1 hni).1
   have e3 : (xs.map (·.1)) = (List.range n).map fun i => (.agg [.lit (.int k ((listedPairs d).getD (2 * i) 0)), .lit (.int k ((listedPairs d).getD (2 * i + 1) 0))] : DataW Unit) := by
    have e4 := (Prod.mk.inj ex).1
    exact DataW.agg.inj (e4.symm.trans hd)
   have hi2 : i / 2 < n := by omega
   have hE := hel (i / 2) hi2
   have hxi : i / 2 < xs.length := by omega
   rw [List.getElem?_eq_getElem hxi] at hE
   have hx : (xs[i / 2]).1 = (.agg [.lit (.int k ((listedPairs d).getD (2 * (i / 2)) 0)), .lit (.int k ((listedPairs d).getD (2 * (i / 2) + 1) 0))] : DataW Unit) := by
    have : (xs.map (·.1))[i / 2]? = some ((xs[i / 2]).1) := by rw [List.getElem?_map, List.getElem?_eq_getElem hxi]; rfl
    rw [e3, List.getElem?_map, List.getElem?_range hi2] at this
    simpa using this.symm
   obtain ⟨y0, y1, n', r1, r2, r3, r4⟩ := trod_struct2 he hE
   rw [r1] at hx
   simp only [DataW.agg.injEq, List.cons.injEq, and_true] at hx
   obtain ⟨z0, s1, s2, _⟩ := DataW.trod_int h0 r3
   obtain ⟨z1, s3, s4, _⟩ := DataW.trod_int h1 r4
   rw [s2, s4] at hx
   simp only [DataW.lit.injEq, Lit.int.injEq, true_and] at hx
   rw [o0, c0, hc] at s1
   rw [o1, c1, hc] at s3
   have k0 : cs[i / 2 * 2]? = some (.int k z0) := by
    have : ((((cs.toList.drop (i / 2 * 2)).take 2).drop 0).take 1)[0]? = some (.int k z0) := by rw [s1]; rfl
    simpa using this
   have k1 : cs[i / 2 * 2 + 1]? = some (.int k z1) := by
    have : ((((cs.toList.drop (i / 2 * 2)).take 2).drop 1).take 1)[0]? = some (.int k z1) := by rw [s3]; rfl
    simpa using this
   refine ⟨.int k z, ?_, fun μ ν => .int _ _⟩
   have hz : (listedPairs d).getD i 0 = z := by rw [List.getD_eq_getElem?_getD, hni]; rfl
   rcases Nat.mod_two_eq_zero_or_one i with he | he
   ·have : i / 2 * 2 = i := by omega
    rw [show 2 * (i / 2) = i by omega, hz] at hx
    rw [this] at k0
    rw [k0, hx.1]
   ·have : i / 2 * 2 + 1 = i := by omega
    rw [show 2 * (i / 2) + 1 = i by omega, hz] at hx
    rw [this] at k1
    rw [k1, hx.2]
end
end Go.Lx
