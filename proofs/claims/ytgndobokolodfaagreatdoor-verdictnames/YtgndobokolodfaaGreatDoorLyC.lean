/-
  slices.Sorted over maps.Keys, the keys of an integer kind.
-/
import Derived.Test.YtgndobokolodfaaGreatDoorLyB
set_option linter.unusedSimpArgs false
set_option linter.unusedVariables false
namespace Go.Proofs
open Go.RowKit Go.Maps Go.Sort Go.Shelf
variable {P : Program} {ρ : Ren} {kd : IntKind} {bs : Nat}

set_option maxRecDepth 100000 in
set_option maxHeartbeats 2000000 in
theorem Ks.sorted_in (L : KeyLay P ρ kd bs) (F : Fence) (n : Nat) (h6 : F.fn (ρ.f 6)) (h8 : F.fn (ρ.f 8)) (h9 : F.fn (ρ.f 9)) (h11 : F.fn (ρ.f 11)) (hro : F.round = none) (hn : 4 ≤ n) (ks : List Int) (Q : Nat → Nat → World → World → Prop)
    (hsort : ∀ (gb cap : Nat) (cur : Array Value) (ss : List Int) (W : World), ss.Perm ks → W.heap[gb]? = some (.cells cur (ρ.t 26) (0, 0)) → cur.toList.take ss.length = ss.map (Value.int kd) → ss.length ≤ cap → cur.size = cap →
      CallsIn F (n - 1) P (ρ.f 9) #[.slice (some ⟨gb, 0, none⟩) ss.length cap] W fun e w' => e = .returned (.tuple #[]) ∧ Q gb cap W w')
    (hnil : ∀ W : World, CallsIn F (n - 1) P (ρ.f 9) #[.slice none 0 0] W fun e w' => e = .returned (.tuple #[]) ∧ Below W.heap.size W w')
    (e9 : ∀ args w, (callFunc (ρ.f 9) args).run P w = .ok (.enter (ρ.f 9) args) w) (g : Nat) (lb : Array Value) (hFg : F.fn g) (eg : ∀ args w, (callFunc g args).run P w = .ok (.enter g args) w)
    (N : Nat) (hN : N ≤ maxLen) (hNb : N * bs ≤ 140737488355328) (w : World) (hseq : SeqGives F (n - 1 - 1 - 1) P g lb (Value.int kd) (fun ss => ss.Perm ks) N w) :
    CallsIn F n P (ρ.f 6) #[.func (.func g) #[] lb] w fun e w' => (ks = [] ∧ e = .returned (.slice none 0 0) ∧ Below w.heap.size w w') ∨
      (ks ≠ [] ∧ ∃ gb cap W, e = .returned (.slice (some ⟨gb, 0, none⟩) ks.length cap) ∧ w.heap.size ≤ gb ∧ gb < W.heap.size ∧ ks.length ≤ cap ∧ Below w.heap.size w W ∧ Q gb cap W w') := by
  have h1 : 1 ≤ n := by omega
  have e8 : ∀ args w, (callFunc (ρ.f 8) args).run P w = .ok (.enter (ρ.f 8) args) w := L.f8.enters rfl
  have mixed := L.mixed; have t0 := L.t0; have a0 := L.a0; have z0 := L.z0; have v0 := L.v0; have t24 := L.t24; have a24 := L.a24; have z24 := L.z24; have v24 := L.v24; have t26 := L.t26; have a26 := L.a26; have z26 := L.z26; have v26 := L.v26; have t28 := L.t28; have a28 := L.a28; have z28 := L.z28; have v28 := L.v28
  have u0 := run_underlying L.t0; have u24 := run_underlying L.t24; have u26 := run_underlying L.t26; have u28 := run_underlying L.t28
  obtain ⟨_, _, FG⟩ := L.f6
  refine callsIn_of_wp FG rfl h6 ?_ hro
  simp only [SlBodyZ.n6_ntmps ρ, List.size_toArray, List.length_cons, List.length_nil, Nat.reduceAdd, Nat.reduceSub, Array.replicate_succ, Array.replicate_zero, List.push_toArray, List.append_toArray, List.nil_append, List.cons_append]
  gi_wp2_with (gi_at_fn (ρ.f 8); refine (Ks.collect_in L F (n - 1) h8 h11 hro (by omega) g lb hFg eg _ N hN hNb _ hseq.bounded).mono ?_; rintro e W ⟨v, ss, rfl, ⟨hS, hlen⟩, hrow, hnil', hb⟩)
  have hsl : ss.length = ks.length := hS.length_eq
  rcases hrow.2 with ⟨rfl, hz⟩ | ⟨gb, cap, cur, rfl, hbase, hgb, r1, r2, r3, r4⟩
  · have hss : ss = [] := List.eq_nil_of_length_eq_zero hz
    subst hss
    have hk : ks = [] := List.eq_nil_of_length_eq_zero (by rw [← hsl]; rfl)
    gi_wp2_with (gi_at_fn (ρ.f 9); refine (hnil W).mono ?_; rintro e w' ⟨rfl, hb2⟩)
    go_ret
    exact .inl ⟨hk, rfl, hb.trans (hb2.mono hb.size)⟩
  · have hgl : gb < W.heap.size := (Array.getElem?_eq_some_iff.1 hgb).1
    have hne : ks ≠ [] := fun e => by
      subst e
      have hss : ss = [] := List.eq_nil_of_length_eq_zero hsl
      have := hnil'.2 hss
      cases this
    have cS := hsort gb cap cur ss W hS hgb (by simpa using r4) r1 (by simpa using r3)
    gi_wp2_with (gi_at_fn (ρ.f 9); refine cS.mono ?_; rintro e w' ⟨rfl, hQ⟩)
    go_ret
    exact .inr ⟨hne, gb, cap, W, rfl, hbase, hgl, by omega, hb, hQ⟩

end Go.Proofs
