/-
  Several texts, joined.
-/
import Derived.Shelf.SlIter.Collect
import Derived.Shelf.SlIter.Sorted
import Derived.Maps.RangeWalk
import Derived.Test.YthhdkonpejmgcaaGreatDoorLx4
/-
  slices.Collect and slices.AppendSeq over maps.Keys, the keys of an integer kind: turned from the worked proofs of the toy ggz (keys of a string's kind), over any program that lays the bodies.
-/
set_option linter.unusedSimpArgs false
set_option linter.unusedVariables false
namespace Go.Proofs
open Go.RowKit Go.Maps Go.Sort Go.Shelf
structure KeyLay (P : Program) (ρ : Ren) (kd : IntKind) (bs : Nat) : Prop where
  mixed : P.follows .mixedOrders = true
  f6 : Bears P (ρ.f 6) (SlBodyZ.n6 ρ)
  f8 : Bears P (ρ.f 8) (SlBodyZ.n8 ρ)
  f10 : Bears P (ρ.f 10) (SlBodyZ.n10 ρ)
  f11 : Bears P (ρ.f 11) (SlBodyZ.n11 ρ)
  t0 : P.underlying (ρ.t 0) = some (TypeDesc.tuple #[])
  a0 : ∀ w, (isAgg (ρ.t 0)).run P w = .ok false w
  z0 : ∀ w, (Go.sizeOf (ρ.t 0)).run P w = .ok 1 w
  v0 : ∀ w, (zeroValue (ρ.t 0)).run P w = .ok (Value.tuple #[]) w
  t4 : P.underlying (ρ.t 4) = some (TypeDesc.bool)
  a4 : ∀ w, (isAgg (ρ.t 4)).run P w = .ok false w
  z4 : ∀ w, (Go.sizeOf (ρ.t 4)).run P w = .ok 1 w
  v4 : ∀ w, (zeroValue (ρ.t 4)).run P w = .ok (Value.bool false) w
  t23 : P.underlying (ρ.t 23) = some (TypeDesc.map (ρ.t 26) (ρ.t 3))
  a23 : ∀ w, (isAgg (ρ.t 23)).run P w = .ok false w
  z23 : ∀ w, (Go.sizeOf (ρ.t 23)).run P w = .ok 1 w
  v23 : ∀ w, (zeroValue (ρ.t 23)).run P w = .ok (Value.map none) w
  t24 : P.underlying (ρ.t 24) = some (TypeDesc.slice (ρ.t 26))
  a24 : ∀ w, (isAgg (ρ.t 24)).run P w = .ok false w
  z24 : ∀ w, (Go.sizeOf (ρ.t 24)).run P w = .ok 1 w
  v24 : ∀ w, (zeroValue (ρ.t 24)).run P w = .ok (Value.slice none 0 0) w
  t26 : P.underlying (ρ.t 26) = some (TypeDesc.int kd)
  a26 : ∀ w, (isAgg (ρ.t 26)).run P w = .ok false w
  z26 : ∀ w, (Go.sizeOf (ρ.t 26)).run P w = .ok 1 w
  v26 : ∀ w, (zeroValue (ρ.t 26)).run P w = .ok (Value.int kd 0) w
  t28 : P.underlying (ρ.t 28) = some (TypeDesc.func #[ρ.t 33] #[] false)
  a28 : ∀ w, (isAgg (ρ.t 28)).run P w = .ok false w
  z28 : ∀ w, (Go.sizeOf (ρ.t 28)).run P w = .ok 1 w
  v28 : ∀ w, (zeroValue (ρ.t 28)).run P w = .ok (Value.nilFunc) w
  t33 : P.underlying (ρ.t 33) = some (TypeDesc.func #[ρ.t 26] #[ρ.t 4] false)
  a33 : ∀ w, (isAgg (ρ.t 33)).run P w = .ok false w
  z33 : ∀ w, (Go.sizeOf (ρ.t 33)).run P w = .ok 1 w
  v33 : ∀ w, (zeroValue (ρ.t 33)).run P w = .ok (Value.nilFunc) w
  i26 : (P.info? (ρ.t 26)).map (fun i => (i.zero, i.size, i.bytes)) = some (some (.int kd 0), 1, bs)

def intOf : Lit → Int
  | .int _ n => n
  | _ => 0
def intKeys {H : Type} : DataW H → List Int
  | .map es => es.map fun p => intOf p.1
  | _ => []

def CollectedI {H : Type} (kd : IntKind) (D0 : DataW H) (left : Lit → Bool) (ss : List Int) : Prop := ss.Nodup ∧ ∀ x, x ∈ ss ↔ (has D0 (.int kd x) = true ∧ left (.int kd x) = false)

theorem perm_intKeys {H : Type} {kd : IntKind} {es : List (Lit × DataW H)} (hp : es.Pairwise (fun p q => p.1 ≠ q.1)) (hk : ∀ p ∈ es, ∃ x, p.1 = .int kd x) {ss : List Int} (hnd : ss.Nodup) (hm : ∀ x, x ∈ ss ↔ has (.map es) (.int kd x) = true) :
    ss.Perm (intKeys (.map es)) := by
  refine (List.perm_ext_iff_of_nodup hnd ?_).2 fun x => ?_
  · show (es.map fun p => intOf p.1).Nodup
    refine List.pairwise_map.2 (hp.imp_of_mem fun {p q} hp' hq' hne e => hne ?_)
    obtain ⟨a, ha⟩ := hk p hp'
    obtain ⟨b, hb⟩ := hk q hq'
    rw [ha, hb] at e ⊢
    exact congrArg _ e
  · rw [hm x, has_eq, List.any_eq_true]
    show _ ↔ x ∈ es.map fun p => intOf p.1
    rw [List.mem_map]
    constructor
    · rintro ⟨p, hp', hs⟩
      obtain ⟨a, ha⟩ := hk p hp'
      rw [ha] at hs
      exact ⟨p, hp', by rw [ha]; simpa [Lit.sameKey, intOf] using hs⟩
    · rintro ⟨p, hp', rfl⟩
      obtain ⟨a, ha⟩ := hk p hp'
      exact ⟨p, hp', by rw [ha]; simp [Lit.sameKey, intOf]⟩

section
variable {H : Type} {kd : IntKind} {D0 : DataW H} {left : Lit → Bool} {ss : List Int}
theorem CollectedI.start (kd : IntKind) (D0 : DataW H) : CollectedI kd D0 (has D0) [] := ⟨List.nodup_nil, fun x => by cases has D0 (.int kd x) <;> simp⟩

theorem CollectedI.step (h : CollectedI kd D0 left ss) {x : Int} {y : DataW H} (hlk : left (.int kd x) = true) (hat : ∀ zd, D0.atKey (.int kd x) zd = y) : CollectedI kd D0 (fun z => left z && !z.sameKey (.int kd x)) (ss ++ [x]) := by
  have hhas : has D0 (.int kd x) = true := has_true_of_atKey hat
  have hnew : x ∉ ss := fun hx => by have := ((h.2 x).1 hx).2; rw [hlk] at this; cases this
  refine ⟨List.nodup_append.2 ⟨h.1, by simp, fun a ha b hb => by simp at hb; subst hb; exact fun e => hnew (e ▸ ha)⟩, fun y => ?_⟩
  by_cases hy : y = x
  · subst hy; simp [hhas, Lit.sameKey]
  · simp [h.2 y, hy, Lit.sameKey]

variable {P : Program} {k : TypeId} {R : Value → Option (DataW H × List MemPlace)} {w : World} {b n : Nat}
theorem CollectedI.perm (h : CollectedI kd D0 left ss) (hown : w.ownsMap P k R b n D0) (K : Keyed P k) (hk : P.underlying k = some (.int kd)) (hl : ∀ kl, left kl = false) : ss.Perm (intKeys D0) := by
  obtain ⟨es, hD, hpw, _⟩ := hown.entries K
  obtain ⟨es', hD', hko⟩ := hown.keysOf
  obtain rfl : es = es' := by rw [hD] at hD'; simpa using hD'
  subst hD
  exact perm_intKeys hpw (fun p hp => by obtain ⟨v, hv⟩ := hko p hp; obtain ⟨x, _, hx, _⟩ := Maps.keyOf_int_inv hk hv; exact ⟨x, hx⟩) h.1 (fun x => by rw [h.2 x, hl]; simp)
end

variable {P : Program} {ρ : Ren} {kd : IntKind} {bs : Nat}

set_option maxRecDepth 100000 in
set_option maxHeartbeats 1000000 in
theorem Ks.keys1N_in (L : KeyLay P ρ kd bs) {H : Type} (F : Fence) (n : Nat) (h10 : F.fn (ρ.f 10)) (hro : F.round = none) (hn : 1 ≤ n) (l Bm Om b nn : Nat) (D0 : DataW H) {R : Value → Option (DataW H × List MemPlace)} (J : List Int → World → Prop)
    (hY : ∀ pre x W, J pre W → pre.length < Maps.size D0 → YieldAt F (n - 1) P l #[(Value.int kd) x] W fun e W' => e = .returned (.bool true) ∧ J (pre ++ [x]) W' ∧ KeepsWalks W W')
    (W : World) (hJ : AbidesFrom W.heap.size J) (hm : W.cell? ⟨Bm, Om, none⟩ = some (.map (some b))) (hown : W.ownsMap P (ρ.t 26) R b nn D0) (h0 : J [] W) :
    CallsIn F n P (ρ.f 10) #[.func (.yield l) #[] #[], .pointer (some ⟨Bm, Om, none⟩)] W fun e W' => (∃ v, e = .returned v) ∧ ∃ ss : List Int, ss.Perm ((intKeys) D0) ∧ J ss W' := by
  have mixed := L.mixed; have t0 := L.t0; have a0 := L.a0; have z0 := L.z0; have v0 := L.v0; have t4 := L.t4; have a4 := L.a4; have z4 := L.z4; have v4 := L.v4; have t23 := L.t23; have a23 := L.a23; have z23 := L.z23; have v23 := L.v23; have t26 := L.t26; have a26 := L.a26; have z26 := L.z26; have v26 := L.v26; have t33 := L.t33; have a33 := L.a33; have z33 := L.z33; have v33 := L.v33
  have u0 := run_underlying L.t0; have u4 := run_underlying L.t4; have u23 := run_underlying L.t23; have u26 := run_underlying L.t26; have u33 := run_underlying L.t33
  obtain ⟨_, _, FG⟩ := L.f10
  refine callsIn_of_wp FG rfl h10 ?_ hro
  simp only [SlBodyZ.n10_ntmps ρ, List.size_toArray, List.length_cons, List.length_nil, Nat.reduceAdd, Nat.reduceSub, Array.replicate_succ, Array.replicate_zero, List.push_toArray, List.append_toArray, List.nil_append, List.cons_append]
  gi_wp2_with (first
    | (gi_at_range; refine wpListIn_range_own _ rfl _ (ρ.t 23) rfl (ρ.t 26) (ρ.t 3) (int_keyed L.t26) L.t23 _ b nn _ rfl hown ?_; intro w0 hrg0 hg0 hs0)
    | gi_in)
  go_frame
  gi_loopw [3] (fun _ wr => ∃ (left : Lit → Bool) (cnt : Nat) (ss : List Int), wr.ranges P (ρ.t 26) R b W.heap.size nn D0 left cnt ∧ ss.length + cnt ≤ Maps.size D0 ∧ CollectedI kd D0 left ss ∧ J ss wr)
    (fun _ wr => wr.rangeLeft b W.heap.size)
  case atStart =>
    exact ⟨_, _, [], hrg0, by simp, CollectedI.start kd D0, hJ [] W w0 none h0 hg0 (fun r e => by cases e)⟩
  case round =>
    obtain ⟨left, cnt, ss, hrg, hcs, hC, hJs⟩ := hrel
    gi_wp2_with (first
      | (gi_at_next; refine wpListIn_next_ranges _ rfl _ rfl (ρ.t 26) (int_keyed L.t26) R (Value.int kd) id (fun key kl hk => by obtain ⟨x, hx, _⟩ := Maps.keyOf_int_inv L.t26 hk; exact ⟨x, hx⟩) (fun v _ _ => ⟨v, rfl⟩) b W.heap.size nn _ _ _ rfl hrg ?_ ?_)
      | gi_in)
    · -- NOTHING IS LEFT
      intro hc0 hl0
      gi_wp2
      go_end0
      exact ⟨⟨_, rfl⟩, ss, hC.perm hown (int_keyed L.t26) L.t26 hl0, hJs⟩
    · -- AN ENTRY HAS COME: yield(k)
      intro x c kl yd yp w2 cnt2 hkey hlk hv hat hrg2 hlt hg2 hs2 hen
      obtain ⟨x', ex, rfl, _⟩ := Maps.keyOf_int_inv L.t26 hkey
      obtain rfl : x = x' := by injection ex
      have hJ2 : J ss w2 := hJ ss wr w2 (some W.heap.size) hJs hg2 (fun r e => by cases e; exact ⟨Nat.le_refl _, hrg.iter_walk⟩)
      obtain ⟨fn, tmps, assign, body, hy, hR⟩ := hY ss x w2 hJ2 (by omega)
      clear hs2
      gi_wp2
      refine hR.mono ?_
      rintro e W3 ⟨rfl, hJ3, hk3⟩
      gi_wp2
      have hrg3 := hrg2.of_walks hk3
      go_roundw
      case rel => exact ⟨_, cnt2, ss ++ [x], hrg3, by simp; omega, hC.step hlk hat, hJ3⟩
      case measure => rw [hrg3.left_eq, hrg.left_eq]; exact hlt


theorem Ks.keys_gives (L : KeyLay P ρ kd bs) {H : Type} (F : Fence) (n : Nat) (h10 : F.fn (ρ.f 10)) (hro : F.round = none) (hn : 1 ≤ n) (Bm Om b nn : Nat) (D0 : DataW H) {R : Value → Option (DataW H × List MemPlace)} (w : World) (hBm : Bm < w.heap.size)
    (hm : w.cell? ⟨Bm, Om, none⟩ = some (.map (some b))) (hown : w.ownsMap P (ρ.t 26) R b nn D0) :
    SeqGives F n P (ρ.f 10) #[.pointer (some ⟨Bm, Om, none⟩)] (Value.int kd) (fun ss => ss.Perm ((intKeys) D0)) (Maps.size D0) w := fun l J W hW hJ hY h0 => by
  have hown' : W.ownsMap P (ρ.t 26) R b nn D0 := by
    have hbl := hown.lt
    obtain ⟨es, clock, hb, Ft, hs, hD⟩ := hown
    exact ⟨es, clock, (hW.block b hbl).trans hb, Ft, hs, hD⟩
  exact Ks.keys1N_in L F n h10 hro hn l Bm Om b nn D0 J hY W hJ ((hW.cell (p := ⟨Bm, Om, none⟩) hBm).trans hm) hown' h0

structure Ks.ApAt (ρ : Ren) (kd : IntKind) (w0 : World) (fn : FuncId) (sv : Value) (Bs l D : Nat) (ss : List Int) (W : World) : Prop where
  box : ∃ v, W.heap[Bs]? = some (.cells #[v] (ρ.t 24) (0, 0)) ∧ W.ownsRow w0.heap.size (ρ.t 26) 1 v ss.length (ss.map (Value.int kd)) ∧ (v = .slice none 0 0 ↔ ss = [])
  L : W.heap[l]? = some (.loop (AnyZ.apRec ρ fn sv Bs D .ready none))
  K : W.heap[D]? = some (.deferred (some []))
  below : Below w0.heap.size w0 W

theorem Ks.ap_abides (ρ : Ren) (kd : IntKind) (w0 : World) (fn : FuncId) (sv : Value) (Bs l D B : Nat) (hB : w0.heap.size ≤ B) : AbidesFrom B (Ks.ApAt ρ kd w0 fn sv Bs l D) := fun s W W' row h hg hrow => by
  have hrow' : ∀ r, row = some r → ∃ o : Obj, W.heap[r]? = some o ∧ o.isWalk = true := fun r e => (hrow r e).2
  obtain ⟨v, hv, hr, hn⟩ := h.box
  exact ⟨⟨v, (grownBy_keeps hg hrow' hv rfl).trans hv, ownsRow_abides_a hr hg hrow', hn⟩, (grownBy_keeps hg hrow' h.L rfl).trans h.L, (grownBy_keeps hg hrow' h.K rfl).trans h.K,
    h.below.grown hg h.below.size (fun k e => Nat.le_trans hB (hrow k e).1)⟩

set_option maxRecDepth 100000 in
set_option maxHeartbeats 2000000 in
theorem Ks.apYield (L : KeyLay P ρ kd bs) (F : Fence) (m : Nat) (w0 : World) (fn : FuncId) (hfn : F.fn fn) (sv : Value) (Bs l D : Nat) (hBl : Bs ≠ l) (hDl : D ≠ l) (hDB : D ≠ Bs) (h0B : w0.heap.size ≤ Bs) (h0l : w0.heap.size ≤ l)
    (N : Nat) (hN : N ≤ maxLen) (hNb : N * bs ≤ 140737488355328) (ss : List Int) (x : Int) (W : World) (h : Ks.ApAt ρ kd w0 fn sv Bs l D ss W) (hlen : ss.length < N) :
    YieldAt F m P l #[(Value.int kd) x] W fun e W' => e = .returned (.bool true) ∧ Ks.ApAt ρ kd w0 fn sv Bs l D (ss ++ [x]) W' ∧ KeepsWalks W W' := by
  have mixed := L.mixed; have t0 := L.t0; have a0 := L.a0; have z0 := L.z0; have v0 := L.v0; have t24 := L.t24; have a24 := L.a24; have z24 := L.z24; have v24 := L.v24; have t26 := L.t26; have a26 := L.a26; have z26 := L.z26; have v26 := L.v26; have t28 := L.t28; have a28 := L.a28; have z28 := L.z28; have v28 := L.v28
  have hne : ρ.t 24 ≠ ρ.t 26 := fun e => by have h := L.t24; rw [e, L.t26] at h; cases h
  have u0 := run_underlying L.t0; have u24 := run_underlying L.t24; have u26 := run_underlying L.t26; have u28 := run_underlying L.t28
  obtain ⟨i0, hi, hz0, hz1, hz2⟩ := info_parts L.i26
  obtain ⟨v, hv, hrow, _⟩ := h.box
  refine ⟨fn, #[.slice none 0 0, sv, .pointer (some ⟨Bs, 0, none⟩), undef, .slice none 0 0, undef, sv, (Value.int kd) x, undef, undef, undef, undef, undef], AnyZ.apAssign ρ, AnyZ.apBody ρ, by simpa [AnyZ.apRec] using run_yield (P := P) (args := #[(Value.int kd) x]) h.L rfl, roundIn_of_wpIn hfn ?_⟩
  have hl : l < W.heap.size := (Array.getElem?_eq_some_iff.1 h.L).1
  have hbr := run_beginRound (P := P) h.L rfl
  obtain ⟨W2, hW2⟩ : ∃ W2, W.putObj l (.loop { AnyZ.apRec ρ fn sv Bs D .ready none with state := .busy }) = W2 := ⟨_, rfl⟩
  rw [hW2] at hbr
  have hg2 : W.grownBy W2 (some l) := by rw [← hW2]; exact grownBy_putObj_a _ _ _
  have hk2 : KeepsWalks W W2 := by rw [← hW2]; exact KeepsWalks.putObj _ h.L rfl
  have hv2 : W2.heap[Bs]? = some (.cells #[v] (ρ.t 24) (0, 0)) := by rw [← hW2]; exact (World.putObj_heap_other hBl).trans hv
  have hK2 : W2.heap[D]? = some (.deferred (some [])) := by rw [← hW2]; exact (World.putObj_heap_other hDl).trans h.K
  have hL2 : W2.heap[l]? = some (.loop { AnyZ.apRec ρ fn sv Bs D .ready none with state := .busy }) := by rw [← hW2]; exact World.putObj_heap_same hl
  have hrow2 : W2.ownsRow w0.heap.size (ρ.t 26) 1 v ss.length (ss.map (Value.int kd)) := hrow.kept hg2 (ownsRow_ne_a hrow h.L (fun cur e => by first | cases e | exact hne (Obj.cells.inj e).2.1))
  have hb2 : Below w0.heap.size w0 W2 := h.below.grown hg2 h.below.size (fun k e => by cases e; exact h0l)
  obtain ⟨hc2, hf2⟩ := cell_of_box_a hv2
  have hBlt : Bs < W2.heap.size := (Array.getElem?_eq_some_iff.1 hv2).1
  have hl2 : l < W2.heap.size := (Array.getElem?_eq_some_iff.1 hL2).1
  have hDlt : D < W2.heap.size := (Array.getElem?_eq_some_iff.1 hK2).1
  have ne_of : ∀ {j : Nat} {o : Obj}, W2.heap[j]? = some o → (∀ cur, o ≠ .cells cur (ρ.t 26) (0, 0)) → some j ≠ v.ownBlock := fun hj hno => by
    rcases ownsRow_ne_a hrow2 hj hno with e | e
    · rw [e]; simp
    · exact fun e' => e e'.symm
  have hroom : (ss.length + 1) * bs ≤ 140737488355328 := Nat.le_trans (Nat.mul_le_mul_right _ hlen) hNb
  clear hW2
  unfold AnyZ.apAssign
  gi_wp2_with gi_round_op_a
  unfold AnyZ.apBody
  gi_wp2_with (first
    | (gi_at_builtin; refine wpListIn_append_own _ rfl _ _ (ρ.t 24) rfl w0.heap.size (ρ.t 26) i0 (.int kd 0) 1 bs L.t24 hi hz0 hz1 hz2 rfl (by decide) _ _ _ rfl (hrow2.alloc _) ⟨W2.heap.size, 0, none⟩ 1 1 [(Value.int kd) x] rfl rfl (cell_one_new _ _ _) (by simp [Value.oneCell']) (by omega) (by omega) (by have := hb2.size; simp; omega) ?_; intro v' w3 hown' hg3 hnil3
       have hv3 : w3.heap[Bs]? = some (.cells #[v] (ρ.t 24) (0, 0)) := (hg3.block Bs (by simp; omega) (ne_of hv2 (fun cur e => by first | cases e | exact hne (Obj.cells.inj e).2.1))).trans ((Below.heap_alloc _ _ Bs hBlt).trans hv2)
       obtain ⟨hc3, hf3⟩ := cell_of_box_a hv3
       obtain ⟨g', cap', cur', rfl, hbase', hgb', hr1, hr2, hr3, hr4⟩ : ∃ g' cap' cur', v' = .slice (some ⟨g', 0, none⟩) (ss.length + 1) cap' ∧ w0.heap.size ≤ g' ∧ w3.heap[g']? = some (.cells cur' (ρ.t 26) (0, 0)) ∧ ss.length + 1 ≤ cap' ∧ cap' ≤ maxLen ∧ cur'.size = cap' * 1 ∧ cur'.toList.take ((ss.length + 1) * 1) = ss.map (Value.int kd) ++ [(Value.int kd) x] := by
         rcases hown'.2 with ⟨_, h0⟩ | h'
         · exact absurd h0 (by omega)
         · exact h'
       go_frame)
    | gi_round_op_a)
  have hg3' : (W2.alloc (.cells #[(Value.int kd) x] (ρ.t 26))).grownBy w3 v.ownBlock := hg3
  have hL3 : w3.heap[l]? = some (.loop { AnyZ.apRec ρ fn sv Bs D .ready none with state := .busy }) := (hg3'.block l (by simp; omega) (ne_of hL2 (fun cur e => by first | cases e | exact hne (Obj.cells.inj e).2.1))).trans ((Below.heap_alloc _ _ l hl2).trans hL2)
  have hK3 : w3.heap[D]? = some (.deferred (some [])) := (hg3'.block D (by simp; omega) (ne_of hK2 (fun cur e => by first | cases e | exact hne (Obj.cells.inj e).2.1))).trans ((Below.heap_alloc _ _ D hDlt).trans hK2)
  obtain ⟨w4, hw4⟩ : ∃ w4, w3.setCell ⟨Bs, 0, none⟩ (.slice (some ⟨g', 0, none⟩) (ss.length + 1) cap') = w4 := ⟨_, rfl⟩
  rw [hw4]
  have hg4 : w3.grownBy w4 (some Bs) := by rw [← hw4]; exact grownBy_setCell0_a _ _ _
  have hv4 : w4.heap[Bs]? = some (.cells #[.slice (some ⟨g', 0, none⟩) (ss.length + 1) cap'] (ρ.t 24) (0, 0)) := by rw [← hw4]; exact heap_setCell_box_a _ hv3
  have hL4 : w4.heap[l]? = some (.loop { AnyZ.apRec ρ fn sv Bs D .ready none with state := .busy }) := (hg4.block l (Array.getElem?_eq_some_iff.1 hL3).1 (fun e => hBl (by cases e; rfl))).trans hL3
  have hK4 : w4.heap[D]? = some (.deferred (some [])) := (hg4.block D (Array.getElem?_eq_some_iff.1 hK3).1 (fun e => hDB (by cases e; rfl))).trans hK3
  have hrow4 := hown'.kept hg4 (ownsRow_ne_a hown' hv3 (fun cur e => by first | cases e | exact hne (Obj.cells.inj e).2.1))
  have hl4 : l < w4.heap.size := (Array.getElem?_eq_some_iff.1 hL4).1
  have hb3 : Below w0.heap.size w0 w3 := (hb2.alloc hb2.size _).grown hg3' (by have := hb2.size; simp; omega) (fun k e => (hrow2.lt k e).1)
  have hb4 : Below w0.heap.size w0 w4 := hb3.grown hg4 hb3.size (fun k e => by cases e; exact h0B)
  have hk4 : KeepsWalks W w4 := ((hk2.trans (KeepsWalks.alloc _ _)).trans (KeepsWalks.of_grownBy hg3' (ownsRow_not_walk_a (hrow2.alloc _)))).trans (by rw [← hw4]; exact KeepsWalks.setCell _ _ _)
  clear hw4
  refine ⟨_, _, run_endRound none hL4, rfl, ⟨⟨_, (World.putObj_heap_other hBl).trans hv4, ?_, by simp⟩, World.putObj_heap_same hl4, (World.putObj_heap_other hDl).trans hK4, hb4.grown (grownBy_putObj_a _ _ _) hb4.size (fun k e => by cases e; exact h0l)⟩, hk4.trans (KeepsWalks.putObj _ hL4 rfl)⟩
  have := hrow4.kept (grownBy_putObj_a w4 l (.loop { { AnyZ.apRec ρ fn sv Bs D .ready none with state := .busy } with state := if (none : Option Code).isNone then .ready else .done, pending := none })) (ownsRow_ne_a hrow4 hL4 (fun cur e => by first | cases e | exact hne (Obj.cells.inj e).2.1))
  simpa using this


set_option maxRecDepth 100000 in
set_option maxHeartbeats 2000000 in
theorem Ks.appendSeq_in (L : KeyLay P ρ kd bs) (F : Fence) (n : Nat) (h11 : F.fn (ρ.f 11)) (hro : F.round = none) (hn : 2 ≤ n) (g : Nat) (lb : Array Value) (hFg : F.fn g) (eg : ∀ args w, (callFunc g args).run P w = .ok (.enter g args) w)
    (S : List Int → Prop) (N : Nat) (hN : N ≤ maxLen) (hNb : N * bs ≤ 140737488355328) (w : World) (hseq : SeqGives F (n - 1) P g lb (Value.int kd) S N w) :
    CallsIn F n P (ρ.f 11) #[.slice none 0 0, .func (.func g) #[] lb] w fun e w' => ∃ (v : Value) (ss : List Int), e = .returned v ∧ S ss ∧ w'.ownsRow w.heap.size (ρ.t 26) 1 v ss.length (ss.map (Value.int kd)) ∧ (v = .slice none 0 0 ↔ ss = []) ∧ Below w.heap.size w w' := by
  have h1 : 1 ≤ n := by omega
  have mixed := L.mixed; have t0 := L.t0; have a0 := L.a0; have z0 := L.z0; have v0 := L.v0; have t24 := L.t24; have a24 := L.a24; have z24 := L.z24; have v24 := L.v24; have t26 := L.t26; have a26 := L.a26; have z26 := L.z26; have v26 := L.v26; have t28 := L.t28; have a28 := L.a28; have z28 := L.z28; have v28 := L.v28
  have hne : ρ.t 24 ≠ ρ.t 26 := fun e => by have h := L.t24; rw [e, L.t26] at h; cases h
  have u0 := run_underlying L.t0; have u24 := run_underlying L.t24; have u26 := run_underlying L.t26; have u28 := run_underlying L.t28
  obtain ⟨_, _, FG⟩ := L.f11
  refine callsIn_of_wp_marks FG rfl h11 ?_ hro
  simp only [SlBodyZ.n11_ntmps ρ, List.size_toArray, List.length_cons, List.length_nil, Nat.reduceAdd, Nat.reduceSub, Array.replicate_succ, Array.replicate_zero, List.push_toArray, List.append_toArray, List.nil_append, List.cons_append]
  gi_wp2
  refine wpIn_rangeFunc ?_
  intro fn hfn
  rw [hro]
  obtain ⟨W0, hW0⟩ : ∃ W0, w.alloc (.cells #[.slice none 0 0] (ρ.t 24)) = W0 := ⟨_, rfl⟩
  have hs0 : W0.heap.size = w.heap.size + 1 := by rw [← hW0]; simp
  have hv0 : W0.heap[w.heap.size]? = some (.cells #[.slice none 0 0] (ρ.t 24) (0, 0)) := by rw [← hW0]; exact World.alloc_heap_new w _
  have hb0 : Below w.heap.size w W0 := by rw [← hW0]; exact (Below.refl _ w).alloc (Nat.le_refl _) _
  rw [hW0]
  obtain ⟨W1, hW1⟩ : ∃ W1, (W0.alloc (.deferred (some []))).alloc (.loop (AnyZ.apRec ρ fn (.func (.func g) #[] lb) w.heap.size W0.heap.size .ready none)) = W1 := ⟨_, rfl⟩
  have hold : ∀ k, k < W0.heap.size → W1.heap[k]? = W0.heap[k]? := fun k hk => by
    rw [← hW1]; exact (Below.heap_alloc _ _ k (by simp; omega)).trans (Below.heap_alloc _ _ k hk)
  have hb1 : Below w.heap.size w W1 := by rw [← hW1]; exact (hb0.alloc hb0.size _).alloc (by have := hb0.size; simp; omega) _
  have hs1 : W1.heap.size = W0.heap.size + 2 := by rw [← hW1]; simp
  have hM : Ks.ApAt ρ kd w fn (.func (.func g) #[] lb) w.heap.size (W0.heap.size + 1) W0.heap.size [] W1 :=
    ⟨⟨_, (hold w.heap.size (by omega)).trans hv0, ⟨rfl, .inl ⟨rfl, rfl⟩⟩, by simp⟩,
     by rw [← hW1]; have := World.alloc_heap_new (W0.alloc (.deferred (some []))) (.loop (AnyZ.apRec ρ fn (.func (.func g) #[] lb) w.heap.size W0.heap.size .ready none)); rwa [World.size_alloc] at this,
     by rw [← hW1]; exact (Below.heap_alloc _ _ _ (by simp)).trans (World.alloc_heap_new W0 _), hb1⟩
  refine ⟨W0.heap.size + 1, [{ target := .collected W0.heap.size, args := #[] }], W1, { target := .fn (.func g) lb, args := #[.func (.yield (W0.heap.size + 1)) #[] #[]] }, W1, g,
    #[.func (.yield (W0.heap.size + 1)) #[] #[]] ++ lb, W1, ?_, ?_, ?_, ?_, fun _ => h1, ?_⟩
  · rw [← hW1]; exact run_enterLoop_outer _ _ _ _ _
  · simp [resolve, go_sem]
  · intro f' hf'; simp [Target.leads] at hf'; subst hf'; exact hFg
  · simp [invoke, go_sem, eg]
  · refine (hseq (W0.heap.size + 1) (Ks.ApAt ρ kd w fn (.func (.func g) #[] lb) w.heap.size (W0.heap.size + 1) W0.heap.size) W1 hb1 (Ks.ap_abides ρ kd _ _ _ _ _ _ _ hb1.size)
      (fun pre x W hJ hl => Ks.apYield L F (n - 1 - 1) w fn hfn _ w.heap.size (W0.heap.size + 1) W0.heap.size (by omega) (by omega) (by omega) (Nat.le_refl _) (by omega) N hN hNb pre x W hJ hl) hM).mono ?_
    rintro e W2 ⟨⟨v0, rfl⟩, ss, hS, h2⟩
    obtain ⟨v, hv, hrow, hnil⟩ := h2.box
    have hend := run_endLoop (P := P) h2.L (by simp [AnyZ.apRec])
    obtain ⟨W3, hW3⟩ : ∃ W3, W2.putObj (W0.heap.size + 1) (.loop { AnyZ.apRec ρ fn (.func (.func g) #[] lb) w.heap.size W0.heap.size .ready none with state := .exhausted }) = W3 := ⟨_, rfl⟩
    rw [hW3] at hend
    have hg3 : W2.grownBy W3 (some (W0.heap.size + 1)) := by rw [← hW3]; exact grownBy_putObj_a _ _ _
    have hv3 : W3.heap[w.heap.size]? = some (.cells #[v] (ρ.t 24) (0, 0)) := by rw [← hW3]; exact (World.putObj_heap_other (by omega)).trans hv
    have hK3 : W3.heap[W0.heap.size]? = some (.deferred (some [])) := by rw [← hW3]; exact (World.putObj_heap_other (by omega)).trans h2.K
    have hrow3 := hrow.kept hg3 (ownsRow_ne_a hrow h2.L (fun cur e => by first | cases e | exact hne (Obj.cells.inj e).2.1))
    have hb3 : Below w.heap.size w W3 := h2.below.grown hg3 h2.below.size (fun k e => by cases e; omega)
    obtain ⟨hc3, hf3⟩ := cell_of_box_a hv3
    clear hW3
    refine ⟨none, W3, hend, ?_⟩
    gi_wp2
    rw [← hs0]
    refine ⟨by simp, .inl ⟨_, _, rfl, run_takeDeferred hK3, ?_⟩⟩
    exact ⟨_, results_tmp rfl _ _ _, v, ss, rfl, hS, hrow3.kept (grownBy_putObj_a _ _ _) (ownsRow_ne_a hrow3 hK3 (fun cur e => by first | cases e | exact hne (Obj.cells.inj e).2.1)), hnil, hb3.grown (grownBy_putObj_a _ _ _) hb3.size (fun k e => by cases e; omega)⟩


set_option maxHeartbeats 1000000 in
theorem Ks.collect_in (L : KeyLay P ρ kd bs) (F : Fence) (n : Nat) (h8 : F.fn (ρ.f 8)) (h11 : F.fn (ρ.f 11)) (hro : F.round = none) (hn : 3 ≤ n) (g : Nat) (lb : Array Value) (hFg : F.fn g) (eg : ∀ args w, (callFunc g args).run P w = .ok (.enter g args) w)
    (S : List Int → Prop) (N : Nat) (hN : N ≤ maxLen) (hNb : N * bs ≤ 140737488355328) (w : World) (hseq : SeqGives F (n - 1 - 1) P g lb (Value.int kd) S N w) :
    CallsIn F n P (ρ.f 8) #[.func (.func g) #[] lb] w fun e w' => ∃ (v : Value) (ss : List Int), e = .returned v ∧ S ss ∧ w'.ownsRow w.heap.size (ρ.t 26) 1 v ss.length (ss.map (Value.int kd)) ∧ (v = .slice none 0 0 ↔ ss = []) ∧ Below w.heap.size w w' := by
  have h1 : 1 ≤ n := by omega
  have e11 : ∀ args w, (callFunc (ρ.f 11) args).run P w = .ok (.enter (ρ.f 11) args) w := L.f11.enters rfl
  have mixed := L.mixed; have t0 := L.t0; have a0 := L.a0; have z0 := L.z0; have v0 := L.v0; have t24 := L.t24; have a24 := L.a24; have z24 := L.z24; have v24 := L.v24; have t26 := L.t26; have a26 := L.a26; have z26 := L.z26; have v26 := L.v26; have t28 := L.t28; have a28 := L.a28; have z28 := L.z28; have v28 := L.v28
  have u0 := run_underlying L.t0; have u24 := run_underlying L.t24; have u26 := run_underlying L.t26; have u28 := run_underlying L.t28
  obtain ⟨_, _, FG⟩ := L.f8
  refine callsIn_of_wp FG rfl h8 ?_ hro
  simp only [SlBodyZ.n8_ntmps ρ, List.size_toArray, List.length_cons, List.length_nil, Nat.reduceAdd, Nat.reduceSub, Array.replicate_succ, Array.replicate_zero, List.push_toArray, List.append_toArray, List.nil_append, List.cons_append]
  gi_wp2_with (gi_at_fn (ρ.f 11); refine (Ks.appendSeq_in L F (n - 1) h11 hro (by omega) g lb hFg eg S N hN hNb _ hseq).mono ?_; rintro e w' ⟨v, ss, rfl, hS, hrow, hnil, hb⟩)
  go_ret
  exact ⟨v, ss, rfl, hS, hrow, hnil, hb⟩


end Go.Proofs

/-
  What slices.Sort makes of a slice of integers, run by the machine on every order of the keys.
-/
set_option linter.unusedSimpArgs false
set_option linter.unusedVariables false
namespace Go.Lx
noncomputable section

def inserts (x : Int) : List Int → List (List Int)
  | [] => [[x]]
  | y :: l => (x :: y :: l) :: (inserts x l).map fun t => y :: t
def perms : List Int → List (List Int)
  | [] => [[]]
  | x :: l => (perms l).flatMap (inserts x)

theorem mem_inserts (x : Int) : ∀ a b : List Int, a ++ x :: b ∈ inserts x (a ++ b)
  | [], [] => by simp [inserts]
  | [], y :: b => by simp [inserts]
  | y :: a, b => by
    have := mem_inserts x a b
    simp only [List.cons_append, inserts, List.mem_cons, List.mem_map]
    exact .inr ⟨_, this, rfl⟩

theorem mem_perms : ∀ (l π : List Int), π.Perm l → π ∈ perms l
  | [], π, h => by rw [List.Perm.eq_nil h]; simp [perms]
  | x :: l, π, h => by
    have hx : x ∈ π := h.mem_iff.2 (by simp)
    obtain ⟨a, b, rfl⟩ := List.append_of_mem hx
    have h2 : (a ++ b).Perm l := (List.perm_middle.symm.trans h).cons_inv
    simp only [perms, List.mem_flatMap]
    exact ⟨_, mem_perms l _ h2, mem_inserts x a b⟩

def intsOf (kd : IntKind) : List V → Option (List Int)
  | [] => some []
  | .int k n :: l => if k = kd then (match intsOf kd l with | some r => some (n :: r) | none => none) else none
  | _ => none

theorem intsOf_ok {kd : IntKind} : ∀ {l : List V} {r : List Int}, intsOf kd l = some r → l = r.map (V.int kd)
  | [], r, h => by cases h; rfl
  | v :: l, r, h => by
    cases v <;> simp only [intsOf] at h <;> try (cases h; done)
    rename_i k n
    by_cases hk : k = kd
    · rw [if_pos hk] at h
      cases hl : intsOf kd l with
      | none => rw [hl] at h; cases h
      | some t =>
        rw [hl] at h
        cases h
        rw [intsOf_ok hl, hk]
        rfl
    · rw [if_neg hk] at h; cases h
def keySt (kd : IntKind) (e : TypeId) (ks : List Int) : St := { heap := T.set .leaf 0 (some (.cells (ks.map (V.int kd)) e true)), next := 1, log := [] }

def sortRun (c : Cfg) (n : Nat) (fT : FuncId) (kd : IntKind) (e : TypeId) (ks : List Int) : Option (List Int) :=
  match callM c n fT [.slice 0 0 ks.length ks.length] (keySt kd e ks) with
  | .ok (.tuple []) s => match s.heap.get 0 with
    | some (.cells cs e' true) => bif Nat.beq e' e then intsOf kd cs else none
    | _ => none
  | _ => none

def sortedOf (c : Cfg) (n : Nat) (fT : FuncId) (kd : IntKind) (e : TypeId) (ks : List Int) : Option (List Int) := match sortRun c n fT kd e ks with
  | some ts => bif (perms ks).all (fun π => match sortRun c n fT kd e π with | some t => decide (t = ts) | none => false) then some ts else none
  | none => none

theorem sortedOf_ok {c : Cfg} {n : Nat} {fT : FuncId} {kd : IntKind} {e : TypeId} {ks ts π : List Int} (h : sortedOf c n fT kd e ks = some ts) (hp : π.Perm ks) : sortRun c n fT kd e π = some ts := by
  unfold sortedOf at h
  cases h1 : sortRun c n fT kd e ks with
  | none => rw [h1] at h; cases h
  | some t0 =>
    rw [h1] at h
    simp only at h
    cases hb : (perms ks).all (fun π => match sortRun c n fT kd e π with | some t => decide (t = t0) | none => false)
    · rw [hb] at h; cases h
    · rw [hb] at h
      cases h
      have := List.all_eq_true.1 hb π (mem_perms _ _ hp)
      cases h2 : sortRun c n fT kd e π with
      | none => rw [h2] at this; cases this
      | some t => rw [h2] at this; rw [of_decide_eq_true this]
theorem sort_calls (c : Cfg) (hm : c.P.follows .mixedOrders = true) (hs : SumOk c) (hng : c.gl = .leaf) {n : Nat} {fT : FuncId} {kd : IntKind} {e : TypeId} {π ts : List Int} (hsu : c.sum fT = none) (h : sortRun c (n + 1) fT kd e π = some ts)
    (hsz : szT c.P e = some 1) {W : World} {gb cap : Nat} {cur : Array Value} (hb : W.heap[gb]? = some (.cells cur e (0, 0))) (ht : cur.toList.take π.length = π.map (Value.int kd)) (hl : π.length ≤ cap) (hcap : cur.size = cap) :
    Calls c.P fT #[.slice (some ⟨gb, 0, none⟩) π.length cap] W fun e' w' => e' = .returned (.tuple #[]) ∧ w'.os = W.os ∧ w'.tape = W.tape ∧ w'.output = W.output ∧ W.heap.size ≤ w'.heap.size ∧
      (∀ b, b < W.heap.size → b ≠ gb → w'.heap[b]? = W.heap[b]?) ∧ ∃ rc frz, w'.heap[gb]? = some (.cells rc e frz) ∧ ts.length ≤ cap ∧ cap ≤ rc.size ∧ (∀ i, i < cap → ¬ (frz.1 ≤ i ∧ i < frz.2)) ∧ ∀ (i : Nat) (v : Int), ts[i]? = some v → rc[i]? = some (Value.int kd v) := by
  unfold sortRun at h
  cases hr : callM c (n + 1) fT [.slice 0 0 π.length π.length] (keySt kd e π) with
  | fail w => rw [hr] at h; cases h
  | ok v s =>
    rw [hr] at h
    cases v <;> try (cases h; done)
    rename_i l
    cases l with
    | cons x l => cases h
    | nil =>
    cases hg : s.heap.get 0 with
    | none =>
      replace h : (match s.heap.get 0 with | some (.cells cs e' true) => bif Nat.beq e' e then intsOf kd cs else none | _ => none) = some ts := h
      rw [hg] at h; cases h
    | some ob =>
    replace h : (match s.heap.get 0 with | some (.cells cs e' true) => bif Nat.beq e' e then intsOf kd cs else none | _ => none) = some ts := h
    rw [hg] at h
    cases ob <;> try (cases h; done)
    rename_i cs e' o
    cases o <;> try (cases h; done)
    replace h : (bif Nat.beq e' e then intsOf kd cs else none) = some ts := h
    cases he : Nat.beq e' e
    · rw [he] at h; cases h
    rw [he, cond_true] at h
    have he' : e' = e := Nat.eq_of_beq_eq_true he
    subst he'
    have hcs := intsOf_ok h
    let p : Pl := ⟨gb, 0, true, 1, cap⟩
    let μ0 : Mu := upd (fun _ => none) 0 p
    have hrel : Rel c.P μ0 (fun _ => undef) (keySt kd e' π).heap W.heap := by
      refine ⟨fun k o hk => ?_, fun k k' o o' p1 p2 h1 h2 hne _ g1 g2 => ?_⟩
      · by_cases h0 : k = 0
        · subst h0
          refine ⟨p, upd_same _ _ _, ?_⟩
          have : some o = some (.cells (π.map (V.int kd)) e' true) := hk.symm
          cases this
          refine ⟨rfl, fun _ => hsz, cur, (0, 0), hb, (fun e => by cases e), by simp [p]; exact hl, by simp [p, hcap], fun i _ => by simp, fun i v hv => ?_⟩
          rw [List.getElem?_map] at hv
          cases hx : π[i]? with
          | none => rw [hx] at hv; cases hv
          | some x =>
            rw [hx] at hv
            cases hv
            have hi : i < π.length := (List.getElem?_eq_some_iff.1 hx).1
            refine ⟨.int kd x, ?_, .int _ _⟩
            have : (cur.toList.take π.length)[i]? = some (.int kd x) := by rw [ht, List.getElem?_map, hx]; rfl
            rw [List.getElem?_take, if_pos hi] at this
            simpa [p] using this
        · have : μ0 k = none := upd_ne _ _ h0
          exfalso
          revert hk
          show T.get (T.set .leaf 0 _) k = some o → False
          rw [T.get_set_ne _ _ h0]
          simp [T.get]
      · exfalso
        have e1 : k = 0 := by
          by_cases h0 : k = 0
          · exact h0
          · rw [show μ0 k = none from upd_ne _ _ h0] at g1; cases g1
        have e2 : k' = 0 := by
          by_cases h0 : k' = 0
          · exact h0
          · rw [show μ0 k' = none from upd_ne _ _ h0] at g2; cases g2
        exact hne (e1.trans e2.symm)
    refine (callM_calls c hm hs (μ := μ0) (ν := fun _ => undef) (rs := [.slice (some ⟨gb, 0, none⟩) π.length cap]) hr hsu hrel (fun k h1 h2 => upd_ne _ _ (by have : 1 ≤ k := h1; omega)) (by rw [hng]; exact Globs.none)
      (.cons (.slice (p := p) (upd_same _ _ _) (Nat.le_refl _) (.inr ⟨rfl, .inr ⟨rfl, hl, by simp [p]⟩⟩)) .nil)).mono ?_
    rintro e1 w' ⟨r, rfl, μ', hv, st⟩
    cases hv with
    | tuple hv =>
      cases hv
      obtain ⟨q, hq, ho⟩ := st.rel.ob 0 _ hg
      rw [st.le 0 p (upd_same _ _ _)] at hq
      cases hq
      obtain ⟨_, _, rc, frz, g1, _, g2, g3, g4, g5⟩ := ho
      refine ⟨rfl, st.os, st.tape, st.output, st.size, fun b hb' hne => st.block b hb' fun k pk hk => ?_, rc, frz, g1, by simpa [hcs, p] using g2, g3, g4, fun i v hv => ?_⟩
      · by_cases h0 : k = 0
        · subst h0
          rw [show μ0 0 = some p from upd_same _ _ _] at hk
          cases hk
          exact fun e => hne e.symm
        · rw [show μ0 k = none from upd_ne _ _ h0] at hk; cases hk
      · obtain ⟨r, h1, h2⟩ := g5 i (V.int kd v) (by rw [hcs, List.getElem?_map, hv]; rfl)
        cases h2
        simpa [p] using h1

end
end Go.Lx

/-
  slices.Sorted over maps.Keys, the keys of an integer kind.
-/
set_option linter.unusedSimpArgs false
set_option linter.unusedVariables false
namespace Go.Proofs
open Go.RowKit Go.Maps Go.Sort Go.Shelf
variable {P : Program} {ρ : Ren} {kd : IntKind} {bs : Nat}

set_option maxRecDepth 100000 in
set_option maxHeartbeats 2000000 in
theorem Ks.sorted_in (L : KeyLay P ρ kd bs) (F : Fence) (n : Nat) (h6 : F.fn (ρ.f 6)) (h8 : F.fn (ρ.f 8)) (h9 : F.fn (ρ.f 9)) (h11 : F.fn (ρ.f 11)) (hro : F.round = none) (hn : 4 ≤ n) (ks : List Int) (Q : Nat → Nat → World → World → Prop)
    (hsort : ∀ (gb cap : Nat) (cur : Array Value) (ss : List Int) (W : World), ss.Perm ks → W.heap[gb]? = some (.cells cur (ρ.t 26) (0, 0)) → cur.toList.take ss.length = ss.map (Value.int kd) → ss.length ≤ cap → cur.size = cap →
      CallsIn F (n - 1) P (ρ.f 9) #[.slice (some ⟨gb, 0, none⟩) ss.length cap] W fun e w' => e = .returned (.tuple #[]) ∧ Q gb cap W w')
    (hnil : ∀ W : World, CallsIn F (n - 1) P (ρ.f 9) #[.slice none 0 0] W fun e w' => e = .returned (.tuple #[]) ∧ Below W.heap.size W w')
    (e9 : ∀ args w, (callFunc (ρ.f 9) args).run P w = .ok (.enter (ρ.f 9) args) w) (g : Nat) (lb : Array Value) (hFg : F.fn g) (eg : ∀ args w, (callFunc g args).run P w = .ok (.enter g args) w)
    (N : Nat) (hN : N ≤ maxLen) (hNb : N * bs ≤ 140737488355328) (w : World) (hseq : SeqGives F (n - 1 - 1 - 1) P g lb (Value.int kd) (fun ss => ss.Perm ks) N w) :
    CallsIn F n P (ρ.f 6) #[.func (.func g) #[] lb] w fun e w' => (ks = [] ∧ e = .returned (.slice none 0 0) ∧ Below w.heap.size w w') ∨
      (ks ≠ [] ∧ ∃ gb cap W, e = .returned (.slice (some ⟨gb, 0, none⟩) ks.length cap) ∧ w.heap.size ≤ gb ∧ gb < W.heap.size ∧ ks.length ≤ cap ∧ Below w.heap.size w W ∧ Q gb cap W w') := by
  have h1 : 1 ≤ n := by omega
  have e8 : ∀ args w, (callFunc (ρ.f 8) args).run P w = .ok (.enter (ρ.f 8) args) w := L.f8.enters rfl
  have mixed := L.mixed; have t0 := L.t0; have a0 := L.a0; have z0 := L.z0; have v0 := L.v0; have t24 := L.t24; have a24 := L.a24; have z24 := L.z24; have v24 := L.v24; have t26 := L.t26; have a26 := L.a26; have z26 := L.z26; have v26 := L.v26; have t28 := L.t28; have a28 := L.a28; have z28 := L.z28; have v28 := L.v28
  have u0 := run_underlying L.t0; have u24 := run_underlying L.t24; have u26 := run_underlying L.t26; have u28 := run_underlying L.t28
  obtain ⟨_, _, FG⟩ := L.f6
  refine callsIn_of_wp FG rfl h6 ?_ hro
  simp only [SlBodyZ.n6_ntmps ρ, List.size_toArray, List.length_cons, List.length_nil, Nat.reduceAdd, Nat.reduceSub, Array.replicate_succ, Array.replicate_zero, List.push_toArray, List.append_toArray, List.nil_append, List.cons_append]
  gi_wp2_with (gi_at_fn (ρ.f 8); refine (Ks.collect_in L F (n - 1) h8 h11 hro (by omega) g lb hFg eg _ N hN hNb _ hseq.bounded).mono ?_; rintro e W ⟨v, ss, rfl, ⟨hS, hlen⟩, hrow, hnil', hb⟩)
  have hsl : ss.length = ks.length := hS.length_eq
  rcases hrow.2 with ⟨rfl, hz⟩ | ⟨gb, cap, cur, rfl, hbase, hgb, r1, r2, r3, r4⟩
  · have hss : ss = [] := List.eq_nil_of_length_eq_zero hz
    subst hss
    have hk : ks = [] := List.eq_nil_of_length_eq_zero (by rw [← hsl]; rfl)
    gi_wp2_with (gi_at_fn (ρ.f 9); refine (hnil W).mono ?_; rintro e w' ⟨rfl, hb2⟩)
    go_ret
    exact .inl ⟨hk, rfl, hb.trans (hb2.mono hb.size)⟩
  · have hgl : gb < W.heap.size := (Array.getElem?_eq_some_iff.1 hgb).1
    have hne : ks ≠ [] := fun e => by
      subst e
      have hss : ss = [] := List.eq_nil_of_length_eq_zero hsl
      have := hnil'.2 hss
      cases this
    have cS := hsort gb cap cur ss W hS hgb (by simpa using r4) r1 (by simpa using r3)
    gi_wp2_with (gi_at_fn (ρ.f 9); refine cS.mono ?_; rintro e w' ⟨rfl, hQ⟩)
    go_ret
    exact .inr ⟨hne, gb, cap, W, rfl, hbase, hgl, by omega, hb, hQ⟩

end Go.Proofs

/-
  A map with keys of an integer kind, as the kit's laws on maps want it.
-/
set_option linter.unusedSimpArgs false
set_option linter.unusedVariables false
namespace Go.Lx
noncomputable section
open Go.Proofs Go.Maps
open Go.WideElems (Fit rd rg rd_mk rg_of)
open Go.MapKept (Stamped)
open Go.WideShapes (sorted_perm)

def distinct : List Int → Bool
  | [] => true
  | x :: l => l.all (fun y => !decide (x = y)) && distinct l

theorem distinct_ok : ∀ {l : List Int}, distinct l = true → l.Nodup
  | [], _ => List.nodup_nil
  | x :: l, h => by
    unfold distinct at h
    rw [Bool.and_eq_true] at h
    refine List.nodup_cons.2 ⟨fun hx => ?_, distinct_ok h.2⟩
    have := List.all_eq_true.1 h.1 x hx
    simp at this

def keysI (kd : IntKind) : List ME → Option (List Int)
  | [] => some []
  | e :: es => match e.key with
    | .int k n => if k = kd then (bif (Lit.int kd n).wf then (match keysI kd es with | some r => some (n :: r) | none => none) else none) else none
    | _ => none

theorem keysI_rel {μ : Mu} {ν : Nat → Value} {kd : IntKind} : ∀ {es : List ME} {res : List MapEntry} {ks : List Int}, ESRel μ ν es res → keysI kd es = some ks →
    res.map (·.key) = ks.map (Value.int kd) ∧ res.map (·.born) = es.map (·.born) ∧ ∀ n ∈ ks, (Lit.int kd n).wf = true
  | _, _, ks, .nil, h => by cases h; exact ⟨rfl, rfl, by simp⟩
  | _, _, ks, .cons (k := k) (es := es) hk hv hs, h => by
    cases k <;> simp only [keysI] at h <;> try (cases h; done)
    rename_i q n
    by_cases hq : q = kd
    · rw [if_pos hq] at h
      subst hq
      cases hw : (Lit.int q n).wf
      · rw [hw] at h; cases h
      · rw [hw, cond_true] at h
        cases hr : keysI q es with
        | none => rw [hr] at h; cases h
        | some r =>
          rw [hr] at h
          cases h
          obtain ⟨g1, g2, g3⟩ := keysI_rel hs hr
          cases hk
          refine ⟨by simp [g1], by simp [g2], fun m hm => ?_⟩
          rcases List.mem_cons.1 hm with rfl | hm
          · exact hw
          · exact g3 m hm
    · rw [if_neg hq] at h; cases h

def valInt : Value → Int
  | .int _ n => n
  | _ => 0

theorem owns_of_keys {P : Program} {k : TypeId} {kd : IntKind} (hk : P.underlying k = some (.int kd)) {W : World} {b clock : Nat} {res : List MapEntry} {ks : List Int} (hb : W.heap[b]? = some (.map ⟨res⟩ clock)) (h1 : res.map (·.key) = ks.map (Value.int kd))
    (hw : ∀ n ∈ ks, (Lit.int kd n).wf = true) (hs : Stamped ⟨res⟩ clock) (hl : ks.length ≤ maxLen) :
    ∃ D : DataW Unit, W.ownsMap P k (fun _ => some (.nil, [])) b ks.length D ∧ (intKeys D).Perm ks ∧ Maps.size D = ks.length := by
  have hlen : res.length = ks.length := by simpa using congrArg List.length h1
  have hrd : ∀ x ∈ res, ∃ n, x.key = .int kd n ∧ rd P k (fun _ => some ((.nil : DataW Unit), [])) x = some (.int kd n, .nil) := by
    intro x hx
    have hm : x.key ∈ ks.map (Value.int kd) := by rw [← h1]; exact List.mem_map_of_mem hx
    obtain ⟨n, hn, e⟩ := List.mem_map.1 hm
    refine ⟨n, e.symm, ?_⟩
    obtain ⟨xk, xv, xb⟩ := x
    have e' : xk = Value.int kd n := e.symm
    subst e'
    exact rd_mk (yv := (.nil, [])) (R := fun _ => some ((.nil : DataW Unit), [])) (keyOf_int_mk hk (hw n hn)) rfl
  refine ⟨.map ((res.map (rg P k fun _ => some (.nil, []))).foldr DataW.insert []), ⟨⟨res⟩, clock, hb, ⟨by simpa [hlen] using hl, hs, fun x hx => ?_⟩, by simp [hlen], rfl⟩, ?_, ?_⟩
  · obtain ⟨n, _, h⟩ := hrd x hx
    exact ⟨_, h⟩
  · show (((res.map (rg P k fun _ => some ((.nil : DataW Unit), []))).foldr DataW.insert []).map fun p => intOf p.1).Perm ks
    refine ((sorted_perm _).map _).trans ?_
    have : (res.map (rg P k fun _ => some ((.nil : DataW Unit), []))).map (fun p => intOf p.1) = ks := by
      rw [List.map_map]
      have e : res.map ((fun p => intOf p.1) ∘ rg P k fun _ => some ((.nil : DataW Unit), [])) = (res.map (·.key)).map valInt := by
        rw [List.map_map]
        refine List.map_congr_left fun x hx => ?_
        obtain ⟨n, e, h⟩ := hrd x hx
        simp only [Function.comp, rg_of h, e, valInt, intOf]
      rw [e, h1, List.map_map]
      have : (valInt ∘ Value.int kd) = id := by funext n; rfl
      rw [this, List.map_id]
    rw [this]
  · show ((res.map (rg P k fun _ => some ((.nil : DataW Unit), []))).foldr DataW.insert []).length = _
    rw [(sorted_perm _).length_eq, List.length_map, hlen]

end
end Go.Lx

/-
  slices.Sorted over maps.Keys stands in as one function of the machine: it reads the map and makes the sorted slice.
-/
set_option linter.unusedSimpArgs false
set_option linter.unusedVariables false
namespace Go.Lx
noncomputable section
open Go.Proofs Go.Maps Go.RowKit Go.Shelf
open Go.MapKept (Stamped)

def keysGood (es : List ME) (clock : Nat) (ks : List Int) : Bool := Nat.ble ks.length 1000 && es.all (fun x => Nat.blt x.born clock) && distinct (es.map fun x => (x.born : Int)) && distinct ks

def sortedEs (c : Cfg) (n : Nat) (fT : FuncId) (kd : IntKind) (e : TypeId) (es : List ME) (clock : Nat) : Option (List Int) :=
  match keysI kd es with
  | some ks => bif keysGood es clock ks then (match sortedOf c n fT kd e ks with
    | some ts => bif Nat.beq ts.length ks.length then some ts else none
    | none => none) else none
  | none => none
def nilRun (c : Cfg) (n : Nat) (fT : FuncId) : Bool := match callM c n fT [.nilslice] st0 with
  | .ok (.tuple []) _ => true
  | _ => false

def sortedTail (kd : IntKind) (e : TypeId) : List Int → M V
  | [] => Lx.ret .nilslice
  | t :: ts => Lx.bnd (alloc (.cells ((t :: ts).map (V.int kd)) e true)) fun k => Lx.ret (.slice k 0 (t :: ts).length (t :: ts).length)

def sortedMap (c : Cfg) (n : Nat) (fT : FuncId) (kd : IntKind) (e : TypeId) : Ob → M V
  | .map es clock => Lx.bnd (Lx.opt (sortedEs c n fT kd e es clock) "sorted") (sortedTail kd e)
  | _ => err "sorted: no map"

def sortedBox (c : Cfg) (n : Nat) (fT : FuncId) (kd : IntKind) (e : TypeId) : List V → M V
  | [.map r] => Lx.bnd (getO r) (sortedMap c n fT kd e)
  | _ => err "sorted: no box"

def sortedM (c : Cfg) (n : Nat) (fK fT : FuncId) (kd : IntKind) (e : TypeId) : List V → M V
  | [.func f [] [.ptr b o]] => bif Nat.beq f fK then Lx.bnd (ld b o 1) (sortedBox c n fT kd e) else err "sorted: another iterator"
  | _ => err "sorted: arguments"

theorem local_sortedTail (kd : IntKind) (e : TypeId) (ts : List Int) : Local (sortedTail kd e ts) := by
  cases ts with
  | nil => exact Local.ret _
  | cons t ts => unfold sortedTail; exact Local.bnd (Local.alloc _) fun _ => Local.ret _

theorem local_sortedMap {c : Cfg} {n : Nat} {fT : FuncId} {kd : IntKind} {e : TypeId} (ob : Ob) : Local (sortedMap c n fT kd e ob) := by
  unfold sortedMap
  split
  · exact Local.bnd (Local.opt _ _) fun _ => local_sortedTail _ _ _
  · exact Local.err _

theorem local_sortedBox {c : Cfg} {n : Nat} {fT : FuncId} {kd : IntKind} {e : TypeId} (cs : List V) : Local (sortedBox c n fT kd e cs) := by
  unfold sortedBox
  split
  · exact Local.bnd (Local.getO _) fun _ => local_sortedMap _
  · exact Local.err _

theorem local_sortedM {c : Cfg} {n : Nat} {fK fT : FuncId} {kd : IntKind} {e : TypeId} (vs : List V) : Local (sortedM c n fK fT kd e vs) := by
  unfold sortedM
  split
  · exact Local.cond (Local.bnd (Local.ld _ _ _) fun _ => local_sortedBox _) (Local.err _)
  · exact Local.err _

theorem StepOk.below {P : Program} {μ : Mu} {ν : Nat → Value} {h : T Ob} {n : Nat} {w w' : World} (hr : Rel P μ ν h w.heap) (hb : Below w.heap.size w w') : StepOk P μ ν h n w μ h n w' where
  le := Mu.le_refl _
  new := fun _ _ => rfl
  rel := ⟨fun k o hk => by
    obtain ⟨p, hp, ho⟩ := hr.ob k o hk
    exact ⟨p, hp, ho.mono (Mu.le_refl _) (hb.block _ ho.there)⟩, hr.sep⟩
  os := hb.os
  tape := hb.tape
  output := hb.output
  size := hb.size
  block := fun b h1 _ => hb.block b h1
  newblk := fun k p h1 h2 => by rw [h1] at h2; cases h2
  ro := fun k c p h1 hp => by
    obtain ⟨q, hq, ho⟩ := hr.ob k _ h1
    rw [hp] at hq; cases hq
    exact ⟨h1, hb.block _ ho.there⟩

theorem StepOk.grow {P : Program} {μ : Mu} {ν : Nat → Value} {h : T Ob} {n : Nat} {w w' : World} {ob : Ob} {p : Pl} (hr : Rel P μ ν h w.heap) (hk : μ n = none) (hb : Below w.heap.size w w') (hp : w.heap.size ≤ p.blk)
    (ho : ORel P (upd μ n p) ν p w'.heap ob) : StepOk P μ ν h n w (upd μ n p) (h.set n (some ob)) (n + 1) w' where
  le := upd_le _ hk
  new := fun k hk' => upd_ne _ _ (by omega)
  rel := by
    have old : ∀ k o, k ≠ n → (h.set n (some ob)).get k = some o → h.get k = some o := fun k o hne hk' => by rwa [T.get_set_ne _ _ hne] at hk'
    refine ⟨fun k o hk' => ?_, fun k k' o o' p1 p2 h1 h2 hne hro g1 g2 => ?_⟩
    · by_cases e : k = n
      · subst e
        rw [T.get_set_same] at hk'
        cases hk'
        exact ⟨p, upd_same _ _ _, ho⟩
      · obtain ⟨q, hq, hoq⟩ := hr.ob k o (old k o e hk')
        exact ⟨q, by rw [upd_ne _ _ e]; exact hq, hoq.mono (upd_le _ hk) (hb.block _ hoq.there)⟩
    · have lt : ∀ j oj q, j ≠ n → (h.set n (some ob)).get j = some oj → upd μ n p j = some q → q.blk < w.heap.size := fun j oj q hj h3 h4 => by
        obtain ⟨q', hq', hoq⟩ := hr.ob j oj (old j oj hj h3)
        rw [upd_ne _ _ hj, hq'] at h4
        cases h4
        exact hoq.there
      by_cases e : k = n
      · have e' : k' ≠ n := fun x => hne (e.trans x.symm)
        have := lt k' o' p2 e' h2 g2
        subst e
        rw [upd_same] at g1; cases g1
        omega
      · by_cases e' : k' = n
        · have := lt k o p1 e h1 g1
          subst e'
          rw [upd_same] at g2; cases g2
          omega
        · rw [upd_ne _ _ e] at g1; rw [upd_ne _ _ e'] at g2
          exact hr.sep k k' o o' p1 p2 (old k o e h1) (old k' o' e' h2) hne hro g1 g2
  os := hb.os
  tape := hb.tape
  output := hb.output
  size := hb.size
  block := fun b h1 _ => hb.block b h1
  newblk := fun k q h1 h2 => by
    by_cases e : k = n
    · subst e; rw [upd_same] at h1; cases h1; exact .inl hp
    · rw [upd_ne _ _ e] at h1; rw [h1] at h2; cases h2
  ro := fun k c q h1 hq => by
    have hne : k ≠ n := fun e => by rw [e, hk] at hq; cases hq
    obtain ⟨q', hq', ho⟩ := hr.ob k _ h1
    rw [hq] at hq'; cases hq'
    exact ⟨by rw [T.get_set, if_neg hne]; exact h1, hb.block _ ho.there⟩

theorem stamped_of {es : List ME} {res : List MapEntry} {clock : Nat} {ks : List Int} {kd : IntKind} (h1 : res.map (·.key) = ks.map (Value.int kd)) (h2 : res.map (·.born) = es.map (·.born)) (hg : keysGood es clock ks = true) : Stamped ⟨res⟩ clock := by
  unfold keysGood at hg
  simp only [Bool.and_eq_true] at hg
  obtain ⟨⟨⟨_, g2⟩, g3⟩, g4⟩ := hg
  refine ⟨fun x hx => ?_, ?_, ?_⟩
  · have hm : x.born ∈ es.map (·.born) := by rw [← h2]; exact List.mem_map_of_mem hx
    obtain ⟨y, hy, e⟩ := List.mem_map.1 hm
    rw [← e]
    exact blt_iff.1 (List.all_eq_true.1 g2 y hy)
  · show (res.map (·.born)).Nodup
    rw [h2]
    have := distinct_ok g3
    have e : es.map (fun x => (x.born : Int)) = (es.map (·.born)).map Int.ofNat := by rw [List.map_map]; rfl
    rw [e] at this
    exact List.Pairwise.of_map Int.ofNat (fun a b hab e => hab (by rw [e])) this
  · show (res.map (·.key)).Nodup
    rw [h1]
    exact List.pairwise_map.2 ((distinct_ok g4).imp fun hne e => hne (by injection e))

variable {ρ : Ren} {kd : IntKind} {bs : Nat}
theorem sorted_world (c : Cfg) (hm : c.P.follows .mixedOrders = true) (hs : SumOk c) (hng : c.gl = .leaf) (L : KeyLay c.P ρ kd bs) (hsu : c.sum (ρ.f 9) = none) (hsz : szT c.P (ρ.t 26) = some 1) (e9 : Enters c.P (ρ.f 9)) (hbs : 1000 * bs ≤ 140737488355328)
    {n : Nat} (hnil : nilRun c (n + 1) (ρ.f 9) = true) {ks ts : List Int} (hl : ks.length ≤ 1000) (hts : sortedOf c (n + 1) (ρ.f 9) kd (ρ.t 26) ks = some ts) {Bm Om b clock : Nat} {res : List MapEntry} {w : World} (hBm : Bm < w.heap.size)
    (hbox : w.cell? ⟨Bm, Om, none⟩ = some (.map (some b))) (hb : w.heap[b]? = some (.map ⟨res⟩ clock)) (h1 : res.map (·.key) = ks.map (Value.int kd)) (hw : ∀ n ∈ ks, (Lit.int kd n).wf = true) (hst : Stamped ⟨res⟩ clock) :
    Calls c.P (ρ.f 6) #[.func (.func (ρ.f 10)) #[] #[.pointer (some ⟨Bm, Om, none⟩)]] w fun e w' => (ks = [] ∧ e = .returned (.slice none 0 0) ∧ Below w.heap.size w w') ∨
      (ks ≠ [] ∧ ∃ gb cap, e = .returned (.slice (some ⟨gb, 0, none⟩) ks.length cap) ∧ w.heap.size ≤ gb ∧ ks.length ≤ cap ∧ Below w.heap.size w w' ∧
        ∃ rc frz, w'.heap[gb]? = some (.cells rc (ρ.t 26) frz) ∧ ts.length ≤ cap ∧ cap ≤ rc.size ∧ (∀ i, i < cap → ¬ (frz.1 ≤ i ∧ i < frz.2)) ∧ ∀ (i : Nat) (v : Int), ts[i]? = some v → rc[i]? = some (Value.int kd v)) := by
  obtain ⟨D, hown, hperm, hsize⟩ := owns_of_keys L.t26 hb h1 hw hst (Nat.le_trans hl (by decide))
  have hseq0 := Ks.keys_gives L Fence.wide 7 trivial rfl (by omega) Bm Om b ks.length D w hBm hbox hown
  have hseq : SeqGives Fence.wide (10 - 1 - 1 - 1) c.P (ρ.f 10) #[.pointer (some ⟨Bm, Om, none⟩)] (Value.int kd) (fun ss => ss.Perm ks) ks.length w := by
    rw [hsize] at hseq0
    intro l J W hW hJ hY h0
    exact (hseq0 l J W hW hJ hY h0).mono fun e W' ⟨hv, ss, hS, hJ'⟩ => ⟨hv, ss, hS.trans hperm, hJ'⟩
  have main := Ks.sorted_in L Fence.wide 10 trivial trivial trivial trivial rfl (by omega) ks
    (fun gb cap W w' => w'.os = W.os ∧ w'.tape = W.tape ∧ w'.output = W.output ∧ W.heap.size ≤ w'.heap.size ∧ (∀ b, b < W.heap.size → b ≠ gb → w'.heap[b]? = W.heap[b]?) ∧
      ∃ rc frz, w'.heap[gb]? = some (.cells rc (ρ.t 26) frz) ∧ ts.length ≤ cap ∧ cap ≤ rc.size ∧ (∀ i, i < cap → ¬ (frz.1 ≤ i ∧ i < frz.2)) ∧ ∀ (i : Nat) (v : Int), ts[i]? = some v → rc[i]? = some (Value.int kd v))
    (fun gb cap cur ss W hp hgb ht hlc hcap => callsIn_wide.2 (sort_calls c hm hs hng hsu (sortedOf_ok hts hp) hsz hgb ht hlc hcap))
    (fun W => callsIn_wide.2 (by
      unfold nilRun at hnil
      cases hr : callM c (n + 1) (ρ.f 9) [.nilslice] st0 with
      | fail x => rw [hr] at hnil; cases hnil
      | ok v s =>
        rw [hr] at hnil
        cases v <;> try (cases hnil; done)
        rename_i l
        cases l with
        | cons x l => cases hnil
        | nil =>
          refine (callM_calls c hm hs (μ := fun _ => none) (ν := fun _ => undef) (rs := [.slice none 0 0]) hr hsu rel_empty (fun _ _ _ => rfl) (by rw [hng]; exact Globs.none) (.cons .nilslice .nil)).mono ?_
          rintro e w' ⟨r, rfl, μ', hv, st⟩
          cases hv with
          | tuple hv => cases hv; exact ⟨rfl, st.os, st.tape, st.output, st.size, fun k hk => st.block k hk fun _ _ h => by cases h⟩))
    e9 (ρ.f 10) #[.pointer (some ⟨Bm, Om, none⟩)] trivial (L.f10.enters rfl) ks.length (Nat.le_trans hl (by decide)) (Nat.le_trans (Nat.mul_le_mul_right _ hl) hbs) w hseq
  refine (callsIn_wide.1 main).mono ?_
  rintro e w' (h | ⟨hne, gb, cap, W, h2, h3, h4, h5, hbW, q1, q2, q3, q4, q5, q6⟩)
  · exact .inl h
  · exact .inr ⟨hne, gb, cap, h2, h3, h5, ⟨q1.trans hbW.os, q2.trans hbW.tape, q3.trans hbW.output, Nat.le_trans hbW.size q4, fun k hk => (q5 k (Nat.lt_of_lt_of_le hk hbW.size) (by omega)).trans (hbW.block k hk)⟩, q6⟩

theorem sortedEs_ok {c : Cfg} {n : Nat} {fT : FuncId} {e : TypeId} {es : List ME} {clock : Nat} {ts : List Int} (h : sortedEs c n fT kd e es clock = some ts) :
    ∃ ks, keysI kd es = some ks ∧ keysGood es clock ks = true ∧ sortedOf c n fT kd e ks = some ts ∧ ts.length = ks.length := by
  unfold sortedEs at h
  cases hk : keysI kd es with
  | none => rw [hk] at h; cases h
  | some ks =>
    rw [hk] at h
    simp only at h
    cases hg : keysGood es clock ks
    · rw [hg] at h; cases h
    · rw [hg, cond_true] at h
      cases ho : sortedOf c n fT kd e ks with
      | none => rw [ho] at h; cases h
      | some t =>
        rw [ho] at h
        simp only at h
        cases hb : Nat.beq t.length ks.length
        · rw [hb] at h; cases h
        · rw [hb, cond_true] at h
          cases h
          exact ⟨ks, rfl, hg, ho, Nat.eq_of_beq_eq_true hb⟩

theorem noR {α : Type} {x : String} {v : α} {s' : St} (h : (R.fail x : R α) = .ok v s') : False := by cases h

theorem sortedM_inv {c : Cfg} {n : Nat} {fK fT : FuncId} {e : TypeId} {vs : List V} {s s' : St} {v : V} (h : sortedM c n fK fT kd e vs s = .ok v s') : ∃ f b o, vs = [.func f [] [.ptr b o]] ∧ (bif Nat.beq f fK then Lx.bnd (ld b o 1) (sortedBox c n fT kd e) else err "sorted: another iterator") s = .ok v s' := by
  cases vs with
  | nil => exact (noR h).elim
  | cons x l => cases l with
    | cons y l => cases x <;> first | exact (noR h).elim | (rename_i f xs ys; cases xs <;> first | exact (noR h).elim | (cases ys <;> first | exact (noR h).elim | (rename_i z zs; cases z <;> cases zs <;> exact (noR h).elim)))
    | nil =>
      cases x <;> try exact (noR h).elim
      rename_i f xs ys
      cases xs with
      | cons a xs => exact (noR h).elim
      | nil => cases ys with
        | nil => exact (noR h).elim
        | cons y ys => cases ys with
          | cons z ys => cases y <;> exact (noR h).elim
          | nil =>
            cases y <;> try exact (noR h).elim
            exact ⟨_, _, _, rfl, h⟩

theorem sortedBox_inv {c : Cfg} {n : Nat} {fT : FuncId} {e : TypeId} {cs : List V} {s s' : St} {v : V} (h : sortedBox c n fT kd e cs s = .ok v s') : ∃ r, cs = [.map r] ∧ Lx.bnd (getO r) (sortedMap c n fT kd e) s = .ok v s' := by
  cases cs with
  | nil => exact (noR h).elim
  | cons x l => cases l with
    | cons y l => cases x <;> exact (noR h).elim
    | nil =>
      cases x <;> try exact (noR h).elim
      exact ⟨_, rfl, h⟩

theorem sortedMap_inv {c : Cfg} {n : Nat} {fT : FuncId} {e : TypeId} {ob : Ob} {s s' : St} {v : V} (h : sortedMap c n fT kd e ob s = .ok v s') : ∃ es clock, ob = .map es clock ∧ Lx.bnd (Lx.opt (sortedEs c n fT kd e es clock) "sorted") (sortedTail kd e) s = .ok v s' := by
  cases ob <;> try exact (noR h).elim
  exact ⟨_, _, rfl, h⟩
theorem extSum_sorted (c : Cfg) (hm : c.P.follows .mixedOrders = true) (hs : SumOk c) (hng : c.gl = .leaf) (L : KeyLay c.P ρ kd bs) (hsu : c.sum (ρ.f 9) = none) (hsz : szT c.P (ρ.t 26) = some 1) (e9 : Enters c.P (ρ.f 9)) (e6 : Enters c.P (ρ.f 6))
    (hbs : 1000 * bs ≤ 140737488355328) {n : Nat} (hnil : nilRun c (n + 1) (ρ.f 9) = true) (gl : T (List V)) : ExtSum c.P gl (ρ.f 6) (sortedM c (n + 1) (ρ.f 10) (ρ.f 9) kd (ρ.t 26)) := by
  refine ⟨local_sortedM, ?_⟩
  intro vs v s s' w μ ν rs hg hr hf _ hv
  obtain ⟨f, b, o, rfl, hgg⟩ := sortedM_inv hg
  cases hfb : Nat.beq f (ρ.f 10)
  · rw [hfb, cond_false] at hgg; exact (err_ok hgg).elim
  rw [hfb, cond_true] at hgg
  have hff := Nat.eq_of_beq_eq_true hfb
  subst hff
  obtain ⟨cs, s1, g1, g2'⟩ := bnd_ok hgg
  obtain ⟨cl, hk, hlen, rfl, rfl⟩ := ld_ok g1
  obtain ⟨r, heq, g2⟩ := sortedBox_inv g2'
  obtain ⟨ob, s2, g3, g4'⟩ := bnd_ok g2
  obtain ⟨hk2, _, rfl⟩ := getO_ok g3
  obtain ⟨es, clock, rfl, g4⟩ := sortedMap_inv g4'
  obtain ⟨ts, s3, g5, g6⟩ := bnd_ok g4
  obtain ⟨hts, rfl⟩ := opt_ok g5
  obtain ⟨ks, hks, hgood, hso, htl⟩ := sortedEs_ok hts
  cases hv with
  | cons hv hv0 =>
  cases hv0
  cases hv with
  | func hx hy =>
  cases hx
  cases hy with
  | cons hy hy0 =>
  cases hy0
  cases hy with
  | ptr hp =>
  rename_i p
  obtain ⟨rc, et, frz, k1, k5⟩ := row_rel hr hk hp
  have hthere := (Array.getElem?_eq_some_iff.1 k1).1
  have hcell : cl[o]? = some (.map r) := by
    have : (sub cl o 1)[0]? = some (.map r) := by rw [heq]; rfl
    rw [sub_get (by omega)] at this
    simpa using this
  obtain ⟨rv, k6, k7⟩ := k5 o _ hcell
  cases k7 with
  | map hq =>
  rename_i q
  obtain ⟨q', hq', hob2⟩ := hr.ob r _ hk2
  rw [hq] at hq'
  cases hq'
  obtain ⟨res, m1, m2⟩ := hob2
  obtain ⟨r1, r2, r3⟩ := keysI_rel m2 hks
  have hl : ks.length ≤ 1000 := by
    unfold keysGood at hgood
    simp only [Bool.and_eq_true] at hgood
    exact ble_iff.1 hgood.1.1.1
  have hbox : w.cell? ⟨p.blk, p.off + o, none⟩ = some (.map (some q.blk)) := by rw [cell_at k1]; exact k6
  refine .inl ⟨e6 _ _, (sorted_world c hm hs hng L hsu hsz e9 hbs hnil hl hso hthere hbox m1 r1 r3 (stamped_of r1 r2 hgood)).mono ?_⟩
  rintro e w' (⟨h1, rfl, hb⟩ | ⟨hne, gb, cap, rfl, h3, h4, hb, rc', frz', q1, q2, q3, q4, q5⟩)
  · subst h1
    have : ts = [] := List.eq_nil_of_length_eq_zero htl
    subst this
    obtain ⟨rfl, rfl⟩ := ret_ok g6
    exact ⟨_, rfl, μ, .nilslice, StepOk.below hr hb⟩
  · cases ts with
    | nil => exact absurd (List.eq_nil_of_length_eq_zero htl.symm) hne
    | cons t ts =>
      unfold sortedTail at g6
      obtain ⟨k, s4, g7, g8⟩ := bnd_ok g6
      obtain ⟨rfl, rfl⟩ := alloc_ok g7
      obtain ⟨rfl, rfl⟩ := ret_ok g8
      have hfr : μ s.next = none := hf _ (Nat.le_refl _) (Nat.lt_succ_self _)
      let pn : Pl := ⟨gb, 0, true, 1, cap⟩
      refine ⟨_, rfl, upd μ s.next pn, ?_, StepOk.grow (p := pn) hr hfr hb h3 ⟨rfl, fun _ => hsz, rc', frz', q1, (fun e => by cases e), by simpa [pn] using q2, q3, q4, fun i v hi => ?_⟩⟩
      · rw [← htl]
        exact .slice (p := pn) (upd_same _ _ _) (Nat.le_refl _) (.inr ⟨rfl, .inr ⟨rfl, by rw [htl]; exact h4, by simp [pn]⟩⟩)
      · rw [List.getElem?_map] at hi
        cases hx : (t :: ts)[i]? with
        | none => rw [hx] at hi; cases hi
        | some x =>
          rw [hx] at hi
          cases hi
          exact ⟨_, by simpa [pn] using q5 i x hx, .int _ _⟩

end
end Go.Lx
