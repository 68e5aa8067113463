/-
  slices.Sorted over maps.Keys of a map with keys of a string's kind that holds nothing: one function of the machine.
-/
import Derived.Test.YtgndobokolodfaaGreatDoorLyE
set_option linter.unusedSimpArgs false
set_option linter.unusedVariables false
namespace Go.Proofs
open Go.RowKit Go.Maps Go.Sort Go.Shelf

/-- what is asked of a program -/
structure KeyLay0 (P : Program) (ρ : Ren) : Prop where
  mixed : P.follows .mixedOrders = true
  f6 : Bears P (ρ.f 6) (SlBodyZ.n6 ρ)
  f8 : Bears P (ρ.f 8) (SlBodyZ.n8 ρ)
  f10 : Bears P (ρ.f 10) (SlBodyZ.n10 ρ)
  f11 : Bears P (ρ.f 11) (SlBodyZ.n11 ρ)
  t0 : P.underlying (ρ.t 0) = some (TypeDesc.tuple #[])
  a0 : ∀ w, (isAgg (ρ.t 0)).run P w = .ok false w
  z0 : ∀ w, (Go.sizeOf (ρ.t 0)).run P w = .ok 1 w
  v0 : ∀ w, (zeroValue (ρ.t 0)).run P w = .ok (Value.tuple #[]) w
  t4 : P.underlying (ρ.t 4) = some (TypeDesc.bool)
  a4 : ∀ w, (isAgg (ρ.t 4)).run P w = .ok false w
  z4 : ∀ w, (Go.sizeOf (ρ.t 4)).run P w = .ok 1 w
  v4 : ∀ w, (zeroValue (ρ.t 4)).run P w = .ok (Value.bool false) w
  t23 : P.underlying (ρ.t 23) = some (TypeDesc.map (ρ.t 26) (ρ.t 3))
  a23 : ∀ w, (isAgg (ρ.t 23)).run P w = .ok false w
  z23 : ∀ w, (Go.sizeOf (ρ.t 23)).run P w = .ok 1 w
  v23 : ∀ w, (zeroValue (ρ.t 23)).run P w = .ok (Value.map none) w
  t24 : P.underlying (ρ.t 24) = some (TypeDesc.slice (ρ.t 26))
  a24 : ∀ w, (isAgg (ρ.t 24)).run P w = .ok false w
  z24 : ∀ w, (Go.sizeOf (ρ.t 24)).run P w = .ok 1 w
  v24 : ∀ w, (zeroValue (ρ.t 24)).run P w = .ok (Value.slice none 0 0) w
  t26 : P.underlying (ρ.t 26) = some (TypeDesc.string)
  a26 : ∀ w, (isAgg (ρ.t 26)).run P w = .ok false w
  z26 : ∀ w, (Go.sizeOf (ρ.t 26)).run P w = .ok 1 w
  v26 : ∀ w, (zeroValue (ρ.t 26)).run P w = .ok (Value.string { data := #[] }) w
  t28 : P.underlying (ρ.t 28) = some (TypeDesc.func #[ρ.t 33] #[] false)
  a28 : ∀ w, (isAgg (ρ.t 28)).run P w = .ok false w
  z28 : ∀ w, (Go.sizeOf (ρ.t 28)).run P w = .ok 1 w
  v28 : ∀ w, (zeroValue (ρ.t 28)).run P w = .ok (Value.nilFunc) w
  t33 : P.underlying (ρ.t 33) = some (TypeDesc.func #[ρ.t 26] #[ρ.t 4] false)
  a33 : ∀ w, (isAgg (ρ.t 33)).run P w = .ok false w
  z33 : ∀ w, (Go.sizeOf (ρ.t 33)).run P w = .ok 1 w
  v33 : ∀ w, (zeroValue (ρ.t 33)).run P w = .ok (Value.nilFunc) w
  i26 : (P.info? (ρ.t 26)).map (fun i => (i.zero, i.size, i.bytes)) = some (some (.string ⟨#[]⟩), 1, 16)

variable {P : Program} {ρ : Ren}

set_option maxRecDepth 100000 in
set_option maxHeartbeats 1000000 in
theorem Ks0.keys1N_in (L : KeyLay0 P ρ) {H : Type} (F : Fence) (n : Nat) (h10 : F.fn (ρ.f 10)) (hro : F.round = none) (hn : 1 ≤ n) (l Bm Om b nn : Nat) (D0 : DataW H) {R : Value → Option (DataW H × List MemPlace)} (J : List (List UInt8) → World → Prop)
    (hY : ∀ pre x W, J pre W → pre.length < Maps.size D0 → YieldAt F (n - 1) P l #[encStr x] W fun e W' => e = .returned (.bool true) ∧ J (pre ++ [x]) W' ∧ KeepsWalks W W')
    (W : World) (hJ : AbidesFrom W.heap.size J) (hm : W.cell? ⟨Bm, Om, none⟩ = some (.map (some b))) (hown : W.ownsMap P (ρ.t 26) R b nn D0) (h0 : J [] W) :
    CallsIn F n P (ρ.f 10) #[.func (.yield l) #[] #[], .pointer (some ⟨Bm, Om, none⟩)] W fun e W' => (∃ v, e = .returned v) ∧ ∃ ss : List (List UInt8), ss.Perm (strKeys D0) ∧ J ss W' := by
  have mixed := L.mixed; have t0 := L.t0; have a0 := L.a0; have z0 := L.z0; have v0 := L.v0; have t4 := L.t4; have a4 := L.a4; have z4 := L.z4; have v4 := L.v4; have t23 := L.t23; have a23 := L.a23; have z23 := L.z23; have v23 := L.v23; have t26 := L.t26; have a26 := L.a26; have z26 := L.z26; have v26 := L.v26; have t33 := L.t33; have a33 := L.a33; have z33 := L.z33; have v33 := L.v33
  have u0 := run_underlying L.t0; have u4 := run_underlying L.t4; have u23 := run_underlying L.t23; have u26 := run_underlying L.t26; have u33 := run_underlying L.t33
  obtain ⟨_, _, FG⟩ := L.f10
  refine callsIn_of_wp FG rfl h10 ?_ hro
  simp only [SlBodyZ.n10_ntmps ρ, List.size_toArray, List.length_cons, List.length_nil, Nat.reduceAdd, Nat.reduceSub, Array.replicate_succ, Array.replicate_zero, List.push_toArray, List.append_toArray, List.nil_append, List.cons_append]
  gi_wp2_with (first
    | (gi_at_range; refine wpListIn_range_own _ rfl _ (ρ.t 23) rfl (ρ.t 26) (ρ.t 3) (string_keyed L.t26) L.t23 _ b nn _ rfl hown ?_; intro w0 hrg0 hg0 hs0)
    | gi_in)
  go_frame
  gi_loopw [3] (fun _ wr => ∃ (left : Lit → Bool) (cnt : Nat) (ss : List (List UInt8)), wr.ranges P (ρ.t 26) R b W.heap.size nn D0 left cnt ∧ ss.length + cnt ≤ Maps.size D0 ∧ Collected D0 left ss ∧ J ss wr)
    (fun _ wr => wr.rangeLeft b W.heap.size)
  case atStart =>
    exact ⟨_, _, [], hrg0, by simp, Collected.start D0, hJ [] W w0 none h0 hg0 (fun r e => by cases e)⟩
  case round =>
    obtain ⟨left, cnt, ss, hrg, hcs, hC, hJs⟩ := hrel
    gi_wp2_with (first
      | (gi_at_next; refine wpListIn_next_ranges _ rfl _ rfl (ρ.t 26) (string_keyed L.t26) R encStr id (fun key kl hk => by obtain ⟨x, hx, _⟩ := Maps.keyOf_str L.t26 hk; exact ⟨x, hx⟩) (fun v _ _ => ⟨v, rfl⟩) b W.heap.size nn _ _ _ rfl hrg ?_ ?_)
      | gi_in)
    ·
      intro hc0 hl0
      gi_wp2
      go_end0
      exact ⟨⟨_, rfl⟩, ss, hC.perm hown (string_keyed L.t26) L.t26 hl0, hJs⟩
    ·
      intro x c kl yd yp w2 cnt2 hkey hlk hv hat hrg2 hlt hg2 hs2 hen
      obtain ⟨x', ex, rfl, _⟩ := Maps.keyOf_str L.t26 hkey
      obtain rfl : x = x' := encStr_inj ex
      have hJ2 : J ss w2 := hJ ss wr w2 (some W.heap.size) hJs hg2 (fun r e => by cases e; exact ⟨Nat.le_refl _, hrg.iter_walk⟩)
      obtain ⟨fn, tmps, assign, body, hy, hR⟩ := hY ss x w2 hJ2 (by omega)
      clear hs2
      gi_wp2
      refine hR.mono ?_
      rintro e W3 ⟨rfl, hJ3, hk3⟩
      gi_wp2
      have hrg3 := hrg2.of_walks hk3
      go_roundw
      case rel => exact ⟨_, cnt2, ss ++ [x], hrg3, by simp; omega, hC.step hlk hat, hJ3⟩
      case measure => rw [hrg3.left_eq, hrg.left_eq]; exact hlt

theorem Ks0.keys_gives (L : KeyLay0 P ρ) {H : Type} (F : Fence) (n : Nat) (h10 : F.fn (ρ.f 10)) (hro : F.round = none) (hn : 1 ≤ n) (Bm Om b nn : Nat) (D0 : DataW H) {R : Value → Option (DataW H × List MemPlace)} (w : World) (hBm : Bm < w.heap.size)
    (hm : w.cell? ⟨Bm, Om, none⟩ = some (.map (some b))) (hown : w.ownsMap P (ρ.t 26) R b nn D0) :
    SeqGives F n P (ρ.f 10) #[.pointer (some ⟨Bm, Om, none⟩)] encStr (fun ss => ss.Perm (strKeys D0)) (Maps.size D0) w := fun l J W hW hJ hY h0 => by
  have hown' : W.ownsMap P (ρ.t 26) R b nn D0 := by
    have hbl := hown.lt
    obtain ⟨es, clock, hb, Ft, hs, hD⟩ := hown
    exact ⟨es, clock, (hW.block b hbl).trans hb, Ft, hs, hD⟩
  exact Ks0.keys1N_in L F n h10 hro hn l Bm Om b nn D0 J hY W hJ ((hW.cell (p := ⟨Bm, Om, none⟩) hBm).trans hm) hown' h0

set_option maxRecDepth 100000 in
set_option maxHeartbeats 2000000 in
theorem Ks0.sorted_in (L : KeyLay0 P ρ) (F : Fence) (n : Nat) (h6 : F.fn (ρ.f 6)) (h8 : F.fn (ρ.f 8)) (h9 : F.fn (ρ.f 9)) (h11 : F.fn (ρ.f 11)) (hro : F.round = none) (hn : 4 ≤ n)
    (hnil : ∀ W : World, CallsIn F (n - 1) P (ρ.f 9) #[.slice none 0 0] W fun e w' => e = .returned (.tuple #[]) ∧ Below W.heap.size W w')
    (e9 : ∀ args w, (callFunc (ρ.f 9) args).run P w = .ok (.enter (ρ.f 9) args) w) (g : Nat) (lb : Array Value) (hFg : F.fn g) (eg : ∀ args w, (callFunc g args).run P w = .ok (.enter g args) w)
    (w : World) (hseq : SeqGives F (n - 1 - 1 - 1) P g lb encStr (fun ss => ss.Perm []) 0 w) :
    CallsIn F n P (ρ.f 6) #[.func (.func g) #[] lb] w fun e w' => e = .returned (.slice none 0 0) ∧ Below w.heap.size w w' := by
  have h1 : 1 ≤ n := by omega
  have e8 : ∀ args w, (callFunc (ρ.f 8) args).run P w = .ok (.enter (ρ.f 8) args) w := L.f8.enters rfl
  have mixed := L.mixed; have t0 := L.t0; have a0 := L.a0; have z0 := L.z0; have v0 := L.v0; have t24 := L.t24; have a24 := L.a24; have z24 := L.z24; have v24 := L.v24; have t26 := L.t26; have a26 := L.a26; have z26 := L.z26; have v26 := L.v26; have t28 := L.t28; have a28 := L.a28; have z28 := L.z28; have v28 := L.v28
  have u0 := run_underlying L.t0; have u24 := run_underlying L.t24; have u26 := run_underlying L.t26; have u28 := run_underlying L.t28
  obtain ⟨_, _, FG⟩ := L.f6
  refine callsIn_of_wp FG rfl h6 ?_ hro
  simp only [SlBodyZ.n6_ntmps ρ, List.size_toArray, List.length_cons, List.length_nil, Nat.reduceAdd, Nat.reduceSub, Array.replicate_succ, Array.replicate_zero, List.push_toArray, List.append_toArray, List.nil_append, List.cons_append]
  gi_wp2_with (gi_at_fn (ρ.f 8); refine (AnyZ.collect_in { L with } F (n - 1) h8 h11 hro (by omega) g lb hFg eg _ 0 (by decide) (by decide) _ hseq).mono ?_; rintro e W ⟨v, ss, rfl, hS, hrow, hnil', hb⟩)
  have hss : ss = [] := List.Perm.eq_nil hS
  have hv := hnil'.2 hss
  subst hss
  subst hv
  gi_wp2_with (gi_at_fn (ρ.f 9); refine (hnil W).mono ?_; rintro e w' ⟨rfl, hb2⟩)
  go_ret
  exact ⟨rfl, hb.trans (hb2.mono hb.size)⟩

end Go.Proofs

namespace Go.Lx
noncomputable section
open Go.Proofs Go.Maps Go.RowKit Go.Shelf
open Go.MapKept (Stamped)

def sorted0Map : Ob → M V
  | .map [] _ => Lx.ret .nilslice
  | _ => err "sorted: keys of another kind"

def sorted0Box : List V → M V
  | [.map r] => Lx.bnd (getO r) sorted0Map
  | _ => err "sorted: no box"

/-- slices.Sorted over the keys of a map that holds nothing -/
def sorted0M (fK : FuncId) : List V → M V
  | [.func f [] [.ptr b o]] => bif Nat.beq f fK then Lx.bnd (ld b o 1) sorted0Box else err "sorted: another iterator"
  | _ => err "sorted: arguments"

theorem local_sorted0Map (ob : Ob) : Local (sorted0Map ob) := by
  unfold sorted0Map
  split
  · exact Local.ret _
  · exact Local.err _

theorem local_sorted0Box (cs : List V) : Local (sorted0Box cs) := by
  unfold sorted0Box
  split
  · exact Local.bnd (Local.getO _) fun _ => local_sorted0Map _
  · exact Local.err _

theorem local_sorted0M {fK : FuncId} (vs : List V) : Local (sorted0M fK vs) := by
  unfold sorted0M
  split
  · exact Local.cond (Local.bnd (Local.ld _ _ _) fun _ => local_sorted0Box _) (Local.err _)
  · exact Local.err _

theorem sorted0M_inv {fK : FuncId} {vs : List V} {s s' : St} {v : V} (h : sorted0M fK vs s = .ok v s') : ∃ f b o, vs = [.func f [] [.ptr b o]] ∧ (bif Nat.beq f fK then Lx.bnd (ld b o 1) sorted0Box else err "sorted: another iterator") s = .ok v s' := by
  cases vs with
  | nil => exact (noR h).elim
  | cons x l => cases l with
    | cons y l => cases x <;> first | exact (noR h).elim | (rename_i f xs ys; cases xs <;> first | exact (noR h).elim | (cases ys <;> first | exact (noR h).elim | (rename_i z zs; cases z <;> cases zs <;> exact (noR h).elim)))
    | nil =>
      cases x <;> try exact (noR h).elim
      rename_i f xs ys
      cases xs with
      | cons a xs => exact (noR h).elim
      | nil => cases ys with
        | nil => exact (noR h).elim
        | cons y ys => cases ys with
          | cons z ys => cases y <;> exact (noR h).elim
          | nil =>
            cases y <;> try exact (noR h).elim
            exact ⟨_, _, _, rfl, h⟩

theorem sorted0Box_inv {cs : List V} {s s' : St} {v : V} (h : sorted0Box cs s = .ok v s') : ∃ r, cs = [.map r] ∧ Lx.bnd (getO r) sorted0Map s = .ok v s' := by
  cases cs with
  | nil => exact (noR h).elim
  | cons x l => cases l with
    | cons y l => cases x <;> exact (noR h).elim
    | nil =>
      cases x <;> try exact (noR h).elim
      exact ⟨_, rfl, h⟩

theorem sorted0Map_inv {ob : Ob} {s s' : St} {v : V} (h : sorted0Map ob s = .ok v s') : ∃ clock, ob = .map [] clock ∧ (Lx.ret .nilslice : M V) s = .ok v s' := by
  cases ob <;> try exact (noR h).elim
  rename_i es clock
  cases es with
  | nil => exact ⟨_, rfl, h⟩
  | cons e es => exact (noR h).elim

variable {ρ : Ren}

theorem sorted0_world (c : Cfg) (hm : c.P.follows .mixedOrders = true) (hs : SumOk c) (hng : c.gl = .leaf) (L : KeyLay0 c.P ρ) (hsu : c.sum (ρ.f 9) = none) (e9 : Enters c.P (ρ.f 9))
    {n : Nat} (hnil : nilRun c (n + 1) (ρ.f 9) = true) {Bm Om b clock : Nat} {w : World} (hBm : Bm < w.heap.size) (hbox : w.cell? ⟨Bm, Om, none⟩ = some (.map (some b))) (hb : w.heap[b]? = some (.map ⟨[]⟩ clock)) :
    Calls c.P (ρ.f 6) #[.func (.func (ρ.f 10)) #[] #[.pointer (some ⟨Bm, Om, none⟩)]] w fun e w' => e = .returned (.slice none 0 0) ∧ Below w.heap.size w w' := by
  have hown : w.ownsMap c.P (ρ.t 26) (fun _ => some ((.nil : DataW Unit), [])) b 0 (.map []) :=
    ⟨⟨[]⟩, clock, hb, ⟨by simp, ⟨by simp, by simp, by simp⟩, by simp⟩, by simp, rfl⟩
  have hseq := Ks0.keys_gives L Fence.wide 7 trivial rfl (by omega) Bm Om b 0 _ w hBm hbox hown
  refine callsIn_wide.1 (Ks0.sorted_in L Fence.wide 10 trivial trivial trivial trivial rfl (by omega) (fun W => callsIn_wide.2 ?_) e9 (ρ.f 10) #[.pointer (some ⟨Bm, Om, none⟩)] trivial (L.f10.enters rfl) w hseq)
  unfold nilRun at hnil
  cases hr : callM c (n + 1) (ρ.f 9) [.nilslice] st0 with
  | fail x => rw [hr] at hnil; cases hnil
  | ok v s =>
    rw [hr] at hnil
    cases v <;> try (cases hnil; done)
    rename_i l
    cases l with
    | cons x l => cases hnil
    | nil =>
      refine (callM_calls c hm hs (μ := fun _ => none) (ν := fun _ => undef) (rs := [.slice none 0 0]) hr hsu rel_empty (fun _ _ _ => rfl) (by rw [hng]; exact Globs.none) (.cons .nilslice .nil)).mono ?_
      rintro e w' ⟨r, rfl, μ', hv, st⟩
      cases hv with
      | tuple hv => cases hv; exact ⟨rfl, st.os, st.tape, st.output, st.size, fun k hk => st.block k hk fun _ _ h => by cases h⟩

/-- slices.Sorted over nothing MAY STAND IN -/
theorem extSum_sorted0 (c : Cfg) (hm : c.P.follows .mixedOrders = true) (hs : SumOk c) (hng : c.gl = .leaf) (L : KeyLay0 c.P ρ) (hsu : c.sum (ρ.f 9) = none) (e9 : Enters c.P (ρ.f 9)) (e6 : Enters c.P (ρ.f 6))
    {n : Nat} (hnil : nilRun c (n + 1) (ρ.f 9) = true) (gl : T (List V)) : ExtSum c.P gl (ρ.f 6) (sorted0M (ρ.f 10)) := by
  refine ⟨local_sorted0M, ?_⟩
  intro vs v s s' w μ ν rs hg hr hf _ hv
  obtain ⟨f, b, o, rfl, hgg⟩ := sorted0M_inv hg
  cases hfb : Nat.beq f (ρ.f 10)
  · rw [hfb, cond_false] at hgg; exact (err_ok hgg).elim
  rw [hfb, cond_true] at hgg
  have hff := Nat.eq_of_beq_eq_true hfb
  subst hff
  obtain ⟨cs, s1, g1, g2'⟩ := bnd_ok hgg
  obtain ⟨cl, hk, hlen, rfl, rfl⟩ := ld_ok g1
  obtain ⟨r, heq, g2⟩ := sorted0Box_inv g2'
  obtain ⟨ob, s2, g3, g4'⟩ := bnd_ok g2
  obtain ⟨hk2, _, rfl⟩ := getO_ok g3
  obtain ⟨clock, rfl, g4⟩ := sorted0Map_inv g4'
  obtain ⟨rfl, rfl⟩ := ret_ok g4
  cases hv with
  | cons hv hv0 =>
  cases hv0
  cases hv with
  | func hx hy =>
  cases hx
  cases hy with
  | cons hy hy0 =>
  cases hy0
  cases hy with
  | ptr hp =>
  rename_i p
  obtain ⟨rc, et, frz, k1, k5⟩ := row_rel hr hk hp
  have hthere := (Array.getElem?_eq_some_iff.1 k1).1
  have hcell : cl[o]? = some (.map r) := by
    have : (sub cl o 1)[0]? = some (.map r) := by rw [heq]; rfl
    rw [sub_get (by omega)] at this
    simpa using this
  obtain ⟨rv, k6, k7⟩ := k5 o _ hcell
  cases k7 with
  | map hq =>
  rename_i q
  obtain ⟨q', hq', hob2⟩ := hr.ob r _ hk2
  rw [hq] at hq'
  cases hq'
  obtain ⟨res, m1, m2⟩ := hob2
  cases m2
  have hbox : w.cell? ⟨p.blk, p.off + o, none⟩ = some (.map (some q.blk)) := by rw [cell_at k1]; exact k6
  refine .inl ⟨e6 _ _, (sorted0_world c hm hs hng L hsu e9 hnil hthere hbox m1).mono ?_⟩
  rintro e w' ⟨rfl, hb⟩
  exact ⟨_, rfl, μ, .nilslice, StepOk.below hr hb⟩

end
end Go.Lx
