/-
  Several texts, joined.
-/
import Derived.Test.YthhdkonpejmgcaaGreatDoorLy1
import Derived.Test.YthhdkonpejmgcaaGreatDoorLy2
/-
  slices.Sorted over maps.Keys of a map with keys of a string's kind that holds nothing: one function of the machine.
-/
set_option linter.unusedSimpArgs false
set_option linter.unusedVariables false
namespace Go.Proofs
open Go.RowKit Go.Maps Go.Sort Go.Shelf
structure KeyLay0 (P : Program) (ρ : Ren) : Prop where
  mixed : P.follows .mixedOrders = true
  f6 : Bears P (ρ.f 6) (SlBodyZ.n6 ρ)
  f8 : Bears P (ρ.f 8) (SlBodyZ.n8 ρ)
  f10 : Bears P (ρ.f 10) (SlBodyZ.n10 ρ)
  f11 : Bears P (ρ.f 11) (SlBodyZ.n11 ρ)
  t0 : P.underlying (ρ.t 0) = some (TypeDesc.tuple #[])
  a0 : ∀ w, (isAgg (ρ.t 0)).run P w = .ok false w
  z0 : ∀ w, (Go.sizeOf (ρ.t 0)).run P w = .ok 1 w
  v0 : ∀ w, (zeroValue (ρ.t 0)).run P w = .ok (Value.tuple #[]) w
  t4 : P.underlying (ρ.t 4) = some (TypeDesc.bool)
  a4 : ∀ w, (isAgg (ρ.t 4)).run P w = .ok false w
  z4 : ∀ w, (Go.sizeOf (ρ.t 4)).run P w = .ok 1 w
  v4 : ∀ w, (zeroValue (ρ.t 4)).run P w = .ok (Value.bool false) w
  t23 : P.underlying (ρ.t 23) = some (TypeDesc.map (ρ.t 26) (ρ.t 3))
  a23 : ∀ w, (isAgg (ρ.t 23)).run P w = .ok false w
  z23 : ∀ w, (Go.sizeOf (ρ.t 23)).run P w = .ok 1 w
  v23 : ∀ w, (zeroValue (ρ.t 23)).run P w = .ok (Value.map none) w
  t24 : P.underlying (ρ.t 24) = some (TypeDesc.slice (ρ.t 26))
  a24 : ∀ w, (isAgg (ρ.t 24)).run P w = .ok false w
  z24 : ∀ w, (Go.sizeOf (ρ.t 24)).run P w = .ok 1 w
  v24 : ∀ w, (zeroValue (ρ.t 24)).run P w = .ok (Value.slice none 0 0) w
  t26 : P.underlying (ρ.t 26) = some (TypeDesc.string)
  a26 : ∀ w, (isAgg (ρ.t 26)).run P w = .ok false w
  z26 : ∀ w, (Go.sizeOf (ρ.t 26)).run P w = .ok 1 w
  v26 : ∀ w, (zeroValue (ρ.t 26)).run P w = .ok (Value.string { data := #[] }) w
  t28 : P.underlying (ρ.t 28) = some (TypeDesc.func #[ρ.t 33] #[] false)
  a28 : ∀ w, (isAgg (ρ.t 28)).run P w = .ok false w
  z28 : ∀ w, (Go.sizeOf (ρ.t 28)).run P w = .ok 1 w
  v28 : ∀ w, (zeroValue (ρ.t 28)).run P w = .ok (Value.nilFunc) w
  t33 : P.underlying (ρ.t 33) = some (TypeDesc.func #[ρ.t 26] #[ρ.t 4] false)
  a33 : ∀ w, (isAgg (ρ.t 33)).run P w = .ok false w
  z33 : ∀ w, (Go.sizeOf (ρ.t 33)).run P w = .ok 1 w
  v33 : ∀ w, (zeroValue (ρ.t 33)).run P w = .ok (Value.nilFunc) w
  i26 : (P.info? (ρ.t 26)).map (fun i => (i.zero, i.size, i.bytes)) = some (some (.string ⟨#[]⟩), 1, 16)

variable {P : Program} {ρ : Ren}

set_option maxRecDepth 100000 in
set_option maxHeartbeats 1000000 in
theorem Ks0.keys1N_in (L : KeyLay0 P ρ) {H : Type} (F : Fence) (n : Nat) (h10 : F.fn (ρ.f 10)) (hro : F.round = none) (hn : 1 ≤ n) (l Bm Om b nn : Nat) (D0 : DataW H) {R : Value → Option (DataW H × List MemPlace)} (J : List (List UInt8) → World → Prop)
    (hY : ∀ pre x W, J pre W → pre.length < Maps.size D0 → YieldAt F (n - 1) P l #[encStr x] W fun e W' => e = .returned (.bool true) ∧ J (pre ++ [x]) W' ∧ KeepsWalks W W')
    (W : World) (hJ : AbidesFrom W.heap.size J) (hm : W.cell? ⟨Bm, Om, none⟩ = some (.map (some b))) (hown : W.ownsMap P (ρ.t 26) R b nn D0) (h0 : J [] W) :
    CallsIn F n P (ρ.f 10) #[.func (.yield l) #[] #[], .pointer (some ⟨Bm, Om, none⟩)] W fun e W' => (∃ v, e = .returned v) ∧ ∃ ss : List (List UInt8), ss.Perm (strKeys D0) ∧ J ss W' := by
  have mixed := L.mixed; have t0 := L.t0; have a0 := L.a0; have z0 := L.z0; have v0 := L.v0; have t4 := L.t4; have a4 := L.a4; have z4 := L.z4; have v4 := L.v4; have t23 := L.t23; have a23 := L.a23; have z23 := L.z23; have v23 := L.v23; have t26 := L.t26; have a26 := L.a26; have z26 := L.z26; have v26 := L.v26; have t33 := L.t33; have a33 := L.a33; have z33 := L.z33; have v33 := L.v33
  have u0 := run_underlying L.t0; have u4 := run_underlying L.t4; have u23 := run_underlying L.t23; have u26 := run_underlying L.t26; have u33 := run_underlying L.t33
  obtain ⟨_, _, FG⟩ := L.f10
  refine callsIn_of_wp FG rfl h10 ?_ hro
  simp only [SlBodyZ.n10_ntmps ρ, List.size_toArray, List.length_cons, List.length_nil, Nat.reduceAdd, Nat.reduceSub, Array.replicate_succ, Array.replicate_zero, List.push_toArray, List.append_toArray, List.nil_append, List.cons_append]
  gi_wp2_with (first
    | (gi_at_range; refine wpListIn_range_own _ rfl _ (ρ.t 23) rfl (ρ.t 26) (ρ.t 3) (string_keyed L.t26) L.t23 _ b nn _ rfl hown ?_; intro w0 hrg0 hg0 hs0)
    | gi_in)
  go_frame
  gi_loopw [3] (fun _ wr => ∃ (left : Lit → Bool) (cnt : Nat) (ss : List (List UInt8)), wr.ranges P (ρ.t 26) R b W.heap.size nn D0 left cnt ∧ ss.length + cnt ≤ Maps.size D0 ∧ Collected D0 left ss ∧ J ss wr)
    (fun _ wr => wr.rangeLeft b W.heap.size)
  case atStart =>
    exact ⟨_, _, [], hrg0, by simp, Collected.start D0, hJ [] W w0 none h0 hg0 (fun r e => by cases e)⟩
  case round =>
    obtain ⟨left, cnt, ss, hrg, hcs, hC, hJs⟩ := hrel
    gi_wp2_with (first
      | (gi_at_next; refine wpListIn_next_ranges _ rfl _ rfl (ρ.t 26) (string_keyed L.t26) R encStr id (fun key kl hk => by obtain ⟨x, hx, _⟩ := Maps.keyOf_str L.t26 hk; exact ⟨x, hx⟩) (fun v _ _ => ⟨v, rfl⟩) b W.heap.size nn _ _ _ rfl hrg ?_ ?_)
      | gi_in)
    ·
      intro hc0 hl0
      gi_wp2
      go_end0
      exact ⟨⟨_, rfl⟩, ss, hC.perm hown (string_keyed L.t26) L.t26 hl0, hJs⟩
    ·
      intro x c kl yd yp w2 cnt2 hkey hlk hv hat hrg2 hlt hg2 hs2 hen
      obtain ⟨x', ex, rfl, _⟩ := Maps.keyOf_str L.t26 hkey
      obtain rfl : x = x' := encStr_inj ex
      have hJ2 : J ss w2 := hJ ss wr w2 (some W.heap.size) hJs hg2 (fun r e => by cases e; exact ⟨Nat.le_refl _, hrg.iter_walk⟩)
      obtain ⟨fn, tmps, assign, body, hy, hR⟩ := hY ss x w2 hJ2 (by omega)
      clear hs2
      gi_wp2
      refine hR.mono ?_
      rintro e W3 ⟨rfl, hJ3, hk3⟩
      gi_wp2
      have hrg3 := hrg2.of_walks hk3
      go_roundw
      case rel => exact ⟨_, cnt2, ss ++ [x], hrg3, by simp; omega, hC.step hlk hat, hJ3⟩
      case measure => rw [hrg3.left_eq, hrg.left_eq]; exact hlt

theorem Ks0.keys_gives (L : KeyLay0 P ρ) {H : Type} (F : Fence) (n : Nat) (h10 : F.fn (ρ.f 10)) (hro : F.round = none) (hn : 1 ≤ n) (Bm Om b nn : Nat) (D0 : DataW H) {R : Value → Option (DataW H × List MemPlace)} (w : World) (hBm : Bm < w.heap.size)
    (hm : w.cell? ⟨Bm, Om, none⟩ = some (.map (some b))) (hown : w.ownsMap P (ρ.t 26) R b nn D0) :
    SeqGives F n P (ρ.f 10) #[.pointer (some ⟨Bm, Om, none⟩)] encStr (fun ss => ss.Perm (strKeys D0)) (Maps.size D0) w := fun l J W hW hJ hY h0 => by
  have hown' : W.ownsMap P (ρ.t 26) R b nn D0 := by
    have hbl := hown.lt
    obtain ⟨es, clock, hb, Ft, hs, hD⟩ := hown
    exact ⟨es, clock, (hW.block b hbl).trans hb, Ft, hs, hD⟩
  exact Ks0.keys1N_in L F n h10 hro hn l Bm Om b nn D0 J hY W hJ ((hW.cell (p := ⟨Bm, Om, none⟩) hBm).trans hm) hown' h0

set_option maxRecDepth 100000 in
set_option maxHeartbeats 2000000 in
theorem Ks0.sorted_in (L : KeyLay0 P ρ) (F : Fence) (n : Nat) (h6 : F.fn (ρ.f 6)) (h8 : F.fn (ρ.f 8)) (h9 : F.fn (ρ.f 9)) (h11 : F.fn (ρ.f 11)) (hro : F.round = none) (hn : 4 ≤ n)
    (hnil : ∀ W : World, CallsIn F (n - 1) P (ρ.f 9) #[.slice none 0 0] W fun e w' => e = .returned (.tuple #[]) ∧ Below W.heap.size W w')
    (e9 : ∀ args w, (callFunc (ρ.f 9) args).run P w = .ok (.enter (ρ.f 9) args) w) (g : Nat) (lb : Array Value) (hFg : F.fn g) (eg : ∀ args w, (callFunc g args).run P w = .ok (.enter g args) w)
    (w : World) (hseq : SeqGives F (n - 1 - 1 - 1) P g lb encStr (fun ss => ss.Perm []) 0 w) :
    CallsIn F n P (ρ.f 6) #[.func (.func g) #[] lb] w fun e w' => e = .returned (.slice none 0 0) ∧ Below w.heap.size w w' := by
  have h1 : 1 ≤ n := by omega
  have e8 : ∀ args w, (callFunc (ρ.f 8) args).run P w = .ok (.enter (ρ.f 8) args) w := L.f8.enters rfl
  have mixed := L.mixed; have t0 := L.t0; have a0 := L.a0; have z0 := L.z0; have v0 := L.v0; have t24 := L.t24; have a24 := L.a24; have z24 := L.z24; have v24 := L.v24; have t26 := L.t26; have a26 := L.a26; have z26 := L.z26; have v26 := L.v26; have t28 := L.t28; have a28 := L.a28; have z28 := L.z28; have v28 := L.v28
  have u0 := run_underlying L.t0; have u24 := run_underlying L.t24; have u26 := run_underlying L.t26; have u28 := run_underlying L.t28
  obtain ⟨_, _, FG⟩ := L.f6
  refine callsIn_of_wp FG rfl h6 ?_ hro
  simp only [SlBodyZ.n6_ntmps ρ, List.size_toArray, List.length_cons, List.length_nil, Nat.reduceAdd, Nat.reduceSub, Array.replicate_succ, Array.replicate_zero, List.push_toArray, List.append_toArray, List.nil_append, List.cons_append]
  gi_wp2_with (gi_at_fn (ρ.f 8); refine (AnyZ.collect_in { L with } F (n - 1) h8 h11 hro (by omega) g lb hFg eg _ 0 (by decide) (by decide) _ hseq).mono ?_; rintro e W ⟨v, ss, rfl, hS, hrow, hnil', hb⟩)
  have hss : ss = [] := List.Perm.eq_nil hS
  have hv := hnil'.2 hss
  subst hss
  subst hv
  gi_wp2_with (gi_at_fn (ρ.f 9); refine (hnil W).mono ?_; rintro e w' ⟨rfl, hb2⟩)
  go_ret
  exact ⟨rfl, hb.trans (hb2.mono hb.size)⟩

end Go.Proofs

namespace Go.Lx
noncomputable section
open Go.Proofs Go.Maps Go.RowKit Go.Shelf
open Go.MapKept (Stamped)

def sorted0Map : Ob → M V
  | .map [] _ => Lx.ret .nilslice
  | _ => err "sorted: keys of another kind"

def sorted0Box : List V → M V
  | [.map r] => Lx.bnd (getO r) sorted0Map
  | _ => err "sorted: no box"
def sorted0M (fK : FuncId) : List V → M V
  | [.func f [] [.ptr b o]] => bif Nat.beq f fK then Lx.bnd (ld b o 1) sorted0Box else err "sorted: another iterator"
  | _ => err "sorted: arguments"

theorem local_sorted0Map (ob : Ob) : Local (sorted0Map ob) := by
  unfold sorted0Map
  split
  · exact Local.ret _
  · exact Local.err _

theorem local_sorted0Box (cs : List V) : Local (sorted0Box cs) := by
  unfold sorted0Box
  split
  · exact Local.bnd (Local.getO _) fun _ => local_sorted0Map _
  · exact Local.err _

theorem local_sorted0M {fK : FuncId} (vs : List V) : Local (sorted0M fK vs) := by
  unfold sorted0M
  split
  · exact Local.cond (Local.bnd (Local.ld _ _ _) fun _ => local_sorted0Box _) (Local.err _)
  · exact Local.err _

theorem sorted0M_inv {fK : FuncId} {vs : List V} {s s' : St} {v : V} (h : sorted0M fK vs s = .ok v s') : ∃ f b o, vs = [.func f [] [.ptr b o]] ∧ (bif Nat.beq f fK then Lx.bnd (ld b o 1) sorted0Box else err "sorted: another iterator") s = .ok v s' := by
  cases vs with
  | nil => exact (noR h).elim
  | cons x l => cases l with
    | cons y l => cases x <;> first | exact (noR h).elim | (rename_i f xs ys; cases xs <;> first | exact (noR h).elim | (cases ys <;> first | exact (noR h).elim | (rename_i z zs; cases z <;> cases zs <;> exact (noR h).elim)))
    | nil =>
      cases x <;> try exact (noR h).elim
      rename_i f xs ys
      cases xs with
      | cons a xs => exact (noR h).elim
      | nil => cases ys with
        | nil => exact (noR h).elim
        | cons y ys => cases ys with
          | cons z ys => cases y <;> exact (noR h).elim
          | nil =>
            cases y <;> try exact (noR h).elim
            exact ⟨_, _, _, rfl, h⟩

theorem sorted0Box_inv {cs : List V} {s s' : St} {v : V} (h : sorted0Box cs s = .ok v s') : ∃ r, cs = [.map r] ∧ Lx.bnd (getO r) sorted0Map s = .ok v s' := by
  cases cs with
  | nil => exact (noR h).elim
  | cons x l => cases l with
    | cons y l => cases x <;> exact (noR h).elim
    | nil =>
      cases x <;> try exact (noR h).elim
      exact ⟨_, rfl, h⟩

theorem sorted0Map_inv {ob : Ob} {s s' : St} {v : V} (h : sorted0Map ob s = .ok v s') : ∃ clock, ob = .map [] clock ∧ (Lx.ret .nilslice : M V) s = .ok v s' := by
  cases ob <;> try exact (noR h).elim
  rename_i es clock
  cases es with
  | nil => exact ⟨_, rfl, h⟩
  | cons e es => exact (noR h).elim

variable {ρ : Ren}

theorem sorted0_world (c : Cfg) (hm : c.P.follows .mixedOrders = true) (hs : SumOk c) (hng : c.gl = .leaf) (L : KeyLay0 c.P ρ) (hsu : c.sum (ρ.f 9) = none) (e9 : Enters c.P (ρ.f 9))
    {n : Nat} (hnil : nilRun c (n + 1) (ρ.f 9) = true) {Bm Om b clock : Nat} {w : World} (hBm : Bm < w.heap.size) (hbox : w.cell? ⟨Bm, Om, none⟩ = some (.map (some b))) (hb : w.heap[b]? = some (.map ⟨[]⟩ clock)) :
    Calls c.P (ρ.f 6) #[.func (.func (ρ.f 10)) #[] #[.pointer (some ⟨Bm, Om, none⟩)]] w fun e w' => e = .returned (.slice none 0 0) ∧ Below w.heap.size w w' := by
  have hown : w.ownsMap c.P (ρ.t 26) (fun _ => some ((.nil : DataW Unit), [])) b 0 (.map []) :=
    ⟨⟨[]⟩, clock, hb, ⟨by simp, ⟨by simp, by simp, by simp⟩, by simp⟩, by simp, rfl⟩
  have hseq := Ks0.keys_gives L Fence.wide 7 trivial rfl (by omega) Bm Om b 0 _ w hBm hbox hown
  refine callsIn_wide.1 (Ks0.sorted_in L Fence.wide 10 trivial trivial trivial trivial rfl (by omega) (fun W => callsIn_wide.2 ?_) e9 (ρ.f 10) #[.pointer (some ⟨Bm, Om, none⟩)] trivial (L.f10.enters rfl) w hseq)
  unfold nilRun at hnil
  cases hr : callM c (n + 1) (ρ.f 9) [.nilslice] st0 with
  | fail x => rw [hr] at hnil; cases hnil
  | ok v s =>
    rw [hr] at hnil
    cases v <;> try (cases hnil; done)
    rename_i l
    cases l with
    | cons x l => cases hnil
    | nil =>
      refine (callM_calls c hm hs (μ := fun _ => none) (ν := fun _ => undef) (rs := [.slice none 0 0]) hr hsu rel_empty (fun _ _ _ => rfl) (by rw [hng]; exact Globs.none) (.cons .nilslice .nil)).mono ?_
      rintro e w' ⟨r, rfl, μ', hv, st⟩
      cases hv with
      | tuple hv => cases hv; exact ⟨rfl, st.os, st.tape, st.output, st.size, fun k hk => st.block k hk fun _ _ h => by cases h⟩
theorem extSum_sorted0 (c : Cfg) (hm : c.P.follows .mixedOrders = true) (hs : SumOk c) (hng : c.gl = .leaf) (L : KeyLay0 c.P ρ) (hsu : c.sum (ρ.f 9) = none) (e9 : Enters c.P (ρ.f 9)) (e6 : Enters c.P (ρ.f 6))
    {n : Nat} (hnil : nilRun c (n + 1) (ρ.f 9) = true) (gl : T (List V)) : ExtSum c.P gl (ρ.f 6) (sorted0M (ρ.f 10)) := by
  refine ⟨local_sorted0M, ?_⟩
  intro vs v s s' w μ ν rs hg hr hf _ hv
  obtain ⟨f, b, o, rfl, hgg⟩ := sorted0M_inv hg
  cases hfb : Nat.beq f (ρ.f 10)
  · rw [hfb, cond_false] at hgg; exact (err_ok hgg).elim
  rw [hfb, cond_true] at hgg
  have hff := Nat.eq_of_beq_eq_true hfb
  subst hff
  obtain ⟨cs, s1, g1, g2'⟩ := bnd_ok hgg
  obtain ⟨cl, hk, hlen, rfl, rfl⟩ := ld_ok g1
  obtain ⟨r, heq, g2⟩ := sorted0Box_inv g2'
  obtain ⟨ob, s2, g3, g4'⟩ := bnd_ok g2
  obtain ⟨hk2, _, rfl⟩ := getO_ok g3
  obtain ⟨clock, rfl, g4⟩ := sorted0Map_inv g4'
  obtain ⟨rfl, rfl⟩ := ret_ok g4
  cases hv with
  | cons hv hv0 =>
  cases hv0
  cases hv with
  | func hx hy =>
  cases hx
  cases hy with
  | cons hy hy0 =>
  cases hy0
  cases hy with
  | ptr hp =>
  rename_i p
  obtain ⟨rc, et, frz, k1, k5⟩ := row_rel hr hk hp
  have hthere := (Array.getElem?_eq_some_iff.1 k1).1
  have hcell : cl[o]? = some (.map r) := by
    have : (sub cl o 1)[0]? = some (.map r) := by rw [heq]; rfl
    rw [sub_get (by omega)] at this
    simpa using this
  obtain ⟨rv, k6, k7⟩ := k5 o _ hcell
  cases k7 with
  | map hq =>
  rename_i q
  obtain ⟨q', hq', hob2⟩ := hr.ob r _ hk2
  rw [hq] at hq'
  cases hq'
  obtain ⟨res, m1, m2⟩ := hob2
  cases m2
  have hbox : w.cell? ⟨p.blk, p.off + o, none⟩ = some (.map (some q.blk)) := by rw [cell_at k1]; exact k6
  refine .inl ⟨e6 _ _, (sorted0_world c hm hs hng L hsu e9 hnil hthere hbox m1).mono ?_⟩
  rintro e w' ⟨rfl, hb⟩
  exact ⟨_, rfl, μ, .nilslice, StepOk.below hr hb⟩

end
end Go.Lx

/-
  A call that was run by itself out of the blocks that it looks at: what it gave, and how it left them, may stand in for it; what nobody holds behind it is let go.
-/
set_option linter.unusedSimpArgs false
set_option linter.unusedVariables false
set_option linter.unusedSectionVars false
namespace Go.Lx
open Go.Shelf Go.Proofs
noncomputable section

mutual
def eqV : V → V → Bool
  | .bool a, .bool b => decide (a = b)
  | .int k a, .int k' b => decide (k = k') && decide (a = b)
  | .str a, .str b => eqNats a b
  | .ptr a o, .ptr b o' => Nat.beq a b && Nat.beq o o'
  | .nilptr, .nilptr => true
  | .slice b o n c, .slice b' o' n' c' => Nat.beq b b' && Nat.beq o o' && Nat.beq n n' && Nat.beq c c'
  | .nilslice, .nilslice => true
  | .map r, .map r' => Nat.beq r r'
  | .nilmap, .nilmap => true
  | .func f a b, .func g a' b' => Nat.beq f g && eqVs a a' && eqVs b b'
  | .nilfunc, .nilfunc => true
  | .iface t v, .iface t' v' => Nat.beq t t' && eqV v v'
  | .nilIface, .nilIface => true
  | .agg a, .agg b => eqVs a b
  | .tuple a, .tuple b => eqVs a b
  | .sym i, .sym j => Nat.beq i j
  | .gptr g o, .gptr g' o' => Nat.beq g g' && Nat.beq o o'
  | _, _ => false
def eqVs : List V → List V → Bool
  | [], [] => true
  | x :: l, y :: m => eqV x y && eqVs l m
  | _, _ => false
end

mutual
theorem eqV_eq : ∀ {a b : V}, eqV a b = true → a = b
  | .bool a, b, h => by
    cases b <;> first | (simp [eqV] at h; done) | skip
    simp only [eqV, decide_eq_true_eq] at h; rw [h]
  | .int k a, b, h => by
    cases b <;> first | (simp [eqV] at h; done) | skip
    simp only [eqV, Bool.and_eq_true, decide_eq_true_eq] at h; rw [h.1, h.2]
  | .str a, b, h => by
    cases b <;> first | (simp [eqV] at h; done) | skip
    exact congrArg V.str (eqNats_iff.1 (by simpa [eqV] using h))
  | .ptr a o, b, h => by
    cases b <;> first | (simp [eqV] at h; done) | skip
    simp only [eqV, Bool.and_eq_true, Nat.beq_eq] at h; rw [h.1, h.2]
  | .nilptr, b, h => by cases b <;> first | (simp [eqV] at h; done) | rfl
  | .slice _ _ _ _, b, h => by
    cases b <;> first | (simp [eqV] at h; done) | skip
    simp only [eqV, Bool.and_eq_true, Nat.beq_eq] at h; rw [h.1.1.1, h.1.1.2, h.1.2, h.2]
  | .nilslice, b, h => by cases b <;> first | (simp [eqV] at h; done) | rfl
  | .map r, b, h => by
    cases b <;> first | (simp [eqV] at h; done) | skip
    simp only [eqV, Nat.beq_eq] at h; rw [h]
  | .nilmap, b, h => by cases b <;> first | (simp [eqV] at h; done) | rfl
  | .func f x y, b, h => by
    cases b <;> first | (simp [eqV] at h; done) | skip
    simp only [eqV, Bool.and_eq_true, Nat.beq_eq] at h
    rw [h.1.1, eqVs_eq h.1.2, eqVs_eq h.2]
  | .nilfunc, b, h => by cases b <;> first | (simp [eqV] at h; done) | rfl
  | .iface t v, b, h => by
    cases b <;> first | (simp [eqV] at h; done) | skip
    simp only [eqV, Bool.and_eq_true, Nat.beq_eq] at h
    rw [h.1, eqV_eq h.2]
  | .nilIface, b, h => by cases b <;> first | (simp [eqV] at h; done) | rfl
  | .agg a, b, h => by
    cases b <;> first | (simp [eqV] at h; done) | skip
    exact congrArg V.agg (eqVs_eq (by simpa [eqV] using h))
  | .tuple a, b, h => by
    cases b <;> first | (simp [eqV] at h; done) | skip
    exact congrArg V.tuple (eqVs_eq (by simpa [eqV] using h))
  | .sym i, b, h => by
    cases b <;> first | (simp [eqV] at h; done) | skip
    simp only [eqV, Nat.beq_eq] at h; rw [h]
  | .gptr g o, b, h => by
    cases b <;> first | (simp [eqV] at h; done) | skip
    simp only [eqV, Bool.and_eq_true, Nat.beq_eq] at h; rw [h.1, h.2]
theorem eqVs_eq : ∀ {a b : List V}, eqVs a b = true → a = b
  | [], [], _ => rfl
  | [], _ :: _, h => by simp [eqVs] at h
  | _ :: _, [], h => by simp [eqVs] at h
  | x :: l, y :: m, h => by
    simp only [eqVs, Bool.and_eq_true] at h
    rw [eqV_eq h.1, eqVs_eq h.2]
end

def eqME : List ME → List ME → Bool
  | [], [] => true
  | x :: l, y :: m => eqV x.key y.key && eqV x.val y.val && Nat.beq x.born y.born && eqME l m
  | _, _ => false
theorem eqME_eq : ∀ {a b : List ME}, eqME a b = true → a = b
  | [], [], _ => rfl
  | [], _ :: _, h => by simp [eqME] at h
  | _ :: _, [], h => by simp [eqME] at h
  | ⟨k, v, n⟩ :: l, ⟨k', v', n'⟩ :: m, h => by
    simp only [eqME, Bool.and_eq_true, Nat.beq_eq] at h
    rw [eqV_eq h.1.1.1, eqV_eq h.1.1.2, h.1.2, eqME_eq h.2]

def eqOb : Ob → Ob → Bool
  | .cells c e p, .cells c' e' p' => eqVs c c' && Nat.beq e e' && decide (p = p')
  | .map es k, .map es' k' => eqME es es' && Nat.beq k k'
  | .siter s p, .siter s' p' => eqNats s s' && Nat.beq p p'
  | .miter m s l x, .miter m' s' l' x' => decide (m = m') && Nat.beq s s' && eqNats l l' && Nat.beq x x'
  | _, _ => false
theorem eqOb_eq {a b : Ob} (h : eqOb a b = true) : a = b := by
  cases a <;> cases b <;> first | (simp [eqOb] at h; done) | skip
  · simp only [eqOb, Bool.and_eq_true, Nat.beq_eq, decide_eq_true_eq] at h
    rw [eqVs_eq h.1.1, h.1.2, h.2]
  · simp only [eqOb, Bool.and_eq_true, Nat.beq_eq] at h
    rw [eqME_eq h.1, h.2]
  · simp only [eqOb, Bool.and_eq_true, Nat.beq_eq] at h
    rw [eqNats_iff.1 h.1, h.2]
  · simp only [eqOb, Bool.and_eq_true, Nat.beq_eq, decide_eq_true_eq] at h
    rw [h.1.1.1, h.1.1.2, eqNats_iff.1 h.1.2, h.2]

def eqOo : Option Ob → Option Ob → Bool
  | none, none => true
  | some a, some b => eqOb a b
  | _, _ => false
theorem eqOo_eq {a b : Option Ob} (h : eqOo a b = true) : a = b := by
  cases a <;> cases b <;> first | (simp [eqOo] at h; done) | rfl | skip
  rename_i x y
  exact congrArg some (eqOb_eq (a := x) (b := y) (by simpa [eqOo] using h))
structure MemoS where
  next : Nat
  args : List V
  pre : List (Nat × Ob)
  val : V
  next' : Nat
  post : List (Nat × Option Ob)

def setAll {α : Type} : T α → List (Nat × Option α) → T α
  | h, [] => h
  | h, p :: l => setAll (h.set p.1 p.2) l

theorem setAll_out {α : Type} {k : Nat} : ∀ {l : List (Nat × Option α)} {h : T α}, (∀ p ∈ l, p.1 ≠ k) → (setAll h l).get k = h.get k
  | [], h, _ => rfl
  | p :: l, h, hk => by
    unfold setAll
    rw [setAll_out fun q hq => hk q (by simp [hq]), T.get_set, if_neg fun e => hk p (by simp) e.symm]

theorem setAll_in {α : Type} {k : Nat} : ∀ {l : List (Nat × Option α)}, (∃ p ∈ l, p.1 = k) → ∃ o, (k, o) ∈ l ∧ ∀ h : T α, (setAll h l).get k = o
  | [], h => by obtain ⟨p, hp, _⟩ := h; simp at hp
  | p :: l, h => by
    by_cases hx : ∃ q ∈ l, q.1 = k
    · obtain ⟨o, h1, h2⟩ := setAll_in hx
      exact ⟨o, by simp [h1], fun h => h2 _⟩
    · have hp : p.1 = k := by
        obtain ⟨q, hq, e⟩ := h
        rcases List.mem_cons.1 hq with rfl | hq
        · exact e
        · exact absurd ⟨q, hq, e⟩ hx
      refine ⟨p.2, by rw [← hp]; simp, fun h => ?_⟩
      unfold setAll
      rw [setAll_out fun q hq e => hx ⟨q, hq, e⟩, T.get_set, if_pos hp.symm]

def hasOb (h : T Ob) (k : Nat) (ob : Ob) : Bool := eqOo (h.get k) (some ob)

def preOk (h : T Ob) : List (Nat × Ob) → Bool
  | [] => true
  | p :: l => hasOb h p.1 p.2 && preOk h l
theorem preOk_iff {h : T Ob} : ∀ {l : List (Nat × Ob)}, preOk h l = true → ∀ p ∈ l, h.get p.1 = some p.2
  | [], _, p, hp => by simp at hp
  | q :: l, hl, p, hp => by
    simp only [preOk, Bool.and_eq_true] at hl
    rcases List.mem_cons.1 hp with rfl | hp
    · exact eqOo_eq hl.1
    · exact preOk_iff hl.2 p hp
theorem preOk_same {h g : T Ob} : ∀ {l : List (Nat × Ob)}, (∀ p ∈ l, g.get p.1 = h.get p.1) → preOk g l = preOk h l
  | [], _ => rfl
  | q :: l, hl => by
    unfold preOk hasOb
    rw [hl q (by simp), preOk_same fun p hp => hl p (by simp [hp])]

def preLog : List (Nat × Ob) → List LE
  | [] => []
  | p :: l => .rdd p.1 :: .rd p.1 0 (match p.2 with
    | .cells c _ _ => c.length
    | _ => 0) :: preLog l
def postLog : List (Nat × Option Ob) → List LE
  | [] => []
  | p :: l => .wrd p.1 :: postLog l

theorem postLog_wr {x : Lo} : ∀ {l : List (Nat × Option Ob)}, Wr (postLog l) x ↔ ∃ p ∈ l, (match x with
    | .blk k => k
    | .cell k _ => k) = p.1
  | [] => by
    constructor
    · rintro ⟨e, he, _⟩; simp [postLog] at he
    · rintro ⟨p, hp, _⟩; simp at hp
  | p :: l => by
    constructor
    · rintro ⟨e, he, hw⟩
      rcases List.mem_cons.1 he with rfl | he
      · refine ⟨p, by simp, ?_⟩
        cases x <;> exact hw
      · obtain ⟨q, hq, e⟩ := postLog_wr.1 ⟨e, he, hw⟩
        exact ⟨q, by simp [hq], e⟩
    · rintro ⟨q, hq, e⟩
      rcases List.mem_cons.1 hq with rfl | hq
      · refine ⟨.wrd q.1, by simp [postLog], ?_⟩
        cases x <;> exact e
      · obtain ⟨e1, h1, h2⟩ := postLog_wr.2 ⟨q, hq, e⟩
        exact ⟨e1, by simp [postLog, h1], h2⟩
theorem preLog_wr {x : Lo} : ∀ {l : List (Nat × Ob)}, ¬ Wr (preLog l) x
  | [], h => by obtain ⟨e, he, _⟩ := h; simp [preLog] at he
  | p :: l, h => by
    obtain ⟨e, he, hw⟩ := h
    rcases List.mem_cons.1 he with rfl | he
    · cases x <;> exact hw
    rcases List.mem_cons.1 he with rfl | he
    · cases x <;> exact hw
    · exact preLog_wr ⟨e, he, hw⟩

def Lo.at : Lo → Nat
  | .blk k => k
  | .cell k _ => k
theorem get_of_rd {h g : T Ob} {k : Nat} {ob : Ob} (hg : g.get k = some ob) (h1 : look h (.blk k) = look g (.blk k)) (h2 : ∀ c e p, ob = .cells c e p → ∀ i, i < c.length → look h (.cell k i) = look g (.cell k i)) : h.get k = g.get k := by
  have hb : lookB (h.get k) = lookB (g.get k) := h1
  rw [hg] at hb ⊢
  cases h3 : h.get k with
  | none => rw [h3] at hb; cases ob <;> simp [lookB] at hb
  | some o =>
    rw [h3] at hb
    cases o <;> cases ob <;> simp only [lookB, LV.cells.injEq, LV.other.injEq, reduceCtorEq] at hb
    · rename_i c e p c' e' p'
      obtain ⟨e1, e2, e3⟩ := hb
      subst e2; subst e3
      congr 2
      apply List.ext_getElem?
      intro i
      by_cases hi : i < c'.length
      · have hc : lookC (h.get k) i = lookC (g.get k) i := h2 _ _ _ rfl i hi
        rw [h3, hg] at hc
        simpa [lookC] using hc
      · rw [List.getElem?_eq_none (by omega), List.getElem?_eq_none (by omega)]
    all_goals (rw [hb])

theorem get_at {h g : T Ob} {k : Nat} (hl : ∀ x : Lo, x.at = k → look h x = look g x) : h.get k = g.get k := by
  cases h1 : g.get k with
  | some o => rw [← h1]; exact get_of_rd h1 (hl _ rfl) fun c e p _ i _ => hl _ rfl
  | none =>
    have hb : lookB (h.get k) = lookB (g.get k) := hl (.blk k) rfl
    rw [h1] at hb
    cases h2 : h.get k with
    | none => rfl
    | some o => rw [h2] at hb; cases o <;> simp [lookB] at hb

theorem preLog_get {h g : T Ob} : ∀ {l : List (Nat × Ob)}, (∀ p ∈ l, g.get p.1 = some p.2) → (∀ x, Rd (preLog l) x → look h x = look g x) → ∀ p ∈ l, h.get p.1 = g.get p.1
  | [], _, _, p, hp => by simp at hp
  | q :: l, hg, hr, p, hp => by
    rcases List.mem_cons.1 hp with rfl | hp
    · refine get_of_rd (hg p (by simp)) (hr _ ⟨.rdd p.1, by simp [preLog], rfl⟩) fun c e b hc i hi => hr _ ⟨.rd p.1 0 c.length, ?_, rfl, Nat.zero_le _, by omega⟩
      unfold preLog
      rw [hc]
      simp
    · exact preLog_get (fun p hp => hg p (by simp [hp])) (fun x ⟨e, he, hx⟩ => hr x ⟨e, by simp [preLog, he], hx⟩) p hp
def keyIn (k : Nat) : List (Nat × Ob) → Bool
  | [] => false
  | p :: l => Nat.beq p.1 k || keyIn k l
def keysG (n : Nat) (pre : List (Nat × Ob)) : List (Nat × Option Ob) → Bool
  | [] => true
  | p :: l => (Nat.ble n p.1 || keyIn p.1 pre) && keysG n pre l
theorem keyIn_iff {k : Nat} : ∀ {l : List (Nat × Ob)}, keyIn k l = true → ∃ p ∈ l, p.1 = k
  | p :: l, h => by
    simp only [keyIn, Bool.or_eq_true, Nat.beq_eq] at h
    rcases h with h | h
    · exact ⟨p, by simp, h⟩
    · obtain ⟨q, hq, e⟩ := keyIn_iff h
      exact ⟨q, by simp [hq], e⟩
theorem keysG_iff {n : Nat} {pre : List (Nat × Ob)} : ∀ {l : List (Nat × Option Ob)}, keysG n pre l = true → ∀ p ∈ l, n ≤ p.1 ∨ ∃ q ∈ pre, q.1 = p.1
  | q :: l, h, p, hp => by
    simp only [keysG, Bool.and_eq_true, Bool.or_eq_true, Nat.ble_eq] at h
    rcases List.mem_cons.1 hp with rfl | hp
    · exact h.1.imp id keyIn_iff
    · exact keysG_iff h.2 p hp
theorem postLog_bk {e : LE} : ∀ {l : List (Nat × Option Ob)}, e ∈ postLog l → ∃ p ∈ l, p.1 = e.bk
  | p :: l, h => by
    rcases List.mem_cons.1 h with rfl | h
    · exact ⟨p, by simp, rfl⟩
    · obtain ⟨q, hq, e⟩ := postLog_bk h
      exact ⟨q, by simp [hq], e⟩
theorem preLog_bk {e : LE} : ∀ {l : List (Nat × Ob)}, e ∈ preLog l → ∃ p ∈ l, p.1 = e.bk
  | p :: l, h => by
    rcases List.mem_cons.1 h with rfl | h
    · exact ⟨p, by simp, rfl⟩
    rcases List.mem_cons.1 h with rfl | h
    · exact ⟨p, by simp, rfl⟩
    · obtain ⟨q, hq, e⟩ := preLog_bk h
      exact ⟨q, by simp [hq], e⟩
def memoSM (d : List V → M V) : List MemoS → List V → M V
  | [], vs => d vs
  | m :: l, vs => fun s => bif Nat.beq s.next m.next && Nat.ble m.next m.next' && eqVs m.args vs
    then (bif preOk s.heap m.pre && keysG m.next m.pre m.post then .ok m.val ⟨setAll s.heap m.post, m.next', postLog m.post ++ preLog m.pre ++ s.log⟩ else .fail "memo") else memoSM d l vs s

theorem look_same {h g : T Ob} {x : Lo} (e : h.get x.at = g.get x.at) : look h x = look g x := by
  cases x <;> (unfold look; unfold Lo.at at e; simp only at e ⊢; rw [e])

theorem wr_post {l : List (Nat × Option Ob)} {q : List (Nat × Ob)} {x : Lo} : Wr (postLog l ++ preLog q) x ↔ ∃ p ∈ l, p.1 = x.at := by
  rw [Wr_append]
  constructor
  · rintro (h | h)
    · obtain ⟨p, hp, e⟩ := postLog_wr.1 h
      exact ⟨p, hp, by cases x <;> exact e.symm⟩
    · exact absurd h preLog_wr
  · rintro ⟨p, hp, e⟩
    exact .inl (postLog_wr.2 ⟨p, hp, by cases x <;> exact e.symm⟩)

theorem local_memoS {d : List V → M V} (hd : ∀ vs, Local (d vs)) : ∀ (l : List MemoS) (vs : List V), Local (memoSM d l vs)
  | [], vs => hd vs
  | m :: l, vs => by
    intro s a s' h
    unfold memoSM at h
    cases hc : (Nat.beq s.next m.next && Nat.ble m.next m.next' && eqVs m.args vs)
    · rw [hc, cond_false] at h
      obtain ⟨lg, dd⟩ := local_memoS hd l vs s a s' h
      refine ⟨lg, dd.log, dd.next, dd.stays, fun s2 hn hr => ?_, dd.abs⟩
      have := dd.again s2 hn hr
      unfold memoSM
      rw [hn, hc, cond_false]
      exact this
    · rw [hc, cond_true] at h
      cases hpk : (preOk s.heap m.pre && keysG m.next m.pre m.post)
      · rw [hpk] at h; cases h
      rw [hpk, cond_true] at h
      cases h
      simp only [Bool.and_eq_true] at hpk
      obtain ⟨hp, hk⟩ := hpk
      have hc0 := hc
      simp only [Bool.and_eq_true, Nat.beq_eq, Nat.ble_eq] at hc0
      have stays : ∀ (g : T Ob) (x : Lo), ¬ Wr (postLog m.post ++ preLog m.pre) x → look (setAll g m.post) x = look g x := fun g x hx =>
        look_same (setAll_out fun p hp e => hx (wr_post.2 ⟨p, hp, e⟩))
      refine ⟨postLog m.post ++ preLog m.pre, rfl, ?_, fun x hx => stays _ x hx, fun s2 hn hr => ?_, fun B hB hlt => ?_⟩
      · show s.next ≤ m.next'
        omega
      have hpre := preOk_iff hp
      have hsame := preLog_get (h := s2.heap) hpre fun x ⟨e, he, hx⟩ => hr x ⟨e, List.mem_append.2 (.inr he), hx⟩
      refine ⟨⟨setAll s2.heap m.post, m.next', postLog m.post ++ preLog m.pre ++ s2.log⟩, ?_, rfl, rfl, fun x hx => ?_, fun x hx => stays _ x hx⟩
      · unfold memoSM
        rw [hn, hc, cond_true, preOk_same hsame, hp, hk, Bool.and_self, cond_true]
      · obtain ⟨o, _, ho⟩ := setAll_in (wr_post.1 hx)
        exact look_same (by rw [ho, ho])
      · have hpre : ∀ p ∈ m.pre, p.1 ≠ B := fun p hp1 q => by
          have := preOk_iff hp p hp1
          rw [q, hB] at this
          cases this
        have hpost : ∀ p ∈ m.post, p.1 ≠ B := fun p hp1 q => by
          rcases keysG_iff hk p hp1 with h1 | ⟨r, hr, h1⟩
          · omega
          · exact hpre r hr (by rw [h1, q])
        refine ⟨by show (setAll s.heap m.post).get B = none; rw [setAll_out hpost]; exact hB, fun e he => ?_⟩
        rcases List.mem_append.1 he with he | he
        · obtain ⟨p, hp1, h1⟩ := postLog_bk he
          rw [← h1]; exact hpost p hp1
        · obtain ⟨p, hp1, h1⟩ := preLog_bk he
          rw [← h1]; exact hpre p hp1

def blkL : LE → Nat
  | .rd k _ _ => k
  | .wr k _ _ => k
  | .rdd k => k
  | .wrd k => k

def isS {α : Type} : Option α → Bool
  | some _ => true
  | none => false
def logOk (h0 ht : T Ob) (n n' : Nat) : List LE → Bool
  | [] => true
  | e :: l => ((Nat.ble n (blkL e) && Nat.blt (blkL e) n') || (isS (h0.get (blkL e)) && (!e.isW || isS (ht.get (blkL e))))) && logOk h0 ht n n' l

def postOk (h : T Ob) : List (Nat × Option Ob) → Bool
  | [] => true
  | p :: l => eqOo (h.get p.1) p.2 && postOk h l
def keysOk (h0 : T Ob) (n n' : Nat) : List (Nat × Option Ob) → Bool
  | [] => true
  | p :: l => Nat.blt p.1 n' && (Nat.ble n p.1 || isS (h0.get p.1)) && keysOk h0 n n' l
def preLt (n : Nat) : List (Nat × Ob) → Bool
  | [] => true
  | p :: l => Nat.blt p.1 n && preLt n l

def somes : List (Nat × Ob) → List (Nat × Option Ob)
  | [] => []
  | p :: l => (p.1, some p.2) :: somes l
def marks : List (Nat × Option Ob) → List (Nat × Option Ob)
  | [] => []
  | p :: l => (p.1, some (.siter [] 0)) :: marks l

def runS (c : Cfg) (n : Nat) (f : FuncId) (m : MemoS) (h0 ht : T Ob) : Bool :=
  R.rec (motive := fun _ => Bool) (fun v s => eqV v m.val && Nat.beq s.next m.next' && postOk s.heap m.post && logOk h0 ht m.next m.next' s.log) (fun _ => false) (callM c n f m.args ⟨h0, m.next, []⟩)
    && preOk h0 m.pre && preLt m.next m.pre && keysOk h0 m.next m.next' m.post

def MemoSOk (P : Program) (gl : T (List V)) (f : FuncId) (m : MemoS) : Prop := ∃ c : Cfg, c.P = P ∧ c.gl = gl ∧ SumOk c ∧ ∃ n, runS c n f m (setAll .leaf (somes m.pre)) (setAll .leaf (marks m.post)) = true

theorem isS_iff {α : Type} {o : Option α} (h : isS o = true) : ∃ a, o = some a := by
  cases o with
  | none => cases h
  | some a => exact ⟨a, rfl⟩

theorem logOk_iff {h0 ht : T Ob} {n n' : Nat} : ∀ {l : List LE}, logOk h0 ht n n' l = true → ∀ e ∈ l, (n ≤ blkL e ∧ blkL e < n') ∨ ((∃ o, h0.get (blkL e) = some o) ∧ (e.isW = true → ∃ o, ht.get (blkL e) = some o))
  | [], _, e, he => by simp at he
  | x :: l, h, e, he => by
    simp only [logOk, Bool.and_eq_true, Bool.or_eq_true, Nat.ble_eq, Nat.blt_eq, Bool.not_eq_true'] at h
    rcases List.mem_cons.1 he with rfl | he
    · rcases h.1 with a | ⟨a, b⟩
      · exact .inl a
      · refine .inr ⟨isS_iff a, fun hw => ?_⟩
        rcases b with b | b
        · rw [b] at hw; cases hw
        · exact isS_iff b
    · exact logOk_iff h.2 e he

theorem postOk_iff {h : T Ob} : ∀ {l : List (Nat × Option Ob)}, postOk h l = true → ∀ p ∈ l, h.get p.1 = p.2
  | [], _, p, hp => by simp at hp
  | q :: l, hl, p, hp => by
    simp only [postOk, Bool.and_eq_true] at hl
    rcases List.mem_cons.1 hp with rfl | hp
    · exact eqOo_eq hl.1
    · exact postOk_iff hl.2 p hp
theorem keysOk_iff {h0 : T Ob} {n n' : Nat} : ∀ {l : List (Nat × Option Ob)}, keysOk h0 n n' l = true → ∀ p ∈ l, p.1 < n' ∧ (n ≤ p.1 ∨ ∃ o, h0.get p.1 = some o)
  | [], _, p, hp => by simp at hp
  | q :: l, hl, p, hp => by
    simp only [keysOk, Bool.and_eq_true, Bool.or_eq_true, Nat.ble_eq, Nat.blt_eq] at hl
    rcases List.mem_cons.1 hp with rfl | hp
    · exact ⟨hl.1.1, hl.1.2.imp id isS_iff⟩
    · exact keysOk_iff hl.2 p hp
theorem preLt_iff {n : Nat} : ∀ {l : List (Nat × Ob)}, preLt n l = true → ∀ p ∈ l, p.1 < n
  | [], _, p, hp => by simp at hp
  | q :: l, hl, p, hp => by
    simp only [preLt, Bool.and_eq_true, Nat.blt_eq] at hl
    rcases List.mem_cons.1 hp with rfl | hp
    · exact hl.1
    · exact preLt_iff hl.2 p hp
theorem somes_key {k : Nat} : ∀ {l : List (Nat × Ob)}, (∃ p ∈ somes l, p.1 = k) → ∃ p ∈ l, p.1 = k
  | [], h => by obtain ⟨p, hp, _⟩ := h; simp [somes] at hp
  | q :: l, h => by
    obtain ⟨p, hp, e⟩ := h
    rcases List.mem_cons.1 hp with rfl | hp
    · exact ⟨q, by simp, e⟩
    · obtain ⟨r, hr, e⟩ := somes_key ⟨p, hp, e⟩
      exact ⟨r, by simp [hr], e⟩
theorem marks_key {k : Nat} : ∀ {l : List (Nat × Option Ob)}, (∃ p ∈ marks l, p.1 = k) → ∃ p ∈ l, p.1 = k
  | [], h => by obtain ⟨p, hp, _⟩ := h; simp [marks] at hp
  | q :: l, h => by
    obtain ⟨p, hp, e⟩ := h
    rcases List.mem_cons.1 hp with rfl | hp
    · exact ⟨q, by simp, e⟩
    · obtain ⟨r, hr, e⟩ := marks_key ⟨p, hp, e⟩
      exact ⟨r, by simp [hr], e⟩
theorem key_of_some {α : Type} {l : List (Nat × Option α)} {k : Nat} {o : α} (h : (setAll .leaf l).get k = some o) : ∃ p ∈ l, p.1 = k := by
  apply Classical.byContradiction
  intro hx
  rw [setAll_out fun p hp e => hx ⟨p, hp, e⟩, T.get_leaf] at h
  cases h

theorem LE.at_of_reads {e : LE} {x : Lo} (h : e.reads x) : blkL e = x.at := by
  cases e <;> cases x <;> simp only [LE.reads] at h <;> first | exact h.elim | exact h.symm | exact h.1.symm
theorem LE.at_of_writes {e : LE} {x : Lo} (h : e.writes x) : blkL e = x.at ∧ e.isW = true := by
  cases e <;> cases x <;> simp only [LE.writes] at h <;> first | exact h.elim | exact ⟨h.symm, rfl⟩ | exact ⟨h.1.symm, rfl⟩

theorem extSum_memoS {P : Program} {gl : T (List V)} (hm : P.follows .mixedOrders = true) {f : FuncId} {d : List V → M V} (hd : ExtSum P gl f d) : ∀ {l : List MemoS}, (∀ m ∈ l, MemoSOk P gl f m) → ExtSum P gl f (memoSM d l)
  | [], _ => ⟨fun vs => hd.1 vs, fun vs v s s' w μ ν rs h => hd.2 vs v s s' w μ ν rs h⟩
  | m :: l, hl => by
    have ih := extSum_memoS hm hd (l := l) fun x hx => hl x (by simp [hx])
    refine ⟨local_memoS hd.1 _, fun vs v s s' w μ ν rs h hr hf hg ha => ?_⟩
    unfold memoSM at h
    cases hc : (Nat.beq s.next m.next && Nat.ble m.next m.next' && eqVs m.args vs)
    · rw [hc, cond_false] at h
      exact ih.2 vs v s s' w μ ν rs h hr hf hg ha
    rw [hc, cond_true] at h
    cases hpk : (preOk s.heap m.pre && keysG m.next m.pre m.post)
    · rw [hpk] at h; cases h
    rw [hpk, cond_true] at h
    cases h
    simp only [Bool.and_eq_true] at hpk
    obtain ⟨hp, hk⟩ := hpk
    simp only [Bool.and_eq_true, Nat.beq_eq, Nat.ble_eq] at hc
    obtain ⟨⟨hn, hle⟩, hargs⟩ := hc
    obtain rfl := eqVs_eq hargs
    obtain ⟨c, rfl, rfl, hs, n, hrun⟩ := hl m (by simp)
    have hf' : ∀ k, m.next ≤ k → k < m.next' → μ k = none := fun k h1 h2 => hf k (by omega) h2
    unfold runS at hrun
    simp only [Bool.and_eq_true] at hrun
    obtain ⟨⟨⟨hrun, hpre0⟩, hlt⟩, hkeys⟩ := hrun
    generalize hh0 : setAll T.leaf (somes m.pre) = h0 at *
    cases h1 : callM c n f m.args ⟨h0, m.next, []⟩ with
    | fail w => rw [h1] at hrun; cases hrun
    | ok v1 s1 =>
    rw [h1] at hrun
    replace hrun : (eqV v1 m.val && Nat.beq s1.next m.next' && postOk s1.heap m.post && logOk h0 (setAll .leaf (marks m.post)) m.next m.next' s1.log) = true := hrun
    simp only [Bool.and_eq_true, Nat.beq_eq] at hrun
    obtain ⟨⟨⟨hv, hn1⟩, hpost⟩, hlog⟩ := hrun
    obtain rfl := eqV_eq hv
    obtain ⟨lg, dd⟩ := local_call (fun f g hg => (hs f g hg).1) n f m.args _ _ _ h1
    have hlg : s1.log = lg := by rw [dd.log, List.append_nil]
    rw [hlg] at hlog
    have hlog := logOk_iff hlog
    have hpost := postOk_iff hpost
    have hkeys := keysOk_iff hkeys
    have hpre := preOk_iff hp
    have hpre0 := preOk_iff hpre0
    have hlt := preLt_iff hlt
    -- the blocks that are known are the same in both heaps; new ones are in neither
    have hknown : ∀ k o, h0.get k = some o → s.heap.get k = h0.get k ∧ k < m.next := fun k o hk => by
      obtain ⟨p, hp1, rfl⟩ := somes_key (key_of_some (by rw [hh0]; exact hk))
      exact ⟨by rw [hpre p hp1, hpre0 p hp1], hlt p hp1⟩
    have hnew0 : ∀ k, m.next ≤ k → h0.get k = none := fun k hk => by
      cases h2 : h0.get k with
      | none => rfl
      | some o => have := (hknown k o h2).2; omega
    have hnew : ∀ k, m.next ≤ k → k < m.next' → s.heap.get k = none := fun k h1 h2 => by
      cases h3 : s.heap.get k with
      | none => rfl
      | some o =>
        obtain ⟨p, hp1, _⟩ := hr.ob k o h3
        rw [hf' k h1 h2] at hp1; cases hp1
    have hsame : ∀ e ∈ lg, s.heap.get (blkL e) = h0.get (blkL e) := fun e he => by
      rcases hlog e he with ⟨a, b⟩ | ⟨⟨o, ho⟩, _⟩
      · rw [hnew _ a b, hnew0 _ a]
      · exact (hknown _ _ ho).1
    obtain ⟨s2, e1, e2, e3, e4, e5⟩ := dd.again ⟨s.heap, s.next, []⟩ hn fun x ⟨e, he, hx⟩ => look_same (by rw [← LE.at_of_reads hx]; exact hsame e he)
    have hn2 : s2.next = m.next' := e3.trans hn1
    refine (fun {K K' : Value → World → Prop} (hk : ∀ r w', K r w' → K' r w') (hx : CallsTo c.P f ⟨rs⟩ w K) => ?_ : ∀ {K K' : Value → World → Prop}, (∀ r w', K r w' → K' r w') → CallsTo c.P f ⟨rs⟩ w K → CallsTo c.P f ⟨rs⟩ w K') ?_ (callM_sim c hm hs n f m.args m.val ⟨s.heap, s.next, []⟩ s2 w μ ν rs e1 hr (fun k a b => hf' k (by rw [← hn]; exact a) (by rw [← hn2]; exact b)) hg ha)
    · rcases hx with ⟨a, b⟩ | ⟨r, w', a, b⟩
      · refine .inl ⟨a, b.mono ?_⟩
        rintro e w' ⟨r, rfl, h⟩
        exact ⟨r, rfl, hk _ _ h⟩
      · exact .inr ⟨r, w', a, hk _ _ b⟩
    rintro r w' ⟨μ', hv, st⟩
    refine ⟨μ', hv, ?_⟩
    have key : ∀ k, (setAll s.heap m.post).get k = s2.heap.get k ∨ ((setAll s.heap m.post).get k = none ∧ s.heap.get k = none) := fun k => by
      by_cases hk : ∃ p ∈ m.post, p.1 = k
      · left
        obtain ⟨o, ho1, ho2⟩ := setAll_in hk
        rw [ho2]
        refine (hpost _ ho1).symm.trans ?_
        show s1.heap.get k = s2.heap.get k
        have hsk : s.heap.get k = h0.get k := by
          obtain ⟨a, b⟩ := hkeys _ ho1
          rcases b with b | ⟨o', b⟩
          · have b : m.next ≤ k := b
            have a : k < m.next' := a
            rw [hnew k b a, hnew0 k b]
          · exact (hknown _ _ b).1
        refine get_at fun x hx => ?_
        by_cases hw : Wr lg x
        · exact (e4 x hw).symm
        · rw [dd.stays x hw]
          refine Eq.trans ?_ (e5 x hw).symm
          exact look_same (by rw [hx]; exact hsk.symm)
      · have hout : (setAll s.heap m.post).get k = s.heap.get k := setAll_out fun p hp e => hk ⟨p, hp, e⟩
        rw [hout]
        by_cases hkn : m.next ≤ k ∧ k < m.next'
        · right
          exact ⟨hnew k hkn.1 hkn.2, hnew k hkn.1 hkn.2⟩
        · left
          refine get_at fun x hx => ?_
          refine (e5 x fun hw => ?_).symm
          obtain ⟨e, he, hw⟩ := hw
          obtain ⟨a, b⟩ := LE.at_of_writes hw
          rw [hx] at a
          rcases hlog e he with h2 | ⟨_, h2⟩
          · exact hkn (by rw [← a]; exact h2)
          · obtain ⟨o, h2⟩ := h2 b
            rw [a] at h2
            exact hk (marks_key (key_of_some h2))
    refine ⟨st.le, fun k hk => st.new k (by rw [hn2]; exact hk), ⟨fun k o hk => ?_, fun k k' o o' p p' hk hk' => ?_⟩, st.os, st.tape, st.output, st.size, st.block, st.newblk, fun k x p h3 h4 => ?_⟩
    · replace hk : (setAll s.heap m.post).get k = some o := hk
      rcases key k with e | ⟨e, _⟩
      · rw [e] at hk; exact st.rel.ob k o hk
      · rw [e] at hk; cases hk
    · replace hk : (setAll s.heap m.post).get k = some o := hk
      replace hk' : (setAll s.heap m.post).get k' = some o' := hk'
      rcases key k with e | ⟨e, _⟩
      · rcases key k' with e' | ⟨e', _⟩
        · rw [e] at hk; rw [e'] at hk'; exact st.rel.sep k k' o o' p p' hk hk'
        · rw [e'] at hk'; cases hk'
      · rw [e] at hk; cases hk
    · obtain ⟨a, b⟩ := st.ro k x p h3 h4
      refine ⟨?_, b⟩
      show (setAll s.heap m.post).get k = _
      rcases key k with e | ⟨_, e⟩
      · rw [e]; exact a
      · rw [e] at h3; cases h3
theorem extSum_call (c : Cfg) (hm : c.P.follows .mixedOrders = true) (hs : SumOk c) {gl : T (List V)} (hgl : gl = c.gl) (n : Nat) (f : FuncId) : ExtSum c.P gl f (callM c n f) := by
  subst hgl
  exact ⟨local_call (fun f g hg => (hs f g hg).1) n f, fun vs v s s' w μ ν rs h hr hf hg ha => callM_sim c hm hs n f vs v s s' w μ ν rs h hr hf hg ha⟩
theorem extSum_err {P : Program} {gl : T (List V)} {f : FuncId} {w : String} : ExtSum P gl f (fun _ => err w) :=
  ⟨fun _ => Local.err _, fun vs v s s' w μ ν rs h => (err_ok h).elim⟩
end
end Go.Lx
