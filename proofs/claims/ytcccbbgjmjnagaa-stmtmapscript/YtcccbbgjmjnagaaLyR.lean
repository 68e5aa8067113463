/-
  slices.Sorted over maps.Keys stands in, for maps of any keys: where slices.Sort is known to sort.
-/
import Derived.Test.YtcccbbgjmjnagaaLyE
import Derived.Test.YtcccbbgjmjnagaaLyQ
set_option linter.unusedSimpArgs false
set_option linter.unusedVariables false
namespace Go.Lx
noncomputable section
open Go.Proofs Go.Maps Go.RowKit Go.Shelf
open Go.MapKept (Stamped)
def srt (ks : List Int) : List Int := ks.mergeSort fun x y => decide (x ≤ y)
theorem srt_perm (ks : List Int) : (srt ks).Perm ks := List.mergeSort_perm _ _
theorem srt_len (ks : List Int) : (srt ks).length = ks.length := (srt_perm ks).length_eq
theorem srt_sorted (ks : List Int) : (srt ks).Pairwise (· ≤ ·) := by
  have h := List.pairwise_mergeSort (le := fun x y : Int => decide (x ≤ y)) (fun a b c h1 h2 => by simp at *; omega) (fun a b => by simp; omega) ks
  exact h.imp fun h => by simpa using h
theorem srt_unique {a ks : List Int} (h1 : a.Perm ks) (h2 : a.Pairwise (· ≤ ·)) : a = srt ks :=
  List.Perm.eq_of_pairwise (le := (· ≤ ·)) (fun x y _ _ p q => Int.le_antisymm p q) h2 (srt_sorted ks) (h1.trans (srt_perm ks).symm)
theorem srt_congr {a b : List Int} (h : a.Perm b) : srt a = srt b := srt_unique ((srt_perm a).trans h) (srt_sorted a)
theorem srt_of_SR {L M : List Int} (hp : M.Perm L) (h : Srt.SR 0 M.length M) : M = srt L := by
  refine srt_unique hp (List.pairwise_iff_getElem.2 fun i j hi hj hij => ?_)
  have := h i j (Nat.zero_le _) hij hj
  rwa [Srt.gi_lt hi, Srt.gi_lt hj] at this
def Sorts (c : Cfg) (fT : FuncId) (kd : IntKind) (e : TypeId) : Prop := ∀ π : List Int, π.length ≤ 1000 → ∃ lf n, sortRun { c with lf := lf } (n + 1) fT kd e π = some (srt π)
def sortedEsG (c : Cfg) (n : Nat) (fT : FuncId) (kd : IntKind) (e : TypeId) (es : List ME) (clock : Nat) : Option (List Int) :=
  match keysI kd es with
  | some ks => bif keysGood es clock ks then some (srt ks) else none
  | none => none
def sortedMapG (c : Cfg) (n : Nat) (fT : FuncId) (kd : IntKind) (e : TypeId) : Ob → M V
  | .map es clock => Lx.bnd (Lx.opt (sortedEsG c n fT kd e es clock) "sorted") (sortedTail kd e)
  | _ => err "sorted: no map"
def sortedBoxG (c : Cfg) (n : Nat) (fT : FuncId) (kd : IntKind) (e : TypeId) : List V → M V
  | [.map r] => Lx.bnd (getO r) (sortedMapG c n fT kd e)
  | _ => err "sorted: no box"
def sortedMG (c : Cfg) (n : Nat) (fK fT : FuncId) (kd : IntKind) (e : TypeId) : List V → M V
  | [.func f [] [.ptr b o]] => bif Nat.beq f fK then Lx.bnd (ld b o 1) (sortedBoxG c n fT kd e) else err "sorted: another iterator"
  | _ => err "sorted: arguments"
theorem local_sortedMapG {c : Cfg} {n : Nat} {fT : FuncId} {kd : IntKind} {e : TypeId} (ob : Ob) : Local (sortedMapG c n fT kd e ob) := by
  unfold sortedMapG
  split
  · exact Local.bnd (Local.opt _ _) fun _ => local_sortedTail _ _ _
  · exact Local.err _
theorem local_sortedBoxG {c : Cfg} {n : Nat} {fT : FuncId} {kd : IntKind} {e : TypeId} (cs : List V) : Local (sortedBoxG c n fT kd e cs) := by
  unfold sortedBoxG
  split
  · exact Local.bnd (Local.getO _) fun _ => local_sortedMapG _
  · exact Local.err _
theorem local_sortedMG {c : Cfg} {n : Nat} {fK fT : FuncId} {kd : IntKind} {e : TypeId} (vs : List V) : Local (sortedMG c n fK fT kd e vs) := by
  unfold sortedMG
  split
  · exact Local.cond (Local.bnd (Local.ld _ _ _) fun _ => local_sortedBoxG _) (Local.err _)
  · exact Local.err _
variable {ρ : Ren} {kd : IntKind} {bs : Nat}
theorem sorted_worldG (c : Cfg) (hm : c.P.follows .mixedOrders = true) (hs : SumOk c) (hng : c.gl = .leaf) (L : KeyLay c.P ρ kd bs) (hsu : c.sum (ρ.f 9) = none) (hsz : szT c.P (ρ.t 26) = some 1) (e9 : Enters c.P (ρ.f 9)) (hbs : 1000 * bs ≤ 140737488355328)
    {n : Nat} (hnil : nilRun c (n + 1) (ρ.f 9) = true) {ks ts : List Int} (hl : ks.length ≤ 1000) (hsort : Sorts c (ρ.f 9) kd (ρ.t 26)) (hsl : ∀ lf, SumOk { c with lf := lf }) (hts : ts = srt ks) {Bm Om b clock : Nat} {res : List MapEntry} {w : World} (hBm : Bm < w.heap.size)
    (hbox : w.cell? ⟨Bm, Om, none⟩ = some (.map (some b))) (hb : w.heap[b]? = some (.map ⟨res⟩ clock)) (h1 : res.map (·.key) = ks.map (Value.int kd)) (hw : ∀ n ∈ ks, (Lit.int kd n).wf = true) (hst : Stamped ⟨res⟩ clock) :
    Calls c.P (ρ.f 6) #[.func (.func (ρ.f 10)) #[] #[.pointer (some ⟨Bm, Om, none⟩)]] w fun e w' => (ks = [] ∧ e = .returned (.slice none 0 0) ∧ Below w.heap.size w w') ∨
      (ks ≠ [] ∧ ∃ gb cap, e = .returned (.slice (some ⟨gb, 0, none⟩) ks.length cap) ∧ w.heap.size ≤ gb ∧ ks.length ≤ cap ∧ Below w.heap.size w w' ∧
        ∃ rc frz, w'.heap[gb]? = some (.cells rc (ρ.t 26) frz) ∧ ts.length ≤ cap ∧ cap ≤ rc.size ∧ (∀ i, i < cap → ¬ (frz.1 ≤ i ∧ i < frz.2)) ∧ ∀ (i : Nat) (v : Int), ts[i]? = some v → rc[i]? = some (Value.int kd v)) := by
  obtain ⟨D, hown, hperm, hsize⟩ := owns_of_keys L.t26 hb h1 hw hst (Nat.le_trans hl (by decide))
  have hseq0 := Ks.keys_gives L Fence.wide 7 trivial rfl (by omega) Bm Om b ks.length D w hBm hbox hown
  have hseq : SeqGives Fence.wide (10 - 1 - 1 - 1) c.P (ρ.f 10) #[.pointer (some ⟨Bm, Om, none⟩)] (Value.int kd) (fun ss => ss.Perm ks) ks.length w := by
    rw [hsize] at hseq0
    intro l J W hW hJ hY h0
    exact (hseq0 l J W hW hJ hY h0).mono fun e W' ⟨hv, ss, hS, hJ'⟩ => ⟨hv, ss, hS.trans hperm, hJ'⟩
  have main := Ks.sorted_in L Fence.wide 10 trivial trivial trivial trivial rfl (by omega) ks
    (fun gb cap W w' => w'.os = W.os ∧ w'.tape = W.tape ∧ w'.output = W.output ∧ W.heap.size ≤ w'.heap.size ∧ (∀ b, b < W.heap.size → b ≠ gb → w'.heap[b]? = W.heap[b]?) ∧
      ∃ rc frz, w'.heap[gb]? = some (.cells rc (ρ.t 26) frz) ∧ ts.length ≤ cap ∧ cap ≤ rc.size ∧ (∀ i, i < cap → ¬ (frz.1 ≤ i ∧ i < frz.2)) ∧ ∀ (i : Nat) (v : Int), ts[i]? = some v → rc[i]? = some (Value.int kd v))
    (fun gb cap cur ss W hp hgb ht hlc hcap => callsIn_wide.2 (by
      obtain ⟨lf, m, hrun⟩ := hsort ss (by rw [hp.length_eq]; exact hl)
      rw [srt_congr hp, ← hts] at hrun
      exact sort_calls { c with lf := lf } hm (hsl lf) hng hsu hrun hsz hgb ht hlc hcap))
    (fun W => callsIn_wide.2 (by
      unfold nilRun at hnil
      cases hr : callM c (n + 1) (ρ.f 9) [.nilslice] st0 with
      | fail x => rw [hr] at hnil; cases hnil
      | ok v s =>
        rw [hr] at hnil
        cases v <;> try (cases hnil; done)
        rename_i l
        cases l with
        | cons x l => cases hnil
        | nil =>
          refine (callM_calls c hm hs (μ := fun _ => none) (ν := fun _ => undef) (rs := [.slice none 0 0]) hr hsu rel_empty (fun _ _ _ => rfl) (by rw [hng]; exact Globs.none) (.cons .nilslice .nil)).mono ?_
          rintro e w' ⟨r, rfl, μ', hv, st⟩
          cases hv with
          | tuple hv => cases hv; exact ⟨rfl, st.os, st.tape, st.output, st.size, fun k hk => st.block k hk fun _ _ h => by cases h⟩))
    e9 (ρ.f 10) #[.pointer (some ⟨Bm, Om, none⟩)] trivial (L.f10.enters rfl) ks.length (Nat.le_trans hl (by decide)) (Nat.le_trans (Nat.mul_le_mul_right _ hl) hbs) w hseq
  refine (callsIn_wide.1 main).mono ?_
  rintro e w' (h | ⟨hne, gb, cap, W, h2, h3, h4, h5, hbW, q1, q2, q3, q4, q5, q6⟩)
  · exact .inl h
  · exact .inr ⟨hne, gb, cap, h2, h3, h5, ⟨q1.trans hbW.os, q2.trans hbW.tape, q3.trans hbW.output, Nat.le_trans hbW.size q4, fun k hk => (q5 k (Nat.lt_of_lt_of_le hk hbW.size) (by omega)).trans (hbW.block k hk)⟩, q6⟩
theorem sortedEsG_ok {c : Cfg} {n : Nat} {fT : FuncId} {e : TypeId} {es : List ME} {clock : Nat} {ts : List Int} (h : sortedEsG c n fT kd e es clock = some ts) :
    ∃ ks, keysI kd es = some ks ∧ keysGood es clock ks = true ∧ ts = srt ks ∧ ts.length = ks.length := by
  unfold sortedEsG at h
  cases hk : keysI kd es with
  | none => rw [hk] at h; cases h
  | some ks =>
    rw [hk] at h
    simp only at h
    cases hg : keysGood es clock ks
    · rw [hg] at h; cases h
    · rw [hg, cond_true] at h
      cases h
      exact ⟨ks, rfl, hg, rfl, srt_len ks⟩
theorem sortedMG_inv {c : Cfg} {n : Nat} {fK fT : FuncId} {e : TypeId} {vs : List V} {s s' : St} {v : V} (h : sortedMG c n fK fT kd e vs s = .ok v s') : ∃ f b o, vs = [.func f [] [.ptr b o]] ∧ (bif Nat.beq f fK then Lx.bnd (ld b o 1) (sortedBoxG c n fT kd e) else err "sorted: another iterator") s = .ok v s' := by
  cases vs with
  | nil => exact (noR h).elim
  | cons x l => cases l with
    | cons y l => cases x <;> first | exact (noR h).elim | (rename_i f xs ys; cases xs <;> first | exact (noR h).elim | (cases ys <;> first | exact (noR h).elim | (rename_i z zs; cases z <;> cases zs <;> exact (noR h).elim)))
    | nil =>
      cases x <;> try exact (noR h).elim
      rename_i f xs ys
      cases xs with
      | cons a xs => exact (noR h).elim
      | nil => cases ys with
        | nil => exact (noR h).elim
        | cons y ys => cases ys with
          | cons z ys => cases y <;> exact (noR h).elim
          | nil =>
            cases y <;> try exact (noR h).elim
            exact ⟨_, _, _, rfl, h⟩
theorem sortedBoxG_inv {c : Cfg} {n : Nat} {fT : FuncId} {e : TypeId} {cs : List V} {s s' : St} {v : V} (h : sortedBoxG c n fT kd e cs s = .ok v s') : ∃ r, cs = [.map r] ∧ Lx.bnd (getO r) (sortedMapG c n fT kd e) s = .ok v s' := by
  cases cs with
  | nil => exact (noR h).elim
  | cons x l => cases l with
    | cons y l => cases x <;> exact (noR h).elim
    | nil =>
      cases x <;> try exact (noR h).elim
      exact ⟨_, rfl, h⟩
theorem sortedMapG_inv {c : Cfg} {n : Nat} {fT : FuncId} {e : TypeId} {ob : Ob} {s s' : St} {v : V} (h : sortedMapG c n fT kd e ob s = .ok v s') : ∃ es clock, ob = .map es clock ∧ Lx.bnd (Lx.opt (sortedEsG c n fT kd e es clock) "sorted") (sortedTail kd e) s = .ok v s' := by
  cases ob <;> try exact (noR h).elim
  exact ⟨_, _, rfl, h⟩
theorem extSum_sortedG (c : Cfg) (hm : c.P.follows .mixedOrders = true) (hs : SumOk c) (hng : c.gl = .leaf) (L : KeyLay c.P ρ kd bs) (hsu : c.sum (ρ.f 9) = none) (hsz : szT c.P (ρ.t 26) = some 1) (e9 : Enters c.P (ρ.f 9)) (e6 : Enters c.P (ρ.f 6))
    (hbs : 1000 * bs ≤ 140737488355328) {n : Nat} (hnil : nilRun c (n + 1) (ρ.f 9) = true) (hsort : Sorts c (ρ.f 9) kd (ρ.t 26)) (hsl : ∀ lf, SumOk { c with lf := lf }) (gl : T (List V)) : ExtSum c.P gl (ρ.f 6) (sortedMG c (n + 1) (ρ.f 10) (ρ.f 9) kd (ρ.t 26)) := by
  refine ⟨local_sortedMG, ?_⟩
  intro vs v s s' w μ ν rs hg hr hf _ hv
  obtain ⟨f, b, o, rfl, hgg⟩ := sortedMG_inv hg
  cases hfb : Nat.beq f (ρ.f 10)
  · rw [hfb, cond_false] at hgg; exact (err_ok hgg).elim
  rw [hfb, cond_true] at hgg
  have hff := Nat.eq_of_beq_eq_true hfb
  subst hff
  obtain ⟨cs, s1, g1, g2'⟩ := bnd_ok hgg
  obtain ⟨cl, hk, hlen, rfl, rfl⟩ := ld_ok g1
  obtain ⟨r, heq, g2⟩ := sortedBoxG_inv g2'
  obtain ⟨ob, s2, g3, g4'⟩ := bnd_ok g2
  obtain ⟨hk2, _, rfl⟩ := getO_ok g3
  obtain ⟨es, clock, rfl, g4⟩ := sortedMapG_inv g4'
  obtain ⟨ts, s3, g5, g6⟩ := bnd_ok g4
  obtain ⟨hts, rfl⟩ := opt_ok g5
  obtain ⟨ks, hks, hgood, hso, htl⟩ := sortedEsG_ok hts
  cases hv with
  | cons hv hv0 =>
  cases hv0
  cases hv with
  | func hx hy =>
  cases hx
  cases hy with
  | cons hy hy0 =>
  cases hy0
  cases hy with
  | ptr hp =>
  rename_i p
  obtain ⟨rc, et, frz, k1, k5⟩ := row_rel hr hk hp
  have hthere := (Array.getElem?_eq_some_iff.1 k1).1
  have hcell : cl[o]? = some (.map r) := by
    have : (sub cl o 1)[0]? = some (.map r) := by rw [heq]; rfl
    rw [sub_get (by omega)] at this
    simpa using this
  obtain ⟨rv, k6, k7⟩ := k5 o _ hcell
  cases k7 with
  | map hq =>
  rename_i q
  obtain ⟨q', hq', hob2⟩ := hr.ob r _ hk2
  rw [hq] at hq'
  cases hq'
  obtain ⟨res, m1, m2⟩ := hob2
  obtain ⟨r1, r2, r3⟩ := keysI_rel m2 hks
  have hl : ks.length ≤ 1000 := by
    unfold keysGood at hgood
    simp only [Bool.and_eq_true] at hgood
    exact ble_iff.1 hgood.1.1.1
  have hbox : w.cell? ⟨p.blk, p.off + o, none⟩ = some (.map (some q.blk)) := by rw [cell_at k1]; exact k6
  refine .inl ⟨e6 _ _, (sorted_worldG c hm hs hng L hsu hsz e9 hbs hnil hl hsort hsl hso hthere hbox m1 r1 r3 (stamped_of r1 r2 hgood)).mono ?_⟩
  rintro e w' (⟨h1, rfl, hb⟩ | ⟨hne, gb, cap, rfl, h3, h4, hb, rc', frz', q1, q2, q3, q4, q5⟩)
  · subst h1
    have : ts = [] := List.eq_nil_of_length_eq_zero htl
    subst this
    obtain ⟨rfl, rfl⟩ := ret_ok g6
    exact ⟨_, rfl, μ, .nilslice, StepOk.below hr hb⟩
  · cases ts with
    | nil => exact absurd (List.eq_nil_of_length_eq_zero htl.symm) hne
    | cons t ts =>
      unfold sortedTail at g6
      obtain ⟨k, s4, g7, g8⟩ := bnd_ok g6
      obtain ⟨rfl, rfl⟩ := alloc_ok g7
      obtain ⟨rfl, rfl⟩ := ret_ok g8
      have hfr : μ s.next = none := hf _ (Nat.le_refl _) (Nat.lt_succ_self _)
      let pn : Pl := ⟨gb, 0, true, 1, cap⟩
      refine ⟨_, rfl, upd μ s.next pn, ?_, StepOk.grow (p := pn) hr hfr hb h3 ⟨rfl, fun _ => hsz, rc', frz', q1, (fun e => by cases e), by simpa [pn] using q2, q3, q4, fun i v hi => ?_⟩⟩
      · rw [← htl]
        exact .slice (p := pn) (upd_same _ _ _) (Nat.le_refl _) (.inr ⟨rfl, .inr ⟨rfl, by rw [htl]; exact h4, by simp [pn]⟩⟩)
      · rw [List.getElem?_map] at hi
        cases hx : (t :: ts)[i]? with
        | none => rw [hx] at hi; cases hi
        | some x =>
          rw [hx] at hi
          cases hi
          exact ⟨_, by simpa [pn] using q5 i x hx, .int _ _⟩
end
end Go.Lx
