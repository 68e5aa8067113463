/-
  slices.Sorted over maps.Keys stands in as one function of the machine: it reads the map and makes the sorted slice.
-/
import Derived.Test.YtgndobokolodfaaGreatDoorLyD
set_option linter.unusedSimpArgs false
set_option linter.unusedVariables false
namespace Go.Lx
noncomputable section
open Go.Proofs Go.Maps Go.RowKit Go.Shelf
open Go.MapKept (Stamped)

def keysGood (es : List ME) (clock : Nat) (ks : List Int) : Bool := Nat.ble ks.length 1000 && es.all (fun x => Nat.blt x.born clock) && distinct (es.map fun x => (x.born : Int)) && distinct ks

def sortedEs (c : Cfg) (n : Nat) (fT : FuncId) (kd : IntKind) (e : TypeId) (es : List ME) (clock : Nat) : Option (List Int) :=
  match keysI kd es with
  | some ks => bif keysGood es clock ks then (match sortedOf c n fT kd e ks with
    | some ts => bif Nat.beq ts.length ks.length then some ts else none
    | none => none) else none
  | none => none

/-- the sort of a nil slice comes to nothing -/
def nilRun (c : Cfg) (n : Nat) (fT : FuncId) : Bool := match callM c n fT [.nilslice] st0 with
  | .ok (.tuple []) _ => true
  | _ => false

def sortedTail (kd : IntKind) (e : TypeId) : List Int → M V
  | [] => Lx.ret .nilslice
  | t :: ts => Lx.bnd (alloc (.cells ((t :: ts).map (V.int kd)) e true)) fun k => Lx.ret (.slice k 0 (t :: ts).length (t :: ts).length)

def sortedMap (c : Cfg) (n : Nat) (fT : FuncId) (kd : IntKind) (e : TypeId) : Ob → M V
  | .map es clock => Lx.bnd (Lx.opt (sortedEs c n fT kd e es clock) "sorted") (sortedTail kd e)
  | _ => err "sorted: no map"

def sortedBox (c : Cfg) (n : Nat) (fT : FuncId) (kd : IntKind) (e : TypeId) : List V → M V
  | [.map r] => Lx.bnd (getO r) (sortedMap c n fT kd e)
  | _ => err "sorted: no box"

def sortedM (c : Cfg) (n : Nat) (fK fT : FuncId) (kd : IntKind) (e : TypeId) : List V → M V
  | [.func f [] [.ptr b o]] => bif Nat.beq f fK then Lx.bnd (ld b o 1) (sortedBox c n fT kd e) else err "sorted: another iterator"
  | _ => err "sorted: arguments"

theorem local_sortedTail (kd : IntKind) (e : TypeId) (ts : List Int) : Local (sortedTail kd e ts) := by
  cases ts with
  | nil => exact Local.ret _
  | cons t ts => unfold sortedTail; exact Local.bnd (Local.alloc _) fun _ => Local.ret _

theorem local_sortedMap {c : Cfg} {n : Nat} {fT : FuncId} {kd : IntKind} {e : TypeId} (ob : Ob) : Local (sortedMap c n fT kd e ob) := by
  unfold sortedMap
  split
  · exact Local.bnd (Local.opt _ _) fun _ => local_sortedTail _ _ _
  · exact Local.err _

theorem local_sortedBox {c : Cfg} {n : Nat} {fT : FuncId} {kd : IntKind} {e : TypeId} (cs : List V) : Local (sortedBox c n fT kd e cs) := by
  unfold sortedBox
  split
  · exact Local.bnd (Local.getO _) fun _ => local_sortedMap _
  · exact Local.err _

theorem local_sortedM {c : Cfg} {n : Nat} {fK fT : FuncId} {kd : IntKind} {e : TypeId} (vs : List V) : Local (sortedM c n fK fT kd e vs) := by
  unfold sortedM
  split
  · exact Local.cond (Local.bnd (Local.ld _ _ _) fun _ => local_sortedBox _) (Local.err _)
  · exact Local.err _

theorem StepOk.below {P : Program} {μ : Mu} {ν : Nat → Value} {h : T Ob} {n : Nat} {w w' : World} (hr : Rel P μ ν h w.heap) (hb : Below w.heap.size w w') : StepOk P μ ν h n w μ h n w' where
  le := Mu.le_refl _
  new := fun _ _ => rfl
  rel := ⟨fun k o hk => by
    obtain ⟨p, hp, ho⟩ := hr.ob k o hk
    exact ⟨p, hp, ho.mono (Mu.le_refl _) (hb.block _ ho.there)⟩, hr.sep⟩
  os := hb.os
  tape := hb.tape
  output := hb.output
  size := hb.size
  block := fun b h1 _ => hb.block b h1
  newblk := fun k p h1 h2 => by rw [h1] at h2; cases h2
  ro := fun k c p h1 hp => by
    obtain ⟨q, hq, ho⟩ := hr.ob k _ h1
    rw [hp] at hq; cases hq
    exact ⟨h1, hb.block _ ho.there⟩

theorem StepOk.grow {P : Program} {μ : Mu} {ν : Nat → Value} {h : T Ob} {n : Nat} {w w' : World} {ob : Ob} {p : Pl} (hr : Rel P μ ν h w.heap) (hk : μ n = none) (hb : Below w.heap.size w w') (hp : w.heap.size ≤ p.blk)
    (ho : ORel P (upd μ n p) ν p w'.heap ob) : StepOk P μ ν h n w (upd μ n p) (h.set n (some ob)) (n + 1) w' where
  le := upd_le _ hk
  new := fun k hk' => upd_ne _ _ (by omega)
  rel := by
    have old : ∀ k o, k ≠ n → (h.set n (some ob)).get k = some o → h.get k = some o := fun k o hne hk' => by rwa [T.get_set_ne _ _ hne] at hk'
    refine ⟨fun k o hk' => ?_, fun k k' o o' p1 p2 h1 h2 hne hro g1 g2 => ?_⟩
    · by_cases e : k = n
      · subst e
        rw [T.get_set_same] at hk'
        cases hk'
        exact ⟨p, upd_same _ _ _, ho⟩
      · obtain ⟨q, hq, hoq⟩ := hr.ob k o (old k o e hk')
        exact ⟨q, by rw [upd_ne _ _ e]; exact hq, hoq.mono (upd_le _ hk) (hb.block _ hoq.there)⟩
    · have lt : ∀ j oj q, j ≠ n → (h.set n (some ob)).get j = some oj → upd μ n p j = some q → q.blk < w.heap.size := fun j oj q hj h3 h4 => by
        obtain ⟨q', hq', hoq⟩ := hr.ob j oj (old j oj hj h3)
        rw [upd_ne _ _ hj, hq'] at h4
        cases h4
        exact hoq.there
      by_cases e : k = n
      · have e' : k' ≠ n := fun x => hne (e.trans x.symm)
        have := lt k' o' p2 e' h2 g2
        subst e
        rw [upd_same] at g1; cases g1
        omega
      · by_cases e' : k' = n
        · have := lt k o p1 e h1 g1
          subst e'
          rw [upd_same] at g2; cases g2
          omega
        · rw [upd_ne _ _ e] at g1; rw [upd_ne _ _ e'] at g2
          exact hr.sep k k' o o' p1 p2 (old k o e h1) (old k' o' e' h2) hne hro g1 g2
  os := hb.os
  tape := hb.tape
  output := hb.output
  size := hb.size
  block := fun b h1 _ => hb.block b h1
  newblk := fun k q h1 h2 => by
    by_cases e : k = n
    · subst e; rw [upd_same] at h1; cases h1; exact .inl hp
    · rw [upd_ne _ _ e] at h1; rw [h1] at h2; cases h2
  ro := fun k c q h1 hq => by
    have hne : k ≠ n := fun e => by rw [e, hk] at hq; cases hq
    obtain ⟨q', hq', ho⟩ := hr.ob k _ h1
    rw [hq] at hq'; cases hq'
    exact ⟨by rw [T.get_set, if_neg hne]; exact h1, hb.block _ ho.there⟩

theorem stamped_of {es : List ME} {res : List MapEntry} {clock : Nat} {ks : List Int} {kd : IntKind} (h1 : res.map (·.key) = ks.map (Value.int kd)) (h2 : res.map (·.born) = es.map (·.born)) (hg : keysGood es clock ks = true) : Stamped ⟨res⟩ clock := by
  unfold keysGood at hg
  simp only [Bool.and_eq_true] at hg
  obtain ⟨⟨⟨_, g2⟩, g3⟩, g4⟩ := hg
  refine ⟨fun x hx => ?_, ?_, ?_⟩
  · have hm : x.born ∈ es.map (·.born) := by rw [← h2]; exact List.mem_map_of_mem hx
    obtain ⟨y, hy, e⟩ := List.mem_map.1 hm
    rw [← e]
    exact blt_iff.1 (List.all_eq_true.1 g2 y hy)
  · show (res.map (·.born)).Nodup
    rw [h2]
    have := distinct_ok g3
    have e : es.map (fun x => (x.born : Int)) = (es.map (·.born)).map Int.ofNat := by rw [List.map_map]; rfl
    rw [e] at this
    exact List.Pairwise.of_map Int.ofNat (fun a b hab e => hab (by rw [e])) this
  · show (res.map (·.key)).Nodup
    rw [h1]
    exact List.pairwise_map.2 ((distinct_ok g4).imp fun hne e => hne (by injection e))

variable {ρ : Ren} {kd : IntKind} {bs : Nat}

/-- WHAT THE CALL DOES IN THE MODEL, out of the keys -/
theorem sorted_world (c : Cfg) (hm : c.P.follows .mixedOrders = true) (hs : SumOk c) (hng : c.gl = .leaf) (L : KeyLay c.P ρ kd bs) (hsu : c.sum (ρ.f 9) = none) (hsz : szT c.P (ρ.t 26) = some 1) (e9 : Enters c.P (ρ.f 9)) (hbs : 1000 * bs ≤ 140737488355328)
    {n : Nat} (hnil : nilRun c (n + 1) (ρ.f 9) = true) {ks ts : List Int} (hl : ks.length ≤ 1000) (hts : sortedOf c (n + 1) (ρ.f 9) kd (ρ.t 26) ks = some ts) {Bm Om b clock : Nat} {res : List MapEntry} {w : World} (hBm : Bm < w.heap.size)
    (hbox : w.cell? ⟨Bm, Om, none⟩ = some (.map (some b))) (hb : w.heap[b]? = some (.map ⟨res⟩ clock)) (h1 : res.map (·.key) = ks.map (Value.int kd)) (hw : ∀ n ∈ ks, (Lit.int kd n).wf = true) (hst : Stamped ⟨res⟩ clock) :
    Calls c.P (ρ.f 6) #[.func (.func (ρ.f 10)) #[] #[.pointer (some ⟨Bm, Om, none⟩)]] w fun e w' => (ks = [] ∧ e = .returned (.slice none 0 0) ∧ Below w.heap.size w w') ∨
      (ks ≠ [] ∧ ∃ gb cap, e = .returned (.slice (some ⟨gb, 0, none⟩) ks.length cap) ∧ w.heap.size ≤ gb ∧ ks.length ≤ cap ∧ Below w.heap.size w w' ∧
        ∃ rc frz, w'.heap[gb]? = some (.cells rc (ρ.t 26) frz) ∧ ts.length ≤ cap ∧ cap ≤ rc.size ∧ (∀ i, i < cap → ¬ (frz.1 ≤ i ∧ i < frz.2)) ∧ ∀ (i : Nat) (v : Int), ts[i]? = some v → rc[i]? = some (Value.int kd v)) := by
  obtain ⟨D, hown, hperm, hsize⟩ := owns_of_keys L.t26 hb h1 hw hst (Nat.le_trans hl (by decide))
  have hseq0 := Ks.keys_gives L Fence.wide 7 trivial rfl (by omega) Bm Om b ks.length D w hBm hbox hown
  have hseq : SeqGives Fence.wide (10 - 1 - 1 - 1) c.P (ρ.f 10) #[.pointer (some ⟨Bm, Om, none⟩)] (Value.int kd) (fun ss => ss.Perm ks) ks.length w := by
    rw [hsize] at hseq0
    intro l J W hW hJ hY h0
    exact (hseq0 l J W hW hJ hY h0).mono fun e W' ⟨hv, ss, hS, hJ'⟩ => ⟨hv, ss, hS.trans hperm, hJ'⟩
  have main := Ks.sorted_in L Fence.wide 10 trivial trivial trivial trivial rfl (by omega) ks
    (fun gb cap W w' => w'.os = W.os ∧ w'.tape = W.tape ∧ w'.output = W.output ∧ W.heap.size ≤ w'.heap.size ∧ (∀ b, b < W.heap.size → b ≠ gb → w'.heap[b]? = W.heap[b]?) ∧
      ∃ rc frz, w'.heap[gb]? = some (.cells rc (ρ.t 26) frz) ∧ ts.length ≤ cap ∧ cap ≤ rc.size ∧ (∀ i, i < cap → ¬ (frz.1 ≤ i ∧ i < frz.2)) ∧ ∀ (i : Nat) (v : Int), ts[i]? = some v → rc[i]? = some (Value.int kd v))
    (fun gb cap cur ss W hp hgb ht hlc hcap => callsIn_wide.2 (sort_calls c hm hs hng hsu (sortedOf_ok hts hp) hsz hgb ht hlc hcap))
    (fun W => callsIn_wide.2 (by
      unfold nilRun at hnil
      cases hr : callM c (n + 1) (ρ.f 9) [.nilslice] st0 with
      | fail x => rw [hr] at hnil; cases hnil
      | ok v s =>
        rw [hr] at hnil
        cases v <;> try (cases hnil; done)
        rename_i l
        cases l with
        | cons x l => cases hnil
        | nil =>
          refine (callM_calls c hm hs (μ := fun _ => none) (ν := fun _ => undef) (rs := [.slice none 0 0]) hr hsu rel_empty (fun _ _ _ => rfl) (by rw [hng]; exact Globs.none) (.cons .nilslice .nil)).mono ?_
          rintro e w' ⟨r, rfl, μ', hv, st⟩
          cases hv with
          | tuple hv => cases hv; exact ⟨rfl, st.os, st.tape, st.output, st.size, fun k hk => st.block k hk fun _ _ h => by cases h⟩))
    e9 (ρ.f 10) #[.pointer (some ⟨Bm, Om, none⟩)] trivial (L.f10.enters rfl) ks.length (Nat.le_trans hl (by decide)) (Nat.le_trans (Nat.mul_le_mul_right _ hl) hbs) w hseq
  refine (callsIn_wide.1 main).mono ?_
  rintro e w' (h | ⟨hne, gb, cap, W, h2, h3, h4, h5, hbW, q1, q2, q3, q4, q5, q6⟩)
  · exact .inl h
  · exact .inr ⟨hne, gb, cap, h2, h3, h5, ⟨q1.trans hbW.os, q2.trans hbW.tape, q3.trans hbW.output, Nat.le_trans hbW.size q4, fun k hk => (q5 k (Nat.lt_of_lt_of_le hk hbW.size) (by omega)).trans (hbW.block k hk)⟩, q6⟩

theorem sortedEs_ok {c : Cfg} {n : Nat} {fT : FuncId} {e : TypeId} {es : List ME} {clock : Nat} {ts : List Int} (h : sortedEs c n fT kd e es clock = some ts) :
    ∃ ks, keysI kd es = some ks ∧ keysGood es clock ks = true ∧ sortedOf c n fT kd e ks = some ts ∧ ts.length = ks.length := by
  unfold sortedEs at h
  cases hk : keysI kd es with
  | none => rw [hk] at h; cases h
  | some ks =>
    rw [hk] at h
    simp only at h
    cases hg : keysGood es clock ks
    · rw [hg] at h; cases h
    · rw [hg, cond_true] at h
      cases ho : sortedOf c n fT kd e ks with
      | none => rw [ho] at h; cases h
      | some t =>
        rw [ho] at h
        simp only at h
        cases hb : Nat.beq t.length ks.length
        · rw [hb] at h; cases h
        · rw [hb, cond_true] at h
          cases h
          exact ⟨ks, rfl, hg, ho, Nat.eq_of_beq_eq_true hb⟩

theorem noR {α : Type} {x : String} {v : α} {s' : St} (h : (R.fail x : R α) = .ok v s') : False := by cases h

theorem sortedM_inv {c : Cfg} {n : Nat} {fK fT : FuncId} {e : TypeId} {vs : List V} {s s' : St} {v : V} (h : sortedM c n fK fT kd e vs s = .ok v s') : ∃ f b o, vs = [.func f [] [.ptr b o]] ∧ (bif Nat.beq f fK then Lx.bnd (ld b o 1) (sortedBox c n fT kd e) else err "sorted: another iterator") s = .ok v s' := by
  cases vs with
  | nil => exact (noR h).elim
  | cons x l => cases l with
    | cons y l => cases x <;> first | exact (noR h).elim | (rename_i f xs ys; cases xs <;> first | exact (noR h).elim | (cases ys <;> first | exact (noR h).elim | (rename_i z zs; cases z <;> cases zs <;> exact (noR h).elim)))
    | nil =>
      cases x <;> try exact (noR h).elim
      rename_i f xs ys
      cases xs with
      | cons a xs => exact (noR h).elim
      | nil => cases ys with
        | nil => exact (noR h).elim
        | cons y ys => cases ys with
          | cons z ys => cases y <;> exact (noR h).elim
          | nil =>
            cases y <;> try exact (noR h).elim
            exact ⟨_, _, _, rfl, h⟩

theorem sortedBox_inv {c : Cfg} {n : Nat} {fT : FuncId} {e : TypeId} {cs : List V} {s s' : St} {v : V} (h : sortedBox c n fT kd e cs s = .ok v s') : ∃ r, cs = [.map r] ∧ Lx.bnd (getO r) (sortedMap c n fT kd e) s = .ok v s' := by
  cases cs with
  | nil => exact (noR h).elim
  | cons x l => cases l with
    | cons y l => cases x <;> exact (noR h).elim
    | nil =>
      cases x <;> try exact (noR h).elim
      exact ⟨_, rfl, h⟩

theorem sortedMap_inv {c : Cfg} {n : Nat} {fT : FuncId} {e : TypeId} {ob : Ob} {s s' : St} {v : V} (h : sortedMap c n fT kd e ob s = .ok v s') : ∃ es clock, ob = .map es clock ∧ Lx.bnd (Lx.opt (sortedEs c n fT kd e es clock) "sorted") (sortedTail kd e) s = .ok v s' := by
  cases ob <;> try exact (noR h).elim
  exact ⟨_, _, rfl, h⟩

/-- slices.Sorted MAY STAND IN -/
theorem extSum_sorted (c : Cfg) (hm : c.P.follows .mixedOrders = true) (hs : SumOk c) (hng : c.gl = .leaf) (L : KeyLay c.P ρ kd bs) (hsu : c.sum (ρ.f 9) = none) (hsz : szT c.P (ρ.t 26) = some 1) (e9 : Enters c.P (ρ.f 9)) (e6 : Enters c.P (ρ.f 6))
    (hbs : 1000 * bs ≤ 140737488355328) {n : Nat} (hnil : nilRun c (n + 1) (ρ.f 9) = true) (gl : T (List V)) : ExtSum c.P gl (ρ.f 6) (sortedM c (n + 1) (ρ.f 10) (ρ.f 9) kd (ρ.t 26)) := by
  refine ⟨local_sortedM, ?_⟩
  intro vs v s s' w μ ν rs hg hr hf _ hv
  obtain ⟨f, b, o, rfl, hgg⟩ := sortedM_inv hg
  cases hfb : Nat.beq f (ρ.f 10)
  · rw [hfb, cond_false] at hgg; exact (err_ok hgg).elim
  rw [hfb, cond_true] at hgg
  have hff := Nat.eq_of_beq_eq_true hfb
  subst hff
  obtain ⟨cs, s1, g1, g2'⟩ := bnd_ok hgg
  obtain ⟨cl, hk, hlen, rfl, rfl⟩ := ld_ok g1
  obtain ⟨r, heq, g2⟩ := sortedBox_inv g2'
  obtain ⟨ob, s2, g3, g4'⟩ := bnd_ok g2
  obtain ⟨hk2, _, rfl⟩ := getO_ok g3
  obtain ⟨es, clock, rfl, g4⟩ := sortedMap_inv g4'
  obtain ⟨ts, s3, g5, g6⟩ := bnd_ok g4
  obtain ⟨hts, rfl⟩ := opt_ok g5
  obtain ⟨ks, hks, hgood, hso, htl⟩ := sortedEs_ok hts
  cases hv with
  | cons hv hv0 =>
  cases hv0
  cases hv with
  | func hx hy =>
  cases hx
  cases hy with
  | cons hy hy0 =>
  cases hy0
  cases hy with
  | ptr hp =>
  rename_i p
  obtain ⟨rc, et, frz, k1, k5⟩ := row_rel hr hk hp
  have hthere := (Array.getElem?_eq_some_iff.1 k1).1
  have hcell : cl[o]? = some (.map r) := by
    have : (sub cl o 1)[0]? = some (.map r) := by rw [heq]; rfl
    rw [sub_get (by omega)] at this
    simpa using this
  obtain ⟨rv, k6, k7⟩ := k5 o _ hcell
  cases k7 with
  | map hq =>
  rename_i q
  obtain ⟨q', hq', hob2⟩ := hr.ob r _ hk2
  rw [hq] at hq'
  cases hq'
  obtain ⟨res, m1, m2⟩ := hob2
  obtain ⟨r1, r2, r3⟩ := keysI_rel m2 hks
  have hl : ks.length ≤ 1000 := by
    unfold keysGood at hgood
    simp only [Bool.and_eq_true] at hgood
    exact ble_iff.1 hgood.1.1.1
  have hbox : w.cell? ⟨p.blk, p.off + o, none⟩ = some (.map (some q.blk)) := by rw [cell_at k1]; exact k6
  refine .inl ⟨e6 _ _, (sorted_world c hm hs hng L hsu hsz e9 hbs hnil hl hso hthere hbox m1 r1 r3 (stamped_of r1 r2 hgood)).mono ?_⟩
  rintro e w' (⟨h1, rfl, hb⟩ | ⟨hne, gb, cap, rfl, h3, h4, hb, rc', frz', q1, q2, q3, q4, q5⟩)
  · subst h1
    have : ts = [] := List.eq_nil_of_length_eq_zero htl
    subst this
    obtain ⟨rfl, rfl⟩ := ret_ok g6
    exact ⟨_, rfl, μ, .nilslice, StepOk.below hr hb⟩
  · cases ts with
    | nil => exact absurd (List.eq_nil_of_length_eq_zero htl.symm) hne
    | cons t ts =>
      unfold sortedTail at g6
      obtain ⟨k, s4, g7, g8⟩ := bnd_ok g6
      obtain ⟨rfl, rfl⟩ := alloc_ok g7
      obtain ⟨rfl, rfl⟩ := ret_ok g8
      have hfr : μ s.next = none := hf _ (Nat.le_refl _) (Nat.lt_succ_self _)
      let pn : Pl := ⟨gb, 0, true, 1, cap⟩
      refine ⟨_, rfl, upd μ s.next pn, ?_, StepOk.grow (p := pn) hr hfr hb h3 ⟨rfl, fun _ => hsz, rc', frz', q1, (fun e => by cases e), by simpa [pn] using q2, q3, q4, fun i v hi => ?_⟩⟩
      · rw [← htl]
        exact .slice (p := pn) (upd_same _ _ _) (Nat.le_refl _) (.inr ⟨rfl, .inr ⟨rfl, by rw [htl]; exact h4, by simp [pn]⟩⟩)
      · rw [List.getElem?_map] at hi
        cases hx : (t :: ts)[i]? with
        | none => rw [hx] at hi; cases hi
        | some x =>
          rw [hx] at hi
          cases hi
          exact ⟨_, by simpa [pn] using q5 i x hx, .int _ _⟩

end
end Go.Lx
