/-
  Several texts, joined.
-/
import Derived.Test.YthhdkonpejmgcaaGreatDoorLx8
import Derived.Test.YthhdkonpejmgcaaGreatDoorLx9
/-
  What slices.Sort makes of a slice of integers, run by the machine on every order of the keys.
-/
set_option linter.unusedSimpArgs false
set_option linter.unusedVariables false
namespace Go.Lx
noncomputable section

def inserts (x : Int) : List Int → List (List Int)
  | [] => [[x]]
  | y :: l => (x :: y :: l) :: (inserts x l).map fun t => y :: t
def perms : List Int → List (List Int)
  | [] => [[]]
  | x :: l => (perms l).flatMap (inserts x)

theorem mem_inserts (x : Int) : ∀ a b : List Int, a ++ x :: b ∈ inserts x (a ++ b)
  | [], [] => by simp [inserts]
  | [], y :: b => by simp [inserts]
  | y :: a, b => by
    have := mem_inserts x a b
    simp only [List.cons_append, inserts, List.mem_cons, List.mem_map]
    exact .inr ⟨_, this, rfl⟩

theorem mem_perms : ∀ (l π : List Int), π.Perm l → π ∈ perms l
  | [], π, h => by rw [List.Perm.eq_nil h]; simp [perms]
  | x :: l, π, h => by
    have hx : x ∈ π := h.mem_iff.2 (by simp)
    obtain ⟨a, b, rfl⟩ := List.append_of_mem hx
    have h2 : (a ++ b).Perm l := (List.perm_middle.symm.trans h).cons_inv
    simp only [perms, List.mem_flatMap]
    exact ⟨_, mem_perms l _ h2, mem_inserts x a b⟩

def intsOf (kd : IntKind) : List V → Option (List Int)
  | [] => some []
  | .int k n :: l => if k = kd then (match intsOf kd l with | some r => some (n :: r) | none => none) else none
  | _ => none

theorem intsOf_ok {kd : IntKind} : ∀ {l : List V} {r : List Int}, intsOf kd l = some r → l = r.map (V.int kd)
  | [], r, h => by cases h; rfl
  | v :: l, r, h => by
    cases v <;> simp only [intsOf] at h <;> try (cases h; done)
    rename_i k n
    by_cases hk : k = kd
    · rw [if_pos hk] at h
      cases hl : intsOf kd l with
      | none => rw [hl] at h; cases h
      | some t =>
        rw [hl] at h
        cases h
        rw [intsOf_ok hl, hk]
        rfl
    · rw [if_neg hk] at h; cases h

/-- the block alone -/
def keySt (kd : IntKind) (e : TypeId) (ks : List Int) : St := { heap := T.set .leaf 0 (some (.cells (ks.map (V.int kd)) e true)), next := 1, log := [] }

def sortRun (c : Cfg) (n : Nat) (fT : FuncId) (kd : IntKind) (e : TypeId) (ks : List Int) : Option (List Int) :=
  match callM c n fT [.slice 0 0 ks.length ks.length] (keySt kd e ks) with
  | .ok (.tuple []) s => match s.heap.get 0 with
    | some (.cells cs e' true) => bif Nat.beq e' e then intsOf kd cs else none
    | _ => none
  | _ => none

def sortedOf (c : Cfg) (n : Nat) (fT : FuncId) (kd : IntKind) (e : TypeId) (ks : List Int) : Option (List Int) := match sortRun c n fT kd e ks with
  | some ts => bif (perms ks).all (fun π => match sortRun c n fT kd e π with | some t => decide (t = ts) | none => false) then some ts else none
  | none => none

theorem sortedOf_ok {c : Cfg} {n : Nat} {fT : FuncId} {kd : IntKind} {e : TypeId} {ks ts π : List Int} (h : sortedOf c n fT kd e ks = some ts) (hp : π.Perm ks) : sortRun c n fT kd e π = some ts := by
  unfold sortedOf at h
  cases h1 : sortRun c n fT kd e ks with
  | none => rw [h1] at h; cases h
  | some t0 =>
    rw [h1] at h
    simp only at h
    cases hb : (perms ks).all (fun π => match sortRun c n fT kd e π with | some t => decide (t = t0) | none => false)
    · rw [hb] at h; cases h
    · rw [hb] at h
      cases h
      have := List.all_eq_true.1 hb π (mem_perms _ _ hp)
      cases h2 : sortRun c n fT kd e π with
      | none => rw [h2] at this; cases this
      | some t => rw [h2] at this; rw [of_decide_eq_true this]

/-- WHAT THE SORT DOES IN THE MODEL -/
theorem sort_calls (c : Cfg) (hm : c.P.follows .mixedOrders = true) (hs : SumOk c) (hng : c.gl = .leaf) {n : Nat} {fT : FuncId} {kd : IntKind} {e : TypeId} {π ts : List Int} (hsu : c.sum fT = none) (h : sortRun c (n + 1) fT kd e π = some ts)
    (hsz : szT c.P e = some 1) {W : World} {gb cap : Nat} {cur : Array Value} (hb : W.heap[gb]? = some (.cells cur e (0, 0))) (ht : cur.toList.take π.length = π.map (Value.int kd)) (hl : π.length ≤ cap) (hcap : cur.size = cap) :
    Calls c.P fT #[.slice (some ⟨gb, 0, none⟩) π.length cap] W fun e' w' => e' = .returned (.tuple #[]) ∧ w'.os = W.os ∧ w'.tape = W.tape ∧ w'.output = W.output ∧ W.heap.size ≤ w'.heap.size ∧
      (∀ b, b < W.heap.size → b ≠ gb → w'.heap[b]? = W.heap[b]?) ∧ ∃ rc frz, w'.heap[gb]? = some (.cells rc e frz) ∧ ts.length ≤ cap ∧ cap ≤ rc.size ∧ (∀ i, i < cap → ¬ (frz.1 ≤ i ∧ i < frz.2)) ∧ ∀ (i : Nat) (v : Int), ts[i]? = some v → rc[i]? = some (Value.int kd v) := by
  unfold sortRun at h
  cases hr : callM c (n + 1) fT [.slice 0 0 π.length π.length] (keySt kd e π) with
  | fail w => rw [hr] at h; cases h
  | ok v s =>
    rw [hr] at h
    cases v <;> try (cases h; done)
    rename_i l
    cases l with
    | cons x l => cases h
    | nil =>
    cases hg : s.heap.get 0 with
    | none =>
      replace h : (match s.heap.get 0 with | some (.cells cs e' true) => bif Nat.beq e' e then intsOf kd cs else none | _ => none) = some ts := h
      rw [hg] at h; cases h
    | some ob =>
    replace h : (match s.heap.get 0 with | some (.cells cs e' true) => bif Nat.beq e' e then intsOf kd cs else none | _ => none) = some ts := h
    rw [hg] at h
    cases ob <;> try (cases h; done)
    rename_i cs e' o
    cases o <;> try (cases h; done)
    replace h : (bif Nat.beq e' e then intsOf kd cs else none) = some ts := h
    cases he : Nat.beq e' e
    · rw [he] at h; cases h
    rw [he, cond_true] at h
    have he' : e' = e := Nat.eq_of_beq_eq_true he
    subst he'
    have hcs := intsOf_ok h
    let p : Pl := ⟨gb, 0, true, 1, cap⟩
    let μ0 : Mu := upd (fun _ => none) 0 p
    have hrel : Rel c.P μ0 (fun _ => undef) (keySt kd e' π).heap W.heap := by
      refine ⟨fun k o hk => ?_, fun k k' o o' p1 p2 h1 h2 hne _ g1 g2 => ?_⟩
      · by_cases h0 : k = 0
        · subst h0
          refine ⟨p, upd_same _ _ _, ?_⟩
          have : some o = some (.cells (π.map (V.int kd)) e' true) := hk.symm
          cases this
          refine ⟨rfl, fun _ => hsz, cur, (0, 0), hb, (fun e => by cases e), by simp [p]; exact hl, by simp [p, hcap], fun i _ => by simp, fun i v hv => ?_⟩
          rw [List.getElem?_map] at hv
          cases hx : π[i]? with
          | none => rw [hx] at hv; cases hv
          | some x =>
            rw [hx] at hv
            cases hv
            have hi : i < π.length := (List.getElem?_eq_some_iff.1 hx).1
            refine ⟨.int kd x, ?_, .int _ _⟩
            have : (cur.toList.take π.length)[i]? = some (.int kd x) := by rw [ht, List.getElem?_map, hx]; rfl
            rw [List.getElem?_take, if_pos hi] at this
            simpa [p] using this
        · have : μ0 k = none := upd_ne _ _ h0
          exfalso
          revert hk
          show T.get (T.set .leaf 0 _) k = some o → False
          rw [T.get_set_ne _ _ h0]
          simp [T.get]
      · exfalso
        have e1 : k = 0 := by
          by_cases h0 : k = 0
          · exact h0
          · rw [show μ0 k = none from upd_ne _ _ h0] at g1; cases g1
        have e2 : k' = 0 := by
          by_cases h0 : k' = 0
          · exact h0
          · rw [show μ0 k' = none from upd_ne _ _ h0] at g2; cases g2
        exact hne (e1.trans e2.symm)
    refine (callM_calls c hm hs (μ := μ0) (ν := fun _ => undef) (rs := [.slice (some ⟨gb, 0, none⟩) π.length cap]) hr hsu hrel (fun k h1 h2 => upd_ne _ _ (by have : 1 ≤ k := h1; omega)) (by rw [hng]; exact Globs.none)
      (.cons (.slice (p := p) (upd_same _ _ _) (Nat.le_refl _) (.inr ⟨rfl, .inr ⟨rfl, hl, by simp [p]⟩⟩)) .nil)).mono ?_
    rintro e1 w' ⟨r, rfl, μ', hv, st⟩
    cases hv with
    | tuple hv =>
      cases hv
      obtain ⟨q, hq, ho⟩ := st.rel.ob 0 _ hg
      rw [st.le 0 p (upd_same _ _ _)] at hq
      cases hq
      obtain ⟨_, _, rc, frz, g1, _, g2, g3, g4, g5⟩ := ho
      refine ⟨rfl, st.os, st.tape, st.output, st.size, fun b hb' hne => st.block b hb' fun k pk hk => ?_, rc, frz, g1, by simpa [hcs, p] using g2, g3, g4, fun i v hv => ?_⟩
      · by_cases h0 : k = 0
        · subst h0
          rw [show μ0 0 = some p from upd_same _ _ _] at hk
          cases hk
          exact fun e => hne e.symm
        · rw [show μ0 k = none from upd_ne _ _ h0] at hk; cases hk
      · obtain ⟨r, h1, h2⟩ := g5 i (V.int kd v) (by rw [hcs, List.getElem?_map, hv]; rfl)
        cases h2
        simpa [p] using h1

end
end Go.Lx

/-
  slices.Sorted over maps.Keys, the keys of an integer kind.
-/
set_option linter.unusedSimpArgs false
set_option linter.unusedVariables false
namespace Go.Proofs
open Go.RowKit Go.Maps Go.Sort Go.Shelf
variable {P : Program} {ρ : Ren} {kd : IntKind} {bs : Nat}

set_option maxRecDepth 100000 in
set_option maxHeartbeats 2000000 in
theorem Ks.sorted_in (L : KeyLay P ρ kd bs) (F : Fence) (n : Nat) (h6 : F.fn (ρ.f 6)) (h8 : F.fn (ρ.f 8)) (h9 : F.fn (ρ.f 9)) (h11 : F.fn (ρ.f 11)) (hro : F.round = none) (hn : 4 ≤ n) (ks : List Int) (Q : Nat → Nat → World → World → Prop)
    (hsort : ∀ (gb cap : Nat) (cur : Array Value) (ss : List Int) (W : World), ss.Perm ks → W.heap[gb]? = some (.cells cur (ρ.t 26) (0, 0)) → cur.toList.take ss.length = ss.map (Value.int kd) → ss.length ≤ cap → cur.size = cap →
      CallsIn F (n - 1) P (ρ.f 9) #[.slice (some ⟨gb, 0, none⟩) ss.length cap] W fun e w' => e = .returned (.tuple #[]) ∧ Q gb cap W w')
    (hnil : ∀ W : World, CallsIn F (n - 1) P (ρ.f 9) #[.slice none 0 0] W fun e w' => e = .returned (.tuple #[]) ∧ Below W.heap.size W w')
    (e9 : ∀ args w, (callFunc (ρ.f 9) args).run P w = .ok (.enter (ρ.f 9) args) w) (g : Nat) (lb : Array Value) (hFg : F.fn g) (eg : ∀ args w, (callFunc g args).run P w = .ok (.enter g args) w)
    (N : Nat) (hN : N ≤ maxLen) (hNb : N * bs ≤ 140737488355328) (w : World) (hseq : SeqGives F (n - 1 - 1 - 1) P g lb (Value.int kd) (fun ss => ss.Perm ks) N w) :
    CallsIn F n P (ρ.f 6) #[.func (.func g) #[] lb] w fun e w' => (ks = [] ∧ e = .returned (.slice none 0 0) ∧ Below w.heap.size w w') ∨
      (ks ≠ [] ∧ ∃ gb cap W, e = .returned (.slice (some ⟨gb, 0, none⟩) ks.length cap) ∧ w.heap.size ≤ gb ∧ gb < W.heap.size ∧ ks.length ≤ cap ∧ Below w.heap.size w W ∧ Q gb cap W w') := by
  have h1 : 1 ≤ n := by omega
  have e8 : ∀ args w, (callFunc (ρ.f 8) args).run P w = .ok (.enter (ρ.f 8) args) w := L.f8.enters rfl
  have mixed := L.mixed; have t0 := L.t0; have a0 := L.a0; have z0 := L.z0; have v0 := L.v0; have t24 := L.t24; have a24 := L.a24; have z24 := L.z24; have v24 := L.v24; have t26 := L.t26; have a26 := L.a26; have z26 := L.z26; have v26 := L.v26; have t28 := L.t28; have a28 := L.a28; have z28 := L.z28; have v28 := L.v28
  have u0 := run_underlying L.t0; have u24 := run_underlying L.t24; have u26 := run_underlying L.t26; have u28 := run_underlying L.t28
  obtain ⟨_, _, FG⟩ := L.f6
  refine callsIn_of_wp FG rfl h6 ?_ hro
  simp only [SlBodyZ.n6_ntmps ρ, List.size_toArray, List.length_cons, List.length_nil, Nat.reduceAdd, Nat.reduceSub, Array.replicate_succ, Array.replicate_zero, List.push_toArray, List.append_toArray, List.nil_append, List.cons_append]
  gi_wp2_with (gi_at_fn (ρ.f 8); refine (Ks.collect_in L F (n - 1) h8 h11 hro (by omega) g lb hFg eg _ N hN hNb _ hseq.bounded).mono ?_; rintro e W ⟨v, ss, rfl, ⟨hS, hlen⟩, hrow, hnil', hb⟩)
  have hsl : ss.length = ks.length := hS.length_eq
  rcases hrow.2 with ⟨rfl, hz⟩ | ⟨gb, cap, cur, rfl, hbase, hgb, r1, r2, r3, r4⟩
  · have hss : ss = [] := List.eq_nil_of_length_eq_zero hz
    subst hss
    have hk : ks = [] := List.eq_nil_of_length_eq_zero (by rw [← hsl]; rfl)
    gi_wp2_with (gi_at_fn (ρ.f 9); refine (hnil W).mono ?_; rintro e w' ⟨rfl, hb2⟩)
    go_ret
    exact .inl ⟨hk, rfl, hb.trans (hb2.mono hb.size)⟩
  · have hgl : gb < W.heap.size := (Array.getElem?_eq_some_iff.1 hgb).1
    have hne : ks ≠ [] := fun e => by
      subst e
      have hss : ss = [] := List.eq_nil_of_length_eq_zero hsl
      have := hnil'.2 hss
      cases this
    have cS := hsort gb cap cur ss W hS hgb (by simpa using r4) r1 (by simpa using r3)
    gi_wp2_with (gi_at_fn (ρ.f 9); refine cS.mono ?_; rintro e w' ⟨rfl, hQ⟩)
    go_ret
    exact .inr ⟨hne, gb, cap, W, rfl, hbase, hgl, by omega, hb, hQ⟩

end Go.Proofs

/-
  A map with keys of an integer kind, as the kit's laws on maps want it.
-/
set_option linter.unusedSimpArgs false
set_option linter.unusedVariables false
namespace Go.Lx
noncomputable section
open Go.Proofs Go.Maps
open Go.WideElems (Fit rd rg rd_mk rg_of)
open Go.MapKept (Stamped)
open Go.WideShapes (sorted_perm)

def distinct : List Int → Bool
  | [] => true
  | x :: l => l.all (fun y => !decide (x = y)) && distinct l

theorem distinct_ok : ∀ {l : List Int}, distinct l = true → l.Nodup
  | [], _ => List.nodup_nil
  | x :: l, h => by
    unfold distinct at h
    rw [Bool.and_eq_true] at h
    refine List.nodup_cons.2 ⟨fun hx => ?_, distinct_ok h.2⟩
    have := List.all_eq_true.1 h.1 x hx
    simp at this

def keysI (kd : IntKind) : List ME → Option (List Int)
  | [] => some []
  | e :: es => match e.key with
    | .int k n => if k = kd then (bif (Lit.int kd n).wf then (match keysI kd es with | some r => some (n :: r) | none => none) else none) else none
    | _ => none

theorem keysI_rel {μ : Mu} {ν : Nat → Value} {kd : IntKind} : ∀ {es : List ME} {res : List MapEntry} {ks : List Int}, ESRel μ ν es res → keysI kd es = some ks →
    res.map (·.key) = ks.map (Value.int kd) ∧ res.map (·.born) = es.map (·.born) ∧ ∀ n ∈ ks, (Lit.int kd n).wf = true
  | _, _, ks, .nil, h => by cases h; exact ⟨rfl, rfl, by simp⟩
  | _, _, ks, .cons (k := k) (es := es) hk hv hs, h => by
    cases k <;> simp only [keysI] at h <;> try (cases h; done)
    rename_i q n
    by_cases hq : q = kd
    · rw [if_pos hq] at h
      subst hq
      cases hw : (Lit.int q n).wf
      · rw [hw] at h; cases h
      · rw [hw, cond_true] at h
        cases hr : keysI q es with
        | none => rw [hr] at h; cases h
        | some r =>
          rw [hr] at h
          cases h
          obtain ⟨g1, g2, g3⟩ := keysI_rel hs hr
          cases hk
          refine ⟨by simp [g1], by simp [g2], fun m hm => ?_⟩
          rcases List.mem_cons.1 hm with rfl | hm
          · exact hw
          · exact g3 m hm
    · rw [if_neg hq] at h; cases h

def valInt : Value → Int
  | .int _ n => n
  | _ => 0

theorem owns_of_keys {P : Program} {k : TypeId} {kd : IntKind} (hk : P.underlying k = some (.int kd)) {W : World} {b clock : Nat} {res : List MapEntry} {ks : List Int} (hb : W.heap[b]? = some (.map ⟨res⟩ clock)) (h1 : res.map (·.key) = ks.map (Value.int kd))
    (hw : ∀ n ∈ ks, (Lit.int kd n).wf = true) (hs : Stamped ⟨res⟩ clock) (hl : ks.length ≤ maxLen) :
    ∃ D : DataW Unit, W.ownsMap P k (fun _ => some (.nil, [])) b ks.length D ∧ (intKeys D).Perm ks ∧ Maps.size D = ks.length := by
  have hlen : res.length = ks.length := by simpa using congrArg List.length h1
  have hrd : ∀ x ∈ res, ∃ n, x.key = .int kd n ∧ rd P k (fun _ => some ((.nil : DataW Unit), [])) x = some (.int kd n, .nil) := by
    intro x hx
    have hm : x.key ∈ ks.map (Value.int kd) := by rw [← h1]; exact List.mem_map_of_mem hx
    obtain ⟨n, hn, e⟩ := List.mem_map.1 hm
    refine ⟨n, e.symm, ?_⟩
    obtain ⟨xk, xv, xb⟩ := x
    have e' : xk = Value.int kd n := e.symm
    subst e'
    exact rd_mk (yv := (.nil, [])) (R := fun _ => some ((.nil : DataW Unit), [])) (keyOf_int_mk hk (hw n hn)) rfl
  refine ⟨.map ((res.map (rg P k fun _ => some (.nil, []))).foldr DataW.insert []), ⟨⟨res⟩, clock, hb, ⟨by simpa [hlen] using hl, hs, fun x hx => ?_⟩, by simp [hlen], rfl⟩, ?_, ?_⟩
  · obtain ⟨n, _, h⟩ := hrd x hx
    exact ⟨_, h⟩
  · show (((res.map (rg P k fun _ => some ((.nil : DataW Unit), []))).foldr DataW.insert []).map fun p => intOf p.1).Perm ks
    refine ((sorted_perm _).map _).trans ?_
    have : (res.map (rg P k fun _ => some ((.nil : DataW Unit), []))).map (fun p => intOf p.1) = ks := by
      rw [List.map_map]
      have e : res.map ((fun p => intOf p.1) ∘ rg P k fun _ => some ((.nil : DataW Unit), [])) = (res.map (·.key)).map valInt := by
        rw [List.map_map]
        refine List.map_congr_left fun x hx => ?_
        obtain ⟨n, e, h⟩ := hrd x hx
        simp only [Function.comp, rg_of h, e, valInt, intOf]
      rw [e, h1, List.map_map]
      have : (valInt ∘ Value.int kd) = id := by funext n; rfl
      rw [this, List.map_id]
    rw [this]
  · show ((res.map (rg P k fun _ => some ((.nil : DataW Unit), []))).foldr DataW.insert []).length = _
    rw [(sorted_perm _).length_eq, List.length_map, hlen]

end
end Go.Lx

/-
  slices.Sorted over maps.Keys stands in as one function of the machine: it reads the map and makes the sorted slice.
-/
set_option linter.unusedSimpArgs false
set_option linter.unusedVariables false
namespace Go.Lx
noncomputable section
open Go.Proofs Go.Maps Go.RowKit Go.Shelf
open Go.MapKept (Stamped)

def keysGood (es : List ME) (clock : Nat) (ks : List Int) : Bool := Nat.ble ks.length 1000 && es.all (fun x => Nat.blt x.born clock) && distinct (es.map fun x => (x.born : Int)) && distinct ks

def sortedEs (c : Cfg) (n : Nat) (fT : FuncId) (kd : IntKind) (e : TypeId) (es : List ME) (clock : Nat) : Option (List Int) :=
  match keysI kd es with
  | some ks => bif keysGood es clock ks then (match sortedOf c n fT kd e ks with
    | some ts => bif Nat.beq ts.length ks.length then some ts else none
    | none => none) else none
  | none => none

/-- the sort of a nil slice comes to nothing -/
def nilRun (c : Cfg) (n : Nat) (fT : FuncId) : Bool := match callM c n fT [.nilslice] st0 with
  | .ok (.tuple []) _ => true
  | _ => false

def sortedTail (kd : IntKind) (e : TypeId) : List Int → M V
  | [] => Lx.ret .nilslice
  | t :: ts => Lx.bnd (alloc (.cells ((t :: ts).map (V.int kd)) e true)) fun k => Lx.ret (.slice k 0 (t :: ts).length (t :: ts).length)

def sortedMap (c : Cfg) (n : Nat) (fT : FuncId) (kd : IntKind) (e : TypeId) : Ob → M V
  | .map es clock => Lx.bnd (Lx.opt (sortedEs c n fT kd e es clock) "sorted") (sortedTail kd e)
  | _ => err "sorted: no map"

def sortedBox (c : Cfg) (n : Nat) (fT : FuncId) (kd : IntKind) (e : TypeId) : List V → M V
  | [.map r] => Lx.bnd (getO r) (sortedMap c n fT kd e)
  | _ => err "sorted: no box"

def sortedM (c : Cfg) (n : Nat) (fK fT : FuncId) (kd : IntKind) (e : TypeId) : List V → M V
  | [.func f [] [.ptr b o]] => bif Nat.beq f fK then Lx.bnd (ld b o 1) (sortedBox c n fT kd e) else err "sorted: another iterator"
  | _ => err "sorted: arguments"

theorem local_sortedTail (kd : IntKind) (e : TypeId) (ts : List Int) : Local (sortedTail kd e ts) := by
  cases ts with
  | nil => exact Local.ret _
  | cons t ts => unfold sortedTail; exact Local.bnd (Local.alloc _) fun _ => Local.ret _

theorem local_sortedMap {c : Cfg} {n : Nat} {fT : FuncId} {kd : IntKind} {e : TypeId} (ob : Ob) : Local (sortedMap c n fT kd e ob) := by
  unfold sortedMap
  split
  · exact Local.bnd (Local.opt _ _) fun _ => local_sortedTail _ _ _
  · exact Local.err _

theorem local_sortedBox {c : Cfg} {n : Nat} {fT : FuncId} {kd : IntKind} {e : TypeId} (cs : List V) : Local (sortedBox c n fT kd e cs) := by
  unfold sortedBox
  split
  · exact Local.bnd (Local.getO _) fun _ => local_sortedMap _
  · exact Local.err _

theorem local_sortedM {c : Cfg} {n : Nat} {fK fT : FuncId} {kd : IntKind} {e : TypeId} (vs : List V) : Local (sortedM c n fK fT kd e vs) := by
  unfold sortedM
  split
  · exact Local.cond (Local.bnd (Local.ld _ _ _) fun _ => local_sortedBox _) (Local.err _)
  · exact Local.err _

theorem StepOk.below {P : Program} {μ : Mu} {ν : Nat → Value} {h : T Ob} {n : Nat} {w w' : World} (hr : Rel P μ ν h w.heap) (hb : Below w.heap.size w w') : StepOk P μ ν h n w μ h n w' where
  le := Mu.le_refl _
  new := fun _ _ => rfl
  rel := ⟨fun k o hk => by
    obtain ⟨p, hp, ho⟩ := hr.ob k o hk
    exact ⟨p, hp, ho.mono (Mu.le_refl _) (hb.block _ ho.there)⟩, hr.sep⟩
  os := hb.os
  tape := hb.tape
  output := hb.output
  size := hb.size
  block := fun b h1 _ => hb.block b h1
  newblk := fun k p h1 h2 => by rw [h1] at h2; cases h2
  ro := fun k c p h1 hp => by
    obtain ⟨q, hq, ho⟩ := hr.ob k _ h1
    rw [hp] at hq; cases hq
    exact ⟨h1, hb.block _ ho.there⟩

theorem StepOk.grow {P : Program} {μ : Mu} {ν : Nat → Value} {h : T Ob} {n : Nat} {w w' : World} {ob : Ob} {p : Pl} (hr : Rel P μ ν h w.heap) (hk : μ n = none) (hb : Below w.heap.size w w') (hp : w.heap.size ≤ p.blk)
    (ho : ORel P (upd μ n p) ν p w'.heap ob) : StepOk P μ ν h n w (upd μ n p) (h.set n (some ob)) (n + 1) w' where
  le := upd_le _ hk
  new := fun k hk' => upd_ne _ _ (by omega)
  rel := by
    have old : ∀ k o, k ≠ n → (h.set n (some ob)).get k = some o → h.get k = some o := fun k o hne hk' => by rwa [T.get_set_ne _ _ hne] at hk'
    refine ⟨fun k o hk' => ?_, fun k k' o o' p1 p2 h1 h2 hne hro g1 g2 => ?_⟩
    · by_cases e : k = n
      · subst e
        rw [T.get_set_same] at hk'
        cases hk'
        exact ⟨p, upd_same _ _ _, ho⟩
      · obtain ⟨q, hq, hoq⟩ := hr.ob k o (old k o e hk')
        exact ⟨q, by rw [upd_ne _ _ e]; exact hq, hoq.mono (upd_le _ hk) (hb.block _ hoq.there)⟩
    · have lt : ∀ j oj q, j ≠ n → (h.set n (some ob)).get j = some oj → upd μ n p j = some q → q.blk < w.heap.size := fun j oj q hj h3 h4 => by
        obtain ⟨q', hq', hoq⟩ := hr.ob j oj (old j oj hj h3)
        rw [upd_ne _ _ hj, hq'] at h4
        cases h4
        exact hoq.there
      by_cases e : k = n
      · have e' : k' ≠ n := fun x => hne (e.trans x.symm)
        have := lt k' o' p2 e' h2 g2
        subst e
        rw [upd_same] at g1; cases g1
        omega
      · by_cases e' : k' = n
        · have := lt k o p1 e h1 g1
          subst e'
          rw [upd_same] at g2; cases g2
          omega
        · rw [upd_ne _ _ e] at g1; rw [upd_ne _ _ e'] at g2
          exact hr.sep k k' o o' p1 p2 (old k o e h1) (old k' o' e' h2) hne hro g1 g2
  os := hb.os
  tape := hb.tape
  output := hb.output
  size := hb.size
  block := fun b h1 _ => hb.block b h1
  newblk := fun k q h1 h2 => by
    by_cases e : k = n
    · subst e; rw [upd_same] at h1; cases h1; exact .inl hp
    · rw [upd_ne _ _ e] at h1; rw [h1] at h2; cases h2
  ro := fun k c q h1 hq => by
    have hne : k ≠ n := fun e => by rw [e, hk] at hq; cases hq
    obtain ⟨q', hq', ho⟩ := hr.ob k _ h1
    rw [hq] at hq'; cases hq'
    exact ⟨by rw [T.get_set, if_neg hne]; exact h1, hb.block _ ho.there⟩

theorem stamped_of {es : List ME} {res : List MapEntry} {clock : Nat} {ks : List Int} {kd : IntKind} (h1 : res.map (·.key) = ks.map (Value.int kd)) (h2 : res.map (·.born) = es.map (·.born)) (hg : keysGood es clock ks = true) : Stamped ⟨res⟩ clock := by
  unfold keysGood at hg
  simp only [Bool.and_eq_true] at hg
  obtain ⟨⟨⟨_, g2⟩, g3⟩, g4⟩ := hg
  refine ⟨fun x hx => ?_, ?_, ?_⟩
  · have hm : x.born ∈ es.map (·.born) := by rw [← h2]; exact List.mem_map_of_mem hx
    obtain ⟨y, hy, e⟩ := List.mem_map.1 hm
    rw [← e]
    exact blt_iff.1 (List.all_eq_true.1 g2 y hy)
  · show (res.map (·.born)).Nodup
    rw [h2]
    have := distinct_ok g3
    have e : es.map (fun x => (x.born : Int)) = (es.map (·.born)).map Int.ofNat := by rw [List.map_map]; rfl
    rw [e] at this
    exact List.Pairwise.of_map Int.ofNat (fun a b hab e => hab (by rw [e])) this
  · show (res.map (·.key)).Nodup
    rw [h1]
    exact List.pairwise_map.2 ((distinct_ok g4).imp fun hne e => hne (by injection e))

variable {ρ : Ren} {kd : IntKind} {bs : Nat}

/-- WHAT THE CALL DOES IN THE MODEL, out of the keys -/
theorem sorted_world (c : Cfg) (hm : c.P.follows .mixedOrders = true) (hs : SumOk c) (hng : c.gl = .leaf) (L : KeyLay c.P ρ kd bs) (hsu : c.sum (ρ.f 9) = none) (hsz : szT c.P (ρ.t 26) = some 1) (e9 : Enters c.P (ρ.f 9)) (hbs : 1000 * bs ≤ 140737488355328)
    {n : Nat} (hnil : nilRun c (n + 1) (ρ.f 9) = true) {ks ts : List Int} (hl : ks.length ≤ 1000) (hts : sortedOf c (n + 1) (ρ.f 9) kd (ρ.t 26) ks = some ts) {Bm Om b clock : Nat} {res : List MapEntry} {w : World} (hBm : Bm < w.heap.size)
    (hbox : w.cell? ⟨Bm, Om, none⟩ = some (.map (some b))) (hb : w.heap[b]? = some (.map ⟨res⟩ clock)) (h1 : res.map (·.key) = ks.map (Value.int kd)) (hw : ∀ n ∈ ks, (Lit.int kd n).wf = true) (hst : Stamped ⟨res⟩ clock) :
    Calls c.P (ρ.f 6) #[.func (.func (ρ.f 10)) #[] #[.pointer (some ⟨Bm, Om, none⟩)]] w fun e w' => (ks = [] ∧ e = .returned (.slice none 0 0) ∧ Below w.heap.size w w') ∨
      (ks ≠ [] ∧ ∃ gb cap, e = .returned (.slice (some ⟨gb, 0, none⟩) ks.length cap) ∧ w.heap.size ≤ gb ∧ ks.length ≤ cap ∧ Below w.heap.size w w' ∧
        ∃ rc frz, w'.heap[gb]? = some (.cells rc (ρ.t 26) frz) ∧ ts.length ≤ cap ∧ cap ≤ rc.size ∧ (∀ i, i < cap → ¬ (frz.1 ≤ i ∧ i < frz.2)) ∧ ∀ (i : Nat) (v : Int), ts[i]? = some v → rc[i]? = some (Value.int kd v)) := by
  obtain ⟨D, hown, hperm, hsize⟩ := owns_of_keys L.t26 hb h1 hw hst (Nat.le_trans hl (by decide))
  have hseq0 := Ks.keys_gives L Fence.wide 7 trivial rfl (by omega) Bm Om b ks.length D w hBm hbox hown
  have hseq : SeqGives Fence.wide (10 - 1 - 1 - 1) c.P (ρ.f 10) #[.pointer (some ⟨Bm, Om, none⟩)] (Value.int kd) (fun ss => ss.Perm ks) ks.length w := by
    rw [hsize] at hseq0
    intro l J W hW hJ hY h0
    exact (hseq0 l J W hW hJ hY h0).mono fun e W' ⟨hv, ss, hS, hJ'⟩ => ⟨hv, ss, hS.trans hperm, hJ'⟩
  have main := Ks.sorted_in L Fence.wide 10 trivial trivial trivial trivial rfl (by omega) ks
    (fun gb cap W w' => w'.os = W.os ∧ w'.tape = W.tape ∧ w'.output = W.output ∧ W.heap.size ≤ w'.heap.size ∧ (∀ b, b < W.heap.size → b ≠ gb → w'.heap[b]? = W.heap[b]?) ∧
      ∃ rc frz, w'.heap[gb]? = some (.cells rc (ρ.t 26) frz) ∧ ts.length ≤ cap ∧ cap ≤ rc.size ∧ (∀ i, i < cap → ¬ (frz.1 ≤ i ∧ i < frz.2)) ∧ ∀ (i : Nat) (v : Int), ts[i]? = some v → rc[i]? = some (Value.int kd v))
    (fun gb cap cur ss W hp hgb ht hlc hcap => callsIn_wide.2 (sort_calls c hm hs hng hsu (sortedOf_ok hts hp) hsz hgb ht hlc hcap))
    (fun W => callsIn_wide.2 (by
      unfold nilRun at hnil
      cases hr : callM c (n + 1) (ρ.f 9) [.nilslice] st0 with
      | fail x => rw [hr] at hnil; cases hnil
      | ok v s =>
        rw [hr] at hnil
        cases v <;> try (cases hnil; done)
        rename_i l
        cases l with
        | cons x l => cases hnil
        | nil =>
          refine (callM_calls c hm hs (μ := fun _ => none) (ν := fun _ => undef) (rs := [.slice none 0 0]) hr hsu rel_empty (fun _ _ _ => rfl) (by rw [hng]; exact Globs.none) (.cons .nilslice .nil)).mono ?_
          rintro e w' ⟨r, rfl, μ', hv, st⟩
          cases hv with
          | tuple hv => cases hv; exact ⟨rfl, st.os, st.tape, st.output, st.size, fun k hk => st.block k hk fun _ _ h => by cases h⟩))
    e9 (ρ.f 10) #[.pointer (some ⟨Bm, Om, none⟩)] trivial (L.f10.enters rfl) ks.length (Nat.le_trans hl (by decide)) (Nat.le_trans (Nat.mul_le_mul_right _ hl) hbs) w hseq
  refine (callsIn_wide.1 main).mono ?_
  rintro e w' (h | ⟨hne, gb, cap, W, h2, h3, h4, h5, hbW, q1, q2, q3, q4, q5, q6⟩)
  · exact .inl h
  · exact .inr ⟨hne, gb, cap, h2, h3, h5, ⟨q1.trans hbW.os, q2.trans hbW.tape, q3.trans hbW.output, Nat.le_trans hbW.size q4, fun k hk => (q5 k (Nat.lt_of_lt_of_le hk hbW.size) (by omega)).trans (hbW.block k hk)⟩, q6⟩

theorem sortedEs_ok {c : Cfg} {n : Nat} {fT : FuncId} {e : TypeId} {es : List ME} {clock : Nat} {ts : List Int} (h : sortedEs c n fT kd e es clock = some ts) :
    ∃ ks, keysI kd es = some ks ∧ keysGood es clock ks = true ∧ sortedOf c n fT kd e ks = some ts ∧ ts.length = ks.length := by
  unfold sortedEs at h
  cases hk : keysI kd es with
  | none => rw [hk] at h; cases h
  | some ks =>
    rw [hk] at h
    simp only at h
    cases hg : keysGood es clock ks
    · rw [hg] at h; cases h
    · rw [hg, cond_true] at h
      cases ho : sortedOf c n fT kd e ks with
      | none => rw [ho] at h; cases h
      | some t =>
        rw [ho] at h
        simp only at h
        cases hb : Nat.beq t.length ks.length
        · rw [hb] at h; cases h
        · rw [hb, cond_true] at h
          cases h
          exact ⟨ks, rfl, hg, ho, Nat.eq_of_beq_eq_true hb⟩

theorem noR {α : Type} {x : String} {v : α} {s' : St} (h : (R.fail x : R α) = .ok v s') : False := by cases h

theorem sortedM_inv {c : Cfg} {n : Nat} {fK fT : FuncId} {e : TypeId} {vs : List V} {s s' : St} {v : V} (h : sortedM c n fK fT kd e vs s = .ok v s') : ∃ f b o, vs = [.func f [] [.ptr b o]] ∧ (bif Nat.beq f fK then Lx.bnd (ld b o 1) (sortedBox c n fT kd e) else err "sorted: another iterator") s = .ok v s' := by
  cases vs with
  | nil => exact (noR h).elim
  | cons x l => cases l with
    | cons y l => cases x <;> first | exact (noR h).elim | (rename_i f xs ys; cases xs <;> first | exact (noR h).elim | (cases ys <;> first | exact (noR h).elim | (rename_i z zs; cases z <;> cases zs <;> exact (noR h).elim)))
    | nil =>
      cases x <;> try exact (noR h).elim
      rename_i f xs ys
      cases xs with
      | cons a xs => exact (noR h).elim
      | nil => cases ys with
        | nil => exact (noR h).elim
        | cons y ys => cases ys with
          | cons z ys => cases y <;> exact (noR h).elim
          | nil =>
            cases y <;> try exact (noR h).elim
            exact ⟨_, _, _, rfl, h⟩

theorem sortedBox_inv {c : Cfg} {n : Nat} {fT : FuncId} {e : TypeId} {cs : List V} {s s' : St} {v : V} (h : sortedBox c n fT kd e cs s = .ok v s') : ∃ r, cs = [.map r] ∧ Lx.bnd (getO r) (sortedMap c n fT kd e) s = .ok v s' := by
  cases cs with
  | nil => exact (noR h).elim
  | cons x l => cases l with
    | cons y l => cases x <;> exact (noR h).elim
    | nil =>
      cases x <;> try exact (noR h).elim
      exact ⟨_, rfl, h⟩

theorem sortedMap_inv {c : Cfg} {n : Nat} {fT : FuncId} {e : TypeId} {ob : Ob} {s s' : St} {v : V} (h : sortedMap c n fT kd e ob s = .ok v s') : ∃ es clock, ob = .map es clock ∧ Lx.bnd (Lx.opt (sortedEs c n fT kd e es clock) "sorted") (sortedTail kd e) s = .ok v s' := by
  cases ob <;> try exact (noR h).elim
  exact ⟨_, _, rfl, h⟩

/-- slices.Sorted MAY STAND IN -/
theorem extSum_sorted (c : Cfg) (hm : c.P.follows .mixedOrders = true) (hs : SumOk c) (hng : c.gl = .leaf) (L : KeyLay c.P ρ kd bs) (hsu : c.sum (ρ.f 9) = none) (hsz : szT c.P (ρ.t 26) = some 1) (e9 : Enters c.P (ρ.f 9)) (e6 : Enters c.P (ρ.f 6))
    (hbs : 1000 * bs ≤ 140737488355328) {n : Nat} (hnil : nilRun c (n + 1) (ρ.f 9) = true) (gl : T (List V)) : ExtSum c.P gl (ρ.f 6) (sortedM c (n + 1) (ρ.f 10) (ρ.f 9) kd (ρ.t 26)) := by
  refine ⟨local_sortedM, ?_⟩
  intro vs v s s' w μ ν rs hg hr hf _ hv
  obtain ⟨f, b, o, rfl, hgg⟩ := sortedM_inv hg
  cases hfb : Nat.beq f (ρ.f 10)
  · rw [hfb, cond_false] at hgg; exact (err_ok hgg).elim
  rw [hfb, cond_true] at hgg
  have hff := Nat.eq_of_beq_eq_true hfb
  subst hff
  obtain ⟨cs, s1, g1, g2'⟩ := bnd_ok hgg
  obtain ⟨cl, hk, hlen, rfl, rfl⟩ := ld_ok g1
  obtain ⟨r, heq, g2⟩ := sortedBox_inv g2'
  obtain ⟨ob, s2, g3, g4'⟩ := bnd_ok g2
  obtain ⟨hk2, _, rfl⟩ := getO_ok g3
  obtain ⟨es, clock, rfl, g4⟩ := sortedMap_inv g4'
  obtain ⟨ts, s3, g5, g6⟩ := bnd_ok g4
  obtain ⟨hts, rfl⟩ := opt_ok g5
  obtain ⟨ks, hks, hgood, hso, htl⟩ := sortedEs_ok hts
  cases hv with
  | cons hv hv0 =>
  cases hv0
  cases hv with
  | func hx hy =>
  cases hx
  cases hy with
  | cons hy hy0 =>
  cases hy0
  cases hy with
  | ptr hp =>
  rename_i p
  obtain ⟨rc, et, frz, k1, k5⟩ := row_rel hr hk hp
  have hthere := (Array.getElem?_eq_some_iff.1 k1).1
  have hcell : cl[o]? = some (.map r) := by
    have : (sub cl o 1)[0]? = some (.map r) := by rw [heq]; rfl
    rw [sub_get (by omega)] at this
    simpa using this
  obtain ⟨rv, k6, k7⟩ := k5 o _ hcell
  cases k7 with
  | map hq =>
  rename_i q
  obtain ⟨q', hq', hob2⟩ := hr.ob r _ hk2
  rw [hq] at hq'
  cases hq'
  obtain ⟨res, m1, m2⟩ := hob2
  obtain ⟨r1, r2, r3⟩ := keysI_rel m2 hks
  have hl : ks.length ≤ 1000 := by
    unfold keysGood at hgood
    simp only [Bool.and_eq_true] at hgood
    exact ble_iff.1 hgood.1.1.1
  have hbox : w.cell? ⟨p.blk, p.off + o, none⟩ = some (.map (some q.blk)) := by rw [cell_at k1]; exact k6
  refine .inl ⟨e6 _ _, (sorted_world c hm hs hng L hsu hsz e9 hbs hnil hl hso hthere hbox m1 r1 r3 (stamped_of r1 r2 hgood)).mono ?_⟩
  rintro e w' (⟨h1, rfl, hb⟩ | ⟨hne, gb, cap, rfl, h3, h4, hb, rc', frz', q1, q2, q3, q4, q5⟩)
  · subst h1
    have : ts = [] := List.eq_nil_of_length_eq_zero htl
    subst this
    obtain ⟨rfl, rfl⟩ := ret_ok g6
    exact ⟨_, rfl, μ, .nilslice, StepOk.below hr hb⟩
  · cases ts with
    | nil => exact absurd (List.eq_nil_of_length_eq_zero htl.symm) hne
    | cons t ts =>
      unfold sortedTail at g6
      obtain ⟨k, s4, g7, g8⟩ := bnd_ok g6
      obtain ⟨rfl, rfl⟩ := alloc_ok g7
      obtain ⟨rfl, rfl⟩ := ret_ok g8
      have hfr : μ s.next = none := hf _ (Nat.le_refl _) (Nat.lt_succ_self _)
      let pn : Pl := ⟨gb, 0, true, 1, cap⟩
      refine ⟨_, rfl, upd μ s.next pn, ?_, StepOk.grow (p := pn) hr hfr hb h3 ⟨rfl, fun _ => hsz, rc', frz', q1, (fun e => by cases e), by simpa [pn] using q2, q3, q4, fun i v hi => ?_⟩⟩
      · rw [← htl]
        exact .slice (p := pn) (upd_same _ _ _) (Nat.le_refl _) (.inr ⟨rfl, .inr ⟨rfl, by rw [htl]; exact h4, by simp [pn]⟩⟩)
      · rw [List.getElem?_map] at hi
        cases hx : (t :: ts)[i]? with
        | none => rw [hx] at hi; cases hi
        | some x =>
          rw [hx] at hi
          cases hi
          exact ⟨_, by simpa [pn] using q5 i x hx, .int _ _⟩

end
end Go.Lx
