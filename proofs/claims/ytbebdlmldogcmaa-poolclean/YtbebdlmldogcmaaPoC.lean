/-
  Several texts of one walk, joined.
-/
import Derived.Test.YtbebdlmldogcmaaPoB
import Derived.Test.YtbebdlmldogcmaaRows
import Derived.Test.YtbebdlmldogcmaaLyR
import Derived.Test.YtbebdlmldogcmaaLyU
import Derived.Test.YtbebdlmldogcmaaLyG
set_option linter.unusedSimpArgs false
set_option linter.unusedVariables false
set_option linter.unusedSectionVars false
set_option linter.defProp false
set_option maxRecDepth 10000
set_option maxHeartbeats 1000000
namespace Go.Proofs.Ytbebdlmldogcmaa
open Go.Proofs Go.Lx Go.Wx Go.IntWalk
noncomputable section
structure Tr where
  had : List Int
  clean : List Int
  now : List Int
def at1 (n : Int) : Nat := (n - 1).toNat
def giveOk (t : Tr) (m : MV) : Prop := 1 ≤ m.cn ∧ m.cn ≤ t.had.length ∧ t.now[at1 m.cn]? = some 0 ∧ (t.had[at1 m.cn]? = some m.cl ∨ ∃ v, t.clean[at1 m.cn]? = some v ∧ v ≠ 0)
def stepM (t : Tr) (m : MV) : Option Tr :=
  if m.kd = 1 then (if m.cn = t.had.length + 1 then some ⟨t.had ++ [m.cl], t.clean ++ [1], t.now ++ [0]⟩ else none)
  else if m.kd = 2 then (if giveOk t m then some ⟨t.had.set (at1 m.cn) m.cl, t.clean.set (at1 m.cn) 0, t.now.set (at1 m.cn) m.cl⟩ else none)
  else some t
def runM : List MV → Tr → Option Tr
  | [], t => some t
  | m :: l, t => match stepM t m with
    | some t' => runM l t'
    | none => none
theorem runM_snoc : ∀ (l : List MV) (m : MV) (t t1 t2 : Tr), runM l t = some t1 → stepM t1 m = some t2 → runM (l ++ [m]) t = some t2
  | [], m, t, t1, t2, h1, h2 => by
    cases h1
    show (match stepM t m with | some t' => runM [] t' | none => none) = _
    rw [h2]; rfl
  | x :: l, m, t, t1, t2, h1, h2 => by
    show (match stepM t x with | some t' => runM (l ++ [m]) t' | none => none) = _
    have h1' : (match stepM t x with | some t' => runM l t' | none => none) = some t1 := h1
    cases hs : stepM t x with
    | none => rw [hs] at h1'; cases h1'
    | some t' => rw [hs] at h1'; exact runM_snoc l m t' t1 t2 h1' h2
structure Inv (p : PL) (t : Tr) : Prop where
  lc : t.clean.length = t.had.length
  ln : t.now.length = t.had.length
  last : p.last = t.had.length
  rise : (p.conns.map PC.num).Nodup
  num : ∀ c ∈ p.conns, 1 ≤ c.num ∧ c.num ≤ p.last
  op : ∀ c ∈ p.conns, c.st = 1 → t.now[at1 c.num]? = some 0 ∧ t.had[at1 c.num]? = some c.cl
  rs : ∀ c ∈ p.conns, c.st = 3 → t.now[at1 c.num]? = some 0
  idl : ∀ c ∈ p.conns, c.st = 4 → t.now[at1 c.num]? = some 0 ∧ ∃ v, t.clean[at1 c.num]? = some v ∧ v ≠ 0
def Cl (t0 : Tr) (p : PL) : Prop := ∃ t, runM p.moves t0 = some t ∧ Inv p t
theorem Cl.step {t0 : Tr} {p q : PL} (h : Cl t0 p) (m : MV) (hq : q.moves = p.moves ++ [m]) (hs : ∀ t, Inv p t → ∃ t', stepM t m = some t' ∧ Inv q t') : Cl t0 q := by
  obtain ⟨t, h1, h2⟩ := h
  obtain ⟨t', h3, h4⟩ := hs t h2
  exact ⟨t', by rw [hq]; exact runM_snoc _ _ _ _ _ h1 h3, h4⟩
theorem at1_ne {a b : Int} (ha : 1 ≤ a) (hb : 1 ≤ b) (h : a ≠ b) : at1 a ≠ at1 b := by unfold at1; omega
theorem some_app {l r : List Int} {i : Nat} {v : Int} (h : l[i]? = some v) : (l ++ r)[i]? = some v := by
  have hi : i < l.length := by
    rcases Nat.lt_or_ge i l.length with h1 | h1
    · exact h1
    · rw [List.getElem?_eq_none h1] at h; cases h
  rw [List.getElem?_append_left hi]; exact h
theorem Inv.cong {p q : PL} {t : Tr} (h : Inv p t) (h1 : q.conns = p.conns) (h2 : q.last = p.last) : Inv q t :=
  ⟨h.lc, h.ln, by rw [h2]; exact h.last, by rw [h1]; exact h.rise, by rw [h1, h2]; exact h.num, by rw [h1]; exact h.op, by rw [h1]; exact h.rs, by rw [h1]; exact h.idl⟩
theorem Inv.del {p : PL} {t : Tr} (h : Inv p t) (n : Int) : Inv (p.del n) t := by
  have hs : ∀ c ∈ (p.del n).conns, c ∈ p.conns := fun c hc => (List.mem_filter.1 hc).1
  exact ⟨h.lc, h.ln, h.last, List.Nodup.sublist (List.filter_sublist.map _) h.rise, fun c hc => h.num c (hs c hc), fun c hc => h.op c (hs c hc), fun c hc => h.rs c (hs c hc), fun c hc => h.idl c (hs c hc)⟩
theorem Cl.quiet {t0 : Tr} {p : PL} (h : Cl t0 p) {kd : Int} (h1 : kd ≠ 1) (h2 : kd ≠ 2) (a b : Int) : Cl t0 (p.mov kd a b) :=
  h.step ⟨kd, a, b⟩ rfl fun t ht => ⟨t, by unfold stepM; rw [if_neg h1, if_neg h2], ht.cong rfl rfl⟩
theorem Cl.cong {t0 : Tr} {p q : PL} (h : Cl t0 p) (h1 : q.conns = p.conns) (h2 : q.last = p.last) (h3 : q.moves = p.moves) : Cl t0 q := by
  obtain ⟨t, w1, w2⟩ := h
  exact ⟨t, by rw [h3]; exact w1, w2.cong h1 h2⟩
theorem Cl.del {t0 : Tr} {p : PL} (h : Cl t0 p) (n : Int) : Cl t0 (p.del n) := by
  obtain ⟨t, w1, w2⟩ := h
  exact ⟨t, w1, w2.del n⟩
theorem set_num (l : List PC) (n : Int) (c' : PC) (hc : c'.num = n) : (l.map fun x => if x.num = n then c' else x).map PC.num = l.map PC.num := by
  rw [List.map_map]
  refine List.map_congr_left fun x _ => ?_
  show PC.num (if x.num = n then c' else x) = x.num
  by_cases e : x.num = n
  · rw [if_pos e, hc, e]
  · rw [if_neg e]
theorem set_mem {l : List PC} {n : Int} {c' x : PC} (h : x ∈ l.map fun x => if x.num = n then c' else x) : x = c' ∨ (x ∈ l ∧ x.num ≠ n) := by
  obtain ⟨y, hy, rfl⟩ := List.mem_map.1 h
  by_cases e : y.num = n
  · rw [if_pos e]; exact .inl rfl
  · rw [if_neg e]; exact .inr ⟨hy, e⟩
theorem Inv.give {p q : PL} {t : Tr} (h : Inv p t) {c c' : PC} (hc : c ∈ p.conns) (cl : Int) (hok : t.now[at1 c.num]? = some 0 ∧ (t.had[at1 c.num]? = some cl ∨ ∃ v, t.clean[at1 c.num]? = some v ∧ v ≠ 0)) (hcn : c'.num = c.num) (hst : c'.st = 2) (hq : q.conns = p.conns.map fun x => if x.num = c.num then c' else x) (hl : q.last = p.last) :
    ∃ t', stepM t ⟨2, c.num, cl⟩ = some t' ∧ Inv q t' := by
  have hn := h.num c hc
  have hg : giveOk t ⟨2, c.num, cl⟩ := ⟨hn.1, by have := h.last; show c.num ≤ _; omega, hok.1, hok.2⟩
  refine ⟨⟨t.had.set (at1 c.num) cl, t.clean.set (at1 c.num) 0, t.now.set (at1 c.num) cl⟩, ?_, ?_⟩
  · unfold stepM
    rw [if_neg (show ¬ (2 : Int) = 1 by decide), if_pos rfl, if_pos hg]
  · have hne : ∀ x ∈ p.conns, x.num ≠ c.num → at1 c.num ≠ at1 x.num := fun x hx e => at1_ne hn.1 (h.num x hx).1 (Ne.symm e)
    refine ⟨by simp [h.lc], by simp [h.ln], by rw [hl]; simp [h.last], by rw [hq, set_num _ _ _ hcn]; exact h.rise, fun x hx => ?_, fun x hx hs => ?_, fun x hx hs => ?_, fun x hx hs => ?_⟩
    · rw [hq] at hx
      rw [hl]
      rcases set_mem hx with rfl | ⟨hx, _⟩
      · rw [hcn]; exact hn
      · exact h.num x hx
    · rw [hq] at hx
      rcases set_mem hx with rfl | ⟨hx, e⟩
      · rw [hst] at hs; exact absurd hs (by decide)
      · have := h.op x hx hs
        simp only [List.getElem?_set_ne (hne x hx e)]
        exact this
    · rw [hq] at hx
      rcases set_mem hx with rfl | ⟨hx, e⟩
      · rw [hst] at hs; exact absurd hs (by decide)
      · have := h.rs x hx hs
        simp only [List.getElem?_set_ne (hne x hx e)]
        exact this
    · rw [hq] at hx
      rcases set_mem hx with rfl | ⟨hx, e⟩
      · rw [hst] at hs; exact absurd hs (by decide)
      · have := h.idl x hx hs
        simp only [List.getElem?_set_ne (hne x hx e)]
        exact this
theorem Cl.serve1 {t0 : Tr} {p q : PL} (h : Cl t0 p) (hs : serve1 p = some q) : Cl t0 q := by
  obtain ⟨w, ws, hw, h1⟩ := serve1_cases hs
  rcases h1 with ⟨c, hc, h4, rfl⟩ | ⟨_, _, rfl⟩
  · refine h.step ⟨2, c.num, w.cl⟩ rfl fun t ht => ?_
    have hi := ht.idl c hc h4
    exact ht.give hc w.cl ⟨hi.1, .inr hi.2⟩ (c' := ⟨c.num, 2, w.cl, 0⟩) rfl rfl rfl rfl
  · refine h.step ⟨1, p.last + 1, w.cl⟩ rfl fun t ht => ?_
    have hla := ht.last
    refine ⟨⟨t.had ++ [w.cl], t.clean ++ [1], t.now ++ [0]⟩, ?_, ?_⟩
    · unfold stepM
      rw [if_pos rfl, if_pos (show p.last + 1 = _ by omega)]
    · have hmem : ∀ x ∈ p.conns ++ [⟨p.last + 1, 1, w.cl, 0⟩], x ∈ p.conns ∨ x = ⟨p.last + 1, 1, w.cl, 0⟩ := fun x hx => (List.mem_append.1 hx).imp id List.mem_singleton.1
      have hat : at1 (p.last + 1) = t.had.length := by unfold at1; omega
      refine ⟨by simp [ht.lc], by simp [ht.ln], by show p.last + 1 = _; simp [hla], ?_, fun x hx => ?_, fun x hx hs => ?_, fun x hx hs => ?_, fun x hx hs => ?_⟩
      · show ((p.conns ++ [_]).map PC.num).Nodup
        rw [List.map_append, List.nodup_append]
        refine ⟨ht.rise, by simp, fun a ha b hb e => ?_⟩
        obtain ⟨x, hx, rfl⟩ := List.mem_map.1 ha
        have hb : b = p.last + 1 := by simpa using hb
        have := (ht.num x hx).2
        omega
      · show 1 ≤ x.num ∧ x.num ≤ p.last + 1
        rcases hmem x hx with hx | rfl
        · have := ht.num x hx; omega
        · show 1 ≤ p.last + 1 ∧ p.last + 1 ≤ _; omega
      · rcases hmem x hx with hx | rfl
        · have := ht.op x hx hs
          exact ⟨some_app this.1, some_app this.2⟩
        · show (t.now ++ [0])[at1 (p.last + 1)]? = _ ∧ (t.had ++ [w.cl])[at1 (p.last + 1)]? = _
          rw [hat]
          exact ⟨by rw [← ht.ln, List.getElem?_append_right (Nat.le_refl _)]; simp, by rw [List.getElem?_append_right (Nat.le_refl _)]; simp⟩
      · rcases hmem x hx with hx | rfl
        · exact some_app (ht.rs x hx hs)
        · exact absurd (show (1 : Int) = 3 from hs) (by decide)
      · rcases hmem x hx with hx | rfl
        · obtain ⟨q1, v, q2, q3⟩ := ht.idl x hx hs
          exact ⟨some_app q1, v, some_app q2, q3⟩
        · exact absurd (show (1 : Int) = 4 from hs) (by decide)
theorem Cl.serve {t0 : Tr} {p : PL} (h : Cl t0 p) : Cl t0 (serveF p) := serveF_keeps (fun _ _ => Cl.serve1) h
theorem Inv.turn {p : PL} {t : Tr} (h : Inv p t) {c : PC} (hc : c ∈ p.conns) {n : Int} (hn : c.num = n) (c' : PC) (h1 : c'.st = 1 → t.now[at1 n]? = some 0 ∧ t.had[at1 n]? = some c'.cl) (h3 : c'.st = 3 → t.now[at1 n]? = some 0) (h4 : c'.st = 4 → t.now[at1 n]? = some 0 ∧ ∃ v, t.clean[at1 n]? = some v ∧ v ≠ 0) : Inv (p.set n c') t := by
  have e : (p.set n c').conns = p.conns.map fun x => if x.num = n then ⟨n, c'.st, c'.cl, c'.since⟩ else x := List.map_congr_left fun x _ => by
    by_cases e : x.num = n
    · rw [if_pos e, if_pos e, e]
    · rw [if_neg e, if_neg e]
  refine ⟨h.lc, h.ln, h.last, by rw [e, set_num p.conns n ⟨n, c'.st, c'.cl, c'.since⟩ rfl]; exact h.rise, fun x hx => ?_, fun x hx => ?_, fun x hx => ?_, fun x hx => ?_⟩
  all_goals rw [e] at hx; rcases set_mem hx with rfl | ⟨hx, _⟩
  · have := h.num c hc; rw [hn] at this; exact this
  · exact h.num x hx
  · exact h1
  · exact h.op x hx
  · exact h3
  · exact h.rs x hx
  · exact h4
  · exact h.idl x hx
def pre (t : Tr) (k n : Int) (y : Prop) : Tr :=
  if k = 3 ∧ y ∧ 1 ≤ n ∧ n ≤ t.had.length then { t with clean := t.clean.set (at1 n) 1 }
  else if (k = 2 ∨ k = 4) ∧ 1 ≤ n ∧ n ≤ t.now.length then { t with now := t.now.set (at1 n) 0 } else t
theorem some_lt {l : List Int} {i : Nat} {v : Int} (h : l[i]? = some v) : i < l.length := by
  rcases Nat.lt_or_ge i l.length with h1 | h1
  · exact h1
  · rw [List.getElem?_eq_none h1] at h; cases h
theorem set_zero {l : List Int} {i j : Nat} (h : l[i]? = some 0) : (l.set j 0)[i]? = some 0 := by
  by_cases e : j = i
  · subst e; rw [List.getElem?_set_self (some_lt h)]
  · rw [List.getElem?_set_ne e]; exact h
theorem Inv.pre {p : PL} {t : Tr} (h : Inv p t) (k n : Int) (y : Prop) : Inv p (pre t k n y) := by
  unfold Go.Proofs.Ytbebdlmldogcmaa.pre
  by_cases a : k = 3 ∧ y ∧ 1 ≤ n ∧ n ≤ t.had.length
  · rw [if_pos a]
    refine ⟨by simp [h.lc], h.ln, h.last, h.rise, h.num, h.op, h.rs, fun x hx hs => ?_⟩
    obtain ⟨q1, v, q2, q3⟩ := h.idl x hx hs
    refine ⟨q1, ?_⟩
    by_cases e : at1 n = at1 x.num
    · exact ⟨1, by show (t.clean.set (at1 n) 1)[at1 x.num]? = _; rw [e, List.getElem?_set_self (some_lt q2)], by decide⟩
    · exact ⟨v, by show (t.clean.set (at1 n) 1)[at1 x.num]? = _; rw [List.getElem?_set_ne e]; exact q2, q3⟩
  · rw [if_neg a]
    by_cases b : (k = 2 ∨ k = 4) ∧ 1 ≤ n ∧ n ≤ t.now.length
    · rw [if_pos b]
      refine ⟨h.lc, by simp [h.ln], h.last, h.rise, h.num, fun x hx hs => ?_, fun x hx hs => set_zero (h.rs x hx hs), fun x hx hs => ?_⟩
      · have := h.op x hx hs; exact ⟨set_zero this.1, this.2⟩
      · have := h.idl x hx hs; exact ⟨set_zero this.1, this.2⟩
    · rw [if_neg b]; exact h
theorem Cl.begin {p : PL} {t : Tr} (hm : p.moves = []) (h : Inv p t) : Cl t p := ⟨t, by rw [hm]; rfl, h⟩
theorem Cl.drop {t0 : Tr} {p : PL} (h : Cl t0 p) (n : Int) : Cl t0 ((p.del n).mov 6 n 0) := (h.del n).quiet (by decide) (by decide) _ _
theorem outM_moves (q : WT → Prop) (l : List WT) (t : Tr) : runM (outM q l) t = some t := by
  unfold outM
  induction l.filter fun w => decide (q w) with
  | nil => rfl
  | cons w l ih =>
    show (match stepM t ⟨4, 0, w.cl⟩ with | some t' => runM (l.map _) t' | none => none) = _
    rw [show stepM t ⟨4, 0, w.cl⟩ = some t from rfl]
    exact ih
theorem Cl.out {p : PL} {t : Tr} (h : Inv p t) (q : WT → Prop) : Cl t (outL q p) := ⟨t, outM_moves _ _ _, h.cong rfl rfl⟩
theorem clean_ask {p : PL} {t : Tr} (hm : p.moves = []) (h : Inv p t) (k n : Int) (y : Prop) : ((askF p k n y).1 ≠ 0 ∧ (askF p k n y).2.1 = [] ∧ (askF p k n y).2.2 = p) ∨ ((askF p k n y).1 = 0 ∧ (askF p k n y).2.2.moves = [] ∧ ∃ t', runM (askF p k n y).2.1 (pre t k n y) = some t' ∧ Inv (askF p k n y).2.2 t') := by
  have hp := h.pre k n y
  have fin : ∀ q : PL, Cl (pre t k n y) q → (q.done.1 ≠ 0 ∧ q.done.2.1 = [] ∧ q.done.2.2 = p) ∨ (q.done.1 = 0 ∧ q.done.2.2.moves = [] ∧ ∃ t', runM q.done.2.1 (pre t k n y) = some t' ∧ Inv q.done.2.2 t') := fun q ⟨t', h1, h2⟩ => .inr ⟨rfl, rfl, t', h1, h2.cong rfl rfl⟩
  have bad : ∀ e : Int, e ≠ 0 → ((e, [], p) : Res).1 ≠ 0 ∧ ((e, [], p) : Res).2.1 = [] ∧ ((e, [], p) : Res).2.2 = p := fun e he => ⟨he, rfl, rfl⟩
  have h0 : Cl (pre t k n y) p := Cl.begin hm hp
  unfold askF
  by_cases k0 : k = 0
  · rw [if_pos k0]
    unfold acquireF
    by_cases a1 : ¬ (1 ≤ n ∧ n ≤ 1073741824)
    · rw [if_pos a1]; exact .inl (bad 2 (by decide))
    rw [if_neg a1]
    by_cases a2 : p.closed
    · rw [if_pos a2]; exact .inl (bad 9 (by decide))
    rw [if_neg a2]
    by_cases a3 : hasL p n ∨ waitsL p n
    · rw [if_pos a3]; exact .inl (bad 280 (by decide))
    rw [if_neg a3]
    by_cases a4 : 256 ≤ p.wts.length
    · rw [if_pos a4]; exact .inl (bad 283 (by decide))
    rw [if_neg a4]
    have h1 : Cl (pre t k n y) { p with wts := p.wts ++ [⟨n, p.now + p.wait⟩] } := h0.cong rfl rfl rfl
    by_cases a5 : waitsL (serveF { p with wts := p.wts ++ [⟨n, p.now + p.wait⟩] }) n
    · rw [if_pos a5]; exact fin _ (h1.serve.quiet (by decide) (by decide) _ _)
    · rw [if_neg a5]; exact fin _ h1.serve
  rw [if_neg k0]
  by_cases k1 : k = 1
  · rw [if_pos k1]
    unfold openedF
    cases hg : p.get n with
    | none => exact .inl (bad 281 (by decide))
    | some c =>
      simp only
      obtain ⟨hc, hcn⟩ := get_mem hg
      by_cases a1 : c.st ≠ 1
      · rw [if_pos a1]; exact .inl (bad 282 (by decide))
      rw [if_neg a1]
      rw [Classical.not_not] at a1
      by_cases a2 : y
      · rw [if_pos a2]
        refine fin _ (h0.step ⟨2, n, c.cl⟩ rfl fun t ht => ?_)
        have ho := ht.op c hc a1
        have := ht.give (q := (p.set n ⟨n, 2, c.cl, c.since⟩).mov 2 n c.cl) hc c.cl ⟨ho.1, .inl ho.2⟩ (c' := ⟨n, 2, c.cl, c.since⟩) hcn.symm rfl (by
          rw [hcn]
          exact List.map_congr_left fun x _ => by
            by_cases e : x.num = n
            · rw [if_pos e, if_pos e, e]
            · rw [if_neg e, if_neg e]) rfl
        rw [hcn] at this
        exact this
      · rw [if_neg a2]; exact fin _ (h0.del _).serve
  rw [if_neg k1]
  by_cases k2 : k = 2
  · rw [if_pos k2]
    unfold releaseF
    cases hg : p.get n with
    | none => exact .inl (bad 281 (by decide))
    | some c =>
      simp only
      obtain ⟨hc, hcn⟩ := get_mem hg
      by_cases a1 : c.st ≠ 2
      · rw [if_pos a1]; exact .inl (bad 282 (by decide))
      rw [if_neg a1]
      by_cases a2 : p.closed ∨ (p.conns.length : Int) > p.lim
      · rw [if_pos a2]; exact fin _ (h0.drop _).serve
      · rw [if_neg a2]
        have hn := h.num c hc
        have hla := h.last
        have hln := h.ln
        rw [hcn] at hn
        have e1 : pre t k n y = { t with now := t.now.set (at1 n) 0 } := by
          unfold pre
          rw [if_neg (fun q => by have := q.1; omega), if_pos ⟨.inl k2, hn.1, by omega⟩]
        have hz : (pre t k n y).now[at1 n]? = some 0 := by
          rw [e1]
          exact List.getElem?_set_self (by unfold at1; omega)
        refine fin _ (Cl.quiet (Cl.begin (p := p.set n ⟨n, 3, c.cl, c.since⟩) hm (hp.turn hc hcn _ (fun q => absurd (show (3 : Int) = 1 from q) (by decide)) (fun _ => hz) (fun q => absurd (show (3 : Int) = 4 from q) (by decide)))) (by decide) (by decide) _ _)
  rw [if_neg k2]
  by_cases k3 : k = 3
  · rw [if_pos k3]
    unfold resetF
    cases hg : p.get n with
    | none => exact .inl (bad 281 (by decide))
    | some c =>
      simp only
      obtain ⟨hc, hcn⟩ := get_mem hg
      by_cases a1 : c.st ≠ 3
      · rw [if_pos a1]; exact .inl (bad 282 (by decide))
      rw [if_neg a1]
      rw [Classical.not_not] at a1
      by_cases a2 : y ∧ ¬ p.closed ∧ (p.conns.length : Int) ≤ p.lim
      · rw [if_pos a2]
        have hn := h.num c hc
        have hla := h.last
        have hlc := h.lc
        rw [hcn] at hn
        have e1 : pre t k n y = { t with clean := t.clean.set (at1 n) 1 } := by
          unfold pre
          rw [if_pos ⟨k3, a2.1, hn.1, by omega⟩]
        have hz : (pre t k n y).clean[at1 n]? = some 1 := by
          rw [e1]
          exact List.getElem?_set_self (by unfold at1; omega)
        have hr := hp.rs c hc a1
        rw [hcn] at hr
        exact fin _ (Cl.serve (Cl.begin (p := p.set n ⟨n, 4, c.cl, p.now⟩) hm (hp.turn hc hcn _ (fun q => absurd (show (4 : Int) = 1 from q) (by decide)) (fun q => absurd (show (4 : Int) = 3 from q) (by decide)) (fun _ => ⟨hr, 1, hz, by decide⟩))))
      · rw [if_neg a2]; exact fin _ (h0.drop _).serve
  rw [if_neg k3]
  by_cases k4 : k = 4
  · rw [if_pos k4]
    unfold lostF
    cases hg : p.get n with
    | none => exact .inl (bad 281 (by decide))
    | some c => exact fin _ (h0.del _).serve
  rw [if_neg k4]
  by_cases k5 : k = 5
  · rw [if_pos k5]
    unfold leaveF
    by_cases a1 : ¬ waitsL p n
    · rw [if_pos a1]; exact .inl (bad 281 (by decide))
    · rw [if_neg a1]; exact fin _ (h0.cong rfl rfl rfl)
  rw [if_neg k5]
  by_cases k6 : k = 6
  · rw [if_pos k6]
    unfold tickF
    by_cases a1 : ¬ (0 ≤ n ∧ n ≤ 1048576)
    · rw [if_pos a1]; exact .inl (bad 2 (by decide))
    · rw [if_neg a1]
      refine fin _ (Cl.serve ?_)
      exact clR_keeps (fun p n h => h.drop n) _ _ (Cl.out (p := { p with now := p.now + n }) (hp.cong rfl rfl) _)
  rw [if_neg k6]
  by_cases k7 : k = 7
  · rw [if_pos k7]
    unfold pauseF
    by_cases a1 : p.closed
    · rw [if_pos a1]; exact .inl (bad 9 (by decide))
    · rw [if_neg a1]; exact fin _ (Cl.serve (h0.cong rfl rfl rfl))
  rw [if_neg k7]
  by_cases k8 : k = 8
  · rw [if_pos k8]
    unfold limitF
    by_cases a1 : ¬ (1 ≤ n ∧ n ≤ 64)
    · rw [if_pos a1]; exact .inl (bad 2 (by decide))
    · rw [if_neg a1]
      refine fin _ (Cl.serve ?_)
      exact limR_keeps (fun p n h => h.drop n) _ _ _ (h0.cong rfl rfl rfl)
  rw [if_neg k8]
  unfold closeF
  by_cases a1 : p.closed
  · rw [if_pos a1]; exact .inl (bad 9 (by decide))
  · rw [if_neg a1]
    exact fin _ (clR_keeps (fun p n h => h.drop n) _ _ (Cl.out (p := { p with closed := True }) (hp.cong rfl rfl) _))
end
end Go.Proofs.Ytbebdlmldogcmaa
set_option linter.unusedSimpArgs false
set_option linter.unusedVariables false
set_option linter.unusedSectionVars false
set_option linter.defProp false
set_option maxRecDepth 10000
set_option maxHeartbeats 1000000
namespace Go.Proofs.Ytbebdlmldogcmaa
open Go.Proofs Go.Lx Go.Wx Go.IntWalk
noncomputable section

def kept (q : WT → Prop) (l : List WT) : List WT := l.filter fun w => @decide (q w) (Classical.propDecidable _)
theorem kept_all (l : List WT) : kept (fun _ => True) l = l := List.filter_eq_self.2 fun _ _ => by simp
structure Fr (p : PL) : Prop where
  len : (p.conns.length : Int) ≤ p.lim
  dist : (p.wts.map WT.cl).Nodup
  til : ∀ w ∈ p.wts, p.now < w.til
  clo : p.closed → p.wts = []
  wt : 1 ≤ p.wait
def Bz (p : PL) : Prop := p.wts ≠ [] → ¬ p.paused → p.lim ≤ p.conns.length ∧ ∀ c ∈ p.conns, c.st ≠ 4
structure Sv (p q : PL) : Prop where
  lim : q.lim = p.lim
  now : q.now = p.now
  wait : q.wait = p.wait
  paused : q.paused = p.paused
  closed : q.closed = p.closed
  wts : ∃ m, q.wts = p.wts.drop m
theorem Sv.refl (p : PL) : Sv p p := ⟨rfl, rfl, rfl, rfl, rfl, 0, rfl⟩
theorem Sv.trans {a b c : PL} (x : Sv a b) (y : Sv b c) : Sv a c := by
  obtain ⟨m, hm⟩ := x.wts
  obtain ⟨n, hn⟩ := y.wts
  exact ⟨y.lim.trans x.lim, y.now.trans x.now, y.wait.trans x.wait, y.paused.trans x.paused, y.closed.trans x.closed, m + n, by rw [hn, hm, List.drop_drop]⟩
theorem Sv.serve1 {p q : PL} (hs : serve1 p = some q) : Sv p q := by
  obtain ⟨w, ws, hw, h1⟩ := serve1_cases hs
  rcases h1 with ⟨c, _, _, rfl⟩ | ⟨_, _, rfl⟩
  · exact ⟨rfl, rfl, rfl, rfl, rfl, 1, by rw [hw]; rfl⟩
  · exact ⟨rfl, rfl, rfl, rfl, rfl, 1, by rw [hw]; rfl⟩
theorem Sv.serve (p : PL) : Sv p (serveF p) := serveF_keeps (I := fun q => Sv p q) (fun a b h hs => h.trans (Sv.serve1 hs)) (Sv.refl p)
theorem Fr.serve1 {p q : PL} (h : Fr p) (hs : serve1 p = some q) : Fr q := by
  have sv := Sv.serve1 hs
  obtain ⟨m, hm⟩ := sv.wts
  obtain ⟨w, ws, hw, h1⟩ := serve1_cases hs
  refine ⟨?_, by rw [hm, List.map_drop]; exact List.Nodup.sublist (List.drop_sublist _ _) h.dist, fun w hw => by rw [hm] at hw; rw [sv.now]; exact h.til w (List.mem_of_mem_drop hw), fun hc => by rw [sv.closed] at hc; rw [hm, h.clo hc, List.drop_nil], by rw [sv.wait]; exact h.wt⟩
  rw [sv.lim]
  rcases h1 with ⟨c, _, _, rfl⟩ | ⟨_, hl, rfl⟩
  · have := h.len
    show ((p.conns.map _).length : Int) ≤ _
    rw [List.length_map]; exact this
  · show ((p.conns ++ [_]).length : Int) ≤ _
    rw [List.length_append]
    simp only [List.length_cons, List.length_nil]
    omega
theorem Fr.serve {p : PL} (h : Fr p) : Fr (serveF p) := serveF_keeps (fun _ _ => Fr.serve1) h
theorem Bz.serve {p : PL} (h : Fr p) : Bz (serveF p) := by
  intro hw hp
  have sv := Sv.serve p
  rw [sv.paused] at hp
  have hcl : ¬ p.closed := fun hc => hw ((Fr.serve h).clo (by rw [sv.closed]; exact hc))
  have e : serveF p = serveR p.wts.length p := if_neg fun q => q.elim hp hcl
  have hend := serveR_end p.wts.length p (Nat.le_refl _)
  rw [← e] at hend
  rcases serve1_no hend with q | ⟨q1, q2⟩
  · exact absurd q hw
  · exact ⟨by omega, q1⟩
theorem Fr.del {p : PL} (h : Fr p) (n : Int) : Fr (p.del n) := ⟨by have := h.len; have h2 := List.length_filter_le (fun c : PC => decide (c.num ≠ n)) p.conns; show ((p.conns.filter fun c => decide (c.num ≠ n)).length : Int) ≤ p.lim; omega, h.dist, h.til, h.clo, h.wt⟩
theorem Fr.mov {p : PL} (h : Fr p) (a b c : Int) : Fr (p.mov a b c) := ⟨h.len, h.dist, h.til, h.clo, h.wt⟩
theorem Fr.set {p : PL} (h : Fr p) (n : Int) (c' : PC) : Fr (p.set n c') := ⟨by have := h.len; show ((p.conns.map _).length : Int) ≤ _; rw [List.length_map]; exact this, h.dist, h.til, h.clo, h.wt⟩
theorem Bz.set {p : PL} (h : Bz p) (n : Int) (c' : PC) (hc : c'.st ≠ 4) : Bz (p.set n c') := fun hw hp => by
  obtain ⟨h1, h2⟩ := h hw hp
  refine ⟨by show p.lim ≤ ((p.conns.map _).length : Int); rw [List.length_map]; exact h1, fun x hx => ?_⟩
  obtain ⟨y, hy, rfl⟩ := List.mem_map.1 hx
  by_cases e : y.num = n
  · rw [if_pos e]; exact hc
  · rw [if_neg e]; exact h2 y hy
structure FairR (p : PL) (k n : Int) (y : Prop) (r : Res) : Prop where
  fr : Fr r.2.2
  bz : Bz r.2.2
  mv : r.2.2.moves = []
  lim : r.2.2.lim = p.lim
  pa : k = 7 ∧ r.1 = 0 → r.2.2.paused = y
  pb : ¬ (k = 7 ∧ r.1 = 0) → r.2.2.paused = p.paused
  ord : ∃ (q : WT → Prop) (m : Nat) (ext : List WT), r.2.2.wts = (kept q p.wts).drop m ++ ext ∧ (∀ w ∈ p.wts, ¬ q w → (k = 5 ∧ w.cl = n) ∨ w.til ≤ r.2.2.now ∨ k = 9) ∧ (∀ w ∈ p.wts, w ∉ ext) ∧ (ext = [] ∨ k = 0 ∧ ∃ w, ext = [w] ∧ w.cl = n)
theorem FairR.bad {p : PL} (h : Fr p) (hb : Bz p) (hm : p.moves = []) (k n : Int) (y : Prop) (e : Int) (he : e ≠ 0) : FairR p k n y (e, [], p) :=
  ⟨h, hb, hm, rfl, fun q => absurd q.2 he, fun _ => rfl, fun _ => True, 0, [], by rw [List.drop_zero, List.append_nil, kept_all], fun _ _ q => absurd trivial q, fun _ _ q => (by cases q), .inl rfl⟩
theorem FairR.same {p q : PL} (k n : Int) (y : Prop) (h : Fr q) (hb : Bz q) (hl : q.lim = p.lim) (hw : ∃ m, q.wts = p.wts.drop m) (hp : q.paused = p.paused) (hk : k ≠ 7) : FairR p k n y q.done := by
  obtain ⟨m, hm⟩ := hw
  refine ⟨⟨h.len, h.dist, h.til, h.clo, h.wt⟩, hb, rfl, hl, fun q => absurd q.1 hk, fun _ => hp, fun _ => True, m, [], ?_, fun _ _ q => absurd trivial q, fun _ _ q => (by cases q), .inl rfl⟩
  have e := kept_all p.wts
  rw [e, List.append_nil]
  exact hm
end
end Go.Proofs.Ytbebdlmldogcmaa
set_option linter.unusedSimpArgs false
set_option linter.unusedVariables false
set_option linter.unusedSectionVars false
set_option linter.defProp false
set_option maxRecDepth 10000
set_option maxHeartbeats 1000000
namespace Go.Proofs.Ytbebdlmldogcmaa
open Go.Proofs Go.Lx Go.Wx Go.IntWalk
noncomputable section

def Few (K : Nat) (p : PL) : Prop := p.moves.length + p.wts.length ≤ K
theorem Few.serve {K : Nat} {p : PL} (h : Few K p) : Few K (serveF p) := by
  refine serveF_keeps (I := Few K) (fun p q h hs => ?_) h
  obtain ⟨w, ws, hw, h1⟩ := serve1_cases hs
  unfold Few at h
  rw [hw] at h
  simp only [List.length_cons] at h
  rcases h1 with ⟨c, _, _, rfl⟩ | ⟨_, _, rfl⟩
  · show (p.moves ++ [_]).length + ws.length ≤ K
    rw [List.length_append]; simp only [List.length_cons, List.length_nil]; omega
  · show (p.moves ++ [_]).length + ws.length ≤ K
    rw [List.length_append]; simp only [List.length_cons, List.length_nil]; omega
theorem Few.mov {K : Nat} {p : PL} (h : Few K p) (a b c : Int) : Few (K + 1) (p.mov a b c) := by
  unfold Few at h ⊢
  show (p.moves ++ [_]).length + p.wts.length ≤ K + 1
  rw [List.length_append]; simp only [List.length_cons, List.length_nil]; omega
theorem Few.del {K : Nat} {p : PL} (h : Few K p) (n : Int) : Few K (p.del n) := h
theorem Few.set {K : Nat} {p : PL} (h : Few K p) (n : Int) (c : PC) : Few K (p.set n c) := h
theorem Few.clR {t : PC → Prop} : ∀ (l : List PC) {K : Nat} {p : PL}, Few K p → Few (K + l.length) (clR t l p)
  | [], K, p, h => h
  | c :: l, K, p, h => by
    rw [Go.Proofs.Ytbebdlmldogcmaa.clR]
    have e : K + (c :: l).length = (K + 1) + l.length := by simp only [List.length_cons]; omega
    rw [e]
    by_cases hc : t c
    · rw [if_pos hc]; exact Few.clR l ((h.del c.num).mov 6 c.num 0)
    · rw [if_neg hc]; exact Few.clR l (show Few (K + 1) p by unfold Few at h ⊢; omega)
theorem Few.limR (n : Int) : ∀ (f : Nat) {K : Nat} {p : PL}, Few K p → Few (K + f) (limR f p n)
  | 0, K, p, h => h
  | f + 1, K, p, h => by
    rw [Go.Proofs.Ytbebdlmldogcmaa.limR]
    have h0 : Few (K + (f + 1)) p := by unfold Few at h ⊢; omega
    cases hl : longC p.conns none with
    | none => exact h0
    | some c =>
      simp only
      by_cases hc : (p.conns.length : Int) > n
      · rw [if_pos hc]
        have e : K + (f + 1) = (K + 1) + f := by omega
        rw [e]
        exact Few.limR n f ((h.del c.num).mov 6 c.num 0)
      · rw [if_neg hc]; exact h0
theorem ask_moves {p : PL} (hm : p.moves = []) (hw : p.wts.length ≤ 256) (hc : p.conns.length ≤ 1000) (k n : Int) (y : Prop) : (askF p k n y).2.1.length ≤ 100000 := by
  have fin : ∀ (K : Nat) (q : PL), K ≤ 100000 → Few K q → q.done.2.1.length ≤ 100000 := fun K q hK h => by unfold Few at h; show q.moves.length ≤ _; omega
  have h0 : Few 256 p := by unfold Few; rw [hm]; show 0 + _ ≤ _; omega
  have z : ∀ e : Int, ((e, [], p) : Res).2.1.length ≤ 100000 := fun _ => Nat.zero_le _
  unfold askF
  by_cases k0 : k = 0
  · rw [if_pos k0]
    unfold acquireF
    have h1 : Few 257 { p with wts := p.wts ++ [⟨n, p.now + p.wait⟩] } := by
      unfold Few at h0 ⊢
      show p.moves.length + (p.wts ++ [_]).length ≤ _
      rw [List.length_append]; simp only [List.length_cons, List.length_nil]; omega
    split
    · exact z 2
    · split
      · exact z 9
      · split
        · exact z 280
        · split
          · exact z 283
          · split
            · exact fin 258 _ (by decide) (h1.serve.mov _ _ _)
            · exact fin 257 _ (by decide) h1.serve
  rw [if_neg k0]
  by_cases k1 : k = 1
  · rw [if_pos k1]
    unfold openedF
    split
    · exact z 281
    · split
      · exact z 282
      · split
        · exact fin 257 _ (by decide) ((h0.set n _).mov _ _ _)
        · exact fin 256 _ (by decide) (h0.del n).serve
  rw [if_neg k1]
  by_cases k2 : k = 2
  · rw [if_pos k2]
    unfold releaseF
    split
    · exact z 281
    · split
      · exact z 282
      · split
        · exact fin 257 _ (by decide) ((h0.del n).mov _ _ _).serve
        · exact fin 257 _ (by decide) ((h0.set n _).mov _ _ _)
  rw [if_neg k2]
  by_cases k3 : k = 3
  · rw [if_pos k3]
    unfold resetF
    split
    · exact z 281
    · split
      · exact z 282
      · split
        · exact fin 256 _ (by decide) (h0.set n _).serve
        · exact fin 257 _ (by decide) ((h0.del n).mov _ _ _).serve
  rw [if_neg k3]
  by_cases k4 : k = 4
  · rw [if_pos k4]
    unfold lostF
    split
    · exact z 281
    · exact fin 256 _ (by decide) (h0.del n).serve
  rw [if_neg k4]
  by_cases k5 : k = 5
  · rw [if_pos k5]
    unfold leaveF
    split
    · exact z 281
    · show p.moves.length ≤ _
      rw [hm]; exact Nat.zero_le _
  rw [if_neg k5]
  have hout : ∀ (q : WT → Prop) (p' : PL), p'.wts.length ≤ 256 → Few 512 (outL q p') := fun q p' hw => by
    unfold Few
    show (outM q p'.wts).length + (outW q p'.wts).length ≤ 512
    have h1 : (outM q p'.wts).length ≤ p'.wts.length := by unfold outM; rw [List.length_map]; exact List.length_filter_le _ _
    have h2 : (outW q p'.wts).length ≤ p'.wts.length := List.length_filter_le _ _
    omega
  by_cases k6 : k = 6
  · rw [if_pos k6]
    unfold tickF
    split
    · exact z 2
    · exact fin (512 + p.conns.length) _ (by omega) (Few.clR p.conns (hout _ { p with now := p.now + n } hw)).serve
  rw [if_neg k6]
  by_cases k7 : k = 7
  · rw [if_pos k7]
    unfold pauseF
    split
    · exact z 9
    · exact fin 256 _ (by decide) (Few.serve (p := { p with paused := y }) h0)
  rw [if_neg k7]
  by_cases k8 : k = 8
  · rw [if_pos k8]
    unfold limitF
    split
    · exact z 2
    · exact fin (256 + (p.conns.length + 1)) _ (by omega) (Few.limR n (p.conns.length + 1) (p := { p with lim := n }) h0).serve
  rw [if_neg k8]
  unfold closeF
  split
  · exact z 9
  · exact fin (512 + p.conns.length) _ (by omega) (Few.clR p.conns (hout _ { p with closed := True } hw))
end
end Go.Proofs.Ytbebdlmldogcmaa
set_option linter.unusedSimpArgs false
set_option linter.unusedVariables false
set_option linter.unusedSectionVars false
set_option linter.defProp false
set_option maxRecDepth 10000
set_option maxHeartbeats 1000000
namespace Go.Proofs.Ytbebdlmldogcmaa
open Int (reduceLE reduceLT reduceToNat)
open Nat (reduceLeDiff reduceEqDiff reduceAdd)
open Go.Proofs Go.Lx Go.Wx Go.IntWalk
noncomputable section
structure ACT where
  kd : Int
  n : Int
  y : Prop
def ACT.cells (a : ACT) : List V := [.int .i64 a.kd, .int .i64 a.n, bo a.y]
def acells (l : List ACT) : List V := l.flatMap ACT.cells
theorem acells_len (l : List ACT) : (acells l).length = l.length * 3 := by
  induction l with
  | nil => rfl
  | cons w l ih =>
    show (ACT.cells w ++ acells l).length = _
    rw [List.length_append, ih]
    show 3 + _ = (l.length + 1) * 3
    omega
theorem acells_drop : ∀ (l : List ACT) (i : Nat), (acells l).drop (i * 3) = acells (l.drop i)
  | l, 0 => by simp
  | [], i + 1 => by simp [acells]
  | w :: l, i + 1 => by
    have ih := acells_drop l i
    rw [show (i + 1) * 3 = 3 + i * 3 by omega, List.drop_succ_cons, ← ih, show acells (w :: l) = w.cells ++ acells l from rfl, ← List.drop_drop]
    rfl
theorem acells_at {l : List ACT} {i : Nat} (hi : i < l.length) : ((acells l).drop (i * 3)).take 3 = [.int .i64 l[i].kd, .int .i64 l[i].n, bo l[i].y] := by
  rw [acells_drop, List.drop_eq_getElem_cons hi]
  rfl
theorem three_at {cs : List V} {k : Nat} {a b c : V} (h : (cs.drop k).take 3 = [a, b, c]) : cs[k]? = some a ∧ cs[k + 1]? = some b ∧ cs[k + 2]? = some c := by
  have h0 := congrArg (fun l : List V => l[0]?) h
  have h1 := congrArg (fun l : List V => l[1]?) h
  have h2 := congrArg (fun l : List V => l[2]?) h
  simp only [List.getElem?_take, List.getElem?_drop] at h0 h1 h2
  exact ⟨h0, h1, h2⟩
def ARow (h : H) (lv : V) (l : List ACT) : Prop := (lv = .nilslice ∧ l = []) ∨ ∃ b m, lv = .slice b 0 l.length m ∧ b < h.nx ∧ h.get b = some (.ro (acells l))
theorem ARow.len {h : H} {lv : V} {l : List ACT} (ha : ARow h lv l) : lenO (some (.slice 39)) lv = some (.int .i64 l.length) := by
  rcases ha with ⟨rfl, rfl⟩ | ⟨b, m, rfl, _⟩ <;> rfl
theorem ARow.ext {h h' : H} {lv : V} {l : List ACT} (ha : ARow h lv l) (hx : Ext h h') : ARow h' lv l := by
  rcases ha with h1 | ⟨b, m, rfl, hb, hg⟩
  · exact .inl h1
  · exact .inr ⟨b, m, rfl, Nat.lt_of_lt_of_le hb hx.1, by rw [hx.2 _ hb]; exact hg⟩
theorem ARow.opened {h : H} {lv : V} {l : List ACT} (ha : ARow h lv l) (h0 : 0 < l.length) : ∃ b m, lv = .slice b 0 l.length m ∧ b < h.nx ∧ h.get b = some (.ro (acells l)) := by
  rcases ha with ⟨_, rfl⟩ | h1
  · cases h0
  · exact h1
def ints (l : List Int) : List V := l.map (V.int .i64)
theorem ints_len (l : List Int) : (ints l).length = l.length := List.length_map ..
def dis (a b : V) : Prop := ∀ k o n m o' n' m', a = .slice k o n m → b ≠ .slice k o' n' m'
theorem dis.symm {a b : V} (h : dis a b) : dis b a := fun k o n m o' n' m' q w => h k o' n' m' o n m w q
structure Tri (n0 : Nat) (h : H) (hv cv nv : V) (t : Tr) : Prop where
  had : Lst n0 h hv (ints t.had) 3 1
  clean : Lst n0 h cv (ints t.clean) 3 1
  now : Lst n0 h nv (ints t.now) 3 1
  d1 : dis hv cv
  d2 : dis hv nv
  d3 : dis cv nv
theorem Tri.keep {n0 : Nat} {h h' : H} {hv cv nv : V} {t : Tr} (x : Tri n0 h hv cv nv t) (hn : h.nx ≤ h'.nx) (hk : ∀ k o n m, (hv = .slice k o n m ∨ cv = .slice k o n m ∨ nv = .slice k o n m) → h'.get k = h.get k) : Tri n0 h' hv cv nv t :=
  ⟨Lst.keep x.had hn fun k o n m q => hk k o n m (.inl q), Lst.keep x.clean hn fun k o n m q => hk k o n m (.inr (.inl q)), Lst.keep x.now hn fun k o n m q => hk k o n m (.inr (.inr q)), x.d1, x.d2, x.d3⟩
theorem Tri.ext {n0 : Nat} {h h' : H} {hv cv nv : V} {t : Tr} (x : Tri n0 h hv cv nv t) (hx : Ext h h') : Tri n0 h' hv cv nv t :=
  ⟨x.had.ext hx, x.clean.ext hx, x.now.ext hx, x.d1, x.d2, x.d3⟩
theorem ints_set (l : List Int) (i : Nat) (v : Int) : (ints l).set i (.int .i64 v) = ints (l.set i v) := by
  unfold ints
  rw [List.map_set]
theorem lst_put {n0 : Nat} {h : H} {b : Nat} {l l' : List Int} (hb : n0 ≤ b ∧ b < h.nx) (hl : l'.length = l.length) (h0 : 0 < l.length) : Lst n0 (h.put b (.cells (ints l') 3 true)) (.slice b 0 l.length l.length) (ints l') 3 1 :=
  .inl (.inr ⟨b, l.length, hb.1, hb.2, rfl, h0, put_eq rfl, by rw [ints_len, hl]; omega⟩)
theorem Tri.setC {n0 : Nat} {h : H} {hv cv nv : V} {t : Tr} (x : Tri n0 h hv cv nv t) {i : Nat} (hi : i < t.clean.length) : ∃ b, cv = .slice b 0 t.clean.length t.clean.length ∧ n0 ≤ b ∧ b < h.nx ∧ h.get b = some (.cells (ints t.clean) 3 true) ∧ ∀ v, Tri n0 (h.put b (.cells (ints (t.clean.set i v)) 3 true)) hv cv nv { t with clean := t.clean.set i v } := by
  obtain ⟨b, rfl, h1, h2, h3⟩ := lst_rowV x.clean (by omega)
  refine ⟨b, rfl, h1, h2, h3, fun v => ⟨Lst.put' x.had fun k o n m q e => by subst e; exact x.d1 _ _ _ _ _ _ _ q rfl, lst_put ⟨h1, h2⟩ (List.length_set ..) (by omega), Lst.put' x.now fun k o n m q e => by subst e; exact x.d3.symm _ _ _ _ _ _ _ q rfl, x.d1, x.d2, x.d3⟩⟩
theorem Tri.setN {n0 : Nat} {h : H} {hv cv nv : V} {t : Tr} (x : Tri n0 h hv cv nv t) {i : Nat} (hi : i < t.now.length) : ∃ b, nv = .slice b 0 t.now.length t.now.length ∧ n0 ≤ b ∧ b < h.nx ∧ h.get b = some (.cells (ints t.now) 3 true) ∧ ∀ v, Tri n0 (h.put b (.cells (ints (t.now.set i v)) 3 true)) hv cv nv { t with now := t.now.set i v } := by
  obtain ⟨b, rfl, h1, h2, h3⟩ := lst_rowV x.now (by omega)
  refine ⟨b, rfl, h1, h2, h3, fun v => ⟨Lst.put' x.had fun k o n m q e => by subst e; exact x.d2 _ _ _ _ _ _ _ q rfl, Lst.put' x.clean fun k o n m q e => by subst e; exact x.d3 _ _ _ _ _ _ _ q rfl, lst_put ⟨h1, h2⟩ (List.length_set ..) (by omega), x.d1, x.d2, x.d3⟩⟩
theorem Tri.setH {n0 : Nat} {h : H} {hv cv nv : V} {t : Tr} (x : Tri n0 h hv cv nv t) {i : Nat} (hi : i < t.had.length) : ∃ b, hv = .slice b 0 t.had.length t.had.length ∧ n0 ≤ b ∧ b < h.nx ∧ h.get b = some (.cells (ints t.had) 3 true) ∧ ∀ v, Tri n0 (h.put b (.cells (ints (t.had.set i v)) 3 true)) hv cv nv { t with had := t.had.set i v } := by
  obtain ⟨b, rfl, h1, h2, h3⟩ := lst_rowV x.had (by omega)
  refine ⟨b, rfl, h1, h2, h3, fun v => ⟨lst_put ⟨h1, h2⟩ (List.length_set ..) (by omega), Lst.put' x.clean fun k o n m q e => by subst e; exact x.d1.symm _ _ _ _ _ _ _ q rfl, Lst.put' x.now fun k o n m q e => by subst e; exact x.d2.symm _ _ _ _ _ _ _ q rfl, x.d1, x.d2, x.d3⟩⟩
theorem PR.not3 {D : PD} {P : PS} {h : H} (r : PR D P h) {k : Nat} {c : List V} {fl : Bool} (hk : h.get k = some (.cells c 3 fl)) : ¬ owns D P k ∧ ∀ o n m, D.wv ≠ .slice k o n m := by
  refine ⟨fun q => ?_, fun o n m q => ?_⟩
  · rcases q with rfl | rfl | ⟨x, hx, rfl⟩ | ⟨o, n, m, q⟩
    · rw [r.pool] at hk; simp at hk
    · rw [r.map] at hk; simp at hk
    · rw [r.conn x hx] at hk; simp at hk
    · rcases r.mvs with (⟨h0, _⟩ | ⟨b, n', _, _, h3, _, h5, _⟩) | ⟨_, b, _, _, h3, h5⟩
      · rw [h0] at q; cases q
      · rw [h3] at q; cases q; rw [h5] at hk; simp at hk
      · rw [h3] at q; cases q; rw [h5] at hk; simp at hk
  · rcases r.wts with ⟨h0, _⟩ | ⟨b, o', m', c', fl', h3, _, h5, _⟩
    · rw [h0] at q; cases q
    · rw [h3] at q; cases q; rw [h5] at hk; simp at hk
end
end Go.Proofs.Ytbebdlmldogcmaa
set_option linter.unusedSimpArgs false
set_option linter.unusedVariables false
set_option linter.unusedSectionVars false
set_option linter.defProp false
set_option maxRecDepth 10000
set_option maxHeartbeats 1000000
namespace Go.Proofs.Ytbebdlmldogcmaa
open Int (reduceLE reduceLT reduceToNat)
open Nat (reduceLeDiff reduceEqDiff reduceAdd)
open Go.Proofs Go.Lx Go.Wx Go.IntWalk
noncomputable section

theorem pool_nil (b : Nat) : binV Try.prog .eql 22 (constO (.tmp 31) || constO (.const (Value.pointer none))) (.ptr b 0) .nilptr = some (.bool false) := by kernel_rfl
theorem Lst.get3 {n0 : Nat} {h : H} {v : V} {cells : List V} (hl : Lst n0 h v cells 3 1) {k o n m : Nat} (q : v = .slice k o n m) : ∃ c fl, h.get k = some (.cells c 3 fl) := by
  rcases hl with (⟨h0, _⟩ | ⟨b, n', _, _, h3, _, h5, _⟩) | ⟨_, b, _, _, h3, h5⟩
  · rw [h0] at q; cases q
  · rw [h3] at q; cases q; exact ⟨_, _, h5⟩
  · rw [h3] at q; cases q; exact ⟨_, _, h5⟩
theorem Tri.get {n0 : Nat} {h : H} {hv cv nv : V} {t : Tr} (x : Tri n0 h hv cv nv t) {k o n m : Nat} (q : hv = .slice k o n m ∨ cv = .slice k o n m ∨ nv = .slice k o n m) : k < h.nx ∧ ∃ c fl, h.get k = some (.cells c 3 fl) := by
  rcases q with q | q | q
  · exact ⟨Lst.lt x.had q, Lst.get3 x.had q⟩
  · exact ⟨Lst.lt x.clean q, Lst.get3 x.clean q⟩
  · exact ⟨Lst.lt x.now q, Lst.get3 x.now q⟩
theorem Tri.step {n0 : Nat} {h h1 : H} {hv cv nv : V} {t : Tr} {D D1 : PD} {P P1 : PS} (x : Tri n0 h hv cv nv t) (r : PR D P h) (st : Stp D P h D1 P1 h1) : Tri n0 h1 hv cv nv t := by
  refine x.keep st.nx fun k o n m q => ?_
  obtain ⟨g1, c, fl, g2⟩ := x.get q
  exact st.same k g1 (r.not3 g2).1
theorem mcells_drop : ∀ (l : List MV) (i : Nat), (mcells l).drop (i * 3) = mcells (l.drop i)
  | l, 0 => by simp
  | [], i + 1 => by simp [mcells]
  | w :: l, i + 1 => by
    have ih := mcells_drop l i
    rw [show (i + 1) * 3 = 3 + i * 3 by omega, List.drop_succ_cons, ← ih, show mcells (w :: l) = w.cells ++ mcells l from rfl, ← List.drop_drop]
    rfl
theorem mcells_at {l : List MV} {i : Nat} (hi : i < l.length) : ((mcells l).drop (i * 3)).take 3 = [.int .i64 l[i].kd, .int .i64 l[i].cn, .int .i64 l[i].cl] := by
  rw [mcells_drop, List.drop_eq_getElem_cons hi]
  rfl
theorem mv_len {n0 : Nat} {h : H} {mv : V} {ms : List MV} (hl : Lst n0 h mv (mcells ms) 42 3) : lenO (some (.slice 42)) mv = some (.int .i64 ms.length) := by
  have hn := mcells_len ms
  rcases hl with (⟨rfl, hw⟩ | ⟨b, n, _, _, rfl, _, _, hk⟩) | ⟨hw, b, _, _, rfl, _⟩
  · rw [hw] at hn
    have : ms.length = 0 := by simp at hn; omega
    rw [this]; rfl
  · have : n = ms.length := by omega
    rw [this]; rfl
  · rw [hw] at hn
    have : ms.length = 0 := by simp at hn; omega
    rw [this]; rfl
theorem mv_row {n0 : Nat} {h : H} {mv : V} {ms : List MV} (hl : Lst n0 h mv (mcells ms) 42 3) (h0 : 0 < ms.length) : ∃ b, mv = .slice b 0 ms.length ms.length ∧ b < h.nx ∧ h.get b = some (.cells (mcells ms) 42 true) := by
  have hn := mcells_len ms
  rcases hl with (⟨rfl, hw⟩ | ⟨b, n, _, h2, rfl, _, h5, hk⟩) | ⟨hw, b, _, _, rfl, _⟩
  · rw [hw] at hn; simp at hn; omega
  · obtain rfl : n = ms.length := by omega
    exact ⟨b, rfl, h2, h5⟩
  · rw [hw] at hn; simp at hn; omega
theorem Lst.get42 {n0 : Nat} {h : H} {v : V} {cells : List V} (hl : Lst n0 h v cells 42 3) {k o n m : Nat} (q : v = .slice k o n m) : ∃ c fl, h.get k = some (.cells c 42 fl) := by
  rcases hl with (⟨h0, _⟩ | ⟨b, n', _, _, h3, _, h5, _⟩) | ⟨_, b, _, _, h3, h5⟩
  · rw [h0] at q; cases q
  · rw [h3] at q; cases q; exact ⟨_, _, h5⟩
  · rw [h3] at q; cases q; exact ⟨_, _, h5⟩
structure CW (h0 : H) (D : PD) (P : PS) (hv cv nv : V) (t : Tr) (mv : V) (ms : List MV) (h' : H) : Prop where
  pr : PR D P h'
  tri : Tri h0.nx h' hv cv nv t
  mvs : Lst 0 h' mv (mcells ms) 42 3
  own : ∀ k, owns D P k → h0.nx ≤ k
  ext : Ext h0 h'
theorem CW.of {h0 : H} {D : PD} {P : PS} {hv cv nv hv' cv' nv' : V} {t t' : Tr} {mv : V} {ms : List MV} {h' h4 : H} (x : CW h0 D P hv cv nv t mv ms h') (hn : h'.nx ≤ h4.nx) (hk : ∀ k, k < h'.nx → (∀ c fl, h'.get k ≠ some (.cells c 3 fl)) → h4.get k = h'.get k) (hk0 : ∀ k, k < h0.nx → h4.get k = h'.get k) (tri : Tri h0.nx h4 hv' cv' nv' t') : CW h0 D P hv' cv' nv' t' mv ms h4 where
  pr := x.pr.keep hn (fun k q => hk k (owns_lt x.pr q) fun c fl e => (x.pr.not3 e).1 q) (fun k o n m q => hk k (x.pr.wts.lt q) fun c fl e => (x.pr.not3 e).2 o n m q)
  tri := tri
  mvs := Lst.keep x.mvs hn fun k o n m q => hk k (Lst.lt x.mvs q) fun c fl e => by
    obtain ⟨c', fl', e'⟩ := Lst.get42 x.mvs q
    rw [e'] at e
    simp at e
  own := x.own
  ext := ⟨Nat.le_trans x.ext.1 hn, fun k hk => by rw [hk0 k hk, x.ext.2 k hk]⟩
theorem CW.grow {h0 : H} {D : PD} {P : PS} {hv cv nv : V} {t : Tr} {mv : V} {ms : List MV} {h' h4 : H} (x : CW h0 D P hv cv nv t mv ms h') (hx : Ext h' h4) : CW h0 D P hv cv nv t mv ms h4 :=
  x.of hx.1 (fun k hk _ => hx.2 k hk) (fun k hk => hx.2 k (Nat.lt_of_lt_of_le hk x.ext.1)) (x.tri.ext hx)
theorem CW.wrote {h0 : H} {D : PD} {P : PS} {hv cv nv : V} {t t' : Tr} {mv : V} {ms : List MV} {h' : H} (x : CW h0 D P hv cv nv t mv ms h') {b : Nat} {c : List V} {fl : Bool} {ob : Ob} (hb : h0.nx ≤ b) (hg : h'.get b = some (.cells c 3 fl)) (tri : Tri h0.nx (h'.put b ob) hv cv nv t') : CW h0 D P hv cv nv t' mv ms (h'.put b ob) :=
  x.of (Nat.le_refl _) (fun k hk hne => put_ne fun e => hne c fl (by rw [e]; exact hg)) (fun k hk => put_ne (by omega)) tri
def TL (t : Tr) (j : Nat) : Prop := t.had.length ≤ 1000 + j ∧ t.clean.length = t.had.length ∧ t.now.length = t.had.length
def ClM (h0 : H) (lv : V) (i : Nat) (D : PD) (P : PS) (mv : V) (ms : List MV) (te : Tr) (m : Nat) (env : Env) (h' : H) : Prop :=
  ∃ (j : Nat) (hv cv nv : V) (t : Tr), m = ms.length - j ∧ j ≤ ms.length ∧ env 1 = lv ∧ env 5 = .ptr D.b 0 ∧ env 7 = hv ∧ env 8 = cv ∧ env 9 = nv ∧ env 10 = .int .i64 i ∧ env 11 = mv ∧ env 15 = .int .i64 j ∧ CW h0 D P hv cv nv t mv ms h' ∧ runM (ms.drop j) t = some te ∧ TL t j
def ClO (al : List ACT) (lv : V) (n0 : Nat) (h0 : H) (m : Nat) (env : Env) (h' : H) : Prop :=
  ∃ (i : Nat) (D : PD) (P : PS) (hv cv nv : V) (t : Tr), m = al.length - i ∧ i ≤ al.length ∧ env 1 = lv ∧ env 5 = .ptr D.b 0 ∧ env 7 = hv ∧ env 8 = cv ∧ env 9 = nv ∧ env 10 = .int .i64 i ∧ PR D P h' ∧ P.moves = [] ∧ Bds (i : Int) P ∧ Gw ((i : Int) * 1048576) P.pl ∧ Inv P.pl t ∧ Tri n0 h' hv cv nv t ∧ (∀ k, owns D P k → n0 ≤ k) ∧ n0 = h0.nx ∧ Ext h0 h'
variable {S : Set0} (hS : StdP S)
include hS
theorem clean_law (a b c : Int) (al : List ACT) (lv : V) (h : H) (ha : ARow h lv al) (hl : al.length < 2 ^ 63) : Pure S.cfg 4 [.agg [.int .i64 a, .int .i64 b, .int .i64 c], lv] h fun v _ => v = .bool true := by
  refine into Try.f4 _ Try.func4 (hS.ownP _ (by decide)) rfl rfl (by kernel_rfl) (by kernel_rfl) ?_
  simp +contextual (disch := first | (simp only [fq]; done) | omega | (simp only [Knx]; omega) | (apply Nat.le_antisymm <;> simp only [Knx] <;> omega) | fail) only [wpy, fW, reduceLE, reduceLT, reduceLeDiff, UInt8.reduceToNat, ↓reduceIte, reduceEqDiff, reduceAdd, reduceCtorEq, reduceToNat, Try.f4]
  obtain ⟨hA, hhA⟩ : ∃ hA, hA = h.push (Ob.cells [V.int IntKind.i64 a, V.int IntKind.i64 b, V.int IntKind.i64 c] 32 false) := ⟨_, rfl⟩
  rw [← hhA]
  have hxA : Ext h hA := by rw [hhA]; exact (Ext.refl h).push _
  have hgA : hA.get h.nx = some (Ob.cells [V.int IntKind.i64 a, V.int IntKind.i64 b, V.int IntKind.i64 c] 32 false) := by rw [hhA]; exact push_eq rfl
  have hnA : hA.nx = h.nx + 1 := by rw [hhA]; rfl
  clear hhA
  have haA := ha.ext hxA
  have hlenA := haA.len
  refine callF_exact (hS.lives hA) ?_
  simp +contextual (disch := first | (simp only [fq]; done) | omega | (simp only [Knx]; omega) | (apply Nat.le_antisymm <;> simp only [Knx] <;> omega) | fail) only [wpy, fW, reduceLE, reduceLT, reduceLeDiff, UInt8.reduceToNat, ↓reduceIte, reduceEqDiff, reduceAdd, reduceCtorEq, reduceToNat, Try.f4, hgA]
  refine callF_pure (new_spec hS a b c hA) ?_
  rintro v h1 hx1 (⟨hbad, rfl⟩ | ⟨hok, D0, hDb, rfl, r0, ho0⟩)
  · simp +contextual (disch := first | (simp only [fq]; done) | omega | (simp only [Knx]; omega) | (apply Nat.le_antisymm <;> simp only [Knx] <;> omega) | fail) only [wpy, fW, reduceLE, reduceLT, reduceLeDiff, UInt8.reduceToNat, ↓reduceIte, reduceEqDiff, reduceAdd, reduceCtorEq, reduceToNat, Try.f4, hlenA]
    exact ⟨fun _ => hxA.trans hx1, fun q => absurd (.inl (by decide)) q⟩
  · have hx01 := hxA.trans hx1
    have ha1 := ha.ext hx01
    have hn1 := hx01.1
    by_cases hlen : 400 < al.length
    · simp +contextual (disch := first | (simp only [fq]; done) | omega | (simp only [Knx]; omega) | (apply Nat.le_antisymm <;> simp only [Knx] <;> omega) | fail) only [wpy, fW, reduceLE, reduceLT, reduceLeDiff, UInt8.reduceToNat, ↓reduceIte, reduceEqDiff, reduceAdd, reduceCtorEq, reduceToNat, Try.f4, hlenA, hlen, pool_nil]
      exact hx01
    simp +contextual (disch := first | (simp only [fq]; done) | omega | (simp only [Knx]; omega) | (apply Nat.le_antisymm <;> simp only [Knx] <;> omega) | fail) only [wpy, fW, reduceLE, reduceLT, reduceLeDiff, UInt8.reduceToNat, ↓reduceIte, reduceEqDiff, reduceAdd, reduceCtorEq, reduceToNat, Try.f4, hlenA, hlen, pool_nil]
    have hq1 := hok.1
    have hq2 := hok.2.1
    refine run_loop (ClO al lv h.nx h) al.length ⟨0, D0, P0 a b c, .nilslice, .nilslice, .nilslice, ⟨[], [], []⟩, (Nat.sub_zero _).symm, Nat.zero_le _, by simp +contextual (disch := first | (simp only [fq]; done) | omega | (simp only [Knx]; omega) | (apply Nat.le_antisymm <;> simp only [Knx] <;> omega) | fail) only [wpy, fW, reduceLE, reduceLT, reduceLeDiff, UInt8.reduceToNat, ↓reduceIte, reduceEqDiff, reduceAdd, reduceCtorEq, reduceToNat], by simp +contextual (disch := first | (simp only [fq]; done) | omega | (simp only [Knx]; omega) | (apply Nat.le_antisymm <;> simp only [Knx] <;> omega) | fail) only [wpy, fW, reduceLE, reduceLT, reduceLeDiff, UInt8.reduceToNat, ↓reduceIte, reduceEqDiff, reduceAdd, reduceCtorEq, reduceToNat], by simp +contextual (disch := first | (simp only [fq]; done) | omega | (simp only [Knx]; omega) | (apply Nat.le_antisymm <;> simp only [Knx] <;> omega) | fail) only [wpy, fW, reduceLE, reduceLT, reduceLeDiff, UInt8.reduceToNat, ↓reduceIte, reduceEqDiff, reduceAdd, reduceCtorEq, reduceToNat], by simp +contextual (disch := first | (simp only [fq]; done) | omega | (simp only [Knx]; omega) | (apply Nat.le_antisymm <;> simp only [Knx] <;> omega) | fail) only [wpy, fW, reduceLE, reduceLT, reduceLeDiff, UInt8.reduceToNat, ↓reduceIte, reduceEqDiff, reduceAdd, reduceCtorEq, reduceToNat], by simp +contextual (disch := first | (simp only [fq]; done) | omega | (simp only [Knx]; omega) | (apply Nat.le_antisymm <;> simp only [Knx] <;> omega) | fail) only [wpy, fW, reduceLE, reduceLT, reduceLeDiff, UInt8.reduceToNat, ↓reduceIte, reduceEqDiff, reduceAdd, reduceCtorEq, reduceToNat], by simp +contextual (disch := first | (simp only [fq]; done) | omega | (simp only [Knx]; omega) | (apply Nat.le_antisymm <;> simp only [Knx] <;> omega) | fail) only [wpy, fW, reduceLE, reduceLT, reduceLeDiff, UInt8.reduceToNat, ↓reduceIte, reduceEqDiff, reduceAdd, reduceCtorEq, reduceToNat], r0, rfl, ⟨hq1.2, fun c hc => (by cases hc), Int.le_refl _, Int.le_refl _, by decide, Nat.zero_le _⟩, ⟨Nat.zero_le _, fun c hc => (by cases hc), ⟨Int.le_refl _, Int.le_refl _⟩, ⟨by have := hq2.1; show 0 ≤ b; omega, hq2.2⟩⟩, ⟨rfl, rfl, rfl, List.nodup_nil, fun c hc => (by cases hc), fun c hc => (by cases hc), fun c hc => (by cases hc), fun c hc => (by cases hc)⟩, ⟨.inl (.inl ⟨rfl, rfl⟩), .inl (.inl ⟨rfl, rfl⟩), .inl (.inl ⟨rfl, rfl⟩), fun _ _ _ _ _ _ _ q => (by cases q), fun _ _ _ _ _ _ _ q => (by cases q), fun _ _ _ _ _ _ _ q => (by cases q)⟩, fun k q => by have := ho0 k q; omega, rfl, hx01⟩ ?_
    rintro m env h2 ⟨i, D, P, hv, cv, nv, t, rfl, hi, e1, e5, e7, e8, e9, e10, r, hm, B, G, I, Tr3, hown, -, hx2⟩
    have ha2 := ha.ext hx2
    have hlen2 := ha2.len
    have hn2 := hx2.1
    by_cases hlt : i < al.length
    · obtain ⟨rb, rm, rfl, hrb, hrg⟩ := ha2.opened (by omega)
      have hal := acells_len al
      have x0 : i * 3 + 3 ≤ (acells al).length := by omega
      have x1 := acells_at hlt
      obtain ⟨y0, y1, y2⟩ := three_at x1
      simp +contextual (disch := first | (simp only [fq]; done) | omega | (simp only [Knx]; omega) | (apply Nat.le_antisymm <;> simp only [Knx] <;> omega) | fail) only [wpy, fW, reduceLE, reduceLT, reduceLeDiff, UInt8.reduceToNat, ↓reduceIte, reduceEqDiff, reduceAdd, reduceCtorEq, reduceToNat, Try.f4, e1, e5, e10, hlt, hrg, x0, x1]
      refine callF_of (call_spec hS r hm B (by omega) G (by omega) al[i].kd al[i].n al[i].y) (fun k q => by rw [fresh_def]; exact .inl (hown k q)) ?_
      have hr3 := clean_ask (p := P.pl) hm I (al[i].kd % 10) al[i].n al[i].y
      have G3 := G.ask (al[i].kd % 10) al[i].n al[i].y
      have hii : (i : Int) * 1048576 + 1048576 = ((i + 1 : Nat) : Int) * 1048576 := by omega
      rw [hii] at G3
      obtain ⟨R, hR⟩ : ∃ R, R = askF P.pl (al[i].kd % 10) al[i].n al[i].y := ⟨_, rfl⟩
      rw [← hR] at hr3 G3 ⊢
      rintro v h3 ⟨D3, P3, mv, rfl, st3, hpl, hm3, hL3, hmv3, B3⟩
      have Tr4 := Tr3.step r st3
      have r3 := st3.pr
      have hn3 := st3.nx
      have hx3 : Ext h h3 := ⟨by omega, fun k hk => by rw [st3.same k (by omega) (fun q => by have := hown k q; omega)]; exact hx2.2 k hk⟩
      have hown3 : ∀ k, owns D3 P3 k → h.nx ≤ k := fun k q => by
        rcases st3.own k q with q | q
        · exact hown k q
        · omega
      have hwi : IntKind.i64.wrap ((i : Int) + 1) = ((i + 1 : Nat) : Int) := by rw [i64_in _ (by omega)]; omega
      have eb3 := st3.b
      have B3' : Bds ((i + 1 : Nat) : Int) P3 := by have e : ((i + 1 : Nat) : Int) = (i : Int) + 1 := by omega
                                                    rw [e]; exact B3
      have hrg3 : h3.get rb = some (.ro (acells al)) := by
        rw [st3.same rb hrb (fun q => ?_)]
        · exact hrg
        · rcases q with rfl | rfl | ⟨x, hx, rfl⟩ | ⟨o, n, m, q⟩
          · rw [r.pool] at hrg; simp at hrg
          · rw [r.map] at hrg; simp at hrg
          · rw [r.conn x hx] at hrg; simp at hrg
          · rcases r.mvs with (⟨h0, _⟩ | ⟨b, n', _, _, h3, _, h5, _⟩) | ⟨_, b, _, _, h3, h5⟩
            · rw [h0] at q; cases q
            · rw [h3] at q; cases q; rw [h5] at hrg; simp at hrg
            · rw [h3] at q; cases q; rw [h5] at hrg; simp at hrg
      rcases hr3 with ⟨hne, hnil, hpp⟩ | ⟨h0, hmm, t', hrun, hInv⟩
      · have hlm : lenO (some (.slice 42)) mv = some (.int .i64 (0 : Nat)) := by
          rw [hnil] at hL3
          rcases hL3 with (⟨rfl, _⟩ | ⟨b, n', _, _, h3, h4, h5, h6⟩) | ⟨_, b, _, _, h3, h5⟩
          · rfl
          · rw [h3]
            have : n' = 0 := by simp [mcells] at h6; omega
            rw [this]; rfl
          · rw [h3]; rfl
        have hz : ¬ ((0 : Nat) : Int) ≠ 0 := by decide
        simp +contextual (disch := first | (simp only [fq]; done) | omega | (simp only [Knx]; omega) | (apply Nat.le_antisymm <;> simp only [Knx] <;> omega) | fail) only [wpy, fW, reduceLE, reduceLT, reduceLeDiff, UInt8.reduceToNat, ↓reduceIte, reduceEqDiff, reduceAdd, reduceCtorEq, reduceToNat, Try.f4, e1, e5, e10, hne, hlm, Int.reduceEq]
        refine ⟨al.length - (i + 1), by omega, i + 1, D3, P3, hv, cv, nv, t, rfl, hlt, by simp +contextual (disch := first | (simp only [fq]; done) | omega | (simp only [Knx]; omega) | (apply Nat.le_antisymm <;> simp only [Knx] <;> omega) | fail) only [wpy, fW, reduceLE, reduceLT, reduceLeDiff, UInt8.reduceToNat, ↓reduceIte, reduceEqDiff, reduceAdd, reduceCtorEq, reduceToNat, e1], by simp +contextual (disch := first | (simp only [fq]; done) | omega | (simp only [Knx]; omega) | (apply Nat.le_antisymm <;> simp only [Knx] <;> omega) | fail) only [wpy, fW, reduceLE, reduceLT, reduceLeDiff, UInt8.reduceToNat, ↓reduceIte, reduceEqDiff, reduceAdd, reduceCtorEq, reduceToNat, e5, eb3], by simp +contextual (disch := first | (simp only [fq]; done) | omega | (simp only [Knx]; omega) | (apply Nat.le_antisymm <;> simp only [Knx] <;> omega) | fail) only [wpy, fW, reduceLE, reduceLT, reduceLeDiff, UInt8.reduceToNat, ↓reduceIte, reduceEqDiff, reduceAdd, reduceCtorEq, reduceToNat, e7], by simp +contextual (disch := first | (simp only [fq]; done) | omega | (simp only [Knx]; omega) | (apply Nat.le_antisymm <;> simp only [Knx] <;> omega) | fail) only [wpy, fW, reduceLE, reduceLT, reduceLeDiff, UInt8.reduceToNat, ↓reduceIte, reduceEqDiff, reduceAdd, reduceCtorEq, reduceToNat, e8], by simp +contextual (disch := first | (simp only [fq]; done) | omega | (simp only [Knx]; omega) | (apply Nat.le_antisymm <;> simp only [Knx] <;> omega) | fail) only [wpy, fW, reduceLE, reduceLT, reduceLeDiff, UInt8.reduceToNat, ↓reduceIte, reduceEqDiff, reduceAdd, reduceCtorEq, reduceToNat, e9], by simp +contextual (disch := first | (simp only [fq]; done) | omega | (simp only [Knx]; omega) | (apply Nat.le_antisymm <;> simp only [Knx] <;> omega) | fail) only [wpy, fW, reduceLE, reduceLT, reduceLeDiff, UInt8.reduceToNat, ↓reduceIte, reduceEqDiff, reduceAdd, reduceCtorEq, reduceToNat], r3, hm3, B3', by rw [hpl]; exact G3, by rw [hpl, hpp]; exact I, Tr4, hown3, rfl, hx3⟩
      · obtain ⟨kk, hkk⟩ : ∃ kk, kk = al[i].kd % 10 := ⟨_, rfl⟩
        have W3 : CW h D3 P3 hv cv nv t mv R.2.1 h3 := ⟨r3, Tr4, hL3, hown3, hx3⟩
        simp +contextual (disch := first | (simp only [fq]; done) | omega | (simp only [Knx]; omega) | (apply Nat.le_antisymm <;> simp only [Knx] <;> omega) | fail) only [wpy, fW, reduceLE, reduceLT, reduceLeDiff, UInt8.reduceToNat, ↓reduceIte, reduceEqDiff, reduceAdd, reduceCtorEq, reduceToNat, Try.f4, e1, e5, e10, h0, hlt, Int.reduceEq, hrg3, y0]
        refine callF_exact (pick_spec hS al[i].kd h3) ?_
        rw [← hkk] at hrun ⊢
        have hlh : lenO (some (.slice 3)) hv = some (.int .i64 t.had.length) := lst_lenV (e := 3) Tr4.had
        have hln : lenO (some (.slice 3)) nv = some (.int .i64 t.now.length) := lst_lenV (e := 3) Tr4.now
        obtain ⟨n, hnn⟩ : ∃ n, n = al[i].n := ⟨_, rfl⟩
        obtain ⟨y, hyy⟩ : ∃ y, y = al[i].y := ⟨_, rfl⟩
        rw [← hnn] at hrun y1
        rw [← hyy] at hrun y2
        simp +contextual (disch := first | (simp only [fq]; done) | omega | (simp only [Knx]; omega) | (apply Nat.le_antisymm <;> simp only [Knx] <;> omega) | fail) only [wpyr, fW, reduceLE, reduceLT, reduceLeDiff, UInt8.reduceToNat, ↓reduceIte, reduceEqDiff, reduceAdd, reduceCtorEq, reduceToNat, Try.f4, e1, e5, e7, e8, e9, e10, hlt, hrg3, y0, y1, y2, hlh]
        have Ic := I.lc
        have In := I.ln
        have hlast : (t.had.length : Int) ≤ i := by
          have q1 : P.last = t.had.length := I.last
          have q2 := B.top
          omega
        refine run_cut (fun env' h' => env' 1 = .slice rb 0 al.length rm ∧ env' 5 = .ptr D.b 0 ∧ env' 7 = hv ∧ env' 8 = cv ∧ env' 9 = nv ∧ env' 10 = .int .i64 i ∧ env' 11 = mv ∧ env' 13 = .int .i64 kk ∧ env' 14 = .int .i64 n ∧ CW h D3 P3 hv cv nv (if kk = 3 ∧ y ∧ 1 ≤ n ∧ n ≤ t.had.length then { t with clean := t.clean.set (at1 n) 1 } else t) mv R.2.1 h') ?_ ?_
        · by_cases hA : kk = 3 ∧ y ∧ 1 ≤ n ∧ n ≤ t.had.length
          · have hA' : (((kk = 3 ∧ y) ∧ 1 ≤ n) ∧ n ≤ t.had.length) = True := eq_true ⟨⟨⟨hA.1, hA.2.1⟩, hA.2.2.1⟩, hA.2.2.2⟩
            rw [if_pos hA]
            have hi1 : at1 n < t.clean.length := by unfold at1; omega
            obtain ⟨b, rfl, hb1, hb2, hb3, hb4⟩ := Tr4.setC hi1
            have hwn : IntKind.i64.wrap (n - 1) = n - 1 := i64_in _ (by omega)
            have hin : 0 ≤ n - 1 ∧ n - 1 < t.clean.length := by omega
            simp +contextual (disch := first | (simp only [fq]; done) | omega | (simp only [Knx]; omega) | (apply Nat.le_antisymm <;> simp only [Knx] <;> omega) | fail) only [wpy, fW, reduceLE, reduceLT, reduceLeDiff, UInt8.reduceToNat, ↓reduceIte, reduceEqDiff, reduceAdd, reduceCtorEq, reduceToNat, Try.f4, e1, e5, e7, e8, e9, e10, hA', hwn, hin, hb3]
            refine ⟨fun _ => ⟨⟨by rw [ints_len]; unfold at1 at hi1; omega, .inr hb1⟩, ?_⟩, fun q => absurd ⟨⟨⟨hA.1, hA.2.1⟩, hA.2.2.1⟩, by omega⟩ q⟩
            rw [listPut_one _ _ _ (by rw [ints_len]; exact hi1), ints_set]
            exact W3.wrote hb1 hb3 (hb4 1)
          · have hA' : (((kk = 3 ∧ y) ∧ 1 ≤ n) ∧ n ≤ t.had.length) = False := eq_false fun q => hA ⟨q.1.1.1, q.1.1.2, q.1.2, q.2⟩
            rw [if_neg hA]
            simp +contextual (disch := first | (simp only [fq]; done) | omega | (simp only [Knx]; omega) | (apply Nat.le_antisymm <;> simp only [Knx] <;> omega) | fail) only [wpy, fW, reduceLE, reduceLT, reduceLeDiff, UInt8.reduceToNat, ↓reduceIte, reduceEqDiff, reduceAdd, reduceCtorEq, reduceToNat, Try.f4, e1, e5, e7, e8, e9, e10, hA']
            exact ⟨fun q => absurd ⟨q.1.1.1, q.1.1.2, q.1.2, by omega⟩ hA, fun _ => W3⟩
        rintro env2 h4 ⟨e1, e5, e7, e8, e9, e10, e11, e13, e14, W4⟩
        obtain ⟨t4, ht4⟩ : ∃ t4, t4 = (if kk = 3 ∧ y ∧ 1 ≤ n ∧ n ≤ t.had.length then { t with clean := t.clean.set (at1 n) 1 } else t) := ⟨_, rfl⟩
        rw [← ht4] at W4
        have ht4n : t4.now = t.now := by rw [ht4]; split <;> rfl
        have hln4 : lenO (some (.slice 3)) nv = some (.int .i64 t.now.length) := by rw [← ht4n]; exact lst_lenV (e := 3) W4.tri.now
        simp +contextual (disch := first | (simp only [fq]; done) | omega | (simp only [Knx]; omega) | (apply Nat.le_antisymm <;> simp only [Knx] <;> omega) | fail) only [wpyr, fW, reduceLE, reduceLT, reduceLeDiff, UInt8.reduceToNat, ↓reduceIte, reduceEqDiff, reduceAdd, reduceCtorEq, reduceToNat, Try.f4, e1, e5, e7, e8, e9, e10, e11, e13, e14, hln4]
        refine run_cut (fun env' h' => env' 1 = .slice rb 0 al.length rm ∧ env' 5 = .ptr D.b 0 ∧ env' 7 = hv ∧ env' 8 = cv ∧ env' 9 = nv ∧ env' 10 = .int .i64 i ∧ env' 11 = mv ∧ CW h D3 P3 hv cv nv (pre t kk n y) mv R.2.1 h') ?_ ?_
        · by_cases hB : (kk = 2 ∨ kk = 4) ∧ 1 ≤ n ∧ n ≤ t.now.length
          · have hB' : (((kk = 2 ∨ kk = 4) ∧ 1 ≤ n) ∧ n ≤ t.now.length) = True := eq_true ⟨⟨hB.1, hB.2.1⟩, hB.2.2⟩
            have hA : ¬ (kk = 3 ∧ y ∧ 1 ≤ n ∧ n ≤ t.had.length) := fun q => by have := q.1; omega
            have et4 : t4 = t := by rw [ht4, if_neg hA]
            have ep : pre t kk n y = { t with now := t.now.set (at1 n) 0 } := by unfold pre; rw [if_neg hA, if_pos hB]
            rw [ep]
            rw [et4] at W4
            have hi1 : at1 n < t.now.length := by unfold at1; omega
            obtain ⟨b, rfl, hb1, hb2, hb3, hb4⟩ := W4.tri.setN hi1
            have hwn : IntKind.i64.wrap (n - 1) = n - 1 := i64_in _ (by omega)
            have hin : 0 ≤ n - 1 ∧ n - 1 < t.now.length := by omega
            simp +contextual (disch := first | (simp only [fq]; done) | omega | (simp only [Knx]; omega) | (apply Nat.le_antisymm <;> simp only [Knx] <;> omega) | fail) only [wpy, fW, reduceLE, reduceLT, reduceLeDiff, UInt8.reduceToNat, ↓reduceIte, reduceEqDiff, reduceAdd, reduceCtorEq, reduceToNat, Try.f4, e1, e5, e7, e8, e9, e10, e11, e13, e14, hB', hwn, hin, hb3]
            refine ⟨fun _ => ⟨⟨by rw [ints_len]; unfold at1 at hi1; omega, .inr hb1⟩, ?_⟩, fun q => absurd ⟨⟨hB.1, hB.2.1⟩, by omega⟩ q⟩
            rw [listPut_one _ _ _ (by rw [ints_len]; exact hi1), ints_set]
            exact W4.wrote hb1 hb3 (hb4 0)
          · have hB' : (((kk = 2 ∨ kk = 4) ∧ 1 ≤ n) ∧ n ≤ t.now.length) = False := eq_false fun q => hB ⟨q.1.1, q.1.2, q.2⟩
            have ep : pre t kk n y = t4 := by unfold pre; rw [ht4, if_neg hB]
            rw [ep]
            simp +contextual (disch := first | (simp only [fq]; done) | omega | (simp only [Knx]; omega) | (apply Nat.le_antisymm <;> simp only [Knx] <;> omega) | fail) only [wpy, fW, reduceLE, reduceLT, reduceLeDiff, UInt8.reduceToNat, ↓reduceIte, reduceEqDiff, reduceAdd, reduceCtorEq, reduceToNat, Try.f4, e1, e5, e7, e8, e9, e10, e11, e13, e14, hB']
            exact ⟨fun q => absurd ⟨q.1.1, q.1.2, by omega⟩ hB, fun _ => W4⟩
        rintro env3 h5 ⟨e1, e5, e7, e8, e9, e10, e11, W5⟩
        have hml : R.2.1.length ≤ 100000 := by rw [hR]; exact ask_moves hm G.wl (by show (P.conns.map CN.pc).length ≤ _; rw [List.length_map]; exact r.few) _ _ _
        simp +contextual (disch := first | (simp only [fq]; done) | omega | (simp only [Knx]; omega) | (apply Nat.le_antisymm <;> simp only [Knx] <;> omega) | fail) only [wpy, fW, reduceLE, reduceLT, reduceLeDiff, UInt8.reduceToNat, ↓reduceIte, reduceEqDiff, reduceAdd, reduceCtorEq, reduceToNat, Try.f4, e1, e5, e7, e8, e9, e10, e11]
        have hTL : TL (pre t kk n y) 0 := by
          unfold pre
          split
          · exact ⟨by show t.had.length ≤ _; omega, by show (t.clean.set _ _).length = t.had.length; rw [List.length_set]; exact Ic, In⟩
          · split
            · exact ⟨by show t.had.length ≤ _; omega, Ic, by show (t.now.set _ _).length = t.had.length; rw [List.length_set]; exact In⟩
            · exact ⟨by omega, Ic, In⟩
        refine run_loop (ClM h (.slice rb 0 al.length rm) i D3 P3 mv R.2.1 t') R.2.1.length ⟨0, hv, cv, nv, pre t kk n y, (Nat.sub_zero _).symm, Nat.zero_le _, by simp +contextual (disch := first | (simp only [fq]; done) | omega | (simp only [Knx]; omega) | (apply Nat.le_antisymm <;> simp only [Knx] <;> omega) | fail) only [wpy, fW, reduceLE, reduceLT, reduceLeDiff, UInt8.reduceToNat, ↓reduceIte, reduceEqDiff, reduceAdd, reduceCtorEq, reduceToNat, e1], by simp +contextual (disch := first | (simp only [fq]; done) | omega | (simp only [Knx]; omega) | (apply Nat.le_antisymm <;> simp only [Knx] <;> omega) | fail) only [wpy, fW, reduceLE, reduceLT, reduceLeDiff, UInt8.reduceToNat, ↓reduceIte, reduceEqDiff, reduceAdd, reduceCtorEq, reduceToNat, e5, eb3], by simp +contextual (disch := first | (simp only [fq]; done) | omega | (simp only [Knx]; omega) | (apply Nat.le_antisymm <;> simp only [Knx] <;> omega) | fail) only [wpy, fW, reduceLE, reduceLT, reduceLeDiff, UInt8.reduceToNat, ↓reduceIte, reduceEqDiff, reduceAdd, reduceCtorEq, reduceToNat, e7], by simp +contextual (disch := first | (simp only [fq]; done) | omega | (simp only [Knx]; omega) | (apply Nat.le_antisymm <;> simp only [Knx] <;> omega) | fail) only [wpy, fW, reduceLE, reduceLT, reduceLeDiff, UInt8.reduceToNat, ↓reduceIte, reduceEqDiff, reduceAdd, reduceCtorEq, reduceToNat, e8], by simp +contextual (disch := first | (simp only [fq]; done) | omega | (simp only [Knx]; omega) | (apply Nat.le_antisymm <;> simp only [Knx] <;> omega) | fail) only [wpy, fW, reduceLE, reduceLT, reduceLeDiff, UInt8.reduceToNat, ↓reduceIte, reduceEqDiff, reduceAdd, reduceCtorEq, reduceToNat, e9], by simp +contextual (disch := first | (simp only [fq]; done) | omega | (simp only [Knx]; omega) | (apply Nat.le_antisymm <;> simp only [Knx] <;> omega) | fail) only [wpy, fW, reduceLE, reduceLT, reduceLeDiff, UInt8.reduceToNat, ↓reduceIte, reduceEqDiff, reduceAdd, reduceCtorEq, reduceToNat, e10], by simp +contextual (disch := first | (simp only [fq]; done) | omega | (simp only [Knx]; omega) | (apply Nat.le_antisymm <;> simp only [Knx] <;> omega) | fail) only [wpy, fW, reduceLE, reduceLT, reduceLeDiff, UInt8.reduceToNat, ↓reduceIte, reduceEqDiff, reduceAdd, reduceCtorEq, reduceToNat, e11], by simp +contextual (disch := first | (simp only [fq]; done) | omega | (simp only [Knx]; omega) | (apply Nat.le_antisymm <;> simp only [Knx] <;> omega) | fail) only [wpy, fW, reduceLE, reduceLT, reduceLeDiff, UInt8.reduceToNat, ↓reduceIte, reduceEqDiff, reduceAdd, reduceCtorEq, reduceToNat], W5, hrun, hTL⟩ ?_
        rintro m6 env6 h6 ⟨j, hv6, cv6, nv6, t6, rfl, hj, e1, e5, e7, e8, e9, e10, e11, e15, W6, hrun6, hT1, hT2, hT3⟩
        have hlm6 := mv_len W6.mvs
        have hwj : IntKind.i64.wrap ((j : Int) + 1) = ((j + 1 : Nat) : Int) := by rw [i64_in _ (by omega)]; omega
        by_cases hjl : j < R.2.1.length
        · obtain ⟨qb, rfl, hqb, hqg⟩ := mv_row W6.mvs (by omega)
          have hql := mcells_len R.2.1
          have z0 : j * 3 + 3 ≤ (mcells R.2.1).length := by omega
          have z1 := mcells_at hjl
          obtain ⟨t7, hst, hrun7⟩ : ∃ t7, stepM t6 R.2.1[j] = some t7 ∧ runM (R.2.1.drop (j + 1)) t7 = some t' := by
            rw [List.drop_eq_getElem_cons hjl] at hrun6
            have hrun6 : (match stepM t6 R.2.1[j] with | some t' => runM (R.2.1.drop (j + 1)) t' | none => none) = some t' := hrun6
            cases hs : stepM t6 R.2.1[j] with
            | none => rw [hs] at hrun6; cases hrun6
            | some t7 => rw [hs] at hrun6; exact ⟨t7, rfl, hrun6⟩
          obtain ⟨x, hx⟩ : ∃ x, x = R.2.1[j] := ⟨_, rfl⟩
          rw [← hx] at hst z1
          have W6h := W6.ext.1
          have nxt : ∀ (env' : Env) (h' : H) (hv' cv' nv' : V), env' 1 = .slice rb 0 al.length rm → env' 5 = .ptr D3.b 0 → env' 7 = hv' → env' 8 = cv' → env' 9 = nv' → env' 10 = .int .i64 i → env' 11 = .slice qb 0 R.2.1.length R.2.1.length → env' 15 = .int .i64 ((j + 1 : Nat) : Int) → CW h D3 P3 hv' cv' nv' t7 (.slice qb 0 R.2.1.length R.2.1.length) R.2.1 h' → TL t7 (j + 1) → ∃ m', m' < R.2.1.length - j ∧ ClM h (.slice rb 0 al.length rm) i D3 P3 (.slice qb 0 R.2.1.length R.2.1.length) R.2.1 t' m' env' h' := fun env' h' hv' cv' nv' q1 q5 q7 q8 q9 q10 q11 q15 qw qt => ⟨R.2.1.length - (j + 1), by omega, j + 1, hv', cv', nv', t7, rfl, hjl, q1, q5, q7, q8, q9, q10, q11, q15, qw, hrun7, qt⟩
          obtain ⟨hA6, hhA6⟩ : ∃ hA6, hA6 = (h6.push (Ob.cells [V.int IntKind.i64 0, V.int IntKind.i64 0, V.int IntKind.i64 0] 42 false)).put h6.nx (Ob.cells [V.int IntKind.i64 x.kd, V.int IntKind.i64 x.cn, V.int IntKind.i64 x.cl] 42 false) := ⟨_, rfl⟩
          have hxA6 : Ext h6 hA6 := by rw [hhA6]; exact ((Ext.refl h6).push _).put (Nat.le_refl _) _
          have hgA6 : hA6.get h6.nx = some (Ob.cells [V.int IntKind.i64 x.kd, V.int IntKind.i64 x.cn, V.int IntKind.i64 x.cl] 42 false) := by rw [hhA6]; exact put_eq rfl
          have hnA6 : hA6.nx = h6.nx + 1 := by rw [hhA6]; rfl
          have WA := W6.grow hxA6
          by_cases k1 : x.kd = 1
          · rw [k1] at hhA6 hgA6
            have hln6 : lenO (some (.slice 3)) hv6 = some (.int .i64 t6.had.length) := lst_lenV (e := 3) W6.tri.had
            obtain ⟨hcn, ht7⟩ : x.cn = t6.had.length + 1 ∧ t7 = ⟨t6.had ++ [x.cl], t6.clean ++ [1], t6.now ++ [0]⟩ := by
              unfold stepM at hst
              rw [if_pos k1] at hst
              by_cases hc : x.cn = t6.had.length + 1
              · rw [if_pos hc] at hst; exact ⟨hc, (Option.some.inj hst).symm⟩
              · rw [if_neg hc] at hst; cases hst
            have hw6 : IntKind.i64.wrap ((t6.had.length : Int) + 1) = (t6.had.length : Int) + 1 := i64_in _ (by omega)
            simp +contextual (disch := first | (simp only [fq]; done) | omega | (simp only [Knx]; omega) | (apply Nat.le_antisymm <;> simp only [Knx] <;> omega) | fail) only [wpy, fW, reduceLE, reduceLT, reduceLeDiff, UInt8.reduceToNat, ↓reduceIte, reduceEqDiff, reduceAdd, reduceCtorEq, reduceToNat, Try.f4, e1, e5, e7, e8, e9, e10, e11, e15, hlm6, hjl, hqg, z0, z1, k1, Int.reduceEq, hln6, hcn, hw6]
            rw [hcn] at hhA6 hgA6
            rw [← hhA6]
            refine ⟨.inr W6h, ?_⟩
            obtain ⟨hB, hhB⟩ : ∃ hB, hB = hA6.push (Ob.cells [V.int IntKind.i64 x.cl] 3 false) := ⟨_, rfl⟩
            rw [← hhB]
            have hxB : Ext hA6 hB := by rw [hhB]; exact (Ext.refl hA6).push _
            have hgB : hB.get hA6.nx = some (Ob.cells [V.int IntKind.i64 x.cl] 3 false) := by rw [hhB]; exact push_eq rfl
            have hnB : hB.nx = hA6.nx + 1 := by rw [hhB]; rfl
            clear hhB
            have TB := WA.tri.ext hxB
            have lo1 := fun b o n m q => Lst.lo WA.tri.had (k := b) (o := o) (n := n) (m := m) q
            have lo2 := fun b o n m q => Lst.lo WA.tri.clean (k := b) (o := o) (n := n) (m := m) q
            have lo3 := fun b o n m q => Lst.lo WA.tri.now (k := b) (o := o) (n := n) (m := m) q
            have lt1 := fun b o n m q => Lst.lt WA.tri.had (k := b) (o := o) (n := n) (m := m) q
            have lt2 := fun b o n m q => Lst.lt WA.tri.clean (k := b) (o := o) (n := n) (m := m) q
            have lt3 := fun b o n m q => Lst.lt WA.tri.now (k := b) (o := o) (n := n) (m := m) q
            refine append_fresh (n0 := h.nx) (sv := hv6) (cells := ints t6.had) (new := [.int .i64 x.cl]) ?_ (b2 := hA6.nx) (o2 := 0) (n := 1) (m := 1) ?_ ap36 ⟨.slice 3, by kernel_rfl, rfl⟩ TB.had (by decide) (by rw [hgB]; exact rdC_all rfl) rfl rfl ?_ (by decide) (fun k ⟨o, n, m, q⟩ => by rw [fresh_def]; exact .inl (lo1 k o n m q)) (by omega) ?_
            · simp +contextual (disch := first | (simp only [fq]; done) | omega | (simp only [Knx]; omega) | (apply Nat.le_antisymm <;> simp only [Knx] <;> omega) | fail) only [wpy, fW, reduceLE, reduceLT, reduceLeDiff, UInt8.reduceToNat, ↓reduceIte, reduceEqDiff, reduceAdd, reduceCtorEq, reduceToNat, e7]
            · simp +contextual (disch := first | (simp only [fq]; done) | omega | (simp only [Knx]; omega) | (apply Nat.le_antisymm <;> simp only [Knx] <;> omega) | fail) only [wpy, fW, reduceLE, reduceLT, reduceLeDiff, UInt8.reduceToNat, ↓reduceIte, reduceEqDiff, reduceAdd, reduceCtorEq, reduceToNat, hnA6]
            · rw [ints_len]; simp only [List.length_cons, List.length_nil]; omega
            intro v1 g1 L1 ha1' hx1' hk1' hL1'
            simp +contextual (disch := first | (simp only [fq]; done) | omega | (simp only [Knx]; omega) | (apply Nat.le_antisymm <;> simp only [Knx] <;> omega) | fail) only [wpy, fW, reduceLE, reduceLT, reduceLeDiff, UInt8.reduceToNat, ↓reduceIte, reduceEqDiff, reduceAdd, reduceCtorEq, reduceToNat, Try.f4, e8]
            obtain ⟨gB, hgBd⟩ : ∃ gB, gB = g1.push (Ob.cells [V.int IntKind.i64 1] 3 false) := ⟨_, rfl⟩
            rw [← hgBd]
            have hxB2 : Ext g1 gB := by rw [hgBd]; exact (Ext.refl g1).push _
            have hgB2 : gB.get g1.nx = some (Ob.cells [V.int IntKind.i64 1] 3 false) := by rw [hgBd]; exact push_eq rfl
            have hnB2 : gB.nx = g1.nx + 1 := by rw [hgBd]; rfl
            clear hgBd
            have TC1 : Lst h.nx gB cv6 (ints t6.clean) 3 1 := Lst.ext (Lst.keep TB.clean (by omega) fun k o n m q => hk1' k (by have := lt2 k o n m q; omega) (fun o' n' m' q' => TB.d1 k _ _ _ _ _ _ q' q)) hxB2
            refine append_fresh (n0 := h.nx) (sv := cv6) (cells := ints t6.clean) (new := [.int .i64 1]) ?_ (b2 := g1.nx) (o2 := 0) (n := 1) (m := 1) ?_ ap36 ⟨.slice 3, by kernel_rfl, rfl⟩ TC1 (by decide) (by rw [hgB2]; exact rdC_all rfl) rfl rfl ?_ (by decide) (fun k ⟨o, n, m, q⟩ => by rw [fresh_def]; exact .inl (lo2 k o n m q)) (by omega) ?_
            · simp +contextual (disch := first | (simp only [fq]; done) | omega | (simp only [Knx]; omega) | (apply Nat.le_antisymm <;> simp only [Knx] <;> omega) | fail) only [wpy, fW, reduceLE, reduceLT, reduceLeDiff, UInt8.reduceToNat, ↓reduceIte, reduceEqDiff, reduceAdd, reduceCtorEq, reduceToNat, e8]
            · simp +contextual (disch := first | (simp only [fq]; done) | omega | (simp only [Knx]; omega) | (apply Nat.le_antisymm <;> simp only [Knx] <;> omega) | fail) only [wpy, fW, reduceLE, reduceLT, reduceLeDiff, UInt8.reduceToNat, ↓reduceIte, reduceEqDiff, reduceAdd, reduceCtorEq, reduceToNat]
            · rw [ints_len]; simp only [List.length_cons, List.length_nil]; omega
            intro v2 g2 L2 ha2' hx2' hk2' hL2'
            simp +contextual (disch := first | (simp only [fq]; done) | omega | (simp only [Knx]; omega) | (apply Nat.le_antisymm <;> simp only [Knx] <;> omega) | fail) only [wpy, fW, reduceLE, reduceLT, reduceLeDiff, UInt8.reduceToNat, ↓reduceIte, reduceEqDiff, reduceAdd, reduceCtorEq, reduceToNat, Try.f4, e9]
            obtain ⟨gC, hgCd⟩ : ∃ gC, gC = g2.push (Ob.cells [V.int IntKind.i64 0] 3 false) := ⟨_, rfl⟩
            rw [← hgCd]
            have hxC2 : Ext g2 gC := by rw [hgCd]; exact (Ext.refl g2).push _
            have hgC2 : gC.get g2.nx = some (Ob.cells [V.int IntKind.i64 0] 3 false) := by rw [hgCd]; exact push_eq rfl
            have hnC2 : gC.nx = g2.nx + 1 := by rw [hgCd]; rfl
            clear hgCd
            have TN1 : Lst h.nx gC nv6 (ints t6.now) 3 1 := Lst.ext (Lst.keep (Lst.ext (Lst.keep TB.now (by omega) fun k o n m q => hk1' k (by have := lt3 k o n m q; omega) (fun o' n' m' q' => TB.d2 k _ _ _ _ _ _ q' q)) hxB2) (by omega) fun k o n m q => hk2' k (by have := lt3 k o n m q; omega) (fun o' n' m' q' => TB.d3 k _ _ _ _ _ _ q' q)) hxC2
            refine append_fresh (n0 := h.nx) (sv := nv6) (cells := ints t6.now) (new := [.int .i64 0]) ?_ (b2 := g2.nx) (o2 := 0) (n := 1) (m := 1) ?_ ap36 ⟨.slice 3, by kernel_rfl, rfl⟩ TN1 (by decide) (by rw [hgC2]; exact rdC_all rfl) rfl rfl ?_ (by decide) (fun k ⟨o, n, m, q⟩ => by rw [fresh_def]; exact .inl (lo3 k o n m q)) (by omega) ?_
            · simp +contextual (disch := first | (simp only [fq]; done) | omega | (simp only [Knx]; omega) | (apply Nat.le_antisymm <;> simp only [Knx] <;> omega) | fail) only [wpy, fW, reduceLE, reduceLT, reduceLeDiff, UInt8.reduceToNat, ↓reduceIte, reduceEqDiff, reduceAdd, reduceCtorEq, reduceToNat, e9]
            · simp +contextual (disch := first | (simp only [fq]; done) | omega | (simp only [Knx]; omega) | (apply Nat.le_antisymm <;> simp only [Knx] <;> omega) | fail) only [wpy, fW, reduceLE, reduceLT, reduceLeDiff, UInt8.reduceToNat, ↓reduceIte, reduceEqDiff, reduceAdd, reduceCtorEq, reduceToNat]
            · rw [ints_len]; simp only [List.length_cons, List.length_nil]; omega
            intro v3 g3 L3 ha3' hx3' hk3' hL3'
            have chain : ∀ k, k < hA6.nx → (∀ o n m, hv6 ≠ .slice k o n m) → (∀ o n m, cv6 ≠ .slice k o n m) → (∀ o n m, nv6 ≠ .slice k o n m) → g3.get k = hA6.get k := fun k hk n1 n2 n3 => by rw [hk3' k (by omega) n3, hxC2.2 k (by omega), hk2' k (by omega) n2, hxB2.2 k (by omega), hk1' k (by omega) n1, hxB.2 k hk]
            have keep2 : ∀ k, hA6.nx ≤ k → k < g2.nx → g3.get k = g2.get k := fun k h1 h2 => by rw [hk3' k (by omega) (fun o n m q => by have := lt3 k o n m q; omega), hxC2.2 k h2]
            have keep1 : ∀ k, hA6.nx ≤ k → k < g1.nx → g3.get k = g1.get k := fun k h1 h2 => by rw [keep2 k h1 (by omega), hk2' k (by omega) (fun o n m q => by have := lt2 k o n m q; omega), hxB2.2 k h2]
            have iapp : ∀ (l : List Int) (v : Int), ints (l ++ [v]) = ints l ++ [.int .i64 v] := fun l v => by unfold ints; rw [List.map_append]; rfl
            have W7 : CW h D3 P3 v1 v2 v3 t7 (.slice qb 0 R.2.1.length R.2.1.length) R.2.1 g3 := by
              refine WA.of (by omega) (fun k hk hne => chain k hk (fun o n m q => ?_) (fun o n m q => ?_) (fun o n m q => ?_)) (fun k hk => chain k (by omega) (fun o n m q => by have := lo1 k o n m q; omega) (fun o n m q => by have := lo2 k o n m q; omega) (fun o n m q => by have := lo3 k o n m q; omega)) ?_
              · obtain ⟨c, fl, e⟩ := Lst.get3 WA.tri.had q; exact hne c fl e
              · obtain ⟨c, fl, e⟩ := Lst.get3 WA.tri.clean q; exact hne c fl e
              · obtain ⟨c, fl, e⟩ := Lst.get3 WA.tri.now q; exact hne c fl e
              · rw [ht7]
                refine ⟨?_, ?_, ?_, fun k o n m o' n' m' q q' => ?_, fun k o n m o' n' m' q q' => ?_, fun k o n m o' n' m' q q' => ?_⟩
                · rw [iapp]
                  refine Lst.keep (.inl (ha1'.mono (by omega))) (by omega) fun k o n m q => ?_
                  have := ha1'.blk q
                  exact keep1 k (by omega) this.2
                · rw [iapp]
                  refine Lst.keep (.inl (ha2'.mono (by omega))) (by omega) fun k o n m q => ?_
                  have := ha2'.blk q
                  exact keep2 k (by omega) this.2
                · rw [iapp]
                  exact .inl (ha3'.mono (by omega))
                · have := ha1'.blk q; have := ha2'.blk q'; omega
                · have := ha1'.blk q; have := ha3'.blk q'; omega
                · have := ha2'.blk q; have := ha3'.blk q'; omega
            have hg7 : g3.get h6.nx = some (Ob.cells [V.int IntKind.i64 1, V.int IntKind.i64 ((t6.had.length : Int) + 1), V.int IntKind.i64 x.cl] 42 false) := by
              rw [chain h6.nx (by omega) (fun o n m q => ?_) (fun o n m q => ?_) (fun o n m q => ?_)]
              · exact hgA6
              · have := Lst.lt W6.tri.had q; omega
              · have := Lst.lt W6.tri.clean q; omega
              · have := Lst.lt W6.tri.now q; omega
            simp +contextual (disch := first | (simp only [fq]; done) | omega | (simp only [Knx]; omega) | (apply Nat.le_antisymm <;> simp only [Knx] <;> omega) | fail) only [wpy, fW, reduceLE, reduceLT, reduceLeDiff, UInt8.reduceToNat, ↓reduceIte, reduceEqDiff, reduceAdd, reduceCtorEq, reduceToNat, Try.f4, e1, e5, e10, e11, e15, hg7, Int.reduceEq]
            exact nxt _ _ v1 v2 v3 (by simp +contextual (disch := first | (simp only [fq]; done) | omega | (simp only [Knx]; omega) | (apply Nat.le_antisymm <;> simp only [Knx] <;> omega) | fail) only [wpy, fW, reduceLE, reduceLT, reduceLeDiff, UInt8.reduceToNat, ↓reduceIte, reduceEqDiff, reduceAdd, reduceCtorEq, reduceToNat, e1]) (by simp +contextual (disch := first | (simp only [fq]; done) | omega | (simp only [Knx]; omega) | (apply Nat.le_antisymm <;> simp only [Knx] <;> omega) | fail) only [wpy, fW, reduceLE, reduceLT, reduceLeDiff, UInt8.reduceToNat, ↓reduceIte, reduceEqDiff, reduceAdd, reduceCtorEq, reduceToNat, e5]) (by simp +contextual (disch := first | (simp only [fq]; done) | omega | (simp only [Knx]; omega) | (apply Nat.le_antisymm <;> simp only [Knx] <;> omega) | fail) only [wpy, fW, reduceLE, reduceLT, reduceLeDiff, UInt8.reduceToNat, ↓reduceIte, reduceEqDiff, reduceAdd, reduceCtorEq, reduceToNat]) (by simp +contextual (disch := first | (simp only [fq]; done) | omega | (simp only [Knx]; omega) | (apply Nat.le_antisymm <;> simp only [Knx] <;> omega) | fail) only [wpy, fW, reduceLE, reduceLT, reduceLeDiff, UInt8.reduceToNat, ↓reduceIte, reduceEqDiff, reduceAdd, reduceCtorEq, reduceToNat]) (by simp +contextual (disch := first | (simp only [fq]; done) | omega | (simp only [Knx]; omega) | (apply Nat.le_antisymm <;> simp only [Knx] <;> omega) | fail) only [wpy, fW, reduceLE, reduceLT, reduceLeDiff, UInt8.reduceToNat, ↓reduceIte, reduceEqDiff, reduceAdd, reduceCtorEq, reduceToNat]) (by simp +contextual (disch := first | (simp only [fq]; done) | omega | (simp only [Knx]; omega) | (apply Nat.le_antisymm <;> simp only [Knx] <;> omega) | fail) only [wpy, fW, reduceLE, reduceLT, reduceLeDiff, UInt8.reduceToNat, ↓reduceIte, reduceEqDiff, reduceAdd, reduceCtorEq, reduceToNat, e10]) (by simp +contextual (disch := first | (simp only [fq]; done) | omega | (simp only [Knx]; omega) | (apply Nat.le_antisymm <;> simp only [Knx] <;> omega) | fail) only [wpy, fW, reduceLE, reduceLT, reduceLeDiff, UInt8.reduceToNat, ↓reduceIte, reduceEqDiff, reduceAdd, reduceCtorEq, reduceToNat, e11]) (by simp +contextual (disch := first | (simp only [fq]; done) | omega | (simp only [Knx]; omega) | (apply Nat.le_antisymm <;> simp only [Knx] <;> omega) | fail) only [wpy, fW, reduceLE, reduceLT, reduceLeDiff, UInt8.reduceToNat, ↓reduceIte, reduceEqDiff, reduceAdd, reduceCtorEq, reduceToNat, e15, hwj]) W7 (by
              rw [ht7]
              refine ⟨?_, ?_, ?_⟩
              · show (t6.had ++ [_]).length ≤ _; rw [List.length_append]; simp only [List.length_cons, List.length_nil]; omega
              · show (t6.clean ++ [_]).length = (t6.had ++ [_]).length; rw [List.length_append, List.length_append, hT2]; rfl
              · show (t6.now ++ [_]).length = (t6.had ++ [_]).length; rw [List.length_append, List.length_append, hT3]; rfl)
          · by_cases k2 : x.kd = 2
            · obtain ⟨hok2, ht7⟩ : giveOk t6 x ∧ t7 = ⟨t6.had.set (at1 x.cn) x.cl, t6.clean.set (at1 x.cn) 0, t6.now.set (at1 x.cn) x.cl⟩ := by
                unfold stepM at hst
                rw [if_neg k1, if_pos k2] at hst
                by_cases hc : giveOk t6 x
                · rw [if_pos hc] at hst; exact ⟨hc, (Option.some.inj hst).symm⟩
                · rw [if_neg hc] at hst; cases hst
              obtain ⟨ok1, ok2, ok3, ok4⟩ := hok2
              obtain ⟨p, hp⟩ : ∃ p : Nat, x.cn = (p : Int) + 1 := ⟨(x.cn - 1).toNat, by omega⟩
              have hat : at1 x.cn = p := by unfold at1; omega
              rw [hat] at ok3 ok4 ht7
              have hpl : p < t6.had.length := by omega
              rw [k2, hp] at hhA6 hgA6
              rw [k2, hp] at z1
              have hwp : IntKind.i64.wrap ((p : Int) + 1 - 1) = (p : Int) := by rw [i64_in _ (by omega)]; omega
              have hge : ¬ (p : Int) + 1 < 1 := by omega
              have hle : ¬ (t6.had.length : Int) < (p : Int) + 1 := by omega
              have idx : ∀ (l : List Int) (v : Int), l[p]? = some v → (ints l)[p]? = some (.int .i64 v) := fun l v q => by unfold ints; rw [List.getElem?_map, q]; rfl
              obtain ⟨hvv, hh1⟩ : ∃ v, t6.had[p]? = some v := ⟨_, List.getElem?_eq_getElem hpl⟩
              obtain ⟨cvv, hh2⟩ : ∃ v, t6.clean[p]? = some v := ⟨_, List.getElem?_eq_getElem (by omega)⟩
              have hgood : hvv = x.cl ∨ cvv ≠ 0 := by
                rcases ok4 with q | ⟨v, q1, q2⟩
                · rw [hh1] at q; exact .inl (Option.some.inj q)
                · rw [hh2] at q1; rw [Option.some.inj q1]; exact .inr q2
              have c1 := idx _ _ ok3
              have c2 := idx _ _ hh1
              have c3 := idx _ _ hh2
              obtain ⟨b1, rfl, b1a, b1b, b1g, b1s⟩ := WA.tri.setH (i := p) hpl
              obtain ⟨b2, rfl, b2a, b2b, b2g, b2s⟩ := WA.tri.setC (i := p) (by omega)
              obtain ⟨b3, rfl, b3a, b3b, b3g, b3s⟩ := WA.tri.setN (i := p) (by omega)
              have i1 : p < t6.clean.length := by omega
              have i2 : p < t6.now.length := by omega
              simp +contextual (disch := first | (simp only [fq]; done) | omega | (simp only [Knx]; omega) | (apply Nat.le_antisymm <;> simp only [Knx] <;> omega) | fail) only [wpy, fW, reduceLE, reduceLT, reduceLeDiff, UInt8.reduceToNat, ↓reduceIte, reduceEqDiff, reduceAdd, reduceCtorEq, reduceToNat, Try.f4, e1, e5, e7, e8, e9, e10, e11, e15, hlm6, hjl, hqg, z0, z1, Int.reduceEq]
              rw [← hhA6]
              refine ⟨.inr W6h, ?_⟩
              refine draw_by [] (by kernel_rfl) ?_
              simp +contextual (disch := first | (simp only [fq]; done) | omega | (simp only [Knx]; omega) | (apply Nat.le_antisymm <;> simp only [Knx] <;> omega) | fail) only [wpyr, fW, reduceLE, reduceLT, reduceLeDiff, UInt8.reduceToNat, ↓reduceIte, reduceEqDiff, reduceAdd, reduceCtorEq, reduceToNat, Try.f4, e1, e5, e7, e8, e9, e10, e11, e15, hgA6, hge, hle, hwp, i1, i2, hpl, b1g, b2g, b3g, c1, c2, c3]
              refine ⟨fun p hp => (by cases hp), ?_⟩
              refine run_cut (fun env' h' => env' 1 = .slice rb 0 al.length rm ∧ env' 5 = .ptr D3.b 0 ∧ env' 7 = .slice b1 0 t6.had.length t6.had.length ∧ env' 8 = .slice b2 0 t6.clean.length t6.clean.length ∧ env' 9 = .slice b3 0 t6.now.length t6.now.length ∧ env' 10 = .int .i64 i ∧ env' 11 = .slice qb 0 R.2.1.length R.2.1.length ∧ env' 15 = .int .i64 j ∧ env' 16 = .ptr h6.nx 0 ∧ h' = hA6) ?_ ?_
              · rcases hgood with hvc | hvc
                · simp +contextual (disch := first | (simp only [fq]; done) | omega | (simp only [Knx]; omega) | (apply Nat.le_antisymm <;> simp only [Knx] <;> omega) | fail) only [wpy, fW, reduceLE, reduceLT, reduceLeDiff, UInt8.reduceToNat, ↓reduceIte, reduceEqDiff, reduceAdd, reduceCtorEq, reduceToNat, Try.f4, e1, e5, e7, e8, e9, e10, e11, e15, hvc]
                · simp +contextual (disch := first | (simp only [fq]; done) | omega | (simp only [Knx]; omega) | (apply Nat.le_antisymm <;> simp only [Knx] <;> omega) | fail) only [wpy, fW, reduceLE, reduceLT, reduceLeDiff, UInt8.reduceToNat, ↓reduceIte, reduceEqDiff, reduceAdd, reduceCtorEq, reduceToNat, Try.f4, e1, e5, e7, e8, e9, e10, e11, e15, hvc]
              rintro env7 h7 ⟨e1, e5, e7, e8, e9, e10, e11, e15, e16, rfl⟩
              refine draw_by [(6, 17), (10, 17), (15, 17), (10, 19), (15, 19)] (by kernel_rfl) ?_
              have n12 : ¬ b2 = b1 := fun e => WA.tri.d1 b1 _ _ _ 0 t6.clean.length t6.clean.length rfl (by rw [e])
              have n13 : ¬ b3 = b1 := fun e => WA.tri.d2 b1 _ _ _ 0 t6.now.length t6.now.length rfl (by rw [e])
              have n23 : ¬ b3 = b2 := fun e => WA.tri.d3 b2 _ _ _ 0 t6.now.length t6.now.length rfl (by rw [e])
              have q1 : p + 1 ≤ (ints t6.had).length := by rw [ints_len]; omega
              have q2 : p + 1 ≤ (ints t6.clean).length := by rw [ints_len]; omega
              have q3 : p + 1 ≤ (ints t6.now).length := by rw [ints_len]; omega
              have s1 : listPut (ints t6.had) p [V.int IntKind.i64 x.cl] = ints (t6.had.set p x.cl) := by rw [listPut_one _ _ _ (by omega), ints_set]
              have s2 : listPut (ints t6.clean) p [V.int IntKind.i64 0] = ints (t6.clean.set p 0) := by rw [listPut_one _ _ _ (by omega), ints_set]
              have s3 : listPut (ints t6.now) p [V.int IntKind.i64 x.cl] = ints (t6.now.set p x.cl) := by rw [listPut_one _ _ _ (by omega), ints_set]
              simp +contextual (disch := first | (simp only [fq]; done) | omega | (simp only [Knx]; omega) | (apply Nat.le_antisymm <;> simp only [Knx] <;> omega) | fail) only [wpyr, fW, reduceLE, reduceLT, reduceLeDiff, UInt8.reduceToNat, ↓reduceIte, reduceEqDiff, reduceAdd, reduceCtorEq, reduceToNat, Try.f4, e1, e5, e7, e8, e9, e10, e11, e15, e16, hgA6, hwp, i1, i2, hpl, b1g, b2g, b3g, c1, c2, c3, n12, n13, n23, q1, q2, q3, s1, s2, s3]
              have W8a := WA.wrote b1a b1g (b1s x.cl)
              obtain ⟨_, e, ba2, bb2, bg2, bs2⟩ := W8a.tri.setC (i := p) i1
              cases e
              have W8b := W8a.wrote ba2 bg2 (bs2 0)
              obtain ⟨_, e, ba3, bb3, bg3, bs3⟩ := W8b.tri.setN (i := p) i2
              cases e
              have W8c := W8b.wrote ba3 bg3 (bs3 x.cl)
              have nb1 : ¬ h6.nx = b1 := by have := Lst.lt W6.tri.had rfl; omega
              have nb2 : ¬ h6.nx = b2 := by have := Lst.lt W6.tri.clean rfl; omega
              refine ⟨.inr b1a, .inr b2a, .inr b3a, fun p' hp' => ?_, nxt _ _ (.slice b1 0 t6.had.length t6.had.length) (.slice b2 0 t6.clean.length t6.clean.length) (.slice b3 0 t6.now.length t6.now.length) (by simp +contextual (disch := first | (simp only [fq]; done) | omega | (simp only [Knx]; omega) | (apply Nat.le_antisymm <;> simp only [Knx] <;> omega) | fail) only [wpy, fW, reduceLE, reduceLT, reduceLeDiff, UInt8.reduceToNat, ↓reduceIte, reduceEqDiff, reduceAdd, reduceCtorEq, reduceToNat, e1]) (by simp +contextual (disch := first | (simp only [fq]; done) | omega | (simp only [Knx]; omega) | (apply Nat.le_antisymm <;> simp only [Knx] <;> omega) | fail) only [wpy, fW, reduceLE, reduceLT, reduceLeDiff, UInt8.reduceToNat, ↓reduceIte, reduceEqDiff, reduceAdd, reduceCtorEq, reduceToNat, e5]) (by simp +contextual (disch := first | (simp only [fq]; done) | omega | (simp only [Knx]; omega) | (apply Nat.le_antisymm <;> simp only [Knx] <;> omega) | fail) only [wpy, fW, reduceLE, reduceLT, reduceLeDiff, UInt8.reduceToNat, ↓reduceIte, reduceEqDiff, reduceAdd, reduceCtorEq, reduceToNat, e7]) (by simp +contextual (disch := first | (simp only [fq]; done) | omega | (simp only [Knx]; omega) | (apply Nat.le_antisymm <;> simp only [Knx] <;> omega) | fail) only [wpy, fW, reduceLE, reduceLT, reduceLeDiff, UInt8.reduceToNat, ↓reduceIte, reduceEqDiff, reduceAdd, reduceCtorEq, reduceToNat, e8]) (by simp +contextual (disch := first | (simp only [fq]; done) | omega | (simp only [Knx]; omega) | (apply Nat.le_antisymm <;> simp only [Knx] <;> omega) | fail) only [wpy, fW, reduceLE, reduceLT, reduceLeDiff, UInt8.reduceToNat, ↓reduceIte, reduceEqDiff, reduceAdd, reduceCtorEq, reduceToNat, e9]) (by simp +contextual (disch := first | (simp only [fq]; done) | omega | (simp only [Knx]; omega) | (apply Nat.le_antisymm <;> simp only [Knx] <;> omega) | fail) only [wpy, fW, reduceLE, reduceLT, reduceLeDiff, UInt8.reduceToNat, ↓reduceIte, reduceEqDiff, reduceAdd, reduceCtorEq, reduceToNat, e10]) (by simp +contextual (disch := first | (simp only [fq]; done) | omega | (simp only [Knx]; omega) | (apply Nat.le_antisymm <;> simp only [Knx] <;> omega) | fail) only [wpy, fW, reduceLE, reduceLT, reduceLeDiff, UInt8.reduceToNat, ↓reduceIte, reduceEqDiff, reduceAdd, reduceCtorEq, reduceToNat, e11]) (by simp +contextual (disch := first | (simp only [fq]; done) | omega | (simp only [Knx]; omega) | (apply Nat.le_antisymm <;> simp only [Knx] <;> omega) | fail) only [wpy, fW, reduceLE, reduceLT, reduceLeDiff, UInt8.reduceToNat, ↓reduceIte, reduceEqDiff, reduceAdd, reduceCtorEq, reduceToNat, e15, hwj]) (by rw [ht7]; exact W8c) (by rw [ht7]; exact ⟨by show (t6.had.set _ _).length ≤ _; rw [List.length_set]; omega, by show (t6.clean.set _ _).length = (t6.had.set _ _).length; rw [List.length_set, List.length_set]; exact hT2, by show (t6.now.set _ _).length = (t6.had.set _ _).length; rw [List.length_set, List.length_set]; exact hT3⟩)⟩
              have hp' : p' = (6, 17) ∨ p' = (10, 17) ∨ p' = (15, 17) ∨ p' = (10, 19) ∨ p' = (15, 19) := by simpa using hp'
              rcases hp' with rfl | rfl | rfl | rfl | rfl
              · exact pair_one rfl rfl (apart_blk fun x hx y hy => by
                  rw [List.mem_singleton.1 (show x ∈ [_] from hx), List.mem_singleton.1 hy]
                  exact nb1)
              · exact pair_one rfl rfl (apart_blk fun x hx y hy => by
                  rw [List.mem_singleton.1 (show x ∈ [_] from hx), List.mem_singleton.1 hy]
                  exact nb1)
              · exact pair_one rfl rfl (apart_blk fun x hx y hy => by
                  rw [List.mem_singleton.1 (show x ∈ [_] from hx), List.mem_singleton.1 hy]
                  exact nb1)
              · exact pair_one rfl rfl (apart_blk fun x hx y hy => by
                  rw [List.mem_singleton.1 (show x ∈ [_] from hx), List.mem_singleton.1 hy]
                  exact nb2)
              · exact pair_one rfl rfl (apart_blk fun x hx y hy => by
                  rw [List.mem_singleton.1 (show x ∈ [_] from hx), List.mem_singleton.1 hy]
                  exact nb2)
            · have e7' : t7 = t6 := by
                unfold stepM at hst
                rw [if_neg k1, if_neg k2] at hst
                exact (Option.some.inj hst).symm
              simp +contextual (disch := first | (simp only [fq]; done) | omega | (simp only [Knx]; omega) | (apply Nat.le_antisymm <;> simp only [Knx] <;> omega) | fail) only [wpy, fW, reduceLE, reduceLT, reduceLeDiff, UInt8.reduceToNat, ↓reduceIte, reduceEqDiff, reduceAdd, reduceCtorEq, reduceToNat, Try.f4, e1, e5, e7, e8, e9, e10, e11, e15, hlm6, hjl, hqg, z0, z1, k1, k2]
              rw [← hhA6]
              refine ⟨.inr W6h, nxt _ _ hv6 cv6 nv6 (by simp +contextual (disch := first | (simp only [fq]; done) | omega | (simp only [Knx]; omega) | (apply Nat.le_antisymm <;> simp only [Knx] <;> omega) | fail) only [wpy, fW, reduceLE, reduceLT, reduceLeDiff, UInt8.reduceToNat, ↓reduceIte, reduceEqDiff, reduceAdd, reduceCtorEq, reduceToNat, e1]) (by simp +contextual (disch := first | (simp only [fq]; done) | omega | (simp only [Knx]; omega) | (apply Nat.le_antisymm <;> simp only [Knx] <;> omega) | fail) only [wpy, fW, reduceLE, reduceLT, reduceLeDiff, UInt8.reduceToNat, ↓reduceIte, reduceEqDiff, reduceAdd, reduceCtorEq, reduceToNat, e5]) (by simp +contextual (disch := first | (simp only [fq]; done) | omega | (simp only [Knx]; omega) | (apply Nat.le_antisymm <;> simp only [Knx] <;> omega) | fail) only [wpy, fW, reduceLE, reduceLT, reduceLeDiff, UInt8.reduceToNat, ↓reduceIte, reduceEqDiff, reduceAdd, reduceCtorEq, reduceToNat, e7]) (by simp +contextual (disch := first | (simp only [fq]; done) | omega | (simp only [Knx]; omega) | (apply Nat.le_antisymm <;> simp only [Knx] <;> omega) | fail) only [wpy, fW, reduceLE, reduceLT, reduceLeDiff, UInt8.reduceToNat, ↓reduceIte, reduceEqDiff, reduceAdd, reduceCtorEq, reduceToNat, e8]) (by simp +contextual (disch := first | (simp only [fq]; done) | omega | (simp only [Knx]; omega) | (apply Nat.le_antisymm <;> simp only [Knx] <;> omega) | fail) only [wpy, fW, reduceLE, reduceLT, reduceLeDiff, UInt8.reduceToNat, ↓reduceIte, reduceEqDiff, reduceAdd, reduceCtorEq, reduceToNat, e9]) (by simp +contextual (disch := first | (simp only [fq]; done) | omega | (simp only [Knx]; omega) | (apply Nat.le_antisymm <;> simp only [Knx] <;> omega) | fail) only [wpy, fW, reduceLE, reduceLT, reduceLeDiff, UInt8.reduceToNat, ↓reduceIte, reduceEqDiff, reduceAdd, reduceCtorEq, reduceToNat, e10]) (by simp +contextual (disch := first | (simp only [fq]; done) | omega | (simp only [Knx]; omega) | (apply Nat.le_antisymm <;> simp only [Knx] <;> omega) | fail) only [wpy, fW, reduceLE, reduceLT, reduceLeDiff, UInt8.reduceToNat, ↓reduceIte, reduceEqDiff, reduceAdd, reduceCtorEq, reduceToNat, e11]) (by simp +contextual (disch := first | (simp only [fq]; done) | omega | (simp only [Knx]; omega) | (apply Nat.le_antisymm <;> simp only [Knx] <;> omega) | fail) only [wpy, fW, reduceLE, reduceLT, reduceLeDiff, UInt8.reduceToNat, ↓reduceIte, reduceEqDiff, reduceAdd, reduceCtorEq, reduceToNat, e15, hwj]) (by rw [e7']; exact WA) (by rw [e7']; exact ⟨by omega, hT2, hT3⟩)⟩
        · have hje : j = R.2.1.length := by omega
          have et : t6 = t' := by
            rw [hje, List.drop_length] at hrun6
            exact Option.some.inj hrun6
          simp +contextual (disch := first | (simp only [fq]; done) | omega | (simp only [Knx]; omega) | (apply Nat.le_antisymm <;> simp only [Knx] <;> omega) | fail) only [wpy, fW, reduceLE, reduceLT, reduceLeDiff, UInt8.reduceToNat, ↓reduceIte, reduceEqDiff, reduceAdd, reduceCtorEq, reduceToNat, Try.f4, e1, e5, e7, e8, e9, e10, e11, e15, hlm6, hjl]
          exact ⟨al.length - (i + 1), by omega, i + 1, D3, P3, hv6, cv6, nv6, t6, rfl, hlt, by simp +contextual (disch := first | (simp only [fq]; done) | omega | (simp only [Knx]; omega) | (apply Nat.le_antisymm <;> simp only [Knx] <;> omega) | fail) only [wpy, fW, reduceLE, reduceLT, reduceLeDiff, UInt8.reduceToNat, ↓reduceIte, reduceEqDiff, reduceAdd, reduceCtorEq, reduceToNat, e1], by simp +contextual (disch := first | (simp only [fq]; done) | omega | (simp only [Knx]; omega) | (apply Nat.le_antisymm <;> simp only [Knx] <;> omega) | fail) only [wpy, fW, reduceLE, reduceLT, reduceLeDiff, UInt8.reduceToNat, ↓reduceIte, reduceEqDiff, reduceAdd, reduceCtorEq, reduceToNat, e5], by simp +contextual (disch := first | (simp only [fq]; done) | omega | (simp only [Knx]; omega) | (apply Nat.le_antisymm <;> simp only [Knx] <;> omega) | fail) only [wpy, fW, reduceLE, reduceLT, reduceLeDiff, UInt8.reduceToNat, ↓reduceIte, reduceEqDiff, reduceAdd, reduceCtorEq, reduceToNat, e7], by simp +contextual (disch := first | (simp only [fq]; done) | omega | (simp only [Knx]; omega) | (apply Nat.le_antisymm <;> simp only [Knx] <;> omega) | fail) only [wpy, fW, reduceLE, reduceLT, reduceLeDiff, UInt8.reduceToNat, ↓reduceIte, reduceEqDiff, reduceAdd, reduceCtorEq, reduceToNat, e8], by simp +contextual (disch := first | (simp only [fq]; done) | omega | (simp only [Knx]; omega) | (apply Nat.le_antisymm <;> simp only [Knx] <;> omega) | fail) only [wpy, fW, reduceLE, reduceLT, reduceLeDiff, UInt8.reduceToNat, ↓reduceIte, reduceEqDiff, reduceAdd, reduceCtorEq, reduceToNat, e9], by simp +contextual (disch := first | (simp only [fq]; done) | omega | (simp only [Knx]; omega) | (apply Nat.le_antisymm <;> simp only [Knx] <;> omega) | fail) only [wpy, fW, reduceLE, reduceLT, reduceLeDiff, UInt8.reduceToNat, ↓reduceIte, reduceEqDiff, reduceAdd, reduceCtorEq, reduceToNat], W6.pr, hm3, B3', by rw [hpl]; exact G3, by rw [hpl, et]; exact hInv, W6.tri, hown3, rfl, W6.ext⟩
    · simp +contextual (disch := first | (simp only [fq]; done) | omega | (simp only [Knx]; omega) | (apply Nat.le_antisymm <;> simp only [Knx] <;> omega) | fail) only [wpy, fW, reduceLE, reduceLT, reduceLeDiff, UInt8.reduceToNat, ↓reduceIte, reduceEqDiff, reduceAdd, reduceCtorEq, reduceToNat, Try.f4, e1, e5, e7, e8, e9, e10, hlt, hlen2]
      exact hx2
end
end Go.Proofs.Ytbebdlmldogcmaa
set_option linter.unusedVariables false
set_option linter.unusedSimpArgs false
set_option maxRecDepth 100000
namespace Go.Proofs.Ytbebdlmldogcmaa.glue
open Go.Proofs Go.Shelf Go.ChangeShapes Go.WideShapes Go.ChangeAt Go.RowKit Go.Lx

theorem own : ownKnob Try.prog.godebug = none := by kernel_rfl
theorem laidOut : laidOutB Try.prog = true := by kernel_rfl
theorem mixed : Try.prog.follows .mixedOrders = true := Checked.mixed Try.checked

noncomputable def ρ : Go.Shelf.Ren := ⟨fun n => match n with | 6 => 47 | 8 => 55 | 9 => 56 | 10 => 57 | 11 => 58 | _ => 0, fun n => match n with | 0 => 0 | 3 => 64 | 4 => 4 | 23 => 52 | 24 => 36 | 26 => 3 | 28 => 81 | 33 => 58 | _ => 0, fun n => n⟩

theorem lay : KeyLay Try.prog ρ .i64 8 where
  mixed := mixed
  f6 := ⟨ "slices.Sorted[int]", by kernel_rfl, by kernel_rfl⟩
  f8 := ⟨ "slices.Collect[int]", by kernel_rfl, by kernel_rfl⟩
  f10 := ⟨ "maps.Keys[map[int]*sluicegate/api.Conn,int,*sluicegate/api.Conn]$1", by kernel_rfl, by kernel_rfl⟩
  f11 := ⟨ "slices.AppendSeq[[]int,int]", by kernel_rfl, by kernel_rfl⟩
  t0 := by kernel_rfl
  a0 := fun w => by kernel_rfl
  z0 := fun w => by kernel_rfl
  v0 := fun w => by kernel_rfl
  t4 := by kernel_rfl
  a4 := fun w => by kernel_rfl
  z4 := fun w => by kernel_rfl
  v4 := fun w => by kernel_rfl
  t23 := by kernel_rfl
  a23 := fun w => by kernel_rfl
  z23 := fun w => by kernel_rfl
  v23 := fun w => by kernel_rfl
  t24 := by kernel_rfl
  a24 := fun w => by kernel_rfl
  z24 := fun w => by kernel_rfl
  v24 := fun w => by kernel_rfl
  t26 := by kernel_rfl
  a26 := fun w => by kernel_rfl
  z26 := fun w => by kernel_rfl
  v26 := fun w => by kernel_rfl
  t28 := by kernel_rfl
  a28 := fun w => by kernel_rfl
  z28 := fun w => by kernel_rfl
  v28 := fun w => by kernel_rfl
  t33 := by kernel_rfl
  a33 := fun w => by kernel_rfl
  z33 := fun w => by kernel_rfl
  v33 := fun w => by kernel_rfl
  i26 := by kernel_rfl

noncomputable section
noncomputable def base : Set0 := { exts := [] }
theorem base_ok (lf : Nat) : SumOk (base.cfg.at lf) := sumOk_none _ rfl
theorem baseS : StdS base where
  ownS := fun _ _ => rfl
theorem e9 : Go.Proofs.Enters Try.prog (ρ.f 9) := Go.Proofs.enters_of Try.func56 (by kernel_rfl) (by first | rfl | kernel_rfl)
theorem e6 : Go.Proofs.Enters Try.prog (ρ.f 6) := Go.Proofs.enters_of Try.func47 (by kernel_rfl) (by first | rfl | kernel_rfl)
theorem eL : Go.Proofs.Enters Try.prog 8 := Go.Proofs.enters_of Try.func8 (by kernel_rfl) (by first | rfl | kernel_rfl)
noncomputable def cfg0 : Cfg := { P := Try.prog, lf := 100000, gl := .leaf, sum := fun _ => none }
noncomputable def cfg1 : Cfg := { P := Try.prog, lf := 100000, gl := .leaf, sum := sums [(47, sortedM cfg0 41 57 56 .i64 3)] }
theorem cfg1_ok : SumOk cfg1 := by
  refine sumOk_list _ [(47, sortedM cfg0 41 57 56 .i64 3)] rfl ?_
  intro p hp
  rw [List.mem_singleton] at hp
  subst hp
  exact extSum_sorted cfg0 mixed (sumOk_none _ rfl) rfl lay rfl (by kernel_rfl) e9 e6 (by decide) (n := 40) (by kernel_rfl) .leaf
theorem livesRun : yes (callM cfg1 100 8 [] st0) = true := by kernel_rfl
noncomputable def st : Set0 := { exts := [(47, sortedMG (base.cfg.at 100000) 41 57 56 .i64 3), (8, constTrue)] }
theorem st_ok (lf : Nat) : SumOk (st.cfg.at lf) := by
  refine sumOk_list _ [(47, sortedMG (base.cfg.at 100000) 41 57 56 .i64 3), (8, constTrue)] rfl ?_
  intro p hp
  rcases List.mem_cons.1 hp with rfl | hp
  · exact extSum_sortedG (base.cfg.at 100000) mixed (base_ok 100000) rfl lay rfl (by kernel_rfl) e9 e6 (by decide) (n := 40) (by kernel_rfl) (sorts baseS) (fun lf => base_ok lf) .leaf
  rw [List.mem_singleton] at hp
  subst hp
  exact extSum_true cfg1 mixed cfg1_ok livesRun rfl eL rfl
open Go.Wx in
theorem std : StdP st where
  ownS := by
    repeat (refine List.forall_mem_cons.2 ⟨rfl, ?_⟩)
    intro f hf
    cases hf
  ownP := by
    repeat (refine List.forall_mem_cons.2 ⟨rfl, ?_⟩)
    intro f hf
    cases hf
  srt := ⟨_, _, rfl⟩
  lives := fun h => callW_sum (s := h.st) (g := constTrue) rfl (Nice.ret _) rfl LogOk_nil ⟨rfl, rfl⟩
open Go.Wx in
theorem wf_row (c : List V) : WF (T.leaf.set 0 (some (Ob.ro c))) 1 := by
  intro k hk
  rw [T.get_set] at hk
  split at hk
  · omega
  · exact absurd rfl hk
theorem und32 : isStructD (Try.prog.underlying 32) = true := by kernel_rfl
theorem und33 : Try.prog.underlying 33 = some (.slice 39) := by kernel_rfl
theorem und3 : Try.prog.underlying 3 = some (.int .i64) := by kernel_rfl
theorem und4 : Try.prog.underlying 4 = some .bool := by kernel_rfl
theorem cells32 : Try.prog.cellsOf 32 = 3 := by kernel_rfl
theorem cells39 : Try.prog.cellsOf 39 = 3 := by kernel_rfl
theorem cells3 : Try.prog.cellsOf 3 = 1 := by kernel_rfl
theorem cells4 : Try.prog.cellsOf 4 = 1 := by kernel_rfl
noncomputable def fieldsAre (d : Option TypeDesc) (ts : List (TypeId × Nat)) : Bool := match d with
  | some (.struct fs) => fs.toList.map (fun f => (f.type, f.offset)) == ts
  | _ => false
theorem fields32 : fieldsAre (Try.prog.underlying 32) [(3, 0), (3, 1), (3, 2)] = true := by kernel_rfl
theorem fields39 : fieldsAre (Try.prog.underlying 39) [(3, 0), (3, 1), (4, 2)] = true := by kernel_rfl
theorem fieldsAre_ok {d : Option TypeDesc} {ts : List (TypeId × Nat)} (h : fieldsAre d ts = true) : ∃ fs, d = some (.struct fs) ∧ ∀ p ∈ ts, ∃ f ∈ fs.toList, f.type = p.1 ∧ f.offset = p.2 := by
  unfold fieldsAre at h
  cases d with
  | none => cases h
  | some d =>
    cases d <;> try (cases h; done)
    rename_i fs
    refine ⟨fs, rfl, fun p hp => ?_⟩
    have := eq_of_beq h
    rw [← this] at hp
    obtain ⟨f, hf, e⟩ := List.mem_map.1 hp
    exact ⟨f, hf, by rw [← e], by rw [← e]⟩
section
variable {H : Type} {enc : TypeId × Value → H} {w : World} {spare : Nat → Bool} {held : Bool}
theorem three {cs : List Value} (h : cs.length = 3) {P0 P1 P2 : List Value → Prop} (h0 : P0 ((cs.drop 0).take 1)) (h1 : P1 ((cs.drop 1).take 1)) (h2 : P2 ((cs.drop 2).take 1)) : ∃ a b c, cs = [a, b, c] ∧ P0 [a] ∧ P1 [b] ∧ P2 [c] := by
  match cs, h with
  | [a, b, c], _ => exact ⟨a, b, c, rfl, h0, h1, h2⟩
theorem setup_cells {fuel : Nat} {cs : List Value} {x : DataW H × List MemPlace} (h : DataW.trod enc Try.prog w 0 spare held fuel 32 cs = some x) : ∃ a b c, cs = [.int .i64 a, .int .i64 b, .int .i64 c] := by
  obtain ⟨fs, hu, hf⟩ := fieldsAre_ok fields32
  have hl := trod_struct_len hu h
  rw [cells32] at hl
  have get : ∀ o, ((3, o) : TypeId × Nat) ∈ [((3, 0) : TypeId × Nat), (3, 1), (3, 2)] → ∃ n, (cs.drop o).take 1 = [.int .i64 n] := fun o ho => by
    obtain ⟨f, hm, e1, e2⟩ := hf _ ho
    obtain ⟨y, hy⟩ := trod_field' hu hm h
    rw [e1, e2, cells3] at hy
    obtain ⟨n, hn, _⟩ := trod_int und3 hy
    exact ⟨n, hn⟩
  obtain ⟨a, b, c, rfl, h0, h1, h2⟩ := three hl (P0 := fun l => ∃ n, l = [.int .i64 n]) (P1 := fun l => ∃ n, l = [.int .i64 n]) (P2 := fun l => ∃ n, l = [.int .i64 n]) (get 0 (by simp)) (get 1 (by simp)) (get 2 (by simp))
  obtain ⟨n0, e0⟩ := h0
  obtain ⟨n1, e1⟩ := h1
  obtain ⟨n2, e2⟩ := h2
  cases e0; cases e1; cases e2
  exact ⟨n0, n1, n2, rfl⟩
def isAct (cs : List Value) : Prop := ∃ a b, ∃ c : Bool, cs = [.int .i64 a, .int .i64 b, .bool c]
theorem act_cells {fuel : Nat} {cs : List Value} {x : DataW H × List MemPlace} (h : DataW.trod enc Try.prog w 0 spare held fuel 39 cs = some x) : isAct cs := by
  obtain ⟨fs, hu, hf⟩ := fieldsAre_ok fields39
  have hl := trod_struct_len hu h
  rw [cells39] at hl
  have get : ∀ o, ((3, o) : TypeId × Nat) ∈ [((3, 0) : TypeId × Nat), (3, 1), (4, 2)] → ∃ n, (cs.drop o).take 1 = [.int .i64 n] := fun o ho => by
    obtain ⟨f, hm, e1, e2⟩ := hf _ ho
    obtain ⟨y, hy⟩ := trod_field' hu hm h
    rw [e1, e2, cells3] at hy
    obtain ⟨n, hn, _⟩ := trod_int und3 hy
    exact ⟨n, hn⟩
  have getb : ∃ n : Bool, (cs.drop 2).take 1 = [.bool n] := by
    obtain ⟨f, hm, e1, e2⟩ := hf (4, 2) (by simp)
    obtain ⟨y, hy⟩ := trod_field' hu hm h
    rw [e1, e2, cells4] at hy
    exact trod_bool und4 hy
  obtain ⟨a, b, c, rfl, h0, h1, h2⟩ := three hl (P0 := fun l => ∃ n, l = [.int .i64 n]) (P1 := fun l => ∃ n, l = [.int .i64 n]) (P2 := fun l => ∃ n : Bool, l = [.bool n]) (get 0 (by simp)) (get 1 (by simp)) getb
  obtain ⟨n0, e0⟩ := h0
  obtain ⟨n1, e1⟩ := h1
  obtain ⟨n2, e2⟩ := h2
  cases e0; cases e1; cases e2
  exact ⟨n0, n1, n2, rfl⟩
end
theorem acts_of : ∀ (rows : List (List Value)), (∀ r ∈ rows, r.length = 3 ∧ isAct r) → ∃ al : List ACT, al.length = rows.length ∧ ∀ (i : Nat) (v : V), (acells al)[i]? = some v → ∃ r, rows.flatten[i]? = some r ∧ ∀ μ ν, VRel μ ν v r
  | [], _ => ⟨[], rfl, fun i v h => by simp [acells] at h⟩
  | r :: rows, h => by
    obtain ⟨al, h1, h2⟩ := acts_of rows fun r hr => h r (.tail _ hr)
    obtain ⟨_, a, b, c, e⟩ := h r (.head _)
    refine ⟨⟨a, b, c = true⟩ :: al, by simp [h1], fun i v hi => ?_⟩
    subst e
    have e1 : acells (⟨a, b, c = true⟩ :: al) = [.int .i64 a, .int .i64 b, Go.Wx.bo (c = true)] ++ acells al := rfl
    rw [e1] at hi
    have e2 : ([Value.int .i64 a, Value.int .i64 b, Value.bool c] :: rows).flatten = [Value.int .i64 a, Value.int .i64 b, Value.bool c] ++ rows.flatten := rfl
    rw [e2]
    match i with
    | 0 => cases hi; exact ⟨_, rfl, fun μ ν => .int _ _⟩
    | 1 => cases hi; exact ⟨_, rfl, fun μ ν => .int _ _⟩
    | 2 =>
      have : Go.Wx.bo (c = true) = v := Option.some.inj hi
      rw [← this, ← Go.Wx.bo_bool]
      exact ⟨_, rfl, fun μ ν => .bool _⟩
    | i + 3 => exact h2 i v hi
theorem slice_arg {W : World} {base : Nat} {v : Value} (h : Value.okWide Try.prog W .any base 33 v) : v = .slice none 0 0 ∨ ∃ a len cap, v = .slice (some a) len cap ∧ len ≤ cap ∧ cap < 2 ^ 63 ∧ a.spot = none ∧ ∃ q, W.shape? a.block = some q := by
  unfold Value.okWide at h
  rw [und33] at h
  unfold Cell.okWide Cell.ok at h
  rw [und33] at h
  cases v <;> simp only [] at h <;> try (exact h.elim)
  rename_i ao len cap
  cases ao with
  | none =>
    left
    cases len <;> cases cap <;> first | rfl | exact h.elim
  | some a =>
    obtain ⟨w1, w2, _, w3, row, cells, w4, _⟩ := h
    exact .inr ⟨a, len, cap, rfl, w1, by have : IntKind.i64.max = 9223372036854775807 := rfl; omega, w3, _, w4⟩
open Go.Wx in
theorem walk {f : FuncId} (hsu : st.cfg.sum f = none) (hlaw : ∀ (a b c : Int) (al : List ACT) (lv : V) (h : H), ARow h lv al → al.length < 2 ^ 63 → Pure st.cfg f [.agg [.int .i64 a, .int .i64 b, .int .i64 c], lv] h fun v _ => v = .bool true) {H : Type} {enc : TypeId × Value → H} {spare : Nat → Bool} {held : Bool} {W : World} {base : Nat} {v0 v1 : Value} {d0 d1 : DataW H} {p0 p1 : List MemPlace} (hv0 : ∃ cs, v0 = .agg ⟨cs⟩) (hv1 : Value.okWide Try.prog W .any base 33 v1) (h0 : DataW.Trod enc Try.prog W 0 spare held 32 v0 d0 p0) (h1 : DataW.Trod enc Try.prog W 0 spare held 33 v1 d1 p1) : Calls Try.prog f #[v0, v1] W fun e W' => e = .returned (.bool true) ∧ Below W.heap.size W W' := by
  obtain ⟨cs, rfl⟩ := hv0
  obtain ⟨fuel0, h0⟩ := h0
  obtain ⟨fuel1, h1⟩ := h1
  obtain ⟨a, b, c, e⟩ := setup_cells h0
  have e : cs = [.int .i64 a, .int .i64 b, .int .i64 c] := e
  subst e
  rcases slice_arg hv1 with rfl | ⟨ad, len, cap, rfl, hlc, hcm, hsp, hsh⟩
  · obtain ⟨v, h', lf, k, l, hrun, _, rfl⟩ := callW_run (hlaw a b c [] .nilslice ⟨.leaf, 0⟩ (.inl ⟨rfl, rfl⟩) (by decide))
    exact law_calls_g (st.cfg.at lf) mixed (st_ok lf) (vs := [.agg [.int .i64 a, .int .i64 b, .int .i64 c], .nilslice]) (n := k) (by rw [show st0 = (⟨.leaf, 0, []⟩ : St) from rfl, hrun]; rfl) hsu (.cons (.agg (.cons (.int _ _) (.cons (.int _ _) (.cons (.int _ _) .nil)))) (.cons .nilslice .nil)) (ν := fun _ => undef) W Globs.none
  · obtain ⟨_, _, hel⟩ := trod_row und33 hsp h1
    rw [cells39] at hel
    obtain ⟨rows, rc, et, frz, hrl, hh, hrows, hfl⟩ := flat_row (sz := 3) (Q := isAct) hsh fun i hi => by
      obtain ⟨cs, y, h2, h3, h4⟩ := hel i hi
      exact ⟨cs, h3, act_cells h2, h4⟩
    obtain ⟨al, hal, hac⟩ := acts_of rows hrows
    rw [hrl] at hal
    subst hal
    obtain ⟨v, h', lf, k, l, hrun, _, rfl⟩ := callW_runH (h := ⟨T.leaf.set 0 (some (.ro (acells al))), 1⟩) (wf_row _) (hlaw a b c al (.slice 0 0 al.length cap) ⟨T.leaf.set 0 (some (.ro (acells al))), 1⟩ (.inr ⟨0, cap, rfl, Nat.one_pos, by show T.get _ 0 = _; rw [T.get_set, if_pos rfl]⟩) (by omega))
    refine law_calls_r (st.cfg.at lf) mixed (st_ok lf) (vs := [.agg [.int .i64 a, .int .i64 b, .int .i64 c], .slice 0 0 al.length cap]) (n := k) (ν := fun _ => undef) (μ := upd (fun _ => none) 0 ⟨ad.block, ad.off, false, 0, 0⟩) hrun hsu W ⟨fun j ob hk => ?_, fun j j' ob ob' q q' hk hk' hne => ?_⟩ (fun j hj => upd_ne _ _ (by have : 1 ≤ j := hj; omega)) (fun j q hk => ?_) (.cons (.agg (.cons (.int _ _) (.cons (.int _ _) (.cons (.int _ _) .nil)))) (.cons (.slice (upd_same _ _ _) hlc ?_) .nil)) Globs.none
    · rw [T.get_set] at hk
      split at hk
      · rename_i e0
        subst e0
        cases hk
        refine ⟨_, upd_same _ _ _, rfl, rc, et, frz, hh, fun i v hi => ?_⟩
        obtain ⟨r', q1, q2⟩ := hac i v hi
        exact ⟨r', hfl i r' q1, q2 _ _⟩
      · cases hk
    · rw [T.get_set] at hk hk'
      split at hk
      · split at hk'
        · omega
        · cases hk'
      · cases hk
    · by_cases h0 : j = 0
      · subst h0; exact ⟨_, by rw [T.get_set, if_pos rfl]⟩
      · rw [upd_ne _ _ h0] at hk; cases hk
    · refine .inr ⟨?_, .inl rfl⟩
      obtain ⟨ab, ao, asp⟩ := ad
      simp only at hsp
      subst hsp
      rfl
end
end Go.Proofs.Ytbebdlmldogcmaa.glue
