/-
  Several texts of one walk, joined.
-/
import Derived.Test.YtbebdlmldogcmaaGreatPoB
set_option linter.unusedSimpArgs false
set_option linter.unusedVariables false
set_option linter.unusedSectionVars false
set_option linter.defProp false
set_option maxRecDepth 10000
set_option maxHeartbeats 1000000
namespace Go.Proofs.YtbebdlmldogcmaaGreat
open Go.Proofs Go.Lx Go.Wx Go.IntWalk
noncomputable section
structure Tr where
  had : List Int
  clean : List Int
  now : List Int
def at1 (n : Int) : Nat := (n - 1).toNat
def giveOk (t : Tr) (m : MV) : Prop := 1 ≤ m.cn ∧ m.cn ≤ t.had.length ∧ t.now[at1 m.cn]? = some 0 ∧ (t.had[at1 m.cn]? = some m.cl ∨ ∃ v, t.clean[at1 m.cn]? = some v ∧ v ≠ 0)
def stepM (t : Tr) (m : MV) : Option Tr :=
  if m.kd = 1 then (if m.cn = t.had.length + 1 then some ⟨t.had ++ [m.cl], t.clean ++ [1], t.now ++ [0]⟩ else none)
  else if m.kd = 2 then (if giveOk t m then some ⟨t.had.set (at1 m.cn) m.cl, t.clean.set (at1 m.cn) 0, t.now.set (at1 m.cn) m.cl⟩ else none)
  else some t
def runM : List MV → Tr → Option Tr
  | [], t => some t
  | m :: l, t => match stepM t m with
    | some t' => runM l t'
    | none => none
theorem runM_snoc : ∀ (l : List MV) (m : MV) (t t1 t2 : Tr), runM l t = some t1 → stepM t1 m = some t2 → runM (l ++ [m]) t = some t2
  | [], m, t, t1, t2, h1, h2 => by
    cases h1
    show (match stepM t m with | some t' => runM [] t' | none => none) = _
    rw [h2]; rfl
  | x :: l, m, t, t1, t2, h1, h2 => by
    show (match stepM t x with | some t' => runM (l ++ [m]) t' | none => none) = _
    have h1' : (match stepM t x with | some t' => runM l t' | none => none) = some t1 := h1
    cases hs : stepM t x with
    | none => rw [hs] at h1'; cases h1'
    | some t' => rw [hs] at h1'; exact runM_snoc l m t' t1 t2 h1' h2
structure Inv (p : PL) (t : Tr) : Prop where
  lc : t.clean.length = t.had.length
  ln : t.now.length = t.had.length
  last : p.last = t.had.length
  rise : (p.conns.map PC.num).Nodup
  num : ∀ c ∈ p.conns, 1 ≤ c.num ∧ c.num ≤ p.last
  op : ∀ c ∈ p.conns, c.st = 1 → t.now[at1 c.num]? = some 0 ∧ t.had[at1 c.num]? = some c.cl
  rs : ∀ c ∈ p.conns, c.st = 3 → t.now[at1 c.num]? = some 0
  idl : ∀ c ∈ p.conns, c.st = 4 → t.now[at1 c.num]? = some 0 ∧ ∃ v, t.clean[at1 c.num]? = some v ∧ v ≠ 0
def Cl (t0 : Tr) (p : PL) : Prop := ∃ t, runM p.moves t0 = some t ∧ Inv p t
theorem Cl.step {t0 : Tr} {p q : PL} (h : Cl t0 p) (m : MV) (hq : q.moves = p.moves ++ [m]) (hs : ∀ t, Inv p t → ∃ t', stepM t m = some t' ∧ Inv q t') : Cl t0 q := by
  obtain ⟨t, h1, h2⟩ := h
  obtain ⟨t', h3, h4⟩ := hs t h2
  exact ⟨t', by rw [hq]; exact runM_snoc _ _ _ _ _ h1 h3, h4⟩
theorem at1_ne {a b : Int} (ha : 1 ≤ a) (hb : 1 ≤ b) (h : a ≠ b) : at1 a ≠ at1 b := by unfold at1; omega
theorem some_app {l r : List Int} {i : Nat} {v : Int} (h : l[i]? = some v) : (l ++ r)[i]? = some v := by
  have hi : i < l.length := by
    rcases Nat.lt_or_ge i l.length with h1 | h1
    · exact h1
    · rw [List.getElem?_eq_none h1] at h; cases h
  rw [List.getElem?_append_left hi]; exact h
theorem Inv.cong {p q : PL} {t : Tr} (h : Inv p t) (h1 : q.conns = p.conns) (h2 : q.last = p.last) : Inv q t :=
  ⟨h.lc, h.ln, by rw [h2]; exact h.last, by rw [h1]; exact h.rise, by rw [h1, h2]; exact h.num, by rw [h1]; exact h.op, by rw [h1]; exact h.rs, by rw [h1]; exact h.idl⟩
theorem Inv.del {p : PL} {t : Tr} (h : Inv p t) (n : Int) : Inv (p.del n) t := by
  have hs : ∀ c ∈ (p.del n).conns, c ∈ p.conns := fun c hc => (List.mem_filter.1 hc).1
  exact ⟨h.lc, h.ln, h.last, List.Nodup.sublist (List.filter_sublist.map _) h.rise, fun c hc => h.num c (hs c hc), fun c hc => h.op c (hs c hc), fun c hc => h.rs c (hs c hc), fun c hc => h.idl c (hs c hc)⟩
theorem Cl.quiet {t0 : Tr} {p : PL} (h : Cl t0 p) {kd : Int} (h1 : kd ≠ 1) (h2 : kd ≠ 2) (a b : Int) : Cl t0 (p.mov kd a b) :=
  h.step ⟨kd, a, b⟩ rfl fun t ht => ⟨t, by unfold stepM; rw [if_neg h1, if_neg h2], ht.cong rfl rfl⟩
theorem Cl.cong {t0 : Tr} {p q : PL} (h : Cl t0 p) (h1 : q.conns = p.conns) (h2 : q.last = p.last) (h3 : q.moves = p.moves) : Cl t0 q := by
  obtain ⟨t, w1, w2⟩ := h
  exact ⟨t, by rw [h3]; exact w1, w2.cong h1 h2⟩
theorem Cl.del {t0 : Tr} {p : PL} (h : Cl t0 p) (n : Int) : Cl t0 (p.del n) := by
  obtain ⟨t, w1, w2⟩ := h
  exact ⟨t, w1, w2.del n⟩
theorem set_num (l : List PC) (n : Int) (c' : PC) (hc : c'.num = n) : (l.map fun x => if x.num = n then c' else x).map PC.num = l.map PC.num := by
  rw [List.map_map]
  refine List.map_congr_left fun x _ => ?_
  show PC.num (if x.num = n then c' else x) = x.num
  by_cases e : x.num = n
  · rw [if_pos e, hc, e]
  · rw [if_neg e]
theorem set_mem {l : List PC} {n : Int} {c' x : PC} (h : x ∈ l.map fun x => if x.num = n then c' else x) : x = c' ∨ (x ∈ l ∧ x.num ≠ n) := by
  obtain ⟨y, hy, rfl⟩ := List.mem_map.1 h
  by_cases e : y.num = n
  · rw [if_pos e]; exact .inl rfl
  · rw [if_neg e]; exact .inr ⟨hy, e⟩
theorem Inv.give {p q : PL} {t : Tr} (h : Inv p t) {c c' : PC} (hc : c ∈ p.conns) (cl : Int) (hok : t.now[at1 c.num]? = some 0 ∧ (t.had[at1 c.num]? = some cl ∨ ∃ v, t.clean[at1 c.num]? = some v ∧ v ≠ 0)) (hcn : c'.num = c.num) (hst : c'.st = 2) (hq : q.conns = p.conns.map fun x => if x.num = c.num then c' else x) (hl : q.last = p.last) :
    ∃ t', stepM t ⟨2, c.num, cl⟩ = some t' ∧ Inv q t' := by
  have hn := h.num c hc
  have hg : giveOk t ⟨2, c.num, cl⟩ := ⟨hn.1, by have := h.last; show c.num ≤ _; omega, hok.1, hok.2⟩
  refine ⟨⟨t.had.set (at1 c.num) cl, t.clean.set (at1 c.num) 0, t.now.set (at1 c.num) cl⟩, ?_, ?_⟩
  · unfold stepM
    rw [if_neg (show ¬ (2 : Int) = 1 by decide), if_pos rfl, if_pos hg]
  · have hne : ∀ x ∈ p.conns, x.num ≠ c.num → at1 c.num ≠ at1 x.num := fun x hx e => at1_ne hn.1 (h.num x hx).1 (Ne.symm e)
    refine ⟨by simp [h.lc], by simp [h.ln], by rw [hl]; simp [h.last], by rw [hq, set_num _ _ _ hcn]; exact h.rise, fun x hx => ?_, fun x hx hs => ?_, fun x hx hs => ?_, fun x hx hs => ?_⟩
    · rw [hq] at hx
      rw [hl]
      rcases set_mem hx with rfl | ⟨hx, _⟩
      · rw [hcn]; exact hn
      · exact h.num x hx
    · rw [hq] at hx
      rcases set_mem hx with rfl | ⟨hx, e⟩
      · rw [hst] at hs; exact absurd hs (by decide)
      · have := h.op x hx hs
        simp only [List.getElem?_set_ne (hne x hx e)]
        exact this
    · rw [hq] at hx
      rcases set_mem hx with rfl | ⟨hx, e⟩
      · rw [hst] at hs; exact absurd hs (by decide)
      · have := h.rs x hx hs
        simp only [List.getElem?_set_ne (hne x hx e)]
        exact this
    · rw [hq] at hx
      rcases set_mem hx with rfl | ⟨hx, e⟩
      · rw [hst] at hs; exact absurd hs (by decide)
      · have := h.idl x hx hs
        simp only [List.getElem?_set_ne (hne x hx e)]
        exact this
theorem Cl.serve1 {t0 : Tr} {p q : PL} (h : Cl t0 p) (hs : serve1 p = some q) : Cl t0 q := by
  obtain ⟨w, ws, hw, h1⟩ := serve1_cases hs
  rcases h1 with ⟨c, hc, h4, rfl⟩ | ⟨_, _, rfl⟩
  · refine h.step ⟨2, c.num, w.cl⟩ rfl fun t ht => ?_
    have hi := ht.idl c hc h4
    exact ht.give hc w.cl ⟨hi.1, .inr hi.2⟩ (c' := ⟨c.num, 2, w.cl, 0⟩) rfl rfl rfl rfl
  · refine h.step ⟨1, p.last + 1, w.cl⟩ rfl fun t ht => ?_
    have hla := ht.last
    refine ⟨⟨t.had ++ [w.cl], t.clean ++ [1], t.now ++ [0]⟩, ?_, ?_⟩
    · unfold stepM
      rw [if_pos rfl, if_pos (show p.last + 1 = _ by omega)]
    · have hmem : ∀ x ∈ p.conns ++ [⟨p.last + 1, 1, w.cl, 0⟩], x ∈ p.conns ∨ x = ⟨p.last + 1, 1, w.cl, 0⟩ := fun x hx => (List.mem_append.1 hx).imp id List.mem_singleton.1
      have hat : at1 (p.last + 1) = t.had.length := by unfold at1; omega
      refine ⟨by simp [ht.lc], by simp [ht.ln], by show p.last + 1 = _; simp [hla], ?_, fun x hx => ?_, fun x hx hs => ?_, fun x hx hs => ?_, fun x hx hs => ?_⟩
      · show ((p.conns ++ [_]).map PC.num).Nodup
        rw [List.map_append, List.nodup_append]
        refine ⟨ht.rise, by simp, fun a ha b hb e => ?_⟩
        obtain ⟨x, hx, rfl⟩ := List.mem_map.1 ha
        have hb : b = p.last + 1 := by simpa using hb
        have := (ht.num x hx).2
        omega
      · show 1 ≤ x.num ∧ x.num ≤ p.last + 1
        rcases hmem x hx with hx | rfl
        · have := ht.num x hx; omega
        · show 1 ≤ p.last + 1 ∧ p.last + 1 ≤ _; omega
      · rcases hmem x hx with hx | rfl
        · have := ht.op x hx hs
          exact ⟨some_app this.1, some_app this.2⟩
        · show (t.now ++ [0])[at1 (p.last + 1)]? = _ ∧ (t.had ++ [w.cl])[at1 (p.last + 1)]? = _
          rw [hat]
          exact ⟨by rw [← ht.ln, List.getElem?_append_right (Nat.le_refl _)]; simp, by rw [List.getElem?_append_right (Nat.le_refl _)]; simp⟩
      · rcases hmem x hx with hx | rfl
        · exact some_app (ht.rs x hx hs)
        · exact absurd (show (1 : Int) = 3 from hs) (by decide)
      · rcases hmem x hx with hx | rfl
        · obtain ⟨q1, v, q2, q3⟩ := ht.idl x hx hs
          exact ⟨some_app q1, v, some_app q2, q3⟩
        · exact absurd (show (1 : Int) = 4 from hs) (by decide)
theorem Cl.serve {t0 : Tr} {p : PL} (h : Cl t0 p) : Cl t0 (serveF p) := serveF_keeps (fun _ _ => Cl.serve1) h
def pre (t : Tr) (k n : Int) (y : Prop) : Tr :=
  if k = 3 ∧ y ∧ 1 ≤ n ∧ n ≤ t.had.length then { t with clean := t.clean.set (at1 n) 1 }
  else if (k = 2 ∨ k = 4) ∧ 1 ≤ n ∧ n ≤ t.now.length then { t with now := t.now.set (at1 n) 0 } else t
theorem some_lt {l : List Int} {i : Nat} {v : Int} (h : l[i]? = some v) : i < l.length := by
  rcases Nat.lt_or_ge i l.length with h1 | h1
  · exact h1
  · rw [List.getElem?_eq_none h1] at h; cases h
theorem set_zero {l : List Int} {i j : Nat} (h : l[i]? = some 0) : (l.set j 0)[i]? = some 0 := by
  by_cases e : j = i
  · subst e; rw [List.getElem?_set_self (some_lt h)]
  · rw [List.getElem?_set_ne e]; exact h
theorem Inv.pre {p : PL} {t : Tr} (h : Inv p t) (k n : Int) (y : Prop) : Inv p (pre t k n y) := by
  unfold Go.Proofs.YtbebdlmldogcmaaGreat.pre
  by_cases a : k = 3 ∧ y ∧ 1 ≤ n ∧ n ≤ t.had.length
  · rw [if_pos a]
    refine ⟨by simp [h.lc], h.ln, h.last, h.rise, h.num, h.op, h.rs, fun x hx hs => ?_⟩
    obtain ⟨q1, v, q2, q3⟩ := h.idl x hx hs
    refine ⟨q1, ?_⟩
    by_cases e : at1 n = at1 x.num
    · exact ⟨1, by show (t.clean.set (at1 n) 1)[at1 x.num]? = _; rw [e, List.getElem?_set_self (some_lt q2)], by decide⟩
    · exact ⟨v, by show (t.clean.set (at1 n) 1)[at1 x.num]? = _; rw [List.getElem?_set_ne e]; exact q2, q3⟩
  · rw [if_neg a]
    by_cases b : (k = 2 ∨ k = 4) ∧ 1 ≤ n ∧ n ≤ t.now.length
    · rw [if_pos b]
      refine ⟨h.lc, by simp [h.ln], h.last, h.rise, h.num, fun x hx hs => ?_, fun x hx hs => set_zero (h.rs x hx hs), fun x hx hs => ?_⟩
      · have := h.op x hx hs; exact ⟨set_zero this.1, this.2⟩
      · have := h.idl x hx hs; exact ⟨set_zero this.1, this.2⟩
    · rw [if_neg b]; exact h
theorem Cl.drop {t0 : Tr} {p : PL} (h : Cl t0 p) (n : Int) : Cl t0 ((p.del n).mov 6 n 0) := (h.del n).quiet (by decide) (by decide) _ _
theorem outM_moves (q : WT → Prop) (l : List WT) (t : Tr) : runM (outM q l) t = some t := by
  unfold outM
  induction l.filter fun w => decide (q w) with
  | nil => rfl
  | cons w l ih =>
    show (match stepM t ⟨4, 0, w.cl⟩ with | some t' => runM (l.map _) t' | none => none) = _
    rw [show stepM t ⟨4, 0, w.cl⟩ = some t from rfl]
    exact ih
theorem Cl.out {p : PL} {t : Tr} (h : Inv p t) (q : WT → Prop) : Cl t (outL q p) := ⟨t, outM_moves _ _ _, h.cong rfl rfl⟩
end
noncomputable section
def kept (q : WT → Prop) (l : List WT) : List WT := l.filter fun w => @decide (q w) (Classical.propDecidable _)
theorem kept_all (l : List WT) : kept (fun _ => True) l = l := List.filter_eq_self.2 fun _ _ => by simp
structure Fr (p : PL) : Prop where
  len : (p.conns.length : Int) ≤ p.lim
  dist : (p.wts.map WT.cl).Nodup
  til : ∀ w ∈ p.wts, p.now < w.til
  clo : p.closed → p.wts = []
  wt : 1 ≤ p.wait
def Bz (p : PL) : Prop := p.wts ≠ [] → ¬ p.paused → p.lim ≤ p.conns.length ∧ ∀ c ∈ p.conns, c.st ≠ 4
structure Sv (p q : PL) : Prop where
  lim : q.lim = p.lim
  now : q.now = p.now
  wait : q.wait = p.wait
  paused : q.paused = p.paused
  closed : q.closed = p.closed
  wts : ∃ m, q.wts = p.wts.drop m
theorem Sv.refl (p : PL) : Sv p p := ⟨rfl, rfl, rfl, rfl, rfl, 0, rfl⟩
theorem Sv.trans {a b c : PL} (x : Sv a b) (y : Sv b c) : Sv a c := by
  obtain ⟨m, hm⟩ := x.wts
  obtain ⟨n, hn⟩ := y.wts
  exact ⟨y.lim.trans x.lim, y.now.trans x.now, y.wait.trans x.wait, y.paused.trans x.paused, y.closed.trans x.closed, m + n, by rw [hn, hm, List.drop_drop]⟩
theorem Sv.serve1 {p q : PL} (hs : serve1 p = some q) : Sv p q := by
  obtain ⟨w, ws, hw, h1⟩ := serve1_cases hs
  rcases h1 with ⟨c, _, _, rfl⟩ | ⟨_, _, rfl⟩
  · exact ⟨rfl, rfl, rfl, rfl, rfl, 1, by rw [hw]; rfl⟩
  · exact ⟨rfl, rfl, rfl, rfl, rfl, 1, by rw [hw]; rfl⟩
theorem Sv.serve (p : PL) : Sv p (serveF p) := serveF_keeps (I := fun q => Sv p q) (fun a b h hs => h.trans (Sv.serve1 hs)) (Sv.refl p)
theorem Fr.serve1 {p q : PL} (h : Fr p) (hs : serve1 p = some q) : Fr q := by
  have sv := Sv.serve1 hs
  obtain ⟨m, hm⟩ := sv.wts
  obtain ⟨w, ws, hw, h1⟩ := serve1_cases hs
  refine ⟨?_, by rw [hm, List.map_drop]; exact List.Nodup.sublist (List.drop_sublist _ _) h.dist, fun w hw => by rw [hm] at hw; rw [sv.now]; exact h.til w (List.mem_of_mem_drop hw), fun hc => by rw [sv.closed] at hc; rw [hm, h.clo hc, List.drop_nil], by rw [sv.wait]; exact h.wt⟩
  rw [sv.lim]
  rcases h1 with ⟨c, _, _, rfl⟩ | ⟨_, hl, rfl⟩
  · have := h.len
    show ((p.conns.map _).length : Int) ≤ _
    rw [List.length_map]; exact this
  · show ((p.conns ++ [_]).length : Int) ≤ _
    rw [List.length_append]
    simp only [List.length_cons, List.length_nil]
    omega
theorem Fr.serve {p : PL} (h : Fr p) : Fr (serveF p) := serveF_keeps (fun _ _ => Fr.serve1) h
theorem Bz.serve {p : PL} (h : Fr p) : Bz (serveF p) := by
  intro hw hp
  have sv := Sv.serve p
  rw [sv.paused] at hp
  have hcl : ¬ p.closed := fun hc => hw ((Fr.serve h).clo (by rw [sv.closed]; exact hc))
  have e : serveF p = serveR p.wts.length p := if_neg fun q => q.elim hp hcl
  have hend := serveR_end p.wts.length p (Nat.le_refl _)
  rw [← e] at hend
  rcases serve1_no hend with q | ⟨q1, q2⟩
  · exact absurd q hw
  · exact ⟨by omega, q1⟩
theorem Fr.del {p : PL} (h : Fr p) (n : Int) : Fr (p.del n) := ⟨by have := h.len; have h2 := List.length_filter_le (fun c : PC => decide (c.num ≠ n)) p.conns; show ((p.conns.filter fun c => decide (c.num ≠ n)).length : Int) ≤ p.lim; omega, h.dist, h.til, h.clo, h.wt⟩
theorem Fr.mov {p : PL} (h : Fr p) (a b c : Int) : Fr (p.mov a b c) := ⟨h.len, h.dist, h.til, h.clo, h.wt⟩
theorem Fr.set {p : PL} (h : Fr p) (n : Int) (c' : PC) : Fr (p.set n c') := ⟨by have := h.len; show ((p.conns.map _).length : Int) ≤ _; rw [List.length_map]; exact this, h.dist, h.til, h.clo, h.wt⟩
theorem Bz.set {p : PL} (h : Bz p) (n : Int) (c' : PC) (hc : c'.st ≠ 4) : Bz (p.set n c') := fun hw hp => by
  obtain ⟨h1, h2⟩ := h hw hp
  refine ⟨by show p.lim ≤ ((p.conns.map _).length : Int); rw [List.length_map]; exact h1, fun x hx => ?_⟩
  obtain ⟨y, hy, rfl⟩ := List.mem_map.1 hx
  by_cases e : y.num = n
  · rw [if_pos e]; exact hc
  · rw [if_neg e]; exact h2 y hy
structure FairR (p : PL) (k n : Int) (y : Prop) (r : Res) : Prop where
  fr : Fr r.2.2
  bz : Bz r.2.2
  mv : r.2.2.moves = []
  lim : r.2.2.lim = p.lim
  pa : k = 7 ∧ r.1 = 0 → r.2.2.paused = y
  pb : ¬ (k = 7 ∧ r.1 = 0) → r.2.2.paused = p.paused
  ord : ∃ (q : WT → Prop) (m : Nat) (ext : List WT), r.2.2.wts = (kept q p.wts).drop m ++ ext ∧ (∀ w ∈ p.wts, ¬ q w → (k = 5 ∧ w.cl = n) ∨ w.til ≤ r.2.2.now ∨ k = 9) ∧ (∀ w ∈ p.wts, w ∉ ext) ∧ (ext = [] ∨ k = 0 ∧ ∃ w, ext = [w] ∧ w.cl = n)
theorem FairR.bad {p : PL} (h : Fr p) (hb : Bz p) (hm : p.moves = []) (k n : Int) (y : Prop) (e : Int) (he : e ≠ 0) : FairR p k n y (e, [], p) :=
  ⟨h, hb, hm, rfl, fun q => absurd q.2 he, fun _ => rfl, fun _ => True, 0, [], by rw [List.drop_zero, List.append_nil, kept_all], fun _ _ q => absurd trivial q, fun _ _ q => (by cases q), .inl rfl⟩
theorem FairR.same {p q : PL} (k n : Int) (y : Prop) (h : Fr q) (hb : Bz q) (hl : q.lim = p.lim) (hw : ∃ m, q.wts = p.wts.drop m) (hp : q.paused = p.paused) (hk : k ≠ 7) : FairR p k n y q.done := by
  obtain ⟨m, hm⟩ := hw
  refine ⟨⟨h.len, h.dist, h.til, h.clo, h.wt⟩, hb, rfl, hl, fun q => absurd q.1 hk, fun _ => hp, fun _ => True, m, [], ?_, fun _ _ q => absurd trivial q, fun _ _ q => (by cases q), .inl rfl⟩
  have e := kept_all p.wts
  rw [e, List.append_nil]
  exact hm
end
noncomputable section
def Few (K : Nat) (p : PL) : Prop := p.moves.length + p.wts.length ≤ K
theorem Few.serve {K : Nat} {p : PL} (h : Few K p) : Few K (serveF p) := by
  refine serveF_keeps (I := Few K) (fun p q h hs => ?_) h
  obtain ⟨w, ws, hw, h1⟩ := serve1_cases hs
  unfold Few at h
  rw [hw] at h
  simp only [List.length_cons] at h
  rcases h1 with ⟨c, _, _, rfl⟩ | ⟨_, _, rfl⟩
  · show (p.moves ++ [_]).length + ws.length ≤ K
    rw [List.length_append]; simp only [List.length_cons, List.length_nil]; omega
  · show (p.moves ++ [_]).length + ws.length ≤ K
    rw [List.length_append]; simp only [List.length_cons, List.length_nil]; omega
theorem Few.mov {K : Nat} {p : PL} (h : Few K p) (a b c : Int) : Few (K + 1) (p.mov a b c) := by
  unfold Few at h ⊢
  show (p.moves ++ [_]).length + p.wts.length ≤ K + 1
  rw [List.length_append]; simp only [List.length_cons, List.length_nil]; omega
theorem Few.del {K : Nat} {p : PL} (h : Few K p) (n : Int) : Few K (p.del n) := h
theorem Few.set {K : Nat} {p : PL} (h : Few K p) (n : Int) (c : PC) : Few K (p.set n c) := h
theorem Few.clR {t : PC → Prop} : ∀ (l : List PC) {K : Nat} {p : PL}, Few K p → Few (K + l.length) (clR t l p)
  | [], K, p, h => h
  | c :: l, K, p, h => by
    rw [Go.Proofs.YtbebdlmldogcmaaGreat.clR]
    have e : K + (c :: l).length = (K + 1) + l.length := by simp only [List.length_cons]; omega
    rw [e]
    by_cases hc : t c
    · rw [if_pos hc]; exact Few.clR l ((h.del c.num).mov 6 c.num 0)
    · rw [if_neg hc]; exact Few.clR l (show Few (K + 1) p by unfold Few at h ⊢; omega)
theorem Few.limR (n : Int) : ∀ (f : Nat) {K : Nat} {p : PL}, Few K p → Few (K + f) (limR f p n)
  | 0, K, p, h => h
  | f + 1, K, p, h => by
    rw [Go.Proofs.YtbebdlmldogcmaaGreat.limR]
    have h0 : Few (K + (f + 1)) p := by unfold Few at h ⊢; omega
    cases hl : longC p.conns none with
    | none => exact h0
    | some c =>
      simp only
      by_cases hc : (p.conns.length : Int) > n
      · rw [if_pos hc]
        have e : K + (f + 1) = (K + 1) + f := by omega
        rw [e]
        exact Few.limR n f ((h.del c.num).mov 6 c.num 0)
      · rw [if_neg hc]; exact h0
theorem ask_moves {p : PL} (hm : p.moves = []) (hw : p.wts.length ≤ 256) (hc : p.conns.length ≤ 1000) (k n : Int) (y : Prop) : (askF p k n y).2.1.length ≤ 100000 := by
  have fin : ∀ (K : Nat) (q : PL), K ≤ 100000 → Few K q → q.done.2.1.length ≤ 100000 := fun K q hK h => by unfold Few at h; show q.moves.length ≤ _; omega
  have h0 : Few 256 p := by unfold Few; rw [hm]; show 0 + _ ≤ _; omega
  have z : ∀ e : Int, ((e, [], p) : Res).2.1.length ≤ 100000 := fun _ => Nat.zero_le _
  unfold askF
  by_cases k0 : k = 0
  · rw [if_pos k0]
    unfold acquireF
    have h1 : Few 257 { p with wts := p.wts ++ [⟨n, p.now + p.wait⟩] } := by
      unfold Few at h0 ⊢
      show p.moves.length + (p.wts ++ [_]).length ≤ _
      rw [List.length_append]; simp only [List.length_cons, List.length_nil]; omega
    split
    · exact z 2
    · split
      · exact z 9
      · split
        · exact z 280
        · split
          · exact z 283
          · split
            · exact fin 258 _ (by decide) (h1.serve.mov _ _ _)
            · exact fin 257 _ (by decide) h1.serve
  rw [if_neg k0]
  by_cases k1 : k = 1
  · rw [if_pos k1]
    unfold openedF
    split
    · exact z 281
    · split
      · exact z 282
      · split
        · exact fin 257 _ (by decide) ((h0.set n _).mov _ _ _)
        · exact fin 256 _ (by decide) (h0.del n).serve
  rw [if_neg k1]
  by_cases k2 : k = 2
  · rw [if_pos k2]
    unfold releaseF
    split
    · exact z 281
    · split
      · exact z 282
      · split
        · exact fin 257 _ (by decide) ((h0.del n).mov _ _ _).serve
        · exact fin 257 _ (by decide) ((h0.set n _).mov _ _ _)
  rw [if_neg k2]
  by_cases k3 : k = 3
  · rw [if_pos k3]
    unfold resetF
    split
    · exact z 281
    · split
      · exact z 282
      · split
        · exact fin 256 _ (by decide) (h0.set n _).serve
        · exact fin 257 _ (by decide) ((h0.del n).mov _ _ _).serve
  rw [if_neg k3]
  by_cases k4 : k = 4
  · rw [if_pos k4]
    unfold lostF
    split
    · exact z 281
    · exact fin 256 _ (by decide) (h0.del n).serve
  rw [if_neg k4]
  by_cases k5 : k = 5
  · rw [if_pos k5]
    unfold leaveF
    split
    · exact z 281
    · show p.moves.length ≤ _
      rw [hm]; exact Nat.zero_le _
  rw [if_neg k5]
  have hout : ∀ (q : WT → Prop) (p' : PL), p'.wts.length ≤ 256 → Few 512 (outL q p') := fun q p' hw => by
    unfold Few
    show (outM q p'.wts).length + (outW q p'.wts).length ≤ 512
    have h1 : (outM q p'.wts).length ≤ p'.wts.length := by unfold outM; rw [List.length_map]; exact List.length_filter_le _ _
    have h2 : (outW q p'.wts).length ≤ p'.wts.length := List.length_filter_le _ _
    omega
  by_cases k6 : k = 6
  · rw [if_pos k6]
    unfold tickF
    split
    · exact z 2
    · exact fin (512 + p.conns.length) _ (by omega) (Few.clR p.conns (hout _ { p with now := p.now + n } hw)).serve
  rw [if_neg k6]
  by_cases k7 : k = 7
  · rw [if_pos k7]
    unfold pauseF
    split
    · exact z 9
    · exact fin 256 _ (by decide) (Few.serve (p := { p with paused := y }) h0)
  rw [if_neg k7]
  by_cases k8 : k = 8
  · rw [if_pos k8]
    unfold limitF
    split
    · exact z 2
    · exact fin (256 + (p.conns.length + 1)) _ (by omega) (Few.limR n (p.conns.length + 1) (p := { p with lim := n }) h0).serve
  rw [if_neg k8]
  unfold closeF
  split
  · exact z 9
  · exact fin (512 + p.conns.length) _ (by omega) (Few.clR p.conns (hout _ { p with closed := True } hw))
end
open Int (reduceLE reduceLT reduceToNat)
open Nat (reduceLeDiff reduceEqDiff reduceAdd)
noncomputable section
structure ACT where
  kd : Int
  n : Int
  y : Prop
def ACT.cells (a : ACT) : List V := [.int .i64 a.kd, .int .i64 a.n, bo a.y]
def acells (l : List ACT) : List V := l.flatMap ACT.cells
theorem acells_len (l : List ACT) : (acells l).length = l.length * 3 := by
  induction l with
  | nil => rfl
  | cons w l ih =>
    show (ACT.cells w ++ acells l).length = _
    rw [List.length_append, ih]
    show 3 + _ = (l.length + 1) * 3
    omega
theorem acells_drop : ∀ (l : List ACT) (i : Nat), (acells l).drop (i * 3) = acells (l.drop i)
  | l, 0 => by simp
  | [], i + 1 => by simp [acells]
  | w :: l, i + 1 => by
    have ih := acells_drop l i
    rw [show (i + 1) * 3 = 3 + i * 3 by omega, List.drop_succ_cons, ← ih, show acells (w :: l) = w.cells ++ acells l from rfl, ← List.drop_drop]
    rfl
theorem acells_at {l : List ACT} {i : Nat} (hi : i < l.length) : ((acells l).drop (i * 3)).take 3 = [.int .i64 l[i].kd, .int .i64 l[i].n, bo l[i].y] := by
  rw [acells_drop, List.drop_eq_getElem_cons hi]
  rfl
def ARow (h : H) (lv : V) (l : List ACT) : Prop := (lv = .nilslice ∧ l = []) ∨ ∃ b m, lv = .slice b 0 l.length m ∧ b < h.nx ∧ h.get b = some (.ro (acells l))
theorem ARow.len {h : H} {lv : V} {l : List ACT} (ha : ARow h lv l) : lenO (some (.slice 37)) lv = some (.int .i64 l.length) := by
  rcases ha with ⟨rfl, rfl⟩ | ⟨b, m, rfl, _⟩ <;> rfl
theorem ARow.ext {h h' : H} {lv : V} {l : List ACT} (ha : ARow h lv l) (hx : Ext h h') : ARow h' lv l := by
  rcases ha with h1 | ⟨b, m, rfl, hb, hg⟩
  · exact .inl h1
  · exact .inr ⟨b, m, rfl, Nat.lt_of_lt_of_le hb hx.1, by rw [hx.2 _ hb]; exact hg⟩
theorem ARow.opened {h : H} {lv : V} {l : List ACT} (ha : ARow h lv l) (h0 : 0 < l.length) : ∃ b m, lv = .slice b 0 l.length m ∧ b < h.nx ∧ h.get b = some (.ro (acells l)) := by
  rcases ha with ⟨_, rfl⟩ | h1
  · cases h0
  · exact h1
def ints (l : List Int) : List V := l.map (V.int .i64)
theorem ints_len (l : List Int) : (ints l).length = l.length := List.length_map ..
def dis (a b : V) : Prop := ∀ k o n m o' n' m', a = .slice k o n m → b ≠ .slice k o' n' m'
theorem dis.symm {a b : V} (h : dis a b) : dis b a := fun k o n m o' n' m' q w => h k o' n' m' o n m w q
structure Tri (n0 : Nat) (h : H) (hv cv nv : V) (t : Tr) : Prop where
  had : Lst n0 h hv (ints t.had) 3 1
  clean : Lst n0 h cv (ints t.clean) 3 1
  now : Lst n0 h nv (ints t.now) 3 1
  d1 : dis hv cv
  d2 : dis hv nv
  d3 : dis cv nv
theorem Tri.keep {n0 : Nat} {h h' : H} {hv cv nv : V} {t : Tr} (x : Tri n0 h hv cv nv t) (hn : h.nx ≤ h'.nx) (hk : ∀ k o n m, (hv = .slice k o n m ∨ cv = .slice k o n m ∨ nv = .slice k o n m) → h'.get k = h.get k) : Tri n0 h' hv cv nv t :=
  ⟨Lst.keep x.had hn fun k o n m q => hk k o n m (.inl q), Lst.keep x.clean hn fun k o n m q => hk k o n m (.inr (.inl q)), Lst.keep x.now hn fun k o n m q => hk k o n m (.inr (.inr q)), x.d1, x.d2, x.d3⟩
theorem Tri.ext {n0 : Nat} {h h' : H} {hv cv nv : V} {t : Tr} (x : Tri n0 h hv cv nv t) (hx : Ext h h') : Tri n0 h' hv cv nv t :=
  ⟨x.had.ext hx, x.clean.ext hx, x.now.ext hx, x.d1, x.d2, x.d3⟩
theorem lst_put {n0 : Nat} {h : H} {b : Nat} {l l' : List Int} (hb : n0 ≤ b ∧ b < h.nx) (hl : l'.length = l.length) (h0 : 0 < l.length) : Lst n0 (h.put b (.cells (ints l') 3 true)) (.slice b 0 l.length l.length) (ints l') 3 1 :=
  .inl (.inr ⟨b, l.length, hb.1, hb.2, rfl, h0, put_eq rfl, by rw [ints_len, hl]; omega⟩)
theorem Tri.setC {n0 : Nat} {h : H} {hv cv nv : V} {t : Tr} (x : Tri n0 h hv cv nv t) {i : Nat} (hi : i < t.clean.length) : ∃ b, cv = .slice b 0 t.clean.length t.clean.length ∧ n0 ≤ b ∧ b < h.nx ∧ h.get b = some (.cells (ints t.clean) 3 true) ∧ ∀ v, Tri n0 (h.put b (.cells (ints (t.clean.set i v)) 3 true)) hv cv nv { t with clean := t.clean.set i v } := by
  obtain ⟨b, rfl, h1, h2, h3⟩ := lst_rowV x.clean (by omega)
  refine ⟨b, rfl, h1, h2, h3, fun v => ⟨Lst.put' x.had fun k o n m q e => by subst e; exact x.d1 _ _ _ _ _ _ _ q rfl, lst_put ⟨h1, h2⟩ (List.length_set ..) (by omega), Lst.put' x.now fun k o n m q e => by subst e; exact x.d3.symm _ _ _ _ _ _ _ q rfl, x.d1, x.d2, x.d3⟩⟩
end
end Go.Proofs.YtbebdlmldogcmaaGreat
namespace Go.Wx
open Go.Lx
noncomputable section
variable {c : Cfg} {Ok : Nat → Prop} {env : Env} {h : H} {K : V → H → Fp → Prop}
theorem append_off {s x : Operand} {t tx : TypeId} {e sz bytes b o b2 o2 n m len : Nat} {cs old new : List V} (hsv : evalE env s = .slice b o len len) (hb : h.get b = some (.cells cs e true)) (hrd : rdC (h.get b) o (len * sz) = some old) (hap : apI c.P t = some (e, sz, bytes)) (htx : ∃ d, c.P.underlying tx = some d ∧ isIntD d = false) (hx : evalE env x = .slice b2 o2 n m) (hn : 0 < n)
    (hr : rdC (h.get b2) o2 (n * sz) = some new) (hc : new.all V.isCell = true) (hroom : len + n ≤ 1073741824) (hOk : h.nx ≤ b ∨ Ok b) (hK : ∀ L, (∀ le ∈ L, blkOf le = b ∨ (blkOf le = b2 ∧ le.isW = false) ∨ blkOf le = h.nx) → K (.slice h.nx 0 (len + n) (len + n)) ((h.del b).push (.cells (old ++ new) e true)) (.lg L)) : opW c Ok (.call ⟨.builtin .append, #[s, x], #[t, tx]⟩) env h K := by
  obtain ⟨z, hu, h1, h2, h3, hb1, hb2⟩ := apI_inv hap
  rw [opW_append_slice hap htx hx, goL_ld, hsv]
  refine ⟨new, hr, ?_⟩
  have hn' : Nat.beq n 0 = false := by
    cases hb : Nat.beq n 0 with
    | false => rfl
    | true => have := Nat.eq_of_beq_eq_true hb; omega
  have hcap : Nat.ble (len + n) len = false := by
    cases hb : Nat.ble (len + n) len with
    | false => rfl
    | true => have := Nat.le_of_ble_eq_true hb; omega
  have hro : roomy (len + n) bytes = true := by
    unfold roomy
    simp only [Bool.and_eq_true]
    exact ⟨ble_iff.2 hroom, hb2⟩
  unfold appendCore
  simp only [hn', cond_false, hcap, hro, cond_true]
  unfold growM
  rw [goL_blk]
  refine ⟨cs, e, true, hb, ?_⟩
  simp only
  rw [goL_ld]
  refine ⟨old, hrd, ?_⟩
  have hee : (Nat.beq e e && new.all V.isCell) = true := by rw [hc, Nat.beq_refl]; rfl
  simp only [cond_true, hee]
  rw [goL_kill]
  refine ⟨cs, e, true, hb, ?_⟩
  rw [goL_alloc, goL_ret]
  refine ⟨?_, ?_⟩
  · rw [LogOk_cons_wrd, LogOk_cons_wrd, LogOk_cons_rdd, LogOk_cons_rd, LogOk_cons_rdd, LogOk_cons_rd]
    exact ⟨.inl (Nat.le_refl _), hOk, LogOk_nil⟩
  · refine hK _ fun le hle => ?_
    simp only [List.mem_cons, List.not_mem_nil, or_false] at hle
    rcases hle with rfl | rfl | rfl | rfl | rfl | rfl
    · exact .inr (.inr rfl)
    · exact .inl rfl
    · exact .inl rfl
    · exact .inl rfl
    · exact .inl rfl
    · exact .inr (.inl ⟨rfl, rfl⟩)
end
end Go.Wx
namespace Go.Proofs.YtbebdlmldogcmaaGreat
open Int (reduceLE reduceLT reduceToNat)
open Nat (reduceLeDiff reduceEqDiff reduceAdd)
open Go.Proofs Go.Lx Go.Wx Go.IntWalk
noncomputable section
def PC.cells (c : PC) : List V := [.int .i64 c.num, .int .i64 c.st, .int .i64 c.cl, .int .i64 c.since]
def pccells (l : List PC) : List V := l.flatMap PC.cells
theorem pccells_len (l : List PC) : (pccells l).length = l.length * 4 := by
  induction l with
  | nil => rfl
  | cons w l ih =>
    show (PC.cells w ++ pccells l).length = _
    rw [List.length_append, ih]
    show 4 + _ = (l.length + 1) * 4
    omega
theorem pccells_app (a b : List PC) : pccells (a ++ b) = pccells a ++ pccells b := by simp [pccells]
theorem pccells_drop : ∀ (l : List PC) (i : Nat), (pccells l).drop (i * 4) = pccells (l.drop i)
  | l, 0 => by simp
  | [], i + 1 => by simp [pccells]
  | w :: l, i + 1 => by
    have ih := pccells_drop l i
    rw [show (i + 1) * 4 = 4 + i * 4 by omega, List.drop_succ_cons, ← ih, show pccells (w :: l) = w.cells ++ pccells l from rfl, ← List.drop_drop]
    rfl
theorem pccells_take : ∀ (l : List PC) (i : Nat), (pccells l).take (i * 4) = pccells (l.take i)
  | l, 0 => by simp [pccells]
  | [], i + 1 => by simp [pccells]
  | w :: l, i + 1 => by
    have ih := pccells_take l i
    show (w.cells ++ pccells l).take ((i + 1) * 4) = w.cells ++ pccells (l.take i)
    rw [← ih, show (i + 1) * 4 = w.cells.length + i * 4 by show _ = 4 + i * 4; omega, List.take_length_add_append]
theorem pccells_at {l : List PC} {i : Nat} (hi : i < l.length) : ((pccells l).drop (i * 4)).take 4 = [.int .i64 l[i].num, .int .i64 l[i].st, .int .i64 l[i].cl, .int .i64 l[i].since] := by
  rw [pccells_drop, List.drop_eq_getElem_cons hi]
  rfl
theorem four_at {cs : List V} {k : Nat} {a b c d : V} (h : (cs.drop k).take 4 = [a, b, c, d]) : cs[k]? = some a ∧ cs[k + 1]? = some b ∧ cs[k + 2]? = some c ∧ cs[k + 3]? = some d := by
  have h0 := congrArg (fun l : List V => l[0]?) h
  have h1 := congrArg (fun l : List V => l[1]?) h
  have h2 := congrArg (fun l : List V => l[2]?) h
  have h3 := congrArg (fun l : List V => l[3]?) h
  simp only [List.getElem?_take, List.getElem?_drop] at h0 h1 h2 h3
  exact ⟨h0, h1, h2, h3⟩
theorem pccells_isCell (l : List PC) : (pccells l).all V.isCell = true := by
  induction l with
  | nil => rfl
  | cons w l ih => show (w.cells ++ pccells l).all V.isCell = true; rw [List.all_append, ih]; rfl
structure RD where
  b : Nat
  cv : V
  wv : V
  mv : V
def rcells (D : RD) (p : PL) : List V := [bo True, .int .i64 p.lim, .int .i64 p.wait, .int .i64 p.keep, .int .i64 p.now, D.cv, D.wv, .int .i64 p.last, bo p.paused, bo p.closed, D.mv]
def WRow (h : H) (v : V) (ws : List WT) : Prop := (v = .nilslice ∧ ws = []) ∨ ∃ b o c, v = .slice b o ws.length ws.length ∧ b < h.nx ∧ h.get b = some (.cells c 70 true) ∧ o + ws.length * 2 = c.length ∧ c.drop o = wtcells ws
theorem WRow.wts {h : H} {v : V} {ws : List WT} (hw : WRow h v ws) : Wts h v ws := by
  rcases hw with h1 | ⟨b, o, c, rfl, hb, hg, hl, hd⟩
  · exact .inl h1
  · refine .inr ⟨b, o, ws.length, c, true, rfl, hb, hg, fun i hi => ⟨by omega, ?_⟩, Nat.le_refl _, by omega⟩
    rw [← List.drop_drop, hd, wtcells_drop, List.drop_eq_getElem_cons hi]
    rfl
theorem WRow.keep {h h' : H} {v : V} {ws : List WT} (hw : WRow h v ws) (hn : h.nx ≤ h'.nx) (hk : ∀ k o n m, v = .slice k o n m → h'.get k = h.get k) : WRow h' v ws := by
  rcases hw with h1 | ⟨b, o, c, rfl, hb, hg, hl, hd⟩
  · exact .inl h1
  · exact .inr ⟨b, o, c, rfl, Nat.lt_of_lt_of_le hb hn, by rw [hk _ _ _ _ rfl]; exact hg, hl, hd⟩
theorem WRow.lt {h : H} {v : V} {ws : List WT} (hw : WRow h v ws) {k o n m : Nat} (q : v = .slice k o n m) : k < h.nx ∧ ∃ c fl, h.get k = some (.cells c 70 fl) := by
  rcases hw with ⟨h0, _⟩ | ⟨b, o', c, h3, hb, hg, _⟩
  · rw [h0] at q; cases q
  · rw [h3] at q; cases q; exact ⟨hb, _, _, hg⟩
theorem WRow.of_lst {n0 : Nat} {h : H} {v : V} {ws : List WT} (hl : Wx.Acc n0 h v (wtcells ws) 70 2) : WRow h v ws := by
  have hn := wtcells_len ws
  rcases hl with ⟨rfl, hw⟩ | ⟨b, k, _, hb2, rfl, _, hg, hk⟩
  · refine .inl ⟨rfl, ?_⟩
    rw [hw] at hn
    exact List.eq_nil_of_length_eq_zero (by simp at hn; omega)
  · obtain rfl : k = ws.length := by omega
    exact .inr ⟨b, 0, wtcells ws, rfl, hb2, hg, by omega, List.drop_zero ..⟩
theorem Lst.ty {n0 e sz : Nat} {h : H} {v : V} {cells : List V} (hl : Lst n0 h v cells e sz) {k o n m : Nat} (q : v = .slice k o n m) : k < h.nx ∧ ∃ c fl, h.get k = some (.cells c e fl) := by
  refine ⟨Lst.lt hl q, ?_⟩
  rcases hl with (⟨h0, _⟩ | ⟨b, n', _, _, h3, _, h5, _⟩) | ⟨_, b, _, _, h3, h5⟩
  · rw [h0] at q; cases q
  · rw [h3] at q; cases q; exact ⟨_, _, h5⟩
  · rw [h3] at q; cases q; exact ⟨_, _, h5⟩
def rowns (D : RD) (k : Nat) : Prop := k = D.b ∨ (∃ o n m, D.cv = .slice k o n m) ∨ (∃ o n m, D.wv = .slice k o n m) ∨ ∃ o n m, D.mv = .slice k o n m
structure RR (D : RD) (p : PL) (h : H) : Prop where
  pool : h.get D.b = some (.cells (rcells D p) 58 false)
  conns : Lst 0 h D.cv (pccells p.conns) 65 4
  wts : WRow h D.wv p.wts
  mvs : Lst 0 h D.mv (mcells p.moves) 63 3
  lt : D.b < h.nx
  few : p.conns.length ≤ 1000
theorem RR.clst {D : RD} {p : PL} {h : H} (r : RR D p h) : Lst 0 h D.cv (pccells p.conns) 65 4 := r.conns
structure RStp (D : RD) (h : H) (D1 : RD) (p1 : PL) (h1 : H) : Prop where
  rr : RR D1 p1 h1
  nx : h.nx ≤ h1.nx
  same : ∀ k, k < h.nx → ¬ rowns D k → h1.get k = h.get k
  own : ∀ k, rowns D1 k → rowns D k ∨ h.nx ≤ k
  b : D1.b = D.b
theorem RStp.refl {D : RD} {p : PL} {h : H} (r : RR D p h) : RStp D h D p h := ⟨r, Nat.le_refl _, fun _ _ _ => rfl, fun _ q => .inl q, rfl⟩
theorem RStp.trans {D D1 D2 : RD} {p1 p2 : PL} {h h1 h2 : H} (a : RStp D h D1 p1 h1) (b : RStp D1 h1 D2 p2 h2) : RStp D h D2 p2 h2 where
  rr := b.rr
  nx := Nat.le_trans a.nx b.nx
  same := fun k hk ho => by
    rw [b.same k (Nat.lt_of_lt_of_le hk a.nx) (fun q => (a.own k q).elim ho (by omega)), a.same k hk ho]
  own := fun k q => (b.own k q).elim (a.own k) fun q => .inr (Nat.le_trans a.nx q)
  b := b.b.trans a.b
theorem RR.keep {D : RD} {p : PL} {h h' : H} (r : RR D p h) (hn : h.nx ≤ h'.nx) (hk : ∀ k, rowns D k → h'.get k = h.get k) : RR D p h' where
  pool := by rw [hk _ (.inl rfl)]; exact r.pool
  conns := Lst.keep r.conns hn fun k o n m q => hk k (.inr (.inl ⟨o, n, m, q⟩))
  wts := r.wts.keep hn fun k o n m q => hk k (.inr (.inr (.inl ⟨o, n, m, q⟩)))
  mvs := Lst.keep r.mvs hn fun k o n m q => hk k (.inr (.inr (.inr ⟨o, n, m, q⟩)))
  lt := Nat.lt_of_lt_of_le r.lt hn
  few := r.few
theorem rowns_lt {D : RD} {p : PL} {h : H} (r : RR D p h) {k : Nat} (q : rowns D k) : k < h.nx := by
  rcases q with rfl | ⟨o, n, m, q⟩ | ⟨o, n, m, q⟩ | ⟨o, n, m, q⟩
  · exact r.lt
  · exact Lst.lt r.clst q
  · exact (r.wts.lt q).1
  · exact Lst.lt r.mvs q
theorem RR.ext {D : RD} {p : PL} {h h' : H} (r : RR D p h) (hx : Ext h h') : RR D p h' := r.keep hx.1 fun k q => hx.2 k (rowns_lt r q)
theorem RStp.ext {D : RD} {p : PL} {h h' : H} (r : RR D p h) (hx : Ext h h') : RStp D h D p h' := ⟨r.ext hx, hx.1, fun k hk _ => hx.2 k hk, fun _ q => .inl q, rfl⟩
theorem RR.ne {D : RD} {p : PL} {h : H} (r : RR D p h) : (∀ k o n m, D.cv = .slice k o n m → k ≠ D.b) ∧ (∀ k o n m, D.wv = .slice k o n m → k ≠ D.b) ∧ (∀ k o n m, D.mv = .slice k o n m → k ≠ D.b) ∧ (∀ k o n m o' n' m', D.cv = .slice k o n m → D.wv ≠ .slice k o' n' m') ∧ (∀ k o n m o' n' m', D.cv = .slice k o n m → D.mv ≠ .slice k o' n' m') ∧ (∀ k o n m o' n' m', D.wv = .slice k o n m → D.mv ≠ .slice k o' n' m') := by
  refine ⟨fun k o n m q e => ?_, fun k o n m q e => ?_, fun k o n m q e => ?_, fun k o n m o' n' m' q q' => ?_, fun k o n m o' n' m' q q' => ?_, fun k o n m o' n' m' q q' => ?_⟩
  · obtain ⟨_, c, fl, g⟩ := Lst.ty r.clst q; rw [e, r.pool] at g; simp at g
  · obtain ⟨_, c, fl, g⟩ := r.wts.lt q; rw [e, r.pool] at g; simp at g
  · obtain ⟨_, c, fl, g⟩ := Lst.ty r.mvs q; rw [e, r.pool] at g; simp at g
  · obtain ⟨_, c, fl, g⟩ := Lst.ty r.clst q; obtain ⟨_, c', fl', g'⟩ := r.wts.lt q'; rw [g] at g'; simp at g'
  · obtain ⟨_, c, fl, g⟩ := Lst.ty r.clst q; obtain ⟨_, c', fl', g'⟩ := Lst.ty r.mvs q'; rw [g] at g'; simp at g'
  · obtain ⟨_, c, fl, g⟩ := r.wts.lt q; obtain ⟨_, c', fl', g'⟩ := Lst.ty r.mvs q'; rw [g] at g'; simp at g'
theorem RStp.set {D D' : RD} {p p' : PL} {h h4 : H} (r : RR D p h) (hx : h.nx ≤ h4.nx) (hs : ∀ k, k < h.nx → ¬ rowns D k → h4.get k = h.get k) (eb : D'.b = D.b)
    (hc : Lst 0 h4 D'.cv (pccells p'.conns) 65 4) (hw : WRow h4 D'.wv p'.wts) (hm : Lst 0 h4 D'.mv (mcells p'.moves) 63 3) (hf : p'.conns.length ≤ 1000)
    (hn : ∀ k o n m, D'.cv = .slice k o n m ∨ D'.wv = .slice k o n m ∨ D'.mv = .slice k o n m → k ≠ D.b ∧ (rowns D k ∨ h.nx ≤ k)) :
    RStp D h D' p' (h4.put D.b (.cells (rcells D' p') 58 false)) where
  rr := {
    pool := by rw [eb, put_eq rfl]
    conns := Lst.keep hc (Nat.le_refl _) fun k o n m q => put_ne (hn k o n m (.inl q)).1
    wts := hw.keep (Nat.le_refl _) fun k o n m q => put_ne (hn k o n m (.inr (.inl q))).1
    mvs := Lst.keep hm (Nat.le_refl _) fun k o n m q => put_ne (hn k o n m (.inr (.inr q))).1
    lt := by rw [eb]; exact Nat.lt_of_lt_of_le r.lt hx
    few := hf }
  nx := hx
  same := fun k hk ho => by rw [put_ne (fun e => ho (.inl e)), hs k hk ho]
  own := fun k q => by
    rcases q with q | ⟨o, n, m, q⟩ | ⟨o, n, m, q⟩ | ⟨o, n, m, q⟩
    · exact .inl (.inl (by rw [q, eb]))
    · exact (hn k o n m (.inl q)).2
    · exact (hn k o n m (.inr (.inl q))).2
    · exact (hn k o n m (.inr (.inr q))).2
  b := eb
variable {S : Set0} (hS : StdP S)
include hS
theorem rnone_spec {D : RD} {p : PL} {h : H} (r : RR D p h) : Exact S.cfg 47 [.ptr D.b 0] h (bo False) := by
  refine into Tryz.f47 _ Tryz.func47 (hS.ownP _ (by decide)) rfl rfl (by kernel_rfl) (by kernel_rfl) ?_
  have hp := r.pool
  unfold rcells at hp
  simp +contextual (disch := first | simp only [fq]; done | omega | simp only [Knx]; omega) only [fV, reduceLE, reduceLT, reduceLeDiff, ↓reduceIte, reduceEqDiff, reduceAdd, reduceCtorEq, reduceToNat, Tryz.f47, hp]
theorem rnow_spec {D : RD} {p : PL} {h : H} (r : RR D p h) : Exact S.cfg 17 [.ptr D.b 0] h (.int .i64 p.now) := by
  refine into Tryz.f17 _ Tryz.func17 (hS.ownP _ (by decide)) rfl rfl (by kernel_rfl) (by kernel_rfl) ?_
  have hp := r.pool
  unfold rcells at hp
  simp +contextual (disch := first | simp only [fq]; done | omega | simp only [Knx]; omega) only [fV, reduceLE, reduceLT, reduceLeDiff, ↓reduceIte, reduceEqDiff, reduceAdd, reduceCtorEq, reduceToNat, Tryz.f17]
  refine callF_exact (rnone_spec hS r) ?_
  simp +contextual (disch := first | simp only [fq]; done | omega | simp only [Knx]; omega) only [fV, reduceLE, reduceLT, reduceLeDiff, ↓reduceIte, reduceEqDiff, reduceAdd, reduceCtorEq, reduceToNat, Tryz.f17, hp]
theorem rclosed_spec {D : RD} {p : PL} {h : H} (r : RR D p h) : Exact S.cfg 19 [.ptr D.b 0] h (bo p.closed) := by
  refine into Tryz.f19 _ Tryz.func19 (hS.ownP _ (by decide)) rfl rfl (by kernel_rfl) (by kernel_rfl) ?_
  have hp := r.pool
  unfold rcells at hp
  simp +contextual (disch := first | simp only [fq]; done | omega | simp only [Knx]; omega) only [fV, reduceLE, reduceLT, reduceLeDiff, ↓reduceIte, reduceEqDiff, reduceAdd, reduceCtorEq, reduceToNat, Tryz.f19]
  refine callF_exact (rnone_spec hS r) ?_
  simp +contextual (disch := first | simp only [fq]; done | omega | simp only [Knx]; omega) only [fV, reduceLE, reduceLT, reduceLeDiff, ↓reduceIte, reduceEqDiff, reduceAdd, reduceCtorEq, reduceToNat, Tryz.f19, hp]
theorem rtold_spec {D : RD} {p : PL} {h : H} (r : RR D p h) : callW S.cfg (rowns D) 65 [.ptr D.b 0] h fun v h' => v = D.mv ∧ RStp D h { D with mv := .nilslice } { p with moves := [] } h' ∧ ∀ k, k ≠ D.b → h'.get k = h.get k := by
  refine into Tryz.f65 _ Tryz.func65 (hS.ownP _ (by decide)) rfl rfl (by kernel_rfl) (by kernel_rfl) ?_
  have hp := r.pool
  unfold rcells at hp
  simp +contextual (disch := first | simp only [fq]; done | omega | simp only [Knx]; omega) only [fV, reduceLE, reduceLT, reduceLeDiff, ↓reduceIte, reduceEqDiff, reduceAdd, reduceCtorEq, reduceToNat, Tryz.f65, hp]
  obtain ⟨n1, n2, n3, n4, n5, n6⟩ := r.ne
  refine ⟨.inr (.inr (.inl rfl)), RStp.set (D' := { D with mv := .nilslice }) (p' := { p with moves := [] }) r (Nat.le_refl _) (fun _ _ _ => rfl) rfl r.conns r.wts (.inl (.inl ⟨rfl, rfl⟩)) r.few (fun k o n m q => ?_)⟩
  rcases q with q | q | q
  · exact ⟨n1 k o n m q, .inl (.inr (.inl ⟨o, n, m, q⟩))⟩
  · exact ⟨n2 k o n m q, .inl (.inr (.inr (.inl ⟨o, n, m, q⟩)))⟩
  · cases q
theorem rmove_spec {D : RD} {p : PL} {h : H} (r : RR D p h) (kd cn cl : Int) (hm : p.moves.length ≤ 1000000) : callW S.cfg (rowns D) 64 [.ptr D.b 0, .int .i64 kd, .int .i64 cn, .int .i64 cl] h fun _ h' => ∃ mv, RStp D h { D with mv := mv } (p.mov kd cn cl) h' := by
  refine into Tryz.f64 _ Tryz.func64 (hS.ownP _ (by decide)) rfl rfl (by kernel_rfl) (by kernel_rfl) ?_
  have hp := r.pool
  unfold rcells at hp
  simp +contextual (disch := first | simp only [fq]; done | omega | simp only [Knx]; omega) only [fV, reduceLE, reduceLT, reduceLeDiff, ↓reduceIte, reduceEqDiff, reduceAdd, reduceCtorEq, reduceToNat, Tryz.f64, hp]
  obtain ⟨hA, hhA⟩ : ∃ hA, hA = h.push (Ob.cells [V.int IntKind.i64 kd, V.int IntKind.i64 cn, V.int IntKind.i64 cl] 63 false) := ⟨_, rfl⟩
  rw [← hhA]
  have hnA : hA.nx = h.nx + 1 := by rw [hhA]; rfl
  have hxA : Ext h hA := by rw [hhA]; exact (Ext.refl h).push _
  have hgA : hA.get h.nx = some (.cells [.int .i64 kd, .int .i64 cn, .int .i64 cl] 63 false) := by rw [hhA]; exact push_eq rfl
  clear hhA
  have hb1 := r.lt
  obtain ⟨n1, n2, n3, n4, n5, n6⟩ := r.ne
  refine append_fresh (n0 := 0) (sv := D.mv) (cells := mcells p.moves) (new := MV.cells ⟨kd, cn, cl⟩) ?_ (b2 := h.nx) (o2 := 0) (n := 1) (m := 1) ?_ ap33 ⟨.slice 63, by kernel_rfl, rfl⟩ (r.mvs.ext hxA) (by decide) (by rw [hgA]; exact rdC_all rfl) rfl rfl ?_ (by decide) (fun k ⟨o, n, m, q⟩ => by rw [fresh_def]; exact .inr (.inr (.inr (.inr ⟨o, n, m, q⟩)))) (Nat.zero_le _) ?_
  · simp +contextual (disch := first | simp only [fq]; done | omega | simp only [Knx]; omega) only [fV, reduceLE, reduceLT, reduceLeDiff, ↓reduceIte, reduceEqDiff, reduceAdd, reduceCtorEq, reduceToNat]
  · simp +contextual (disch := first | simp only [fq]; done | omega | simp only [Knx]; omega) only [fV, reduceLE, reduceLT, reduceLeDiff, ↓reduceIte, reduceEqDiff, reduceAdd, reduceCtorEq, reduceToNat]
  · rw [mcells_len]; show p.moves.length * 3 + 3 ≤ _; omega
  intro v h4 L ha hx4 hk4 hL
  have hp4 : h4.get D.b = h.get D.b := by rw [hk4 D.b (by omega) fun o n m q => n3 _ _ _ _ q rfl, hxA.2 _ hb1]
  rw [hp] at hp4
  obtain ⟨c1, c2⟩ := ha.cell
  simp +contextual (disch := first | simp only [fq]; done | omega | simp only [Knx]; omega) only [fV, reduceLE, reduceLT, reduceLeDiff, ↓reduceIte, reduceEqDiff, reduceAdd, reduceCtorEq, reduceToNat, Tryz.f64, hp4, c1, c2]
  refine ⟨.inr (.inr (.inl rfl)), v, ?_⟩
  have rA := r.ext hxA
  have hs : ∀ k, k < h.nx → (∀ o n m, D.mv ≠ .slice k o n m) → h4.get k = h.get k := fun k hk q => by rw [hk4 k (by omega) q, hxA.2 k hk]
  have hc4 : Lst 0 h4 D.cv (pccells p.conns) 65 4 := Lst.keep r.conns (by omega) fun k o n m q => hs k (Lst.lt r.conns q) fun o' n' m' => n5 k o n m o' n' m' q
  exact RStp.set (h4 := h4) (D' := { D with mv := v }) (p' := p.mov kd cn cl) r (by omega) (fun k hk ho => hs k hk fun o n m q => ho (.inr (.inr (.inr ⟨o, n, m, q⟩)))) rfl hc4 (r.wts.keep (by omega) fun k o n m q => hs k (r.wts.lt q).1 fun o' n' m' => n6 k o n m o' n' m' q) (.inl (by show Wx.Acc 0 h4 v (mcells (p.moves ++ [⟨kd, cn, cl⟩])) 63 3; rw [mcells_snoc]; exact ha.mono (Nat.zero_le _))) r.few (fun k o n m q => by
    rcases q with q | q | q
    · exact ⟨n1 k o n m q, .inl (.inr (.inl ⟨o, n, m, q⟩))⟩
    · exact ⟨n2 k o n m q, .inl (.inr (.inr (.inl ⟨o, n, m, q⟩)))⟩
    · have := (ha.blk q).1
      exact ⟨by omega, .inr (by omega)⟩)
end
noncomputable section
theorem pc_len {n0 : Nat} {h : H} {cv : V} {l : List PC} (hl : Lst n0 h cv (pccells l) 65 4) : lenO (some (.slice 65)) cv = some (.int .i64 l.length) := by
  have hn := pccells_len l
  rcases hl with (⟨rfl, hw⟩ | ⟨b, n, _, _, rfl, _, _, hk⟩) | ⟨hw, b, _, _, rfl, _⟩
  · rw [hw] at hn
    have : l.length = 0 := by simp at hn; omega
    rw [this]; rfl
  · have : n = l.length := by omega
    rw [this]; rfl
  · rw [hw] at hn
    have : l.length = 0 := by simp at hn; omega
    rw [this]; rfl
theorem pc_acc {n0 : Nat} {h : H} {cv : V} {l : List PC} (hl : Lst n0 h cv (pccells l) 65 4) (h0 : 0 < l.length) : Wx.Acc n0 h cv (pccells l) 65 4 := by
  have hn := pccells_len l
  rcases hl with h1 | ⟨hw, _⟩
  · exact h1
  · rw [hw] at hn; simp at hn; omega
theorem pc_row {n0 : Nat} {h : H} {cv : V} {l : List PC} (hl : Lst n0 h cv (pccells l) 65 4) (h0 : 0 < l.length) : ∃ b, cv = .slice b 0 l.length l.length ∧ n0 ≤ b ∧ b < h.nx ∧ h.get b = some (.cells (pccells l) 65 true) := by
  have hn := pccells_len l
  rcases pc_acc hl h0 with ⟨rfl, hw⟩ | ⟨b, n, h1, h2, rfl, _, h5, hk⟩
  · rw [hw] at hn; simp at hn; omega
  · obtain rfl : n = l.length := by omega
    exact ⟨b, rfl, h1, h2, h5⟩
def wtI (cl : Int) : List WT → Nat → Int
  | [], _ => -1
  | w :: l, i => if w.cl = cl then (i : Int) else wtI cl l (i + 1)
def pcI (n : Int) : List PC → Nat → Option Nat
  | [], _ => none
  | c :: l, i => if c.num = n then some i else pcI n l (i + 1)
def bestP (cl : Int) (c : PC) : Option (Nat × PC) → Prop
  | none => c.st = 4 ∧ (cl = 0 ∨ c.cl = cl)
  | some x => c.st = 4 ∧ (cl = 0 ∨ c.cl = cl) ∧ cl = 0 ∧ c.since < x.2.since
def bestR (cl : Int) : List PC → Nat → Option (Nat × PC) → Option (Nat × PC)
  | [], _, b => b
  | c :: l, i, b => bestR cl l (i + 1) (if bestP cl c b then some (i, c) else b)
theorem cond_yes {c : Cfg} {Ok : Nat → Prop} {k : List Kt} {Q : Ex → Env → H → Prop} {env : Env} {h : H} {x : Operand} {a b : Code} {p : Prop} (hv : evalE env x = bo p) (hp : p) (hB : run c Ok k a env h Q) : run c Ok k (.cond x a b) env h Q := by
  rw [run_cond, hv, condW_bo]
  exact ⟨fun _ => hB, fun q => absurd hp q⟩
def bestV : Option (Nat × PC) → Int
  | none => -1
  | some x => (x.1 : Int)
theorem bestV_none : bestV none = -1 := rfl
theorem bestV_some (i : Nat) (c : PC) : bestV (some (i, c)) = (i : Int) := rfl
def WaI (D : RD) (cl : Int) (ws : List WT) (h0 : H) (m : Nat) (env : Env) (h' : H) : Prop :=
  ∃ (i : Nat), m = ws.length - i ∧ i ≤ ws.length ∧ env 0 = .ptr D.b 0 ∧ env 1 = .int .i64 cl ∧ env 5 = .int .i64 i ∧ h' = h0 ∧ wtI cl (ws.drop i) i = wtI cl ws 0
def PlI (D : RD) (n : Int) (l : List PC) (h0 : H) (m : Nat) (env : Env) (h' : H) : Prop :=
  ∃ (i : Nat), m = l.length - i ∧ i ≤ l.length ∧ env 0 = .ptr D.b 0 ∧ env 1 = .int .i64 n ∧ env 6 = .int .i64 i ∧ h' = h0 ∧ pcI n (l.drop i) i = pcI n l 0
def LoI (D : RD) (cl : Int) (l : List PC) (h0 : H) (m : Nat) (env : Env) (h' : H) : Prop :=
  ∃ (i : Nat) (b : Option (Nat × PC)), m = l.length - i ∧ i ≤ l.length ∧ env 0 = .ptr D.b 0 ∧ env 1 = .int .i64 cl ∧ env 5 = .int .i64 (bestV b) ∧ env 6 = .int .i64 i ∧ Ext h0 h' ∧ (∀ x, b = some x → l[x.1]? = some x.2) ∧ bestR cl (l.drop i) i b = bestR cl l 0 none
variable {S : Set0} (hS : StdP S)
include hS
theorem rwaits_spec {D : RD} {p : PL} {h : H} (r : RR D p h) (hl : p.wts.length ≤ 1000) (cl : Int) : Exact S.cfg 62 [.ptr D.b 0, .int .i64 cl] h (.int .i64 (wtI cl p.wts 0)) := by
  refine into Tryz.f62 _ Tryz.func62 (hS.ownP _ (by decide)) rfl rfl (by kernel_rfl) (by kernel_rfl) ?_
  have hp := r.pool
  unfold rcells at hp
  have hlw := r.wts.wts.len
  simp +contextual (disch := first | simp only [fq]; done | omega | simp only [Knx]; omega) only [fV, reduceLE, reduceLT, reduceLeDiff, ↓reduceIte, reduceEqDiff, reduceAdd, reduceCtorEq, reduceToNat, Tryz.f62]
  refine run_loop (WaI D cl p.wts h) p.wts.length ⟨0, (Nat.sub_zero _).symm, Nat.zero_le _, rfl, rfl, rfl, rfl, rfl⟩ ?_
  rintro m env h1 ⟨i, rfl, hi, e0, e1, e5, rfl, hw⟩
  by_cases hlt : i < p.wts.length
  · obtain ⟨wb, wo, wm, wc, wfl, hwv, hwm, hwn, hwg, hwc⟩ := r.wts.wts.opened (by omega)
    obtain ⟨x0, x1⟩ := hwc i hlt
    obtain ⟨y0, y1⟩ := wcell_get x1
    rw [hwv] at hp hlw
    have hd : p.wts.drop i = p.wts[i] :: p.wts.drop (i + 1) := List.drop_eq_getElem_cons hlt
    rw [hd, wtI] at hw
    have hwi : IntKind.i64.wrap ((i : Int) + 1) = ((i + 1 : Nat) : Int) := by rw [i64_in _ (by omega)]; omega
    by_cases hc : p.wts[i].cl = cl
    · rw [if_pos hc] at hw
      simp +contextual (disch := first | simp only [fq]; done | omega | simp only [Knx]; omega) only [fV, reduceLE, reduceLT, reduceLeDiff, ↓reduceIte, reduceEqDiff, reduceAdd, reduceCtorEq, reduceToNat, Tryz.f62, e0, e1, e5, hp, hlw, hlt, hwg, y0, hc]
      rw [← hw]; rfl
    · rw [if_neg hc] at hw
      simp +contextual (disch := first | simp only [fq]; done | omega | simp only [Knx]; omega) only [fV, reduceLE, reduceLT, reduceLeDiff, ↓reduceIte, reduceEqDiff, reduceAdd, reduceCtorEq, reduceToNat, Tryz.f62, e0, e1, e5, hp, hlw, hlt, hwg, y0, hc]
      exact ⟨p.wts.length - (i + 1), by omega, i + 1, rfl, hlt, e0, e1, by simp +contextual (disch := first | simp only [fq]; done | omega | simp only [Knx]; omega) only [fV, reduceLE, reduceLT, reduceLeDiff, ↓reduceIte, reduceEqDiff, reduceAdd, reduceCtorEq, reduceToNat, hwi], rfl, hw⟩
  · have hie : p.wts.drop i = [] := List.drop_eq_nil_of_le (by omega)
    rw [hie] at hw
    simp +contextual (disch := first | simp only [fq]; done | omega | simp only [Knx]; omega) only [fV, reduceLE, reduceLT, reduceLeDiff, ↓reduceIte, reduceEqDiff, reduceAdd, reduceCtorEq, reduceToNat, Tryz.f62, e0, e1, e5, hp, hlw, hlt]
    rw [← hw]; rfl
theorem rplace_spec {D : RD} {p : PL} {h : H} (r : RR D p h) (n : Int) : Exact S.cfg 69 [.ptr D.b 0, .int .i64 n] h (match pcI n p.conns 0 with
    | some i => .tuple [.int .i64 (i : Nat), .int .i64 0]
    | none => .tuple [.int .i64 0, .int .i64 281]) := by
  refine into Tryz.f69 _ Tryz.func69 (hS.ownP _ (by decide)) rfl rfl (by kernel_rfl) (by kernel_rfl) ?_
  have hp := r.pool
  unfold rcells at hp
  have hlw := pc_len r.conns
  have hf := r.few
  simp +contextual (disch := first | simp only [fq]; done | omega | simp only [Knx]; omega) only [fV, reduceLE, reduceLT, reduceLeDiff, ↓reduceIte, reduceEqDiff, reduceAdd, reduceCtorEq, reduceToNat, Tryz.f69]
  refine callF_exact (rnone_spec hS r) ?_
  simp +contextual (disch := first | simp only [fq]; done | omega | simp only [Knx]; omega) only [fV, reduceLE, reduceLT, reduceLeDiff, ↓reduceIte, reduceEqDiff, reduceAdd, reduceCtorEq, reduceToNat, Tryz.f69]
  refine run_loop (PlI D n p.conns h) p.conns.length ⟨0, (Nat.sub_zero _).symm, Nat.zero_le _, rfl, rfl, rfl, rfl, rfl⟩ ?_
  rintro m env h1 ⟨i, rfl, hi, e0, e1, e6, rfl, hw⟩
  by_cases hlt : i < p.conns.length
  · obtain ⟨cb, hcv, _, hcb, hcg⟩ := pc_row r.conns (by omega)
    obtain ⟨y0, y1, y2, y3⟩ := four_at (pccells_at hlt)
    rw [hcv] at hp hlw
    have hd : p.conns.drop i = p.conns[i] :: p.conns.drop (i + 1) := List.drop_eq_getElem_cons hlt
    rw [hd, pcI] at hw
    have hwi : IntKind.i64.wrap ((i : Int) + 1) = ((i + 1 : Nat) : Int) := by rw [i64_in _ (by omega)]; omega
    by_cases hc : p.conns[i].num = n
    · rw [if_pos hc] at hw
      simp +contextual (disch := first | simp only [fq]; done | omega | simp only [Knx]; omega) only [fV, reduceLE, reduceLT, reduceLeDiff, ↓reduceIte, reduceEqDiff, reduceAdd, reduceCtorEq, reduceToNat, Tryz.f69, e0, e1, e6, hp, hlw, hlt, hcg, y0, hc]
      rw [← hw]
    · rw [if_neg hc] at hw
      simp +contextual (disch := first | simp only [fq]; done | omega | simp only [Knx]; omega) only [fV, reduceLE, reduceLT, reduceLeDiff, ↓reduceIte, reduceEqDiff, reduceAdd, reduceCtorEq, reduceToNat, Tryz.f69, e0, e1, e6, hp, hlw, hlt, hcg, y0, hc]
      exact ⟨p.conns.length - (i + 1), by omega, i + 1, rfl, hlt, e0, e1, by simp +contextual (disch := first | simp only [fq]; done | omega | simp only [Knx]; omega) only [fV, reduceLE, reduceLT, reduceLeDiff, ↓reduceIte, reduceEqDiff, reduceAdd, reduceCtorEq, reduceToNat, hwi], rfl, hw⟩
  · have hie : p.conns.drop i = [] := List.drop_eq_nil_of_le (by omega)
    rw [hie] at hw
    simp +contextual (disch := first | simp only [fq]; done | omega | simp only [Knx]; omega) only [fV, reduceLE, reduceLT, reduceLeDiff, ↓reduceIte, reduceEqDiff, reduceAdd, reduceCtorEq, reduceToNat, Tryz.f69, e0, e1, e6, hp, hlw, hlt]
    rw [← hw]; rfl
omit hS in
theorem pcI_some {n : Int} : ∀ {l : List PC} {k i : Nat}, pcI n l k = some i → k ≤ i ∧ ∃ c, l[i - k]? = some c ∧ c.num = n
  | c :: l, k, i, h => by
    rw [pcI] at h
    by_cases hc : c.num = n
    · rw [if_pos hc] at h
      cases h
      exact ⟨Nat.le_refl _, c, by rw [Nat.sub_self]; rfl, hc⟩
    · rw [if_neg hc] at h
      obtain ⟨h1, x, h2, h3⟩ := pcI_some h
      refine ⟨by omega, x, ?_, h3⟩
      rw [show i - k = (i - (k + 1)) + 1 by omega]
      exact h2
theorem rin_spec {D : RD} {p : PL} {h : H} (r : RR D p h) (n st : Int) : Exact S.cfg 66 [.ptr D.b 0, .int .i64 n, .int .i64 st] h (match pcI n p.conns 0 with
    | some i => if (p.conns[i]?.map PC.st) = some st then .tuple [.int .i64 (i : Nat), .int .i64 0] else .tuple [.int .i64 0, .int .i64 282]
    | none => .tuple [.int .i64 0, .int .i64 281]) := by
  refine into Tryz.f66 _ Tryz.func66 (hS.ownP _ (by decide)) rfl rfl (by kernel_rfl) (by kernel_rfl) ?_
  have hp := r.pool
  unfold rcells at hp
  simp +contextual (disch := first | simp only [fq]; done | omega | simp only [Knx]; omega) only [fV, reduceLE, reduceLT, reduceLeDiff, ↓reduceIte, reduceEqDiff, reduceAdd, reduceCtorEq, reduceToNat, Tryz.f66]
  have hpl := rplace_spec hS r n
  cases hI : pcI n p.conns 0 with
  | none =>
    rw [hI] at hpl
    refine callF_exact hpl ?_
    simp +contextual (disch := first | simp only [fq]; done | omega | simp only [Knx]; omega) only [fV, reduceLE, reduceLT, reduceLeDiff, ↓reduceIte, reduceEqDiff, reduceAdd, reduceCtorEq, reduceToNat, Tryz.f66, Int.reduceEq]
  | some i =>
    rw [hI] at hpl
    refine callF_exact hpl ?_
    obtain ⟨_, c, hc, hcn⟩ := pcI_some hI
    rw [Nat.sub_zero] at hc
    have hlt : i < p.conns.length := by
      rcases Nat.lt_or_ge i p.conns.length with q | q
      · exact q
      · rw [List.getElem?_eq_none q] at hc; cases hc
    have ec : p.conns[i] = c := by rw [List.getElem?_eq_getElem hlt] at hc; exact Option.some.inj hc
    obtain ⟨cb, hcv, _, hcb, hcg⟩ := pc_row r.conns (by omega)
    obtain ⟨y0, y1, y2, y3⟩ := four_at (pccells_at hlt)
    rw [ec] at y1
    rw [hcv] at hp
    by_cases hst : c.st = st
    · simp +contextual (disch := first | simp only [fq]; done | omega | simp only [Knx]; omega) only [fV, reduceLE, reduceLT, reduceLeDiff, ↓reduceIte, reduceEqDiff, reduceAdd, reduceCtorEq, reduceToNat, Tryz.f66, Int.reduceEq, hp, hlt, hcg, y1, hst]
      rw [hc]
      simp [hst]
    · simp +contextual (disch := first | simp only [fq]; done | omega | simp only [Knx]; omega) only [fV, reduceLE, reduceLT, reduceLeDiff, ↓reduceIte, reduceEqDiff, reduceAdd, reduceCtorEq, reduceToNat, Tryz.f66, Int.reduceEq, hp, hlt, hcg, y1, hst]
      rw [hc]
      simp [hst]
theorem rold_spec {D : RD} {p : PL} {h : H} (r : RR D p h) (c : PC) (hn : 0 ≤ p.now ∧ p.now ≤ 4611686018427387904) (hc : 0 ≤ c.since ∧ c.since ≤ p.now) : Pure S.cfg 70 [.ptr D.b 0, .agg c.cells] h fun v _ => v = bo (c.st = 4 ∧ p.keep ≤ p.now - c.since) := by
  refine into Tryz.f70 _ Tryz.func70 (hS.ownP _ (by decide)) rfl rfl (by kernel_rfl) (by kernel_rfl) ?_
  have hp := r.pool
  unfold rcells at hp
  have hwn : IntKind.i64.wrap (p.now - c.since) = p.now - c.since := i64_in _ (by omega)
  have hbn : ¬ D.b = h.nx := by have := r.lt; omega
  unfold PC.cells
  simp +contextual (disch := first | simp only [fq]; done | omega | simp only [Knx]; omega) only [wpyr, fW, reduceLE, reduceLT, reduceLeDiff, ↓reduceIte, reduceEqDiff, reduceAdd, reduceCtorEq, reduceToNat, Tryz.f70]
  refine draw_by [] (by kernel_rfl) ?_
  by_cases h4 : c.st = 4
  · simp +contextual (disch := first | simp only [fq]; done | omega | simp only [Knx]; omega) only [fV, reduceLE, reduceLT, reduceLeDiff, ↓reduceIte, reduceEqDiff, reduceAdd, reduceCtorEq, reduceToNat, Tryz.f70, hp, hbn, h4, hwn]
    exact ⟨fun p hp => (by cases hp), (Ext.refl h).push _⟩
  · simp +contextual (disch := first | simp only [fq]; done | omega | simp only [Knx]; omega) only [fV, reduceLE, reduceLT, reduceLeDiff, ↓reduceIte, reduceEqDiff, reduceAdd, reduceCtorEq, reduceToNat, Tryz.f70, hp, hbn, h4, hwn]
    exact ⟨fun p hp => (by cases hp), (Ext.refl h).push _⟩
theorem rlongest_spec {D : RD} {p : PL} {h : H} (r : RR D p h) (cl : Int) : Pure S.cfg 71 [.ptr D.b 0, .int .i64 cl] h fun v _ => v = .int .i64 (bestV (bestR cl p.conns 0 none)) := by
  refine into Tryz.f71 _ Tryz.func71 (hS.ownP _ (by decide)) rfl rfl (by kernel_rfl) (by kernel_rfl) ?_
  have hp := r.pool
  unfold rcells at hp
  have hlw := pc_len r.conns
  have hf := r.few
  simp +contextual (disch := first | simp only [fq]; done | omega | simp only [Knx]; omega) only [fV, reduceLE, reduceLT, reduceLeDiff, ↓reduceIte, reduceEqDiff, reduceAdd, reduceCtorEq, reduceToNat, Tryz.f71]
  refine run_loop (LoI D cl p.conns h) p.conns.length ⟨0, none, (Nat.sub_zero _).symm, Nat.zero_le _, rfl, rfl, by simp +contextual (disch := first | simp only [fq]; done | omega | simp only [Knx]; omega) only [fV, reduceLE, reduceLT, reduceLeDiff, ↓reduceIte, reduceEqDiff, reduceAdd, reduceCtorEq, reduceToNat, bestV_none], rfl, Ext.refl h, fun x q => (by cases q), rfl⟩ ?_
  rintro m env h1 ⟨i, b, rfl, hi, e0, e1, e5, e6, hx1, hbm, hw⟩
  have r1 := r.ext hx1
  have hp1 := r1.pool
  unfold rcells at hp1
  by_cases hlt : i < p.conns.length
  · obtain ⟨cb, hcv, _, hcb, hcg⟩ := pc_row r1.conns (by omega)
    have z0 : i * 4 + 4 ≤ (pccells p.conns).length := by rw [pccells_len]; omega
    have z1 := pccells_at hlt
    rw [hcv] at hp1 hlw
    have hd : p.conns.drop i = p.conns[i] :: p.conns.drop (i + 1) := List.drop_eq_getElem_cons hlt
    rw [hd, bestR] at hw
    have hwi : IntKind.i64.wrap ((i : Int) + 1) = ((i + 1 : Nat) : Int) := by rw [i64_in _ (by omega)]; omega
    obtain ⟨c, hc⟩ : ∃ c, c = p.conns[i] := ⟨_, rfl⟩
    rw [← hc] at hw z1
    have hgi : p.conns[i]? = some c := by rw [List.getElem?_eq_getElem hlt, hc]
    obtain ⟨hA, hhA⟩ : ∃ hA, hA = (h1.push (Ob.cells [V.int IntKind.i64 0, V.int IntKind.i64 0, V.int IntKind.i64 0, V.int IntKind.i64 0] 65 false)).put h1.nx (Ob.cells [V.int IntKind.i64 c.num, V.int IntKind.i64 c.st, V.int IntKind.i64 c.cl, V.int IntKind.i64 c.since] 65 false) := ⟨_, rfl⟩
    have hxA : Ext h1 hA := by rw [hhA]; exact ((Ext.refl h1).push _).put (Nat.le_refl _) _
    have hgA : hA.get h1.nx = some (Ob.cells [V.int IntKind.i64 c.num, V.int IntKind.i64 c.st, V.int IntKind.i64 c.cl, V.int IntKind.i64 c.since] 65 false) := by rw [hhA]; exact put_eq rfl
    have hpA : hA.get D.b = _ := (hxA.2 _ r1.lt).trans hp1
    have hcA : hA.get cb = _ := (hxA.2 _ hcb).trans hcg
    have nxt : ∀ (env' : Env) (b' : Option (Nat × PC)), env' 0 = .ptr D.b 0 → env' 1 = .int .i64 cl → env' 5 = .int .i64 (bestV b') → env' 6 = .int .i64 (i + 1 : Nat) → (∀ x, b' = some x → p.conns[x.1]? = some x.2) → bestR cl (p.conns.drop (i + 1)) (i + 1) b' = bestR cl p.conns 0 none → ∃ m', m' < p.conns.length - i ∧ LoI D cl p.conns h m' env' hA := fun env' b' q0 q1 q5 q6 q q' => ⟨p.conns.length - (i + 1), by omega, i + 1, b', rfl, hlt, q0, q1, q5, q6, hx1.trans hxA, q, q'⟩
    have hnew : ∀ x, some (i, c) = some x → p.conns[x.1]? = some x.2 := fun x q => by cases q; exact hgi
    simp +contextual (disch := first | simp only [fq]; done | omega | simp only [Knx]; omega) only [wpyr, fW, reduceLE, reduceLT, reduceLeDiff, ↓reduceIte, reduceEqDiff, reduceAdd, reduceCtorEq, reduceToNat, Tryz.f71, e0, e1, e5, e6, hp1, hlw, hlt]
    refine cond_yes (p := True) rfl trivial ?_
    simp +contextual (disch := first | simp only [fq]; done | omega | simp only [Knx]; omega) only [wpyr, fW, reduceLE, reduceLT, reduceLeDiff, ↓reduceIte, reduceEqDiff, reduceAdd, reduceCtorEq, reduceToNat, Tryz.f71, e0, e1, e5, e6, hp1, hlw, hlt, hcg, z0, z1]
    rw [← hhA]
    refine ⟨.inr hx1.1, ?_⟩
    refine draw_by [] (by kernel_rfl) ?_
    by_cases h4 : c.st = 4
    · by_cases hm : cl = 0 ∨ c.cl = cl
      · cases b with
        | none =>
          rw [bestV_none] at e5
          by_cases hm0 : cl = 0
          · subst hm0
            rw [if_pos (show bestP 0 c none from ⟨h4, hm⟩)] at hw
            simp +contextual (disch := first | simp only [fq]; done | omega | simp only [Knx]; omega) only [fV, reduceLE, reduceLT, reduceLeDiff, ↓reduceIte, reduceEqDiff, reduceAdd, reduceCtorEq, reduceToNat, Tryz.f71, e0, e1, e5, e6, hgA, hpA, hcA, h4, Int.reduceEq, Int.reduceLT]
            exact ⟨fun p hp => (by cases hp), nxt _ (some (i, c)) (e0) (e1) (by simp +contextual (disch := first | simp only [fq]; done | omega | simp only [Knx]; omega) only [fV, reduceLE, reduceLT, reduceLeDiff, ↓reduceIte, reduceEqDiff, reduceAdd, reduceCtorEq, reduceToNat, bestV_some]) (by simp +contextual (disch := first | simp only [fq]; done | omega | simp only [Knx]; omega) only [fV, reduceLE, reduceLT, reduceLeDiff, ↓reduceIte, reduceEqDiff, reduceAdd, reduceCtorEq, reduceToNat, e6, hwi]) hnew hw⟩
          · have hm1 : c.cl = cl := hm.resolve_left hm0
            rw [if_pos (show bestP cl c none from ⟨h4, hm⟩)] at hw
            simp +contextual (disch := first | simp only [fq]; done | omega | simp only [Knx]; omega) only [fV, reduceLE, reduceLT, reduceLeDiff, ↓reduceIte, reduceEqDiff, reduceAdd, reduceCtorEq, reduceToNat, Tryz.f71, e0, e1, e5, e6, hgA, hpA, hcA, h4, hm0, hm1, Int.reduceLT]
            exact ⟨fun p hp => (by cases hp), nxt _ (some (i, c)) (e0) (e1) (by simp +contextual (disch := first | simp only [fq]; done | omega | simp only [Knx]; omega) only [fV, reduceLE, reduceLT, reduceLeDiff, ↓reduceIte, reduceEqDiff, reduceAdd, reduceCtorEq, reduceToNat, bestV_some]) (by simp +contextual (disch := first | simp only [fq]; done | omega | simp only [Knx]; omega) only [fV, reduceLE, reduceLT, reduceLeDiff, ↓reduceIte, reduceEqDiff, reduceAdd, reduceCtorEq, reduceToNat, e6, hwi]) hnew hw⟩
        | some x =>
          obtain ⟨j, x⟩ := x
          rw [bestV_some] at e5
          have hj : p.conns[j]? = some x := hbm _ rfl
          have hjl : j < p.conns.length := by
            rcases Nat.lt_or_ge j p.conns.length with q | q
            · exact q
            · rw [List.getElem?_eq_none q] at hj; cases hj
          have ejx : p.conns[j] = x := by rw [List.getElem?_eq_getElem hjl] at hj; exact Option.some.inj hj
          obtain ⟨v0, v1, v2, v3⟩ := four_at (pccells_at hjl)
          rw [ejx] at v3
          by_cases hm0 : cl = 0
          · subst hm0
            by_cases hs : c.since < x.since
            · rw [if_pos (show bestP 0 c (some (j, x)) from ⟨h4, hm, rfl, hs⟩)] at hw
              simp +contextual (disch := first | simp only [fq]; done | omega | simp only [Knx]; omega) only [fV, reduceLE, reduceLT, reduceLeDiff, ↓reduceIte, reduceEqDiff, reduceAdd, reduceCtorEq, reduceToNat, Tryz.f71, e0, e1, e5, e6, hgA, hpA, hcA, h4, hjl, v3, hs, Nat.not_lt_zero]
              exact ⟨fun p hp => (by cases hp), nxt _ (some (i, c)) (e0) (e1) (by simp +contextual (disch := first | simp only [fq]; done | omega | simp only [Knx]; omega) only [fV, reduceLE, reduceLT, reduceLeDiff, ↓reduceIte, reduceEqDiff, reduceAdd, reduceCtorEq, reduceToNat, bestV_some]) (by simp +contextual (disch := first | simp only [fq]; done | omega | simp only [Knx]; omega) only [fV, reduceLE, reduceLT, reduceLeDiff, ↓reduceIte, reduceEqDiff, reduceAdd, reduceCtorEq, reduceToNat, e6, hwi]) hnew hw⟩
            · rw [if_neg (fun q : bestP 0 c (some (j, x)) => hs q.2.2.2)] at hw
              simp +contextual (disch := first | simp only [fq]; done | omega | simp only [Knx]; omega) only [fV, reduceLE, reduceLT, reduceLeDiff, ↓reduceIte, reduceEqDiff, reduceAdd, reduceCtorEq, reduceToNat, Tryz.f71, e0, e1, e5, e6, hgA, hpA, hcA, h4, hjl, v3, hs, Nat.not_lt_zero]
              exact ⟨fun p hp => (by cases hp), nxt _ (some (j, x)) (e0) (e1) (by simp +contextual (disch := first | simp only [fq]; done | omega | simp only [Knx]; omega) only [fV, reduceLE, reduceLT, reduceLeDiff, ↓reduceIte, reduceEqDiff, reduceAdd, reduceCtorEq, reduceToNat, e5, bestV_some]) (by simp +contextual (disch := first | simp only [fq]; done | omega | simp only [Knx]; omega) only [fV, reduceLE, reduceLT, reduceLeDiff, ↓reduceIte, reduceEqDiff, reduceAdd, reduceCtorEq, reduceToNat, e6, hwi]) hbm hw⟩
          · have hm1 : c.cl = cl := hm.resolve_left hm0
            rw [if_neg (fun q : bestP cl c (some (j, x)) => hm0 q.2.2.1)] at hw
            simp +contextual (disch := first | simp only [fq]; done | omega | simp only [Knx]; omega) only [fV, reduceLE, reduceLT, reduceLeDiff, ↓reduceIte, reduceEqDiff, reduceAdd, reduceCtorEq, reduceToNat, Tryz.f71, e0, e1, e5, e6, hgA, hpA, hcA, h4, hm0, hm1, hjl, v3, Nat.not_lt_zero]
            exact ⟨fun p hp => (by cases hp), nxt _ (some (j, x)) (e0) (e1) (by simp +contextual (disch := first | simp only [fq]; done | omega | simp only [Knx]; omega) only [fV, reduceLE, reduceLT, reduceLeDiff, ↓reduceIte, reduceEqDiff, reduceAdd, reduceCtorEq, reduceToNat, e5, bestV_some]) (by simp +contextual (disch := first | simp only [fq]; done | omega | simp only [Knx]; omega) only [fV, reduceLE, reduceLT, reduceLeDiff, ↓reduceIte, reduceEqDiff, reduceAdd, reduceCtorEq, reduceToNat, e6, hwi]) hbm hw⟩
      · have hm0 : ¬ cl = 0 := fun q => hm (.inl q)
        have hm1 : ¬ c.cl = cl := fun q => hm (.inr q)
        rw [if_neg (fun q : bestP cl c b => hm (by cases b with | none => exact q.2 | some x => exact q.2.1))] at hw
        simp +contextual (disch := first | simp only [fq]; done | omega | simp only [Knx]; omega) only [fV, reduceLE, reduceLT, reduceLeDiff, ↓reduceIte, reduceEqDiff, reduceAdd, reduceCtorEq, reduceToNat, Tryz.f71, e0, e1, e5, e6, hgA, hpA, hcA, h4, hm0, hm1]
        exact ⟨fun p hp => (by cases hp), nxt _ b (e0) (e1) (e5) (by simp +contextual (disch := first | simp only [fq]; done | omega | simp only [Knx]; omega) only [fV, reduceLE, reduceLT, reduceLeDiff, ↓reduceIte, reduceEqDiff, reduceAdd, reduceCtorEq, reduceToNat, e6, hwi]) hbm hw⟩
    · rw [if_neg (fun q : bestP cl c b => h4 (by cases b with | none => exact q.1 | some x => exact q.1))] at hw
      simp +contextual (disch := first | simp only [fq]; done | omega | simp only [Knx]; omega) only [fV, reduceLE, reduceLT, reduceLeDiff, ↓reduceIte, reduceEqDiff, reduceAdd, reduceCtorEq, reduceToNat, Tryz.f71, e0, e1, e5, e6, hgA, hpA, hcA, h4]
      exact ⟨fun p hp => (by cases hp), nxt _ b (e0) (e1) (e5) (by simp +contextual (disch := first | simp only [fq]; done | omega | simp only [Knx]; omega) only [fV, reduceLE, reduceLT, reduceLeDiff, ↓reduceIte, reduceEqDiff, reduceAdd, reduceCtorEq, reduceToNat, e6, hwi]) hbm hw⟩
  · have hie : p.conns.drop i = [] := List.drop_eq_nil_of_le (by omega)
    rw [hie] at hw
    simp +contextual (disch := first | simp only [fq]; done | omega | simp only [Knx]; omega) only [fV, reduceLE, reduceLT, reduceLeDiff, ↓reduceIte, reduceEqDiff, reduceAdd, reduceCtorEq, reduceToNat, Tryz.f71, e0, e1, e5, e6, hp1, hlw, hlt]
    exact ⟨hx1, by rw [← hw]; rfl⟩
end
noncomputable section
theorem best_long : ∀ (l : List PC) (i : Nat) (b : Option (Nat × PC)), (bestR 0 l i b).map Prod.snd = longC l (b.map Prod.snd)
  | [], i, b => rfl
  | c :: l, i, b => by
    have e : bestP 0 c b ↔ betterC c (b.map Prod.snd) := by
      cases b with
      | none => exact ⟨fun h => h.1, fun h => ⟨h, .inl rfl⟩⟩
      | some x => exact ⟨fun h => ⟨h.1, h.2.2.2⟩, fun h => ⟨h.1, .inl rfl, rfl, h.2⟩⟩
    rw [bestR, longC, best_long l]
    congr 1
    by_cases h : bestP 0 c b
    · rw [if_pos h, if_pos (e.1 h)]; rfl
    · rw [if_neg h, if_neg (fun q => h (e.2 q))]
theorem best_stay {cl : Int} (hc : cl ≠ 0) (x : Nat × PC) : ∀ (l : List PC) (i : Nat), bestR cl l i (some x) = some x
  | [], i => rfl
  | c :: l, i => by
    rw [bestR, if_neg (fun h : bestP cl c (some x) => hc h.2.2.1)]
    exact best_stay hc x l (i + 1)
theorem best_chose {cl : Int} (hc : cl ≠ 0) : ∀ (l : List PC) (i : Nat), (bestR cl l i none).map Prod.snd = choseC cl l
  | [], i => rfl
  | c :: l, i => by
    rw [bestR, choseC]
    by_cases h : c.st = 4 ∧ c.cl = cl
    · rw [if_pos (show bestP cl c none from ⟨h.1, .inr h.2⟩), if_pos h, best_stay hc]; rfl
    · rw [if_neg (fun q : bestP cl c none => h ⟨q.1, q.2.resolve_left hc⟩), if_neg h]
      exact best_chose hc l (i + 1)
theorem best_at {cl : Int} : ∀ (l : List PC) (i : Nat) (b : Option (Nat × PC)) (j : Nat) (c : PC), bestR cl l i b = some (j, c) → (i ≤ j ∧ l[j - i]? = some c) ∨ b = some (j, c)
  | [], i, b, j, c, h => .inr h
  | x :: l, i, b, j, c, h => by
    rw [bestR] at h
    rcases best_at l (i + 1) _ j c h with ⟨h1, h2⟩ | h1
    · refine .inl ⟨by omega, ?_⟩
      rw [show j - i = (j - (i + 1)) + 1 by omega]
      exact h2
    · by_cases hb : bestP cl x b
      · rw [if_pos hb] at h1
        cases h1
        exact .inl ⟨Nat.le_refl _, by rw [Nat.sub_self]; rfl⟩
      · rw [if_neg hb] at h1; exact .inr h1
theorem best_idx {cl : Int} {l : List PC} {j : Nat} {c : PC} (h : bestR cl l 0 none = some (j, c)) : l[j]? = some c := by
  rcases best_at l 0 none j c h with ⟨_, h2⟩ | h1
  · exact h2
  · cases h1
def pickD (cl : Int) (l : List PC) : Option (Nat × PC) := match bestR cl l 0 none with
  | some x => some x
  | none => bestR 0 l 0 none
theorem pickD_chosen {cl : Int} (hc : cl ≠ 0) (l : List PC) : (pickD cl l).map Prod.snd = chosenC l cl := by
  have h1 := best_chose hc l 0
  have h2 := best_long l 0 none
  unfold pickD chosenC
  cases hb : bestR cl l 0 none with
  | some x => rw [hb] at h1; rw [← h1]; rfl
  | none => rw [hb] at h1; rw [← h1]; exact h2
theorem pickD_idx {cl : Int} {l : List PC} {j : Nat} {c : PC} (h : pickD cl l = some (j, c)) : l[j]? = some c := by
  unfold pickD at h
  cases hb : bestR cl l 0 none with
  | some x => rw [hb] at h; cases h; exact best_idx hb
  | none => rw [hb] at h; exact best_idx h
theorem map_num_set {c' : PC} : ∀ {l : List PC}, (l.map PC.num).Nodup → ∀ {i : Nat} {c : PC}, l[i]? = some c → (l.map fun x => if x.num = c.num then c' else x) = l.set i c'
  | [], _, i, c, h => by simp at h
  | x :: l, hn, 0, c, h => by
    have h : x = c := by simpa using h
    subst h
    rw [List.map_cons, List.nodup_cons] at hn
    rw [List.map_cons, if_pos rfl, List.set_cons_zero]
    congr 1
    conv => rhs; rw [← List.map_id l]
    refine List.map_congr_left fun y hy => ?_
    have hne : ¬ y.num = x.num := fun e => hn.1 (by rw [← e]; exact List.mem_map_of_mem hy)
    rw [if_neg hne]; rfl
  | x :: l, hn, i + 1, c, h => by
    rw [List.map_cons, List.nodup_cons] at hn
    have h : l[i]? = some c := by simpa using h
    have hc : c ∈ l := List.mem_of_getElem? h
    have hne : ¬ x.num = c.num := fun e => hn.1 (by rw [e]; exact List.mem_map_of_mem hc)
    rw [List.map_cons, if_neg hne, List.set_cons_succ, map_num_set hn.2 h]
theorem filter_erase : ∀ {l : List PC}, (l.map PC.num).Nodup → ∀ {i : Nat} {c : PC}, l[i]? = some c → (l.filter fun x => decide (x.num ≠ c.num)) = l.eraseIdx i
  | [], _, i, c, h => by simp at h
  | x :: l, hn, 0, c, h => by
    have h : x = c := by simpa using h
    subst h
    rw [List.map_cons, List.nodup_cons] at hn
    rw [List.filter_cons, if_neg (by simp), List.eraseIdx_cons_zero]
    refine List.filter_eq_self.2 fun y hy => ?_
    have hne : ¬ y.num = x.num := fun e => hn.1 (by rw [← e]; exact List.mem_map_of_mem hy)
    simpa using hne
  | x :: l, hn, i + 1, c, h => by
    rw [List.map_cons, List.nodup_cons] at hn
    have h : l[i]? = some c := by simpa using h
    have hc : c ∈ l := List.mem_of_getElem? h
    have hne : ¬ x.num = c.num := fun e => hn.1 (by rw [e]; exact List.mem_map_of_mem hc)
    rw [List.filter_cons, if_pos (by simpa using hne), List.eraseIdx_cons_succ, filter_erase hn.2 h]
theorem pcI_find {n : Int} : ∀ (l : List PC) (k : Nat), (pcI n l k).bind (fun i => l[i - k]?) = l.find? fun c => decide (c.num = n)
  | [], k => rfl
  | c :: l, k => by
    rw [pcI, List.find?_cons]
    by_cases h : c.num = n
    · rw [if_pos h]
      simp [h]
    · rw [if_neg h]
      have := pcI_find (n := n) l (k + 1)
      simp only [h, decide_false]
      rw [← this]
      cases hp : pcI n l (k + 1) with
      | none => rfl
      | some i =>
        have hk := (pcI_some hp).1
        simp only [Option.bind_some]
        rw [show i - k = (i - (k + 1)) + 1 by omega]
        rfl
structure Rk (T : Int) (p : PL) : Prop where
  nd : (p.conns.map PC.num).Nodup
  num : ∀ c ∈ p.conns, 1 ≤ c.num ∧ c.num ≤ p.last
  cl : ∀ w ∈ p.wts, w.cl ≠ 0
  dist : (p.wts.map WT.cl).Nodup
  top : p.last + p.wts.length ≤ T
  tt : T ≤ 1099511627776
  pos : 0 ≤ p.last
  mvs : p.moves.length + p.wts.length ≤ 900000
  lim : p.lim ≤ 64
theorem Rk.serve1 {T : Int} {p q : PL} (h : Rk T p) (hs : serve1 p = some q) : Rk T q := by
  obtain ⟨w, ws, hw, h1⟩ := serve1_cases hs
  have ht := h.top
  have hm := h.mvs
  have hcl := h.cl
  have hd := h.dist
  rw [hw] at ht hm hcl hd
  simp only [List.length_cons] at ht hm
  rw [List.map_cons, List.nodup_cons] at hd
  rcases h1 with ⟨c, hc, _, rfl⟩ | ⟨_, _, rfl⟩
  · refine ⟨?_, fun x hx => ?_, fun x hx => hcl x (.tail _ hx), hd.2, by show p.last + (ws.length : Int) ≤ T; omega, h.tt, h.pos, by show (p.moves ++ [_]).length + ws.length ≤ _; rw [List.length_append]; simp only [List.length_cons, List.length_nil]; omega, h.lim⟩
    · show ((p.conns.map _).map PC.num).Nodup
      rw [set_num p.conns c.num ⟨c.num, 2, w.cl, 0⟩ rfl]; exact h.nd
    · rcases set_mem hx with rfl | ⟨hx, _⟩
      · exact h.num c hc
      · exact h.num x hx
  · refine ⟨?_, fun x hx => ?_, fun x hx => hcl x (.tail _ hx), hd.2, by show p.last + 1 + (ws.length : Int) ≤ T; omega, h.tt, by have := h.pos; show 0 ≤ p.last + 1; omega, by show (p.moves ++ [_]).length + ws.length ≤ _; rw [List.length_append]; simp only [List.length_cons, List.length_nil]; omega, h.lim⟩
    · show ((p.conns ++ [_]).map PC.num).Nodup
      rw [List.map_append, List.nodup_append]
      refine ⟨h.nd, by simp, fun a ha b hb e => ?_⟩
      obtain ⟨x, hx, rfl⟩ := List.mem_map.1 ha
      have hb : b = p.last + 1 := by simpa using hb
      have := (h.num x hx).2
      omega
    · rcases List.mem_append.1 hx with hx | hx
      · have := h.num x hx; exact ⟨this.1, by show x.num ≤ p.last + 1; omega⟩
      · rw [List.mem_singleton.1 hx]; have := h.pos; exact ⟨by show 1 ≤ p.last + 1; omega, Int.le_refl _⟩
theorem Rk.serve {T : Int} {p : PL} (h : Rk T p) : Rk T (serveF p) := serveF_keeps (fun _ _ => Rk.serve1) h
end
noncomputable section
theorem pccells_put (c : PC) : ∀ (l : List PC) (i : Nat), i < l.length → listPut (pccells l) (i * 4) c.cells = pccells (l.set i c)
  | x :: l, 0, _ => by
    rw [Nat.zero_mul]
    show listPut (x.cells ++ pccells l) 0 c.cells = c.cells ++ pccells l
    unfold PC.cells
    simp only [List.cons_append, List.nil_append, listPut_zero, listPut_nil]
  | x :: l, i + 1, h => by
    have ih := pccells_put c l i (by simpa using h)
    rw [show (i + 1) * 4 = i * 4 + 1 + 1 + 1 + 1 by omega]
    show listPut (x.cells ++ pccells l) (i * 4 + 1 + 1 + 1 + 1) c.cells = x.cells ++ pccells (l.set i c)
    rw [← ih]
    unfold PC.cells
    simp only [List.cons_append, List.nil_append, listPut_succ]
theorem put_at : ∀ (l : List V) (k : Nat) (v : V), k < l.length → listPut l k [v] = l.set k v
  | l, k, v, h => listPut_one v l k h
theorem pccells_set {l : List PC} {i : Nat} (hi : i < l.length) : (∀ v, (pccells l).set (i * 4 + 1) (.int .i64 v) = pccells (l.set i { l[i] with st := v })) ∧ (∀ v, (pccells l).set (i * 4 + 3) (.int .i64 v) = pccells (l.set i { l[i] with since := v })) := by
  have key : ∀ (l : List PC) (i : Nat) (hi : i < l.length), (∀ v, (pccells l).set (i * 4 + 1) (.int .i64 v) = pccells (l.set i { l[i] with st := v })) ∧ (∀ v, (pccells l).set (i * 4 + 3) (.int .i64 v) = pccells (l.set i { l[i] with since := v })) := by
    intro l
    induction l with
    | nil => intro i hi; cases hi
    | cons x l ih =>
      intro i hi
      cases i with
      | zero => exact ⟨fun v => rfl, fun v => rfl⟩
      | succ i =>
        obtain ⟨h1, h2⟩ := ih i (by simpa using hi)
        refine ⟨fun v => ?_, fun v => ?_⟩
        · rw [show (i + 1) * 4 + 1 = (i * 4 + 1) + 1 + 1 + 1 + 1 by omega]
          show (x.cells ++ pccells l).set ((i * 4 + 1) + 1 + 1 + 1 + 1) _ = x.cells ++ pccells (l.set i _)
          exact congrArg (fun z : List V => x.cells ++ z) (h1 v)
        · rw [show (i + 1) * 4 + 3 = (i * 4 + 3) + 1 + 1 + 1 + 1 by omega]
          show (x.cells ++ pccells l).set ((i * 4 + 3) + 1 + 1 + 1 + 1) _ = x.cells ++ pccells (l.set i _)
          exact congrArg (fun z : List V => x.cells ++ z) (h2 v)
  exact key l i hi
theorem lst_cell {n0 e sz : Nat} {h : H} {v : V} {cells : List V} (hl : Lst n0 h v cells e sz) : v.cells = [v] ∧ v.isCell = true := by
  rcases hl with ha | ⟨_, b, _, _, h3, _⟩
  · exact ha.cell
  · rw [h3]; exact ⟨rfl, rfl⟩
theorem RStp.putc {D : RD} {p : PL} {h : H} (r : RR D p h) {b : Nat} {l' : List PC} (hcv : D.cv = .slice b 0 p.conns.length p.conns.length) (hl : l'.length = p.conns.length) (h0 : 0 < p.conns.length) : RStp D h D { p with conns := l' } (h.put b (.cells (pccells l') 65 true)) := by
  obtain ⟨n1, n2, n3, n4, n5, n6⟩ := r.ne
  have hb := Lst.lt r.conns hcv
  refine ⟨⟨?_, ?_, ?_, ?_, r.lt, by show l'.length ≤ _; rw [hl]; exact r.few⟩, Nat.le_refl _, fun k hk ho => put_ne (fun e => ho (.inr (.inl ⟨0, p.conns.length, p.conns.length, by rw [hcv, e]⟩))), fun k q => .inl q, rfl⟩
  · rw [put_ne (fun e => n1 b _ _ _ hcv e.symm)]; exact r.pool
  · rw [hcv]
    refine .inl (.inr ⟨b, p.conns.length, Nat.zero_le _, hb, rfl, h0, put_eq rfl, ?_⟩)
    show (pccells l').length = _
    rw [pccells_len, hl]
  · exact r.wts.keep (Nat.le_refl _) fun k o n m q => put_ne fun e => n4 b _ _ _ o n m hcv (by rw [← e]; exact q)
  · exact Lst.keep r.mvs (Nat.le_refl _) fun k o n m q => put_ne fun e => n5 b _ _ _ o n m hcv (by rw [← e]; exact q)
variable {S : Set0} (hS : StdP S)
include hS
theorem rgone_spec {D : RD} {p : PL} {h : H} (r : RR D p h) {i : Nat} (hi : i < p.conns.length) : callW S.cfg (rowns D) 67 [.ptr D.b 0, .int .i64 (i : Nat)] h fun _ h' => ∃ cv, RStp D h { D with cv := cv } { p with conns := p.conns.eraseIdx i } h' := by
  refine into Tryz.f67 _ Tryz.func67 (hS.ownP _ (by decide)) rfl rfl (by kernel_rfl) (by kernel_rfl) ?_
  have hp := r.pool
  unfold rcells at hp
  have hacc := pc_acc r.conns (by omega)
  have hf := r.few
  have hb1 := r.lt
  obtain ⟨n1, n2, n3, n4, n5, n6⟩ := r.ne
  have hpl := pccells_len p.conns
  simp +contextual (disch := first | simp only [fq]; done | omega | simp only [Knx]; omega) only [fV, reduceLE, reduceLT, reduceLeDiff, ↓reduceIte, reduceEqDiff, reduceAdd, reduceCtorEq, reduceToNat, Tryz.f67, hp]
  refine slice_take (e := 65) (sz := 4) (len := p.conns.length) (k := i) (lv := D.cv) (by kernel_rfl) (by kernel_rfl) (by decide) rfl rfl hacc (pccells_len _) (by omega) ?_
  intro v1 L1 hs1 hL1 hv1
  simp +contextual (disch := first | simp only [fq]; done | omega | simp only [Knx]; omega) only [fV, reduceLE, reduceLT, reduceLeDiff, ↓reduceIte, reduceEqDiff, reduceAdd, reduceCtorEq, reduceToNat, Tryz.f67]
  refine append_lst (n0 := h.nx) (sv := .nilslice) (xv := v1) (cells := []) (new := (pccells p.conns).take (i * 4)) rfl rfl ap41 ⟨.slice 65, by kernel_rfl, rfl⟩ (.inl (.inl ⟨rfl, rfl⟩)) hs1 (by rw [pccells_take]; exact pccells_isCell _) (by rw [List.length_take]; simp only [List.length_nil]; omega) (by decide) (fun k hk => by rw [fresh_def]; exact .inl hk) (Nat.le_refl _) ?_
  intro v2 h2 L2 hl2 hn2 hk2 hf2 hL2
  have hp2 := (hf2 _ hb1).trans hp
  have hx2 : Ext h h2 := ⟨hn2, hf2⟩
  have hwi : IntKind.i64.wrap ((i : Int) + 1) = ((i + 1 : Nat) : Int) := by rw [i64_in _ (by omega)]; omega
  simp +contextual (disch := first | simp only [fq]; done | omega | simp only [Knx]; omega) only [fV, reduceLE, reduceLT, reduceLeDiff, ↓reduceIte, reduceEqDiff, reduceAdd, reduceCtorEq, reduceToNat, Tryz.f67, hp2, hwi]
  refine slice_drop (e := 65) (sz := 4) (len := p.conns.length) (k := i + 1) (lv := D.cv) (by kernel_rfl) (by kernel_rfl) (by decide) rfl rfl (hacc.ext hx2) (pccells_len _) (by omega) ?_
  intro v3 L3 hs3 hL3 hv3
  simp +contextual (disch := first | simp only [fq]; done | omega | simp only [Knx]; omega) only [fV, reduceLE, reduceLT, reduceLeDiff, ↓reduceIte, reduceEqDiff, reduceAdd, reduceCtorEq, reduceToNat, Tryz.f67]
  refine append_lst (n0 := h.nx) (sv := v2) (xv := v3) (cells := [] ++ (pccells p.conns).take (i * 4)) (new := (pccells p.conns).drop ((i + 1) * 4)) rfl rfl ap41 ⟨.slice 65, by kernel_rfl, rfl⟩ hl2 hs3 (by rw [pccells_drop]; exact pccells_isCell _) (by rw [List.length_append, List.length_take, List.length_drop]; simp only [List.length_nil]; omega) (by decide) (fun k hk => by rw [fresh_def]; exact .inl hk) hn2 ?_
  intro v4 h4 L4 hl4 hn4 hk4 hf4 hL4
  have hx4 : Ext h h4 := ⟨by omega, fun k hk => hf4 k hk ▸ hf2 k hk⟩
  have hp4 := (hx4.2 _ hb1).trans hp
  obtain ⟨c1, c2⟩ := lst_cell hl4
  simp +contextual (disch := first | simp only [fq]; done | omega | simp only [Knx]; omega) only [fV, reduceLE, reduceLT, reduceLeDiff, ↓reduceIte, reduceEqDiff, reduceAdd, reduceCtorEq, reduceToNat, Tryz.f67, hp4, c1, c2]
  have e : ([] ++ (pccells p.conns).take (i * 4)) ++ (pccells p.conns).drop ((i + 1) * 4) = pccells (p.conns.eraseIdx i) := by
    rw [List.nil_append, pccells_take, pccells_drop, ← pccells_app, List.eraseIdx_eq_take_drop_succ]
  rw [e] at hl4
  refine ⟨.inr (.inr (.inl rfl)), v4, ?_⟩
  exact RStp.set (h4 := h4) (D' := { D with cv := v4 }) (p' := { p with conns := p.conns.eraseIdx i }) r hx4.1 (fun k hk _ => hx4.2 k hk) rfl (Lst.mono' hl4 (Nat.zero_le _)) (r.wts.keep hx4.1 fun k o n m q => hx4.2 k (r.wts.lt q).1) (r.mvs.ext hx4) (Nat.le_trans (List.length_eraseIdx_le ..) hf) (fun k o n m q => by
    rcases q with q | q | q
    · have := Lst.lo hl4 q
      exact ⟨by omega, .inr this⟩
    · exact ⟨n2 k o n m q, .inl (.inr (.inr (.inl ⟨o, n, m, q⟩)))⟩
    · exact ⟨n3 k o n m q, .inl (.inr (.inr (.inr ⟨o, n, m, q⟩)))⟩)
theorem rclosedc_spec {D : RD} {p : PL} {h : H} (r : RR D p h) {i : Nat} (hi : i < p.conns.length) (hm : p.moves.length ≤ 1000000) : callW S.cfg (rowns D) 68 [.ptr D.b 0, .int .i64 (i : Nat)] h fun _ h' => ∃ D', RStp D h D' ({ p with conns := p.conns.eraseIdx i }.mov 6 p.conns[i].num 0) h' := by
  refine into Tryz.f68 _ Tryz.func68 (hS.ownP _ (by decide)) rfl rfl (by kernel_rfl) (by kernel_rfl) ?_
  have hp := r.pool
  unfold rcells at hp
  obtain ⟨cb, hcv, _, hcb, hcg⟩ := pc_row r.conns (by omega)
  obtain ⟨y0, y1, y2, y3⟩ := four_at (pccells_at hi)
  rw [hcv] at hp
  simp +contextual (disch := first | simp only [fq]; done | omega | simp only [Knx]; omega) only [fV, reduceLE, reduceLT, reduceLeDiff, ↓reduceIte, reduceEqDiff, reduceAdd, reduceCtorEq, reduceToNat, Tryz.f68, hp, hi, hcg, y0]
  refine callF_of (rmove_spec hS r 6 p.conns[i].num 0 hm) (fun k q => by rw [fresh_def]; exact .inr q) ?_
  rintro v h1 ⟨mv, s1⟩
  simp +contextual (disch := first | simp only [fq]; done | omega | simp only [Knx]; omega) only [fV, reduceLE, reduceLT, reduceLeDiff, ↓reduceIte, reduceEqDiff, reduceAdd, reduceCtorEq, reduceToNat, Tryz.f68]
  refine callF_of (rgone_spec hS s1.rr (i := i) hi) (fun k q => by rw [fresh_def]; exact (s1.own k q).elim .inr .inl) ?_
  rintro v h2 ⟨cv, s2⟩
  simp +contextual (disch := first | simp only [fq]; done | omega | simp only [Knx]; omega) only [fV, reduceLE, reduceLT, reduceLeDiff, ↓reduceIte, reduceEqDiff, reduceAdd, reduceCtorEq, reduceToNat, Tryz.f68]
  exact ⟨_, s1.trans s2⟩
end
noncomputable section
theorem WRow.opened {h : H} {v : V} {w : WT} {ws : List WT} (hw : WRow h v (w :: ws)) : ∃ b o c, v = .slice b o (ws.length + 1) (ws.length + 1) ∧ b < h.nx ∧ h.get b = some (.cells c 70 true) ∧ c[o]? = some (.int .i64 w.cl) ∧ c[o + 1]? = some (.int .i64 w.til) ∧ WRow h (.slice b (o + 1 * 2) ws.length ws.length) ws ∧ o + (ws.length + 1) * 2 = c.length := by
  rcases hw with ⟨_, h1⟩ | ⟨b, o, c, rfl, hb, hg, hl, hd⟩
  · cases h1
  · have e0 : (c.drop o).take 2 = w.cells := by rw [hd]; rfl
    obtain ⟨y0, y1⟩ := wcell_get e0
    simp only [List.length_cons] at hl
    refine ⟨b, o, c, rfl, hb, hg, y0, y1, .inr ⟨b, o + 1 * 2, c, rfl, hb, hg, by omega, ?_⟩, hl⟩
    rw [← List.drop_drop, hd]
    rfl
def RvI (T : Int) (D0 : RD) (p0 : PL) (h0 : H) (m : Nat) (env : Env) (h' : H) : Prop :=
  ∃ (D : RD) (p : PL), m = p.wts.length ∧ env 0 = .ptr D0.b 0 ∧ RStp D0 h0 D p h' ∧ Rk T p ∧ p.paused = p0.paused ∧ p.closed = p0.closed ∧ serveR p.wts.length p = serveR p0.wts.length p0 ∧ (p0.paused ∨ p0.closed → p = p0)
def RvR (T : Int) (D0 : RD) (p0 : PL) (h0 : H) (D1 : RD) (p1 : PL) (w : WT) (ws : List WT) (env : Env) (h' : H) : Prop :=
  env 0 = .ptr D1.b 0 ∧ ∃ (D : RD) (p : PL), RStp D0 h0 D p h' ∧ D.b = D1.b ∧ p.wts = w :: ws ∧ p.paused = p0.paused ∧ p.closed = p0.closed ∧ serve1 p1 = some { p with wts := ws }
variable {S : Set0} (hS : StdP S)
include hS
theorem rserve_spec {T : Int} {D : RD} {p : PL} {h : H} (r : RR D p h) (K : Rk T p) : callW S.cfg (rowns D) 63 [.ptr D.b 0] h fun _ h' => ∃ D', RStp D h D' (serveF p) h' := by
  refine into Tryz.f63 _ Tryz.func63 (hS.ownP _ (by decide)) rfl rfl (by kernel_rfl) (by kernel_rfl) ?_
  simp +contextual (disch := first | simp only [fq]; done | omega | simp only [Knx]; omega) only [fV, reduceLE, reduceLT, reduceLeDiff, ↓reduceIte, reduceEqDiff, reduceAdd, reduceCtorEq, reduceToNat, Tryz.f63]
  refine run_loop (RvI T D p h) p.wts.length ⟨D, p, rfl, rfl, RStp.refl r, K, rfl, rfl, rfl, fun _ => rfl⟩ ?_
  rintro m env h1 ⟨D1, p1, rfl, e0, st, K1, hpa, hcl, hsr, hst⟩
  have r1 := st.rr
  have hb := st.b
  have hp := r1.pool
  unfold rcells at hp
  rw [← hb] at e0
  have hwl := r1.wts.wts.len
  by_cases hq : p1.paused
  · have hq0 : p.paused := hpa ▸ hq
    have e : serveF p = p := if_pos (.inl hq0)
    simp +contextual (disch := first | simp only [fq]; done | omega | simp only [Knx]; omega) only [fV, reduceLE, reduceLT, reduceLeDiff, ↓reduceIte, reduceEqDiff, reduceAdd, reduceCtorEq, reduceToNat, Tryz.f63, e0, hp, hq]
    exact ⟨D1, by rw [e, ← hst (.inl hq0)]; exact st⟩
  by_cases hc : p1.closed
  · have hc0 : p.closed := hcl ▸ hc
    have e : serveF p = p := if_pos (.inr hc0)
    simp +contextual (disch := first | simp only [fq]; done | omega | simp only [Knx]; omega) only [fV, reduceLE, reduceLT, reduceLeDiff, ↓reduceIte, reduceEqDiff, reduceAdd, reduceCtorEq, reduceToNat, Tryz.f63, e0, hp, hq, hc]
    exact ⟨D1, by rw [e, ← hst (.inr hc0)]; exact st⟩
  have hsf : serveF p = serveR p.wts.length p := if_neg (fun q => q.elim (fun q => hq (hpa.symm ▸ q)) (fun q => hc (hcl.symm ▸ q)))
  cases hws : p1.wts with
  | nil =>
    have hnl : ¬ 0 < p1.wts.length := by rw [hws]; exact Nat.lt_irrefl 0
    have hsr' : p1 = serveR p.wts.length p := by rw [← hsr, hws]; rfl
    simp +contextual (disch := first | simp only [fq]; done | omega | simp only [Knx]; omega) only [fV, reduceLE, reduceLT, reduceLeDiff, ↓reduceIte, reduceEqDiff, reduceAdd, reduceCtorEq, reduceToNat, Tryz.f63, e0, hp, hq, hc, hwl, hnl]
    exact ⟨D1, by rw [hsf, ← hsr']; exact st⟩
  | cons w ws =>
    have hlw : 0 < p1.wts.length := by rw [hws]; exact Nat.succ_pos _
    have hw1 := r1.wts
    rw [hws] at hw1
    obtain ⟨wb, wo, wc, hwv, hwn, hwg, y0, y1, htail, hwcl⟩ := hw1.opened
    have hlen : p1.wts.length = ws.length + 1 := by rw [hws]; rfl
    have hp2 := hp
    rw [hwv] at hp2
    have hw00 : (0 : Int) < ((ws.length + 1 : Nat) : Int) := by omega
    simp +contextual (disch := first | simp only [fq]; done | omega | simp only [Knx]; omega) only [fV, reduceLE, reduceLT, reduceLeDiff, ↓reduceIte, reduceEqDiff, reduceAdd, reduceCtorEq, reduceToNat, Tryz.f63, e0, hp2, hq, hc, hwg, y0, Nat.succ_pos]
    refine callF_pure (rlongest_spec hS r1 w.cl) ?_
    rintro v h2 hx2 rfl
    have r2 := r1.ext hx2
    have hwne : w.cl ≠ 0 := K1.cl w (by rw [hws]; exact .head _)
    have hpick := pickD_chosen hwne p1.conns
    simp +contextual (disch := first | simp only [fq]; done | omega | simp only [Knx]; omega) only [wpyr, fW, reduceLE, reduceLT, reduceLeDiff, ↓reduceIte, reduceEqDiff, reduceAdd, reduceCtorEq, reduceToNat, Tryz.f63, e0]
    refine run_cut (fun env' h' => env' 0 = .ptr D1.b 0 ∧ env' 2 = .int .i64 w.cl ∧ env' 3 = .int .i64 (bestV (pickD w.cl p1.conns)) ∧ Ext h2 h') ?_ ?_
    · cases hB : bestR w.cl p1.conns 0 none with
      | some x =>
        have hpd : pickD w.cl p1.conns = some x := by unfold pickD; rw [hB]
        have hnl : ¬ bestV (some x) < 0 := by show ¬ (x.1 : Int) < 0; omega
        simp +contextual (disch := first | simp only [fq]; done | omega | simp only [Knx]; omega) only [fV, reduceLE, reduceLT, reduceLeDiff, ↓reduceIte, reduceEqDiff, reduceAdd, reduceCtorEq, reduceToNat, Tryz.f63, e0, hnl, hpd]
        exact Ext.refl _
      | none =>
        have hpd : pickD w.cl p1.conns = bestR 0 p1.conns 0 none := by unfold pickD; rw [hB]
        simp +contextual (disch := first | simp only [fq]; done | omega | simp only [Knx]; omega) only [fV, reduceLE, reduceLT, reduceLeDiff, ↓reduceIte, reduceEqDiff, reduceAdd, reduceCtorEq, reduceToNat, Tryz.f63, e0, bestV_none, Int.reduceLT]
        refine callF_pure (rlongest_spec hS r2 0) ?_
        rintro v h3 hx3 rfl
        simp +contextual (disch := first | simp only [fq]; done | omega | simp only [Knx]; omega) only [fV, reduceLE, reduceLT, reduceLeDiff, ↓reduceIte, reduceEqDiff, reduceAdd, reduceCtorEq, reduceToNat, Tryz.f63, e0, hpd]
        exact hx3
    rintro env1 h3 ⟨e0, e2, e3, hx3⟩
    have r3 := r2.ext hx3
    have st3 := st.trans (RStp.ext r1 (hx2.trans hx3))
    have hp3 := r3.pool
    unfold rcells at hp3
    have hown : ∀ {D2 : RD} {p2 : PL} {h2 : H}, RStp D h D2 p2 h2 → ∀ k, rowns D2 k → fresh h.nx (rowns D) k := fun s k q => by rw [fresh_def]; exact (s.own k q).elim .inr .inl
    have hm1 := K1.mvs
    have ht1 := K1.top
    have htt := K1.tt
    have hpo := K1.pos
    rw [hws] at hm1 ht1
    simp only [List.length_cons] at hm1 ht1
    rw [run_seq]
    refine run_cut (RvR T D p h D1 p1 w ws) ?_ ?_
    · cases hP : pickD w.cl p1.conns with
      | some x =>
        obtain ⟨i, c⟩ := x
        have hci := pickD_idx hP
        have hil : i < p1.conns.length := by
          rcases Nat.lt_or_ge i p1.conns.length with q | q
          · exact q
          · rw [List.getElem?_eq_none q] at hci; cases hci
        have eic : p1.conns[i] = c := by rw [List.getElem?_eq_getElem hil] at hci; exact Option.some.inj hci
        obtain ⟨cb, hcv, _, hcb, hcg⟩ := pc_row r3.conns (by omega)
        obtain ⟨u0, u1, u2, u3⟩ := four_at (pccells_at hil)
        rw [eic] at u0
        rw [hP, bestV_some] at e3
        rw [hcv] at hp3
        have hge : (0 : Int) ≤ (i : Int) := by omega
        have hci' : chosenC p1.conns w.cl = some c := by rw [← hpick, hP]; rfl
        have s1 : listPut (pccells p1.conns) (i * 4) [V.int IntKind.i64 c.num, V.int IntKind.i64 2, V.int IntKind.i64 w.cl, V.int IntKind.i64 0] = pccells (p1.conns.set i ⟨c.num, 2, w.cl, 0⟩) := pccells_put ⟨c.num, 2, w.cl, 0⟩ _ _ hil
        have s2 : i * 4 + 4 ≤ (pccells p1.conns).length := by rw [pccells_len]; omega
        simp +contextual (disch := first | simp only [fq]; done | omega | simp only [Knx]; omega) only [wpyr, fW, reduceLE, reduceLT, reduceLeDiff, ↓reduceIte, reduceEqDiff, reduceAdd, reduceCtorEq, reduceToNat, Tryz.f63, e0, e2, e3, hge]
        refine cond_yes (p := True) (by simp +contextual (disch := first | simp only [fq]; done | omega | simp only [Knx]; omega) only [fV, reduceLE, reduceLT, reduceLeDiff, ↓reduceIte, reduceEqDiff, reduceAdd, reduceCtorEq, reduceToNat, hge]) trivial ?_
        simp +contextual (disch := first | simp only [fq]; done | omega | simp only [Knx]; omega) only [wpyr, fW, reduceLE, reduceLT, reduceLeDiff, ↓reduceIte, reduceEqDiff, reduceAdd, reduceCtorEq, reduceToNat, Tryz.f63, e0, e2, e3, hge]
        refine draw_by [] (by kernel_rfl) ?_
        simp +contextual (disch := first | simp only [fq]; done | omega | simp only [Knx]; omega) only [wpyr, fW, reduceLE, reduceLT, reduceLeDiff, ↓reduceIte, reduceEqDiff, reduceAdd, reduceCtorEq, reduceToNat, Tryz.f63, e0, e2, e3, hp3, hil, hcg, u0, s1, s2]
        have s4 := RStp.putc r3 (l' := p1.conns.set i ⟨c.num, 2, w.cl, 0⟩) hcv (List.length_set ..) (by omega)
        obtain ⟨h4, hh4⟩ : ∃ h4, h4 = h3.put cb (.cells (pccells (p1.conns.set i ⟨c.num, 2, w.cl, 0⟩)) 65 true) := ⟨_, rfl⟩
        rw [← hh4] at s4
        have hg4 : h4.get cb = some (.cells (pccells (p1.conns.set i ⟨c.num, 2, w.cl, 0⟩)) 65 true) := by rw [hh4]; exact put_eq rfl
        have hil2 : i < (p1.conns.set i ⟨c.num, 2, w.cl, 0⟩).length := by rw [List.length_set]; exact hil
        obtain ⟨q0, _, _, _⟩ := four_at (pccells_at hil2)
        rw [List.getElem_set_self] at q0
        have st4 := st3.trans s4
        have hp4 := s4.rr.pool
        unfold rcells at hp4
        simp only [hcv] at hp4
        rw [← hh4]
        have hocb := hown st3 cb (.inr (.inl ⟨_, _, _, hcv⟩))
        rw [fresh_def] at hocb
        refine ⟨.inr hocb, fun p hp => (by cases hp), ?_⟩
        simp +contextual (disch := first | simp only [fq]; done | omega | simp only [Knx]; omega) only [fV, reduceLE, reduceLT, reduceLeDiff, ↓reduceIte, reduceEqDiff, reduceAdd, reduceCtorEq, reduceToNat, Tryz.f63, e0, e2, e3, hp4, hil, hg4, q0]
        refine callF_of (rmove_spec hS s4.rr 2 c.num w.cl (by show p1.moves.length ≤ _; omega)) (hown st4) ?_
        rintro v h5 ⟨mv, s5⟩
        simp +contextual (disch := first | simp only [fq]; done | omega | simp only [Knx]; omega) only [fV, reduceLE, reduceLT, reduceLeDiff, ↓reduceIte, reduceEqDiff, reduceAdd, reduceCtorEq, reduceToNat, Tryz.f63, e0]
        refine ⟨e0, _, _, st4.trans s5, rfl, hws, hpa, hcl, ?_⟩
        rw [serve1_give hws hci', map_num_set K1.nd hci]
        rfl
      | none =>
        rw [hP, bestV_none] at e3
        have hci' : chosenC p1.conns w.cl = none := by rw [← hpick, hP]; rfl
        have hlc := pc_len r3.conns
        simp +contextual (disch := first | simp only [fq]; done | omega | simp only [Knx]; omega) only [fV, reduceLE, reduceLT, reduceLeDiff, ↓reduceIte, reduceEqDiff, reduceAdd, reduceCtorEq, reduceToNat, Tryz.f63, e0, e2, e3, Int.reduceLE]
        refine draw_by [] (by kernel_rfl) ?_
        by_cases hroom : (p1.conns.length : Int) < p1.lim
        · have hwl1 : IntKind.i64.wrap (p1.last + 1) = p1.last + 1 := i64_in _ (by omega)
          simp +contextual (disch := first | simp only [fq]; done | omega | simp only [Knx]; omega) only [fV, reduceLE, reduceLT, reduceLeDiff, ↓reduceIte, reduceEqDiff, reduceAdd, reduceCtorEq, reduceToNat, Tryz.f63, e0, e2, e3, hp3, hlc, hroom, hwl1]
          have hob := hown st3 D1.b (.inl rfl)
          rw [fresh_def] at hob
          refine ⟨fun p hp => (by cases hp), .inr hob, ?_⟩
          obtain ⟨n1, n2, n3, n4, n5, n6⟩ := r3.ne
          have hf3 := r3.few
          have s4 := RStp.set (h4 := h3) (D' := D1) (p' := { p1 with last := p1.last + 1 }) r3 (Nat.le_refl _) (fun _ _ _ => rfl) rfl r3.conns r3.wts r3.mvs r3.few (fun k o n m q => by
            rcases q with q | q | q
            · exact ⟨n1 k o n m q, .inl (.inr (.inl ⟨o, n, m, q⟩))⟩
            · exact ⟨n2 k o n m q, .inl (.inr (.inr (.inl ⟨o, n, m, q⟩)))⟩
            · exact ⟨n3 k o n m q, .inl (.inr (.inr (.inr ⟨o, n, m, q⟩)))⟩)
          obtain ⟨h4, hh4⟩ : ∃ h4, h4 = h3.put D1.b (.cells (rcells D1 { p1 with last := p1.last + 1 }) 58 false) := ⟨_, rfl⟩
          rw [← hh4] at s4
          have hn43 : h4.nx = h3.nx := by rw [hh4]; rfl
          unfold rcells at hh4
          simp only at hh4
          rw [← hh4]
          have st4 := st3.trans s4
          have r4 := s4.rr
          have hp4 := r4.pool
          unfold rcells at hp4
          simp only at hp4
          refine draw_by [(4, 11)] (by kernel_rfl) ?_
          simp +contextual (disch := first | simp only [fq]; done | omega | simp only [Knx]; omega) only [wpyr, fW, reduceLE, reduceLT, reduceLeDiff, ↓reduceIte, reduceEqDiff, reduceAdd, reduceCtorEq, reduceToNat, Tryz.f63, e0, e2, e3, hp4]
          obtain ⟨hA, hhA⟩ : ∃ hA, hA = h4.push (Ob.cells [V.int IntKind.i64 (p1.last + 1), V.int IntKind.i64 1, V.int IntKind.i64 w.cl, V.int IntKind.i64 0] 65 false) := ⟨_, rfl⟩
          rw [← hhA]
          have hxA : Ext h4 hA := by rw [hhA]; exact (Ext.refl h4).push _
          have hgA : hA.get h4.nx = some (Ob.cells [V.int IntKind.i64 (p1.last + 1), V.int IntKind.i64 1, V.int IntKind.i64 w.cl, V.int IntKind.i64 0] 65 false) := by rw [hhA]; exact push_eq rfl
          have hnA : hA.nx = h4.nx + 1 := by rw [hhA]; rfl
          clear hhA
          have hlt4 := r4.lt
          have hpcl := pccells_len p1.conns
          refine append_fresh (n0 := 0) (sv := D1.cv) (cells := pccells p1.conns) (new := PC.cells ⟨p1.last + 1, 1, w.cl, 0⟩) rfl (b2 := h4.nx) (o2 := 0) (n := 1) (m := 1) rfl ap41 ⟨.slice 65, by kernel_rfl, rfl⟩ (Lst.ext r4.conns hxA) (by decide) (by rw [hgA]; exact rdC_all rfl) rfl rfl (by rw [hpcl]; show p1.conns.length * 4 + 4 ≤ _; omega) (by decide) (fun k ⟨o, n, m, q⟩ => hown st4 k (.inr (.inl ⟨o, n, m, q⟩))) (Nat.zero_le _) ?_
          intro v5 h5 L5 ha5 hx5 hk5 hL5
          obtain ⟨m1, m2, m3, m4, m5, m6⟩ := r4.ne
          have hold : ∀ k, k < h4.nx → (∀ o n m, D1.cv ≠ .slice k o n m) → h5.get k = h4.get k := fun k hk q => by rw [hk5 k (by omega) q, hxA.2 k hk]
          have hp5 : h5.get D1.b = _ := (hold D1.b hlt4 fun o n m q => m1 _ _ _ _ q rfl).trans hp4
          obtain ⟨c1, c2⟩ := ha5.cell
          simp +contextual (disch := first | simp only [fq]; done | omega | simp only [Knx]; omega) only [wpyr, fW, reduceLE, reduceLT, reduceLeDiff, ↓reduceIte, reduceEqDiff, reduceAdd, reduceCtorEq, reduceToNat, Tryz.f63, e0, e2, e3, hp5, c1, c2]
          have hlim := K1.lim
          have s5 := RStp.set (h4 := h5) (D' := { D1 with cv := v5 }) (p' := { p1 with last := p1.last + 1, conns := p1.conns ++ [⟨p1.last + 1, 1, w.cl, 0⟩] }) r4 (by omega) (fun k hk ho => hold k hk fun o n m q => ho (.inr (.inl ⟨o, n, m, q⟩))) rfl (.inl (by show Wx.Acc 0 h5 v5 (pccells (p1.conns ++ [_])) 65 4; rw [pccells_app]; exact ha5.mono (Nat.zero_le _))) (r4.wts.keep (by omega) fun k o n m q => hold k (r4.wts.lt q).1 fun o' n' m' q' => m4 k _ _ _ _ _ _ q' q) (Lst.keep r4.mvs (by omega) fun k o n m q => hold k (Lst.lt r4.mvs q) fun o' n' m' q' => m5 k _ _ _ _ _ _ q' q) (by show (p1.conns ++ [_]).length ≤ _; rw [List.length_append]; simp only [List.length_cons, List.length_nil]; omega) (fun k o n m q => by
            rcases q with q | q | q
            · have := (ha5.blk q).1
              exact ⟨by omega, .inr (by omega)⟩
            · exact ⟨m2 k o n m q, .inl (.inr (.inr (.inl ⟨o, n, m, q⟩)))⟩
            · exact ⟨m3 k o n m q, .inl (.inr (.inr (.inr ⟨o, n, m, q⟩)))⟩)
          have st5 := st4.trans s5
          refine ⟨.inr hob, fun p hp => ?_, ?_⟩
          · have hp : p = (4, 11) := by simpa using hp
            subst hp
            exact pair_one rfl rfl (apart_blk fun x hx y hy => by
              rw [List.mem_singleton.1 (show x ∈ [_] from hx), List.mem_singleton.1 hy]
              show ¬ D1.b = h4.nx
              omega)
          refine callF_of (rmove_spec hS (D := { D1 with cv := v5 }) s5.rr 1 (p1.last + 1) w.cl (by show p1.moves.length ≤ _; omega)) (hown st5) ?_
          rintro v h6 ⟨mv, s6⟩
          simp +contextual (disch := first | simp only [fq]; done | omega | simp only [Knx]; omega) only [fV, reduceLE, reduceLT, reduceLeDiff, ↓reduceIte, reduceEqDiff, reduceAdd, reduceCtorEq, reduceToNat, Tryz.f63, e0]
          refine ⟨e0, _, _, st5.trans s6, rfl, hws, hpa, hcl, ?_⟩
          rw [serve1_open hws hci' hroom]
          rfl
        · simp +contextual (disch := first | simp only [fq]; done | omega | simp only [Knx]; omega) only [fV, reduceLE, reduceLT, reduceLeDiff, ↓reduceIte, reduceEqDiff, reduceAdd, reduceCtorEq, reduceToNat, Tryz.f63, e0, e2, e3, hp3, hlc, hroom]
          refine ⟨fun p hp => (by cases hp), D1, ?_⟩
          have e : serveF p = p1 := by
            rw [hsf, ← hsr, hws]
            show (match serve1 p1 with | some q => serveR ws.length q | none => p1) = p1
            rw [serve1_none hws hci' hroom]
          rw [e]
          exact st3
    · rintro env' h4 ⟨e0', D4, p4, st4, eb4, ew4, q1, q2, hse⟩
      have r4 := st4.rr
      have hp4 := r4.pool
      unfold rcells at hp4
      rw [← eb4] at e0'
      have hw4 := r4.wts
      rw [ew4] at hw4
      obtain ⟨vb, vo, vc, hvv, hvn, hvg, _, _, hvt, hvl⟩ := hw4.opened
      have hp5 := hp4
      rw [hvv] at hp5
      simp +contextual (disch := first | simp only [fq]; done | omega | simp only [Knx]; omega) only [fV, reduceLE, reduceLT, reduceLeDiff, ↓reduceIte, reduceEqDiff, reduceAdd, reduceCtorEq, reduceToNat, Tryz.f63, e0', hp5]
      refine slice_row (e := 70) (sz := 2) (b := vb) (o := vo) (n := ws.length + 1) (m := ws.length + 1) (l := 1) (hh := ws.length + 1) (mm := ws.length + 1) (by kernel_rfl) (by kernel_rfl) rfl (by rw [hvg]; rfl) (fun _ => rfl) (by simp +contextual (disch := first | simp only [fq]; done | omega | simp only [Knx]; omega) only [fV, reduceLE, reduceLT, reduceLeDiff, ↓reduceIte, reduceEqDiff, reduceAdd, reduceCtorEq, reduceToNat]; exact bounds_lo (a := 1) (by omega) (Nat.le_refl _)) (Nat.le_refl _) ?_
      simp +contextual (disch := first | simp only [fq]; done | omega | simp only [Knx]; omega) only [fV, reduceLE, reduceLT, reduceLeDiff, ↓reduceIte, reduceEqDiff, reduceAdd, reduceCtorEq, reduceToNat, Tryz.f63, e0', hp5]
      have hob := hown st4 D4.b (.inl rfl)
      rw [fresh_def] at hob
      obtain ⟨n1, n2, n3, n4, n5, n6⟩ := r4.ne
      have s5 := RStp.set (h4 := h4) (D' := { D4 with wv := .slice vb (vo + 1 * 2) ws.length ws.length }) (p' := { p4 with wts := ws }) r4 (Nat.le_refl _) (fun _ _ _ => rfl) rfl r4.conns hvt r4.mvs r4.few (fun k o n m q => by
        rcases q with q | q | q
        · exact ⟨n1 k o n m q, .inl (.inr (.inl ⟨o, n, m, q⟩))⟩
        · cases q
          exact ⟨n2 _ _ _ _ hvv, .inl (.inr (.inr (.inl ⟨_, _, _, hvv⟩)))⟩
        · exact ⟨n3 k o n m q, .inl (.inr (.inr (.inr ⟨o, n, m, q⟩)))⟩)
      refine ⟨.inr hob, ws.length, by omega, { D4 with wv := .slice vb (vo + 1 * 2) ws.length ws.length }, { p4 with wts := ws }, rfl, by simp +contextual (disch := first | simp only [fq]; done | omega | simp only [Knx]; omega) only [fV, reduceLE, reduceLT, reduceLeDiff, ↓reduceIte, reduceEqDiff, reduceAdd, reduceCtorEq, reduceToNat, e0', eb4, hb], st4.trans s5, K1.serve1 hse, q1, q2, ?_, fun q => absurd q (fun q => q.elim (fun q => hq (hpa.symm ▸ q)) (fun q => hc (hcl.symm ▸ q)))⟩
      rw [← hsr, hws]
      show serveR ws.length { p4 with wts := ws } = (match serve1 p1 with | some q => serveR ws.length q | none => p1)
      rw [hse]
end
noncomputable section
def ROp (D : RD) (h : H) (r : Res) (v : V) (h' : H) : Prop :=
  ∃ (D' : RD) (mv : V), v = .tuple [mv, .int .i64 r.1] ∧ RStp D h D' r.2.2 h' ∧ Lst 0 h' mv (mcells r.2.1) 63 3 ∧ ∀ k o n m, mv = .slice k o n m → ¬ rowns D' k
theorem ROp.bad {D : RD} {p : PL} {h : H} (r : RR D p h) (e : Int) : ROp D h (e, [], p) (.tuple [.nilslice, .int .i64 e]) h :=
  ⟨D, .nilslice, rfl, RStp.refl r, .inl (.inl ⟨rfl, rfl⟩), fun k o n m q => (by cases q)⟩
theorem place_cases (p : PL) (n : Int) : (pcI n p.conns 0 = none ∧ p.get n = none) ∨ ∃ i c, pcI n p.conns 0 = some i ∧ i < p.conns.length ∧ p.conns[i]? = some c ∧ c.num = n ∧ p.get n = some c := by
  have hf := pcI_find (n := n) p.conns 0
  cases hp : pcI n p.conns 0 with
  | none => rw [hp] at hf; exact .inl ⟨rfl, hf.symm⟩
  | some i =>
    rw [hp] at hf
    obtain ⟨_, c, hc, hn⟩ := pcI_some hp
    rw [Nat.sub_zero] at hc
    have hlt : i < p.conns.length := by
      rcases Nat.lt_or_ge i p.conns.length with q | q
      · exact q
      · rw [List.getElem?_eq_none q] at hc; cases hc
    refine .inr ⟨i, c, rfl, hlt, hc, hn, ?_⟩
    have hf : p.conns[i - 0]? = p.get n := hf
    rw [← hf, Nat.sub_zero, hc]
theorem set_eq {p : PL} (hn : (p.conns.map PC.num).Nodup) {i : Nat} {c : PC} {n : Int} (hi : p.conns[i]? = some c) (hc : c.num = n) (c' : PC) : p.set n c' = { p with conns := p.conns.set i ⟨n, c'.st, c'.cl, c'.since⟩ } := by
  have := map_num_set (c' := ⟨n, c'.st, c'.cl, c'.since⟩) hn hi
  rw [hc] at this
  unfold PL.set
  rw [← this]
  congr 1
  refine List.map_congr_left fun x _ => ?_
  by_cases e : x.num = n
  · rw [if_pos e, if_pos e, e]
  · rw [if_neg e, if_neg e]
theorem del_eq {p : PL} (hn : (p.conns.map PC.num).Nodup) {i : Nat} {c : PC} {n : Int} (hi : p.conns[i]? = some c) (hc : c.num = n) : p.del n = { p with conns := p.conns.eraseIdx i } := by
  have := filter_erase hn hi
  rw [hc] at this
  unfold PL.del
  rw [← this]
theorem Rk.del {T : Int} {p : PL} (h : Rk T p) (n : Int) : Rk T (p.del n) := ⟨List.Nodup.sublist (List.filter_sublist.map _) h.nd, fun c hc => h.num c (List.mem_filter.1 hc).1, h.cl, h.dist, h.top, h.tt, h.pos, h.mvs, h.lim⟩
theorem Rk.set {T : Int} {p : PL} (h : Rk T p) (n : Int) (c' : PC) : Rk T (p.set n c') := by
  have e : (p.set n c').conns.map PC.num = p.conns.map PC.num := by
    show (p.conns.map _).map PC.num = _
    rw [List.map_map]
    refine List.map_congr_left fun x _ => ?_
    show PC.num (if x.num = n then _ else x) = x.num
    split <;> rfl
  refine ⟨by rw [e]; exact h.nd, fun x hx => ?_, h.cl, h.dist, h.top, h.tt, h.pos, h.mvs, h.lim⟩
  obtain ⟨y, hy, rfl⟩ := List.mem_map.1 hx
  have := h.num y hy
  by_cases e : y.num = n
  · rw [if_pos e]; exact this
  · rw [if_neg e]; exact this
theorem Rk.mov {T : Int} {p : PL} (h : Rk T p) (hm : p.moves = []) (hw : p.wts.length ≤ 800000) (a b c : Int) : Rk T (p.mov a b c) := ⟨h.nd, h.num, h.cl, h.dist, h.top, h.tt, h.pos, by show (p.moves ++ [_]).length + p.wts.length ≤ _; rw [hm]; show 1 + p.wts.length ≤ _; omega, h.lim⟩
variable {S : Set0} (hS : StdP S)
include hS
theorem rtold_end {D0 D : RD} {p : PL} {h0 h : H} {Ok : Nat → Prop} (st : RStp D0 h0 D p h) (hO : ∀ k, rowns D k → Ok k) {K : V → H → Fp → Prop} (hK : ∀ h' mv, ROp D0 h0 p.done (.tuple [mv, .int .i64 0]) h' → K mv h' (.cl h.nx h'.nx (rowns D))) : callF S.cfg Ok 65 [.ptr D.b 0] h K := by
  refine callF_of (rtold_spec hS st.rr) hO ?_
  rintro v h' ⟨rfl, s2, hsame⟩
  obtain ⟨n1, n2, n3, n4, n5, n6⟩ := st.rr.ne
  refine hK h' D.mv ⟨_, D.mv, rfl, st.trans s2, Lst.keep st.rr.mvs s2.nx fun k o n m q => hsame k (n3 k o n m q), fun k o n m q w => ?_⟩
  rcases w with w | ⟨_, _, _, w⟩ | ⟨_, _, _, w⟩ | ⟨_, _, _, w⟩
  · exact n3 k o n m q w
  · exact n5 _ _ _ _ _ _ _ w q
  · exact n6 _ _ _ _ _ _ _ w q
  · cases w
theorem ropened_spec {T : Int} {D : RD} {p : PL} {h : H} (r : RR D p h) (hm : p.moves = []) (K : Rk T p) (hw : p.wts.length ≤ 800000) (n : Int) (ok : Prop) : callW S.cfg (rowns D) 36 [.ptr D.b 0, .int .i64 n, bo ok] h (ROp D h (openedF p n ok)) := by
  refine into Tryz.f36 _ Tryz.func36 (hS.ownP _ (by decide)) rfl rfl (by kernel_rfl) (by kernel_rfl) ?_
  have hin := rin_spec hS r n 1
  have hp := r.pool
  unfold rcells at hp
  unfold openedF
  simp +contextual (disch := first | simp only [fq]; done | omega | simp only [Knx]; omega) only [fV, reduceLE, reduceLT, reduceLeDiff, ↓reduceIte, reduceEqDiff, reduceAdd, reduceCtorEq, reduceToNat, Tryz.f36]
  rcases place_cases p n with ⟨h1, h2⟩ | ⟨i, c, h1, hil, hci, hcn, h2⟩
  · rw [h1] at hin
    rw [h2]
    refine callF_exact hin ?_
    simp +contextual (disch := first | simp only [fq]; done | omega | simp only [Knx]; omega) only [fV, reduceLE, reduceLT, reduceLeDiff, ↓reduceIte, reduceEqDiff, reduceAdd, reduceCtorEq, reduceToNat, Tryz.f36, Int.reduceEq]
    exact ROp.bad r 281
  · rw [h1] at hin
    rw [h2]
    simp only [hci, Option.map_some, Option.some.injEq] at hin
    simp only
    by_cases hst : c.st = 1
    · rw [if_pos hst] at hin
      rw [if_neg (fun q => q hst)]
      refine callF_exact hin ?_
      have eic : p.conns[i] = c := by rw [List.getElem?_eq_getElem hil] at hci; exact Option.some.inj hci
      by_cases ho : ok
      · rw [if_pos ho]
        obtain ⟨cb, hcv, _, hcb, hcg⟩ := pc_row r.conns (by omega)
        rw [hcv] at hp
        have hpl := pccells_len p.conns
        have q1 : i * 4 + 1 + 1 ≤ (pccells p.conns).length := by omega
        have s1 : listPut (pccells p.conns) (i * 4 + 1) [V.int IntKind.i64 2] = pccells (p.conns.set i ⟨n, 2, c.cl, c.since⟩) := by
          rw [put_at _ _ _ (by omega), (pccells_set hil).1, eic, ← hcn]
        have s4 := RStp.putc r (l' := p.conns.set i ⟨n, 2, c.cl, c.since⟩) hcv (List.length_set ..) (by omega)
        obtain ⟨h4, hh4⟩ : ∃ h4, h4 = h.put cb (.cells (pccells (p.conns.set i ⟨n, 2, c.cl, c.since⟩)) 65 true) := ⟨_, rfl⟩
        rw [← hh4] at s4
        have hg4 : h4.get cb = some (.cells (pccells (p.conns.set i ⟨n, 2, c.cl, c.since⟩)) 65 true) := by rw [hh4]; exact put_eq rfl
        have hil2 : i < (p.conns.set i ⟨n, 2, c.cl, c.since⟩).length := by rw [List.length_set]; exact hil
        obtain ⟨_, _, q2, _⟩ := four_at (pccells_at hil2)
        rw [List.getElem_set_self] at q2
        have hp4 := s4.rr.pool
        unfold rcells at hp4
        simp only [hcv] at hp4
        simp +contextual (disch := first | simp only [fq]; done | omega | simp only [Knx]; omega) only [fV, reduceLE, reduceLT, reduceLeDiff, ↓reduceIte, reduceEqDiff, reduceAdd, reduceCtorEq, reduceToNat, Tryz.f36, Int.reduceEq, ho, hp, hil, hcg, s1, q1]
        rw [← hh4]
        refine ⟨.inr (.inr (.inr (.inl ⟨_, _, _, hcv⟩))), ?_⟩
        simp +contextual (disch := first | simp only [fq]; done | omega | simp only [Knx]; omega) only [fV, reduceLE, reduceLT, reduceLeDiff, ↓reduceIte, reduceEqDiff, reduceAdd, reduceCtorEq, reduceToNat, Tryz.f36, hp4, hg4, hil, q2]
        refine callF_of (rmove_spec hS s4.rr 2 n c.cl (by show p.moves.length ≤ _; rw [hm]; exact Nat.zero_le _)) (fun k q => by rw [fresh_def]; exact (s4.own k q).elim .inr .inl) ?_
        rintro v h5 ⟨mv, s5⟩
        have s45 := s4.trans s5
        simp +contextual (disch := first | simp only [fq]; done | omega | simp only [Knx]; omega) only [fV, reduceLE, reduceLT, reduceLeDiff, ↓reduceIte, reduceEqDiff, reduceAdd, reduceCtorEq, reduceToNat, Tryz.f36]
        rw [← set_eq K.nd hci hcn ⟨n, 2, c.cl, c.since⟩] at s45
        refine rtold_end hS s45 (fun k q => by rw [fresh_def]; exact (s45.own k q).elim .inr .inl) ?_
        rintro h6 mv6 hR
        simp +contextual (disch := first | simp only [fq]; done | omega | simp only [Knx]; omega) only [fV, reduceLE, reduceLT, reduceLeDiff, ↓reduceIte, reduceEqDiff, reduceAdd, reduceCtorEq, reduceToNat, Tryz.f36]
        exact hR
      · rw [if_neg ho]
        simp +contextual (disch := first | simp only [fq]; done | omega | simp only [Knx]; omega) only [fV, reduceLE, reduceLT, reduceLeDiff, ↓reduceIte, reduceEqDiff, reduceAdd, reduceCtorEq, reduceToNat, Tryz.f36, Int.reduceEq, ho]
        refine callF_of (rgone_spec hS r hil) (fun k q => by rw [fresh_def]; exact .inr q) ?_
        rintro v h1 ⟨cv, s1⟩
        rw [← del_eq K.nd hci hcn] at s1
        simp +contextual (disch := first | simp only [fq]; done | omega | simp only [Knx]; omega) only [fV, reduceLE, reduceLT, reduceLeDiff, ↓reduceIte, reduceEqDiff, reduceAdd, reduceCtorEq, reduceToNat, Tryz.f36]
        refine callF_of (rserve_spec hS (D := { D with cv := cv }) s1.rr (K.del n)) (fun k q => by rw [fresh_def]; exact (s1.own k q).elim .inr .inl) ?_
        rintro v h2 ⟨D2, s2⟩
        have s12 := s1.trans s2
        have eb := s12.b
        simp +contextual (disch := first | simp only [fq]; done | omega | simp only [Knx]; omega) only [fV, reduceLE, reduceLT, reduceLeDiff, ↓reduceIte, reduceEqDiff, reduceAdd, reduceCtorEq, reduceToNat, Tryz.f36]
        rw [← eb]
        refine rtold_end hS s12 (fun k q => by rw [fresh_def]; exact (s12.own k q).elim .inr .inl) ?_
        rintro h3 mv hR
        simp +contextual (disch := first | simp only [fq]; done | omega | simp only [Knx]; omega) only [fV, reduceLE, reduceLT, reduceLeDiff, ↓reduceIte, reduceEqDiff, reduceAdd, reduceCtorEq, reduceToNat, Tryz.f36]
        exact hR
    · rw [if_neg hst] at hin
      rw [if_pos hst]
      refine callF_exact hin ?_
      simp +contextual (disch := first | simp only [fq]; done | omega | simp only [Knx]; omega) only [fV, reduceLE, reduceLT, reduceLeDiff, ↓reduceIte, reduceEqDiff, reduceAdd, reduceCtorEq, reduceToNat, Tryz.f36, Int.reduceEq]
      exact ROp.bad r 282
theorem rlost_spec {T : Int} {D : RD} {p : PL} {h : H} (r : RR D p h) (K : Rk T p) (n : Int) : callW S.cfg (rowns D) 39 [.ptr D.b 0, .int .i64 n] h (ROp D h (lostF p n)) := by
  refine into Tryz.f39 _ Tryz.func39 (hS.ownP _ (by decide)) rfl rfl (by kernel_rfl) (by kernel_rfl) ?_
  have hin := rplace_spec hS r n
  unfold lostF
  simp +contextual (disch := first | simp only [fq]; done | omega | simp only [Knx]; omega) only [fV, reduceLE, reduceLT, reduceLeDiff, ↓reduceIte, reduceEqDiff, reduceAdd, reduceCtorEq, reduceToNat, Tryz.f39]
  rcases place_cases p n with ⟨h1, h2⟩ | ⟨i, c, h1, hil, hci, hcn, h2⟩
  · rw [h1] at hin
    rw [h2]
    refine callF_exact hin ?_
    simp +contextual (disch := first | simp only [fq]; done | omega | simp only [Knx]; omega) only [fV, reduceLE, reduceLT, reduceLeDiff, ↓reduceIte, reduceEqDiff, reduceAdd, reduceCtorEq, reduceToNat, Tryz.f39, Int.reduceEq]
    exact ROp.bad r 281
  · rw [h1] at hin
    rw [h2]
    refine callF_exact hin ?_
    simp +contextual (disch := first | simp only [fq]; done | omega | simp only [Knx]; omega) only [fV, reduceLE, reduceLT, reduceLeDiff, ↓reduceIte, reduceEqDiff, reduceAdd, reduceCtorEq, reduceToNat, Tryz.f39, Int.reduceEq]
    refine callF_of (rgone_spec hS r hil) (fun k q => by rw [fresh_def]; exact .inr q) ?_
    rintro v h1 ⟨cv, s1⟩
    rw [← del_eq K.nd hci hcn] at s1
    simp +contextual (disch := first | simp only [fq]; done | omega | simp only [Knx]; omega) only [fV, reduceLE, reduceLT, reduceLeDiff, ↓reduceIte, reduceEqDiff, reduceAdd, reduceCtorEq, reduceToNat, Tryz.f39]
    refine callF_of (rserve_spec hS (D := { D with cv := cv }) s1.rr (K.del n)) (fun k q => by rw [fresh_def]; exact (s1.own k q).elim .inr .inl) ?_
    rintro v h2 ⟨D2, s2⟩
    have s12 := s1.trans s2
    have eb := s12.b
    simp +contextual (disch := first | simp only [fq]; done | omega | simp only [Knx]; omega) only [fV, reduceLE, reduceLT, reduceLeDiff, ↓reduceIte, reduceEqDiff, reduceAdd, reduceCtorEq, reduceToNat, Tryz.f39]
    rw [← eb]
    refine rtold_end hS s12 (fun k q => by rw [fresh_def]; exact (s12.own k q).elim .inr .inl) ?_
    rintro h3 mv hR
    simp +contextual (disch := first | simp only [fq]; done | omega | simp only [Knx]; omega) only [fV, reduceLE, reduceLT, reduceLeDiff, ↓reduceIte, reduceEqDiff, reduceAdd, reduceCtorEq, reduceToNat, Tryz.f39]
    exact hR
theorem rrelease_spec {T : Int} {D : RD} {p : PL} {h : H} (r : RR D p h) (hm : p.moves = []) (K : Rk T p) (hw : p.wts.length ≤ 800000) (n : Int) : callW S.cfg (rowns D) 37 [.ptr D.b 0, .int .i64 n] h (ROp D h (releaseF p n)) := by
  refine into Tryz.f37 _ Tryz.func37 (hS.ownP _ (by decide)) rfl rfl (by kernel_rfl) (by kernel_rfl) ?_
  have hin := rin_spec hS r n 2
  have hp := r.pool
  unfold rcells at hp
  have hlc := pc_len r.conns
  have hml : p.moves.length ≤ 1000000 := by rw [hm]; exact Nat.zero_le _
  unfold releaseF
  simp +contextual (disch := first | simp only [fq]; done | omega | simp only [Knx]; omega) only [fV, reduceLE, reduceLT, reduceLeDiff, ↓reduceIte, reduceEqDiff, reduceAdd, reduceCtorEq, reduceToNat, Tryz.f37]
  rcases place_cases p n with ⟨h1, h2⟩ | ⟨i, c, h1, hil, hci, hcn, h2⟩
  · rw [h1] at hin
    rw [h2]
    refine callF_exact hin ?_
    simp +contextual (disch := first | simp only [fq]; done | omega | simp only [Knx]; omega) only [fV, reduceLE, reduceLT, reduceLeDiff, ↓reduceIte, reduceEqDiff, reduceAdd, reduceCtorEq, reduceToNat, Tryz.f37, Int.reduceEq]
    exact ROp.bad r 281
  · rw [h1] at hin
    rw [h2]
    simp only [hci, Option.map_some, Option.some.injEq] at hin
    simp only
    by_cases hst : c.st = 2
    · rw [if_pos hst] at hin
      rw [if_neg (fun q => q hst)]
      refine callF_exact hin ?_
      have eic : p.conns[i] = c := by rw [List.getElem?_eq_getElem hil] at hci; exact Option.some.inj hci
      simp +contextual (disch := first | simp only [fq]; done | omega | simp only [Knx]; omega) only [fV, reduceLE, reduceLT, reduceLeDiff, ↓reduceIte, reduceEqDiff, reduceAdd, reduceCtorEq, reduceToNat, Tryz.f37, Int.reduceEq]
      refine draw_by [] (by kernel_rfl) ?_
      simp +contextual (disch := first | simp only [fq]; done | omega | simp only [Knx]; omega) only [wpyr, fW, reduceLE, reduceLT, reduceLeDiff, ↓reduceIte, reduceEqDiff, reduceAdd, reduceCtorEq, reduceToNat, Tryz.f37, hp, hlc]
      refine ⟨fun p hp => (by cases hp), ?_⟩
      by_cases hcl : p.closed ∨ (p.conns.length : Int) > p.lim
      · rw [if_pos hcl]
        have hcl' : (p.closed ∨ p.lim < (p.conns.length : Int)) = True := eq_true hcl
        simp +contextual (disch := first | simp only [fq]; done | omega | simp only [Knx]; omega) only [fV, reduceLE, reduceLT, reduceLeDiff, ↓reduceIte, reduceEqDiff, reduceAdd, reduceCtorEq, reduceToNat, Tryz.f37, hcl']
        refine callF_of (rclosedc_spec hS r hil hml) (fun k q => by rw [fresh_def]; exact .inr q) ?_
        rintro v h1 ⟨D1, s1⟩
        rw [eic, hcn, ← del_eq K.nd hci hcn] at s1
        simp +contextual (disch := first | simp only [fq]; done | omega | simp only [Knx]; omega) only [fV, reduceLE, reduceLT, reduceLeDiff, ↓reduceIte, reduceEqDiff, reduceAdd, reduceCtorEq, reduceToNat, Tryz.f37]
        have eb1 := s1.b
        rw [← eb1]
        refine callF_of (rserve_spec hS s1.rr ((K.del n).mov hm hw 6 n 0)) (fun k q => by rw [fresh_def]; exact (s1.own k q).elim .inr .inl) ?_
        rintro v h2 ⟨D2, s2⟩
        have s12 := s1.trans s2
        have eb := s2.b
        simp +contextual (disch := first | simp only [fq]; done | omega | simp only [Knx]; omega) only [fV, reduceLE, reduceLT, reduceLeDiff, ↓reduceIte, reduceEqDiff, reduceAdd, reduceCtorEq, reduceToNat, Tryz.f37]
        rw [← eb]
        refine rtold_end hS s12 (fun k q => by rw [fresh_def]; exact (s12.own k q).elim .inr .inl) ?_
        rintro h3 mv hR
        simp +contextual (disch := first | simp only [fq]; done | omega | simp only [Knx]; omega) only [fV, reduceLE, reduceLT, reduceLeDiff, ↓reduceIte, reduceEqDiff, reduceAdd, reduceCtorEq, reduceToNat, Tryz.f37]
        exact hR
      · rw [if_neg hcl]
        have hc1 : ¬ p.closed := fun q => hcl (.inl q)
        have hc3 : ¬ p.lim.toNat < p.conns.length := fun q => hcl (.inr (by omega))
        obtain ⟨cb, hcv, _, hcb, hcg⟩ := pc_row r.conns (by omega)
        rw [hcv] at hp
        have hpl := pccells_len p.conns
        have q1 : i * 4 + 1 + 1 ≤ (pccells p.conns).length := by omega
        have s1 : listPut (pccells p.conns) (i * 4 + 1) [V.int IntKind.i64 3] = pccells (p.conns.set i ⟨n, 3, c.cl, c.since⟩) := by
          rw [put_at _ _ _ (by omega), (pccells_set hil).1, eic, ← hcn]
        have s4 := RStp.putc r (l' := p.conns.set i ⟨n, 3, c.cl, c.since⟩) hcv (List.length_set ..) (by omega)
        obtain ⟨h4, hh4⟩ : ∃ h4, h4 = h.put cb (.cells (pccells (p.conns.set i ⟨n, 3, c.cl, c.since⟩)) 65 true) := ⟨_, rfl⟩
        rw [← hh4] at s4
        simp +contextual (disch := first | simp only [fq]; done | omega | simp only [Knx]; omega) only [fV, reduceLE, reduceLT, reduceLeDiff, ↓reduceIte, reduceEqDiff, reduceAdd, reduceCtorEq, reduceToNat, Tryz.f37, hc1, hc3, hp, hil, hcg, s1, q1]
        rw [← hh4]
        refine ⟨.inr (.inr (.inr (.inl ⟨_, _, _, hcv⟩))), ?_⟩
        refine callF_of (rmove_spec hS s4.rr 5 n 0 hml) (fun k q => by rw [fresh_def]; exact (s4.own k q).elim .inr .inl) ?_
        rintro v h5 ⟨mv, s5⟩
        have s45 := s4.trans s5
        simp +contextual (disch := first | simp only [fq]; done | omega | simp only [Knx]; omega) only [fV, reduceLE, reduceLT, reduceLeDiff, ↓reduceIte, reduceEqDiff, reduceAdd, reduceCtorEq, reduceToNat, Tryz.f37]
        rw [← set_eq K.nd hci hcn ⟨n, 3, c.cl, c.since⟩] at s45
        refine rtold_end hS s45 (fun k q => by rw [fresh_def]; exact (s45.own k q).elim .inr .inl) ?_
        rintro h6 mv6 hR
        simp +contextual (disch := first | simp only [fq]; done | omega | simp only [Knx]; omega) only [fV, reduceLE, reduceLT, reduceLeDiff, ↓reduceIte, reduceEqDiff, reduceAdd, reduceCtorEq, reduceToNat, Tryz.f37]
        exact hR
    · rw [if_neg hst] at hin
      rw [if_pos hst]
      refine callF_exact hin ?_
      simp +contextual (disch := first | simp only [fq]; done | omega | simp only [Knx]; omega) only [fV, reduceLE, reduceLT, reduceLeDiff, ↓reduceIte, reduceEqDiff, reduceAdd, reduceCtorEq, reduceToNat, Tryz.f37, Int.reduceEq]
      exact ROp.bad r 282
theorem rreset_spec {T : Int} {D : RD} {p : PL} {h : H} (r : RR D p h) (hm : p.moves = []) (K : Rk T p) (hw : p.wts.length ≤ 800000) (n : Int) (ok : Prop) : callW S.cfg (rowns D) 38 [.ptr D.b 0, .int .i64 n, bo ok] h (ROp D h (resetF p n ok)) := by
  refine into Tryz.f38 _ Tryz.func38 (hS.ownP _ (by decide)) rfl rfl (by kernel_rfl) (by kernel_rfl) ?_
  have hin := rin_spec hS r n 3
  have hp := r.pool
  unfold rcells at hp
  have hlc := pc_len r.conns
  have hml : p.moves.length ≤ 1000000 := by rw [hm]; exact Nat.zero_le _
  unfold resetF
  simp +contextual (disch := first | simp only [fq]; done | omega | simp only [Knx]; omega) only [fV, reduceLE, reduceLT, reduceLeDiff, ↓reduceIte, reduceEqDiff, reduceAdd, reduceCtorEq, reduceToNat, Tryz.f38]
  rcases place_cases p n with ⟨h1, h2⟩ | ⟨i, c, h1, hil, hci, hcn, h2⟩
  · rw [h1] at hin
    rw [h2]
    refine callF_exact hin ?_
    simp +contextual (disch := first | simp only [fq]; done | omega | simp only [Knx]; omega) only [fV, reduceLE, reduceLT, reduceLeDiff, ↓reduceIte, reduceEqDiff, reduceAdd, reduceCtorEq, reduceToNat, Tryz.f38, Int.reduceEq]
    exact ROp.bad r 281
  · rw [h1] at hin
    rw [h2]
    simp only [hci, Option.map_some, Option.some.injEq] at hin
    simp only
    by_cases hst : c.st = 3
    · rw [if_pos hst] at hin
      rw [if_neg (fun q => q hst)]
      refine callF_exact hin ?_
      have eic : p.conns[i] = c := by rw [List.getElem?_eq_getElem hil] at hci; exact Option.some.inj hci
      simp +contextual (disch := first | simp only [fq]; done | omega | simp only [Knx]; omega) only [fV, reduceLE, reduceLT, reduceLeDiff, ↓reduceIte, reduceEqDiff, reduceAdd, reduceCtorEq, reduceToNat, Tryz.f38, Int.reduceEq]
      refine draw_by [] (by kernel_rfl) ?_
      obtain ⟨px, hpx⟩ : ∃ px, px = (if ok ∧ ¬ p.closed ∧ (p.conns.length : Int) ≤ p.lim then p.set n ⟨n, 4, c.cl, p.now⟩ else (p.del n).mov 6 n 0) := ⟨_, rfl⟩
      rw [← hpx]
      simp +contextual (disch := first | simp only [fq]; done | omega | simp only [Knx]; omega) only [wpyr, fW, reduceLE, reduceLT, reduceLeDiff, ↓reduceIte, reduceEqDiff, reduceAdd, reduceCtorEq, reduceToNat, Tryz.f38, hp, hlc]
      refine ⟨fun p hp => (by cases hp), ?_⟩
      refine run_cut (fun env' h' => env' 0 = .ptr D.b 0 ∧ Rk T px ∧ ∃ D1, RStp D h D1 px h') ?_ ?_
      · by_cases hcl : ok ∧ ¬ p.closed ∧ (p.conns.length : Int) ≤ p.lim
        · rw [if_pos hcl] at hpx
          obtain ⟨c1, c2, c3⟩ := hcl
          have c3' : p.conns.length ≤ p.lim.toNat := by omega
          obtain ⟨cb, hcv, _, hcb, hcg⟩ := pc_row r.conns (by omega)
          rw [hcv] at hp hlc
          have hpl := pccells_len p.conns
          have q1 : i * 4 + 1 + 1 ≤ (pccells p.conns).length := by omega
          have s1 : listPut (pccells p.conns) (i * 4 + 1) [V.int IntKind.i64 4] = pccells (p.conns.set i ⟨n, 4, c.cl, c.since⟩) := by
            rw [put_at _ _ _ (by omega), (pccells_set hil).1, eic, ← hcn]
          have s4 := RStp.putc r (l' := p.conns.set i ⟨n, 4, c.cl, c.since⟩) hcv (List.length_set ..) (by omega)
          obtain ⟨h4, hh4⟩ : ∃ h4, h4 = h.put cb (.cells (pccells (p.conns.set i ⟨n, 4, c.cl, c.since⟩)) 65 true) := ⟨_, rfl⟩
          rw [← hh4] at s4
          have hg4 : h4.get cb = some (.cells (pccells (p.conns.set i ⟨n, 4, c.cl, c.since⟩)) 65 true) := by rw [hh4]; exact put_eq rfl
          have hp4 := s4.rr.pool
          unfold rcells at hp4
          simp only [hcv] at hp4
          have hil2 : i < (p.conns.set i ⟨n, 4, c.cl, c.since⟩).length := by rw [List.length_set]; exact hil
          have hpl2 := pccells_len (p.conns.set i ⟨n, 4, c.cl, c.since⟩)
          rw [List.length_set] at hpl2
          have q2 : i * 4 + 3 + 1 ≤ (pccells (p.conns.set i ⟨n, 4, c.cl, c.since⟩)).length := by omega
          have s2 : listPut (pccells (p.conns.set i ⟨n, 4, c.cl, c.since⟩)) (i * 4 + 3) [V.int IntKind.i64 p.now] = pccells (p.conns.set i ⟨n, 4, c.cl, p.now⟩) := by
            rw [put_at _ _ _ (by omega), (pccells_set hil2).2, List.getElem_set_self, List.set_set]
          have s6 := RStp.putc s4.rr (l' := p.conns.set i ⟨n, 4, c.cl, p.now⟩) (b := cb) (by rw [hcv, List.length_set]) (by rw [List.length_set, List.length_set]) (by rw [List.length_set]; omega)
          have hob : h.nx ≤ cb ∨ rowns D cb := .inr (.inr (.inl ⟨_, _, _, hcv⟩))
          simp +contextual (disch := first | simp only [fq]; done | omega | simp only [Knx]; omega) only [fV, reduceLE, reduceLT, reduceLeDiff, ↓reduceIte, reduceEqDiff, reduceAdd, reduceCtorEq, reduceToNat, Tryz.f38, c1, c2, c3, c3', hp, hil, hcg, s1, q1]
          rw [← hh4]
          refine ⟨.inr hob, ?_⟩
          refine draw_by [] (by kernel_rfl) ?_
          simp +contextual (disch := first | simp only [fq]; done | omega | simp only [Knx]; omega) only [fV, reduceLE, reduceLT, reduceLeDiff, ↓reduceIte, reduceEqDiff, reduceAdd, reduceCtorEq, reduceToNat, Tryz.f38, hp4, hil, hg4, s2, q2]
          refine ⟨.inr hob, fun p hp => (by cases hp), by rw [hpx]; exact K.set _ _, D, ?_⟩
          rw [hpx, set_eq K.nd hci hcn ⟨n, 4, c.cl, p.now⟩]
          exact s4.trans s6
        · rw [if_neg hcl] at hpx
          have hcl' : ((ok ∧ ¬ p.closed) ∧ (p.conns.length : Int) ≤ p.lim) = False := eq_false fun q => hcl ⟨q.1.1, q.1.2, q.2⟩
          simp +contextual (disch := first | simp only [fq]; done | omega | simp only [Knx]; omega) only [fV, reduceLE, reduceLT, reduceLeDiff, ↓reduceIte, reduceEqDiff, reduceAdd, reduceCtorEq, reduceToNat, Tryz.f38, hcl']
          refine callF_of (rclosedc_spec hS r hil hml) (fun k q => by rw [fresh_def]; exact .inr q) ?_
          rintro v h1 ⟨D1, s1⟩
          rw [eic, hcn, ← del_eq K.nd hci hcn] at s1
          simp +contextual (disch := first | simp only [fq]; done | omega | simp only [Knx]; omega) only [fV, reduceLE, reduceLT, reduceLeDiff, ↓reduceIte, reduceEqDiff, reduceAdd, reduceCtorEq, reduceToNat, Tryz.f38]
          exact ⟨by rw [hpx]; exact (K.del n).mov hm hw 6 n 0, D1, by rw [hpx]; exact s1⟩
      · rintro env' h1 ⟨e0, Kx, D1, s1⟩
        have eb1 := s1.b
        rw [← eb1] at e0
        simp +contextual (disch := first | simp only [fq]; done | omega | simp only [Knx]; omega) only [fV, reduceLE, reduceLT, reduceLeDiff, ↓reduceIte, reduceEqDiff, reduceAdd, reduceCtorEq, reduceToNat, Tryz.f38, e0]
        refine callF_of (rserve_spec hS s1.rr Kx) (fun k q => by rw [fresh_def]; exact (s1.own k q).elim .inr .inl) ?_
        rintro v h2 ⟨D2, s2⟩
        have s12 := s1.trans s2
        have eb := s2.b
        simp +contextual (disch := first | simp only [fq]; done | omega | simp only [Knx]; omega) only [fV, reduceLE, reduceLT, reduceLeDiff, ↓reduceIte, reduceEqDiff, reduceAdd, reduceCtorEq, reduceToNat, Tryz.f38, e0]
        rw [← eb]
        refine rtold_end hS s12 (fun k q => by rw [fresh_def]; exact (s12.own k q).elim .inr .inl) ?_
        rintro h3 mv hR
        simp +contextual (disch := first | simp only [fq]; done | omega | simp only [Knx]; omega) only [fV, reduceLE, reduceLT, reduceLeDiff, ↓reduceIte, reduceEqDiff, reduceAdd, reduceCtorEq, reduceToNat, Tryz.f38]
        exact hR
    · rw [if_neg hst] at hin
      rw [if_pos hst]
      refine callF_exact hin ?_
      simp +contextual (disch := first | simp only [fq]; done | omega | simp only [Knx]; omega) only [fV, reduceLE, reduceLT, reduceLeDiff, ↓reduceIte, reduceEqDiff, reduceAdd, reduceCtorEq, reduceToNat, Tryz.f38, Int.reduceEq]
      exact ROp.bad r 282
end
end Go.Proofs.YtbebdlmldogcmaaGreat
