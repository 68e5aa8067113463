/-
  Several texts of one walk, joined.
-/
import Derived.Test.YtbebdlmldogcmaaPoB
import Derived.Test.YtbebdlmldogcmaaRows
import Derived.Test.YtbebdlmldogcmaaLyR
import Derived.Test.YtbebdlmldogcmaaLyU
import Derived.Test.YtbebdlmldogcmaaLyG
set_option linter.unusedSimpArgs false
set_option linter.unusedVariables false
set_option linter.unusedSectionVars false
set_option linter.defProp false
set_option maxRecDepth 10000
set_option maxHeartbeats 1000000
namespace Go.Proofs.Ytbebdlmldogcmaa
open Go.Proofs Go.Lx Go.Wx Go.IntWalk
noncomputable section
structure Tr where
  had : List Int
  clean : List Int
  now : List Int
def at1 (n : Int) : Nat := (n - 1).toNat
def giveOk (t : Tr) (m : MV) : Prop := 1 ≤ m.cn ∧ m.cn ≤ t.had.length ∧ t.now[at1 m.cn]? = some 0 ∧ (t.had[at1 m.cn]? = some m.cl ∨ ∃ v, t.clean[at1 m.cn]? = some v ∧ v ≠ 0)
def stepM (t : Tr) (m : MV) : Option Tr :=
  if m.kd = 1 then (if m.cn = t.had.length + 1 then some ⟨t.had ++ [m.cl], t.clean ++ [1], t.now ++ [0]⟩ else none)
  else if m.kd = 2 then (if giveOk t m then some ⟨t.had.set (at1 m.cn) m.cl, t.clean.set (at1 m.cn) 0, t.now.set (at1 m.cn) m.cl⟩ else none)
  else some t
def runM : List MV → Tr → Option Tr
  | [], t => some t
  | m :: l, t => match stepM t m with
    | some t' => runM l t'
    | none => none
theorem runM_snoc : ∀ (l : List MV) (m : MV) (t t1 t2 : Tr), runM l t = some t1 → stepM t1 m = some t2 → runM (l ++ [m]) t = some t2
  | [], m, t, t1, t2, h1, h2 => by
    cases h1
    show (match stepM t m with | some t' => runM [] t' | none => none) = _
    rw [h2]; rfl
  | x :: l, m, t, t1, t2, h1, h2 => by
    show (match stepM t x with | some t' => runM (l ++ [m]) t' | none => none) = _
    have h1' : (match stepM t x with | some t' => runM l t' | none => none) = some t1 := h1
    cases hs : stepM t x with
    | none => rw [hs] at h1'; cases h1'
    | some t' => rw [hs] at h1'; exact runM_snoc l m t' t1 t2 h1' h2
structure Inv (p : PL) (t : Tr) : Prop where
  lc : t.clean.length = t.had.length
  ln : t.now.length = t.had.length
  last : p.last = t.had.length
  rise : (p.conns.map PC.num).Nodup
  num : ∀ c ∈ p.conns, 1 ≤ c.num ∧ c.num ≤ p.last
  op : ∀ c ∈ p.conns, c.st = 1 → t.now[at1 c.num]? = some 0 ∧ t.had[at1 c.num]? = some c.cl
  rs : ∀ c ∈ p.conns, c.st = 3 → t.now[at1 c.num]? = some 0
  idl : ∀ c ∈ p.conns, c.st = 4 → t.now[at1 c.num]? = some 0 ∧ ∃ v, t.clean[at1 c.num]? = some v ∧ v ≠ 0
def Cl (t0 : Tr) (p : PL) : Prop := ∃ t, runM p.moves t0 = some t ∧ Inv p t
theorem Cl.step {t0 : Tr} {p q : PL} (h : Cl t0 p) (m : MV) (hq : q.moves = p.moves ++ [m]) (hs : ∀ t, Inv p t → ∃ t', stepM t m = some t' ∧ Inv q t') : Cl t0 q := by
  obtain ⟨t, h1, h2⟩ := h
  obtain ⟨t', h3, h4⟩ := hs t h2
  exact ⟨t', by rw [hq]; exact runM_snoc _ _ _ _ _ h1 h3, h4⟩
theorem at1_ne {a b : Int} (ha : 1 ≤ a) (hb : 1 ≤ b) (h : a ≠ b) : at1 a ≠ at1 b := by unfold at1; omega
theorem some_app {l r : List Int} {i : Nat} {v : Int} (h : l[i]? = some v) : (l ++ r)[i]? = some v := by
  have hi : i < l.length := by
    rcases Nat.lt_or_ge i l.length with h1 | h1
    · exact h1
    · rw [List.getElem?_eq_none h1] at h; cases h
  rw [List.getElem?_append_left hi]; exact h
theorem Inv.cong {p q : PL} {t : Tr} (h : Inv p t) (h1 : q.conns = p.conns) (h2 : q.last = p.last) : Inv q t :=
  ⟨h.lc, h.ln, by rw [h2]; exact h.last, by rw [h1]; exact h.rise, by rw [h1, h2]; exact h.num, by rw [h1]; exact h.op, by rw [h1]; exact h.rs, by rw [h1]; exact h.idl⟩
theorem Inv.del {p : PL} {t : Tr} (h : Inv p t) (n : Int) : Inv (p.del n) t := by
  have hs : ∀ c ∈ (p.del n).conns, c ∈ p.conns := fun c hc => (List.mem_filter.1 hc).1
  exact ⟨h.lc, h.ln, h.last, List.Nodup.sublist (List.filter_sublist.map _) h.rise, fun c hc => h.num c (hs c hc), fun c hc => h.op c (hs c hc), fun c hc => h.rs c (hs c hc), fun c hc => h.idl c (hs c hc)⟩
theorem Cl.quiet {t0 : Tr} {p : PL} (h : Cl t0 p) {kd : Int} (h1 : kd ≠ 1) (h2 : kd ≠ 2) (a b : Int) : Cl t0 (p.mov kd a b) :=
  h.step ⟨kd, a, b⟩ rfl fun t ht => ⟨t, by unfold stepM; rw [if_neg h1, if_neg h2], ht.cong rfl rfl⟩
theorem Cl.cong {t0 : Tr} {p q : PL} (h : Cl t0 p) (h1 : q.conns = p.conns) (h2 : q.last = p.last) (h3 : q.moves = p.moves) : Cl t0 q := by
  obtain ⟨t, w1, w2⟩ := h
  exact ⟨t, by rw [h3]; exact w1, w2.cong h1 h2⟩
theorem Cl.del {t0 : Tr} {p : PL} (h : Cl t0 p) (n : Int) : Cl t0 (p.del n) := by
  obtain ⟨t, w1, w2⟩ := h
  exact ⟨t, w1, w2.del n⟩
theorem set_num (l : List PC) (n : Int) (c' : PC) (hc : c'.num = n) : (l.map fun x => if x.num = n then c' else x).map PC.num = l.map PC.num := by
  rw [List.map_map]
  refine List.map_congr_left fun x _ => ?_
  show PC.num (if x.num = n then c' else x) = x.num
  by_cases e : x.num = n
  · rw [if_pos e, hc, e]
  · rw [if_neg e]
theorem set_mem {l : List PC} {n : Int} {c' x : PC} (h : x ∈ l.map fun x => if x.num = n then c' else x) : x = c' ∨ (x ∈ l ∧ x.num ≠ n) := by
  obtain ⟨y, hy, rfl⟩ := List.mem_map.1 h
  by_cases e : y.num = n
  · rw [if_pos e]; exact .inl rfl
  · rw [if_neg e]; exact .inr ⟨hy, e⟩
theorem Inv.give {p q : PL} {t : Tr} (h : Inv p t) {c c' : PC} (hc : c ∈ p.conns) (cl : Int) (hok : t.now[at1 c.num]? = some 0 ∧ (t.had[at1 c.num]? = some cl ∨ ∃ v, t.clean[at1 c.num]? = some v ∧ v ≠ 0)) (hcn : c'.num = c.num) (hst : c'.st = 2) (hq : q.conns = p.conns.map fun x => if x.num = c.num then c' else x) (hl : q.last = p.last) :
    ∃ t', stepM t ⟨2, c.num, cl⟩ = some t' ∧ Inv q t' := by
  have hn := h.num c hc
  have hg : giveOk t ⟨2, c.num, cl⟩ := ⟨hn.1, by have := h.last; show c.num ≤ _; omega, hok.1, hok.2⟩
  refine ⟨⟨t.had.set (at1 c.num) cl, t.clean.set (at1 c.num) 0, t.now.set (at1 c.num) cl⟩, ?_, ?_⟩
  · unfold stepM
    rw [if_neg (show ¬ (2 : Int) = 1 by decide), if_pos rfl, if_pos hg]
  · have hne : ∀ x ∈ p.conns, x.num ≠ c.num → at1 c.num ≠ at1 x.num := fun x hx e => at1_ne hn.1 (h.num x hx).1 (Ne.symm e)
    refine ⟨by simp [h.lc], by simp [h.ln], by rw [hl]; simp [h.last], by rw [hq, set_num _ _ _ hcn]; exact h.rise, fun x hx => ?_, fun x hx hs => ?_, fun x hx hs => ?_, fun x hx hs => ?_⟩
    · rw [hq] at hx
      rw [hl]
      rcases set_mem hx with rfl | ⟨hx, _⟩
      · rw [hcn]; exact hn
      · exact h.num x hx
    · rw [hq] at hx
      rcases set_mem hx with rfl | ⟨hx, e⟩
      · rw [hst] at hs; exact absurd hs (by decide)
      · have := h.op x hx hs
        simp only [List.getElem?_set_ne (hne x hx e)]
        exact this
    · rw [hq] at hx
      rcases set_mem hx with rfl | ⟨hx, e⟩
      · rw [hst] at hs; exact absurd hs (by decide)
      · have := h.rs x hx hs
        simp only [List.getElem?_set_ne (hne x hx e)]
        exact this
    · rw [hq] at hx
      rcases set_mem hx with rfl | ⟨hx, e⟩
      · rw [hst] at hs; exact absurd hs (by decide)
      · have := h.idl x hx hs
        simp only [List.getElem?_set_ne (hne x hx e)]
        exact this
theorem Cl.serve1 {t0 : Tr} {p q : PL} (h : Cl t0 p) (hs : serve1 p = some q) : Cl t0 q := by
  obtain ⟨w, ws, hw, h1⟩ := serve1_cases hs
  rcases h1 with ⟨c, hc, h4, rfl⟩ | ⟨_, _, rfl⟩
  · refine h.step ⟨2, c.num, w.cl⟩ rfl fun t ht => ?_
    have hi := ht.idl c hc h4
    exact ht.give hc w.cl ⟨hi.1, .inr hi.2⟩ (c' := ⟨c.num, 2, w.cl, 0⟩) rfl rfl rfl rfl
  · refine h.step ⟨1, p.last + 1, w.cl⟩ rfl fun t ht => ?_
    have hla := ht.last
    refine ⟨⟨t.had ++ [w.cl], t.clean ++ [1], t.now ++ [0]⟩, ?_, ?_⟩
    · unfold stepM
      rw [if_pos rfl, if_pos (show p.last + 1 = _ by omega)]
    · have hmem : ∀ x ∈ p.conns ++ [⟨p.last + 1, 1, w.cl, 0⟩], x ∈ p.conns ∨ x = ⟨p.last + 1, 1, w.cl, 0⟩ := fun x hx => (List.mem_append.1 hx).imp id List.mem_singleton.1
      have hat : at1 (p.last + 1) = t.had.length := by unfold at1; omega
      refine ⟨by simp [ht.lc], by simp [ht.ln], by show p.last + 1 = _; simp [hla], ?_, fun x hx => ?_, fun x hx hs => ?_, fun x hx hs => ?_, fun x hx hs => ?_⟩
      · show ((p.conns ++ [_]).map PC.num).Nodup
        rw [List.map_append, List.nodup_append]
        refine ⟨ht.rise, by simp, fun a ha b hb e => ?_⟩
        obtain ⟨x, hx, rfl⟩ := List.mem_map.1 ha
        have hb : b = p.last + 1 := by simpa using hb
        have := (ht.num x hx).2
        omega
      · show 1 ≤ x.num ∧ x.num ≤ p.last + 1
        rcases hmem x hx with hx | rfl
        · have := ht.num x hx; omega
        · show 1 ≤ p.last + 1 ∧ p.last + 1 ≤ _; omega
      · rcases hmem x hx with hx | rfl
        · have := ht.op x hx hs
          exact ⟨some_app this.1, some_app this.2⟩
        · show (t.now ++ [0])[at1 (p.last + 1)]? = _ ∧ (t.had ++ [w.cl])[at1 (p.last + 1)]? = _
          rw [hat]
          exact ⟨by rw [← ht.ln, List.getElem?_append_right (Nat.le_refl _)]; simp, by rw [List.getElem?_append_right (Nat.le_refl _)]; simp⟩
      · rcases hmem x hx with hx | rfl
        · exact some_app (ht.rs x hx hs)
        · exact absurd (show (1 : Int) = 3 from hs) (by decide)
      · rcases hmem x hx with hx | rfl
        · obtain ⟨q1, v, q2, q3⟩ := ht.idl x hx hs
          exact ⟨some_app q1, v, some_app q2, q3⟩
        · exact absurd (show (1 : Int) = 4 from hs) (by decide)
theorem Cl.serve {t0 : Tr} {p : PL} (h : Cl t0 p) : Cl t0 (serveF p) := serveF_keeps (fun _ _ => Cl.serve1) h
def pre (t : Tr) (k n : Int) (y : Prop) : Tr :=
  if k = 3 ∧ y ∧ 1 ≤ n ∧ n ≤ t.had.length then { t with clean := t.clean.set (at1 n) 1 }
  else if (k = 2 ∨ k = 4) ∧ 1 ≤ n ∧ n ≤ t.now.length then { t with now := t.now.set (at1 n) 0 } else t
theorem some_lt {l : List Int} {i : Nat} {v : Int} (h : l[i]? = some v) : i < l.length := by
  rcases Nat.lt_or_ge i l.length with h1 | h1
  · exact h1
  · rw [List.getElem?_eq_none h1] at h; cases h
theorem set_zero {l : List Int} {i j : Nat} (h : l[i]? = some 0) : (l.set j 0)[i]? = some 0 := by
  by_cases e : j = i
  · subst e; rw [List.getElem?_set_self (some_lt h)]
  · rw [List.getElem?_set_ne e]; exact h
theorem Inv.pre {p : PL} {t : Tr} (h : Inv p t) (k n : Int) (y : Prop) : Inv p (pre t k n y) := by
  unfold Go.Proofs.Ytbebdlmldogcmaa.pre
  by_cases a : k = 3 ∧ y ∧ 1 ≤ n ∧ n ≤ t.had.length
  · rw [if_pos a]
    refine ⟨by simp [h.lc], h.ln, h.last, h.rise, h.num, h.op, h.rs, fun x hx hs => ?_⟩
    obtain ⟨q1, v, q2, q3⟩ := h.idl x hx hs
    refine ⟨q1, ?_⟩
    by_cases e : at1 n = at1 x.num
    · exact ⟨1, by show (t.clean.set (at1 n) 1)[at1 x.num]? = _; rw [e, List.getElem?_set_self (some_lt q2)], by decide⟩
    · exact ⟨v, by show (t.clean.set (at1 n) 1)[at1 x.num]? = _; rw [List.getElem?_set_ne e]; exact q2, q3⟩
  · rw [if_neg a]
    by_cases b : (k = 2 ∨ k = 4) ∧ 1 ≤ n ∧ n ≤ t.now.length
    · rw [if_pos b]
      refine ⟨h.lc, by simp [h.ln], h.last, h.rise, h.num, fun x hx hs => ?_, fun x hx hs => set_zero (h.rs x hx hs), fun x hx hs => ?_⟩
      · have := h.op x hx hs; exact ⟨set_zero this.1, this.2⟩
      · have := h.idl x hx hs; exact ⟨set_zero this.1, this.2⟩
    · rw [if_neg b]; exact h
theorem Cl.drop {t0 : Tr} {p : PL} (h : Cl t0 p) (n : Int) : Cl t0 ((p.del n).mov 6 n 0) := (h.del n).quiet (by decide) (by decide) _ _
theorem outM_moves (q : WT → Prop) (l : List WT) (t : Tr) : runM (outM q l) t = some t := by
  unfold outM
  induction l.filter fun w => decide (q w) with
  | nil => rfl
  | cons w l ih =>
    show (match stepM t ⟨4, 0, w.cl⟩ with | some t' => runM (l.map _) t' | none => none) = _
    rw [show stepM t ⟨4, 0, w.cl⟩ = some t from rfl]
    exact ih
theorem Cl.out {p : PL} {t : Tr} (h : Inv p t) (q : WT → Prop) : Cl t (outL q p) := ⟨t, outM_moves _ _ _, h.cong rfl rfl⟩
end
end Go.Proofs.Ytbebdlmldogcmaa
set_option linter.unusedSimpArgs false
set_option linter.unusedVariables false
set_option linter.unusedSectionVars false
set_option linter.defProp false
set_option maxRecDepth 10000
set_option maxHeartbeats 1000000
namespace Go.Proofs.Ytbebdlmldogcmaa
open Go.Proofs Go.Lx Go.Wx Go.IntWalk
noncomputable section

def kept (q : WT → Prop) (l : List WT) : List WT := l.filter fun w => @decide (q w) (Classical.propDecidable _)
theorem kept_eq {q : WT → Prop} {d : WT → Bool} {l : List WT} (h : ∀ w, d w = true ↔ q w) : l.filter d = kept q l := by
  unfold kept
  refine List.filter_congr fun w _ => ?_
  rw [Bool.eq_iff_iff, h w, decide_eq_true_iff]
theorem kept_all (l : List WT) : kept (fun _ => True) l = l := List.filter_eq_self.2 fun _ _ => by simp
theorem kept_pos {q : WT → Prop} {w : WT} {l : List WT} (h : q w) : kept q (w :: l) = w :: kept q l := by
  unfold kept
  rw [List.filter_cons, if_pos (decide_eq_true_iff.2 h)]
theorem kept_neg {q : WT → Prop} {w : WT} {l : List WT} (h : ¬ q w) : kept q (w :: l) = kept q l := by
  unfold kept
  rw [List.filter_cons, if_neg (fun e => h (decide_eq_true_iff.1 e))]
theorem kept_mem {q : WT → Prop} {w : WT} {l : List WT} (h : w ∈ kept q l) : w ∈ l ∧ q w := ⟨(List.mem_filter.1 h).1, decide_eq_true_iff.1 (List.mem_filter.1 h).2⟩
def ordK (lf : WT → Prop) (now : List WT) : List WT → Nat → Option Nat
  | [], k => some k
  | w :: ws, k => if now[k]? = some w then ordK lf now ws (k + 1) else if 0 < k ∧ ¬ lf w then none else ordK lf now ws k
theorem ordK_tail {lf q : WT → Prop} {now ext : List WT} : ∀ (b : List WT) (k : Nat) (pre : List WT), now = pre ++ (kept q b) ++ ext → pre.length = k → (∀ w ∈ b, ¬ q w → lf w) → (∀ w ∈ b, w ∉ ext) → ordK lf now b k = some (k + (kept q b).length)
  | [], k, pre, _, _, _, _ => rfl
  | w :: b, k, pre, hn, hk, hl, he => by
    rw [ordK]
    by_cases hq : q w
    · have e : kept q (w :: b) = w :: kept q b := kept_pos hq
      rw [e] at hn ⊢
      have h1 : now[k]? = some w := by
        rw [hn, List.append_assoc, List.getElem?_append_right (by omega), hk, Nat.sub_self]
        rfl
      rw [if_pos h1, ordK_tail b (k + 1) (pre ++ [w]) (by rw [hn]; simp) (by simp [hk]) (fun w hw => hl w (.tail _ hw)) (fun w hw => he w (.tail _ hw))]
      simp only [List.length_cons]
      congr 1
      omega
    · have e : kept q (w :: b) = kept q b := kept_neg hq
      rw [e] at hn ⊢
      have h1 : ¬ now[k]? = some w := by
        intro h1
        rw [hn, List.append_assoc, List.getElem?_append_right (by omega)] at h1
        rcases List.mem_append.1 (List.mem_of_getElem? h1) with h2 | h2
        · exact hq (kept_mem h2).2
        · exact he w (.head _) h2
      rw [if_neg h1, if_neg (fun h2 => h2.2 (hl w (.head _) hq))]
      exact ordK_tail b k pre hn hk (fun w hw => hl w (.tail _ hw)) (fun w hw => he w (.tail _ hw))
theorem ordK_head {lf q : WT → Prop} {now ext : List WT} : ∀ (was : List WT) (m : Nat), now = (kept q was).drop m ++ ext → was.Nodup → (∀ w ∈ was, ¬ q w → lf w) → (∀ w ∈ was, w ∉ ext) → ordK lf now was 0 = some ((kept q was).drop m).length
  | was, 0, hn, _, hl, he => by
    rw [List.drop_zero] at hn ⊢
    rw [ordK_tail was 0 [] (by simpa using hn) rfl hl he, Nat.zero_add]
  | [], m + 1, _, _, _, _ => rfl
  | w :: was, m + 1, hn, hd, hl, he => by
    rw [List.nodup_cons] at hd
    rw [ordK]
    by_cases hq : q w
    · have e : kept q (w :: was) = w :: kept q was := kept_pos hq
      rw [e, List.drop_succ_cons] at hn ⊢
      have h1 : ¬ now[0]? = some w := by
        intro h1
        rw [hn] at h1
        rcases List.mem_append.1 (List.mem_of_getElem? h1) with h2 | h2
        · exact hd.1 (kept_mem (List.mem_of_mem_drop h2)).1
        · exact he w (.head _) h2
      rw [if_neg h1, if_neg (fun h2 => absurd h2.1 (Nat.lt_irrefl 0))]
      exact ordK_head was m hn hd.2 (fun w hw => hl w (.tail _ hw)) (fun w hw => he w (.tail _ hw))
    · have e : kept q (w :: was) = kept q was := kept_neg hq
      rw [e] at hn ⊢
      have h1 : ¬ now[0]? = some w := by
        intro h1
        rw [hn] at h1
        rcases List.mem_append.1 (List.mem_of_getElem? h1) with h2 | h2
        · exact hq (kept_mem (List.mem_of_mem_drop h2)).2
        · exact he w (.head _) h2
      rw [if_neg h1, if_neg (fun h2 => absurd h2.1 (Nat.lt_irrefl 0))]
      exact ordK_head was (m + 1) hn hd.2 (fun w hw => hl w (.tail _ hw)) (fun w hw => he w (.tail _ hw))
structure Fr (p : PL) : Prop where
  len : (p.conns.length : Int) ≤ p.lim
  dist : (p.wts.map WT.cl).Nodup
  til : ∀ w ∈ p.wts, p.now < w.til
  clo : p.closed → p.wts = []
  wt : 1 ≤ p.wait
def Bz (p : PL) : Prop := p.wts ≠ [] → ¬ p.paused → p.lim ≤ p.conns.length ∧ ∀ c ∈ p.conns, c.st ≠ 4
structure Sv (p q : PL) : Prop where
  lim : q.lim = p.lim
  now : q.now = p.now
  wait : q.wait = p.wait
  paused : q.paused = p.paused
  closed : q.closed = p.closed
  wts : ∃ m, q.wts = p.wts.drop m
theorem Sv.refl (p : PL) : Sv p p := ⟨rfl, rfl, rfl, rfl, rfl, 0, rfl⟩
theorem Sv.trans {a b c : PL} (x : Sv a b) (y : Sv b c) : Sv a c := by
  obtain ⟨m, hm⟩ := x.wts
  obtain ⟨n, hn⟩ := y.wts
  exact ⟨y.lim.trans x.lim, y.now.trans x.now, y.wait.trans x.wait, y.paused.trans x.paused, y.closed.trans x.closed, m + n, by rw [hn, hm, List.drop_drop]⟩
theorem Sv.serve1 {p q : PL} (hs : serve1 p = some q) : Sv p q := by
  obtain ⟨w, ws, hw, h1⟩ := serve1_cases hs
  rcases h1 with ⟨c, _, _, rfl⟩ | ⟨_, _, rfl⟩
  · exact ⟨rfl, rfl, rfl, rfl, rfl, 1, by rw [hw]; rfl⟩
  · exact ⟨rfl, rfl, rfl, rfl, rfl, 1, by rw [hw]; rfl⟩
theorem Sv.serve (p : PL) : Sv p (serveF p) := serveF_keeps (I := fun q => Sv p q) (fun a b h hs => h.trans (Sv.serve1 hs)) (Sv.refl p)
theorem Fr.serve1 {p q : PL} (h : Fr p) (hs : serve1 p = some q) : Fr q := by
  have sv := Sv.serve1 hs
  obtain ⟨m, hm⟩ := sv.wts
  obtain ⟨w, ws, hw, h1⟩ := serve1_cases hs
  refine ⟨?_, by rw [hm, List.map_drop]; exact List.Nodup.sublist (List.drop_sublist _ _) h.dist, fun w hw => by rw [hm] at hw; rw [sv.now]; exact h.til w (List.mem_of_mem_drop hw), fun hc => by rw [sv.closed] at hc; rw [hm, h.clo hc, List.drop_nil], by rw [sv.wait]; exact h.wt⟩
  rw [sv.lim]
  rcases h1 with ⟨c, _, _, rfl⟩ | ⟨_, hl, rfl⟩
  · have := h.len
    show ((p.conns.map _).length : Int) ≤ _
    rw [List.length_map]; exact this
  · show ((p.conns ++ [_]).length : Int) ≤ _
    rw [List.length_append]
    simp only [List.length_cons, List.length_nil]
    omega
theorem Fr.serve {p : PL} (h : Fr p) : Fr (serveF p) := serveF_keeps (fun _ _ => Fr.serve1) h
theorem Bz.serve {p : PL} (h : Fr p) : Bz (serveF p) := by
  intro hw hp
  have sv := Sv.serve p
  rw [sv.paused] at hp
  have hcl : ¬ p.closed := fun hc => hw ((Fr.serve h).clo (by rw [sv.closed]; exact hc))
  have e : serveF p = serveR p.wts.length p := if_neg fun q => q.elim hp hcl
  have hend := serveR_end p.wts.length p (Nat.le_refl _)
  rw [← e] at hend
  rcases serve1_no hend with q | ⟨q1, q2⟩
  · exact absurd q hw
  · exact ⟨by omega, q1⟩
theorem Fr.del {p : PL} (h : Fr p) (n : Int) : Fr (p.del n) := ⟨by have := h.len; have h2 := List.length_filter_le (fun c : PC => decide (c.num ≠ n)) p.conns; show ((p.conns.filter fun c => decide (c.num ≠ n)).length : Int) ≤ p.lim; omega, h.dist, h.til, h.clo, h.wt⟩
theorem Fr.mov {p : PL} (h : Fr p) (a b c : Int) : Fr (p.mov a b c) := ⟨h.len, h.dist, h.til, h.clo, h.wt⟩
theorem Fr.set {p : PL} (h : Fr p) (n : Int) (c' : PC) : Fr (p.set n c') := ⟨by have := h.len; show ((p.conns.map _).length : Int) ≤ _; rw [List.length_map]; exact this, h.dist, h.til, h.clo, h.wt⟩
theorem Bz.set {p : PL} (h : Bz p) (n : Int) (c' : PC) (hc : c'.st ≠ 4) : Bz (p.set n c') := fun hw hp => by
  obtain ⟨h1, h2⟩ := h hw hp
  refine ⟨by show p.lim ≤ ((p.conns.map _).length : Int); rw [List.length_map]; exact h1, fun x hx => ?_⟩
  obtain ⟨y, hy, rfl⟩ := List.mem_map.1 hx
  by_cases e : y.num = n
  · rw [if_pos e]; exact hc
  · rw [if_neg e]; exact h2 y hy
theorem clR_sv {t : PC → Prop} : ∀ l p, (clR t l p).lim = p.lim ∧ (clR t l p).now = p.now ∧ (clR t l p).wait = p.wait ∧ (clR t l p).paused = p.paused ∧ (clR t l p).closed = p.closed ∧ (clR t l p).wts = p.wts
  | [], p => ⟨rfl, rfl, rfl, rfl, rfl, rfl⟩
  | c :: l, p => by
    rw [clR]
    by_cases hc : t c
    · rw [if_pos hc]; exact clR_sv l ((p.del c.num).mov 6 c.num 0)
    · rw [if_neg hc]; exact clR_sv l p
structure FairR (p : PL) (k n : Int) (y : Prop) (r : Res) : Prop where
  fr : Fr r.2.2
  bz : Bz r.2.2
  mv : r.2.2.moves = []
  lim : r.2.2.lim = p.lim
  pa : k = 7 ∧ r.1 = 0 → r.2.2.paused = y
  pb : ¬ (k = 7 ∧ r.1 = 0) → r.2.2.paused = p.paused
  ord : ∃ (q : WT → Prop) (m : Nat) (ext : List WT), r.2.2.wts = (kept q p.wts).drop m ++ ext ∧ (∀ w ∈ p.wts, ¬ q w → (k = 5 ∧ w.cl = n) ∨ w.til ≤ r.2.2.now ∨ k = 9) ∧ (∀ w ∈ p.wts, w ∉ ext) ∧ (ext = [] ∨ k = 0 ∧ ∃ w, ext = [w] ∧ w.cl = n)
theorem FairR.bad {p : PL} (h : Fr p) (hb : Bz p) (hm : p.moves = []) (k n : Int) (y : Prop) (e : Int) (he : e ≠ 0) : FairR p k n y (e, [], p) :=
  ⟨h, hb, hm, rfl, fun q => absurd q.2 he, fun _ => rfl, fun _ => True, 0, [], by rw [List.drop_zero, List.append_nil, kept_all], fun _ _ q => absurd trivial q, fun _ _ q => (by cases q), .inl rfl⟩
theorem FairR.same {p q : PL} (k n : Int) (y : Prop) (h : Fr q) (hb : Bz q) (hl : q.lim = p.lim) (hw : ∃ m, q.wts = p.wts.drop m) (hp : q.paused = p.paused) (hk : k ≠ 7) : FairR p k n y q.done := by
  obtain ⟨m, hm⟩ := hw
  refine ⟨⟨h.len, h.dist, h.til, h.clo, h.wt⟩, hb, rfl, hl, fun q => absurd q.1 hk, fun _ => hp, fun _ => True, m, [], ?_, fun _ _ q => absurd trivial q, fun _ _ q => (by cases q), .inl rfl⟩
  have e := kept_all p.wts
  rw [e, List.append_nil]
  exact hm
theorem fair_ask {p : PL} (hm : p.moves = []) (h : Fr p) (hb : Bz p) (k n : Int) (y : Prop) (hk8 : k ≠ 8) (hk9 : k ≤ 9) (hk0 : 0 ≤ k) : FairR p k n y (askF p k n y) := by
  have bad : ∀ e : Int, e ≠ 0 → FairR p k n y (e, [], p) := fun e he => FairR.bad h hb hm k n y e he
  have srv : ∀ q : PL, Fr q → q.lim = p.lim → q.wts = p.wts → q.paused = p.paused → k ≠ 7 → FairR p k n y (serveF q).done := fun q hq h1 h2 h3 h4 => by
    have sv := Sv.serve q
    refine FairR.same k n y hq.serve (Bz.serve hq) (sv.lim.trans h1) ?_ (sv.paused.trans h3) h4
    rw [← h2]; exact sv.wts
  unfold askF
  by_cases k0 : k = 0
  · rw [if_pos k0]
    unfold acquireF
    by_cases a1 : ¬ (1 ≤ n ∧ n ≤ 1073741824)
    · rw [if_pos a1]; exact bad 2 (by decide)
    rw [if_neg a1]
    by_cases a2 : p.closed
    · rw [if_pos a2]; exact bad 9 (by decide)
    rw [if_neg a2]
    by_cases a3 : hasL p n ∨ waitsL p n
    · rw [if_pos a3]; exact bad 280 (by decide)
    rw [if_neg a3]
    by_cases a4 : 256 ≤ p.wts.length
    · rw [if_pos a4]; exact bad 283 (by decide)
    rw [if_neg a4]
    have hnw : ∀ w ∈ p.wts, w.cl ≠ n := fun w hw e => a3 (.inr ⟨w, hw, e⟩)
    have h1 : Fr { p with wts := p.wts ++ [⟨n, p.now + p.wait⟩] } := by
      refine ⟨h.len, ?_, fun w hw => ?_, fun hc => absurd hc a2, h.wt⟩
      · show ((p.wts ++ [_]).map WT.cl).Nodup
        rw [List.map_append, List.nodup_append]
        refine ⟨h.dist, by simp, fun a ha b hb e => ?_⟩
        obtain ⟨x, hx, rfl⟩ := List.mem_map.1 ha
        have hb : b = n := by simpa using hb
        exact hnw x hx (by rw [e, hb])
      · rcases List.mem_append.1 hw with hw | hw
        · exact h.til w hw
        · rw [List.mem_singleton.1 hw]; have := h.wt; show p.now < p.now + p.wait; omega
    have fin : ∀ a : PL, a.conns = (serveF { p with wts := p.wts ++ [⟨n, p.now + p.wait⟩] }).conns → a.lim = (serveF { p with wts := p.wts ++ [⟨n, p.now + p.wait⟩] }).lim → a.wts = (serveF { p with wts := p.wts ++ [⟨n, p.now + p.wait⟩] }).wts → a.now = (serveF { p with wts := p.wts ++ [⟨n, p.now + p.wait⟩] }).now → a.wait = (serveF { p with wts := p.wts ++ [⟨n, p.now + p.wait⟩] }).wait → a.paused = (serveF { p with wts := p.wts ++ [⟨n, p.now + p.wait⟩] }).paused → a.closed = (serveF { p with wts := p.wts ++ [⟨n, p.now + p.wait⟩] }).closed → FairR p k n y a.done := by
      intro a b1 b2 b3 b4 b5 b6 b7
      have sv := Sv.serve { p with wts := p.wts ++ [⟨n, p.now + p.wait⟩] }
      have fr := h1.serve
      have bz := Bz.serve h1
      obtain ⟨m, hmm⟩ := sv.wts
      refine ⟨⟨by show (a.conns.length : Int) ≤ a.lim; rw [b1, b2]; exact fr.len, by show (a.wts.map WT.cl).Nodup; rw [b3]; exact fr.dist, by show ∀ w ∈ a.wts, a.now < w.til; rw [b3, b4]; exact fr.til, by show a.closed → a.wts = []; rw [b7, b3]; exact fr.clo, by show 1 ≤ a.wait; rw [b5]; exact fr.wt⟩, by show a.wts ≠ [] → ¬ a.paused → a.lim ≤ a.conns.length ∧ ∀ c ∈ a.conns, c.st ≠ 4; rw [b3, b6, b2, b1]; exact bz, rfl, b2.trans sv.lim, fun q => (by have := q.1; omega), fun _ => b6.trans sv.paused, ?_⟩
      have e := kept_all p.wts
      by_cases hl : m ≤ p.wts.length
      · refine ⟨fun _ => True, m, [⟨n, p.now + p.wait⟩], ?_, fun _ _ q => absurd trivial q, fun w hw q => ?_, .inr ⟨k0, _, rfl, rfl⟩⟩
        · show a.wts = _
          rw [b3, hmm, e, List.drop_append_of_le_length hl]
        · rw [List.mem_singleton.1 q] at hw
          exact hnw _ hw rfl
      · refine ⟨fun _ => True, m, [], ?_, fun _ _ q => absurd trivial q, fun _ _ q => (by cases q), .inl rfl⟩
        show a.wts = _
        rw [b3, hmm, e, List.drop_eq_nil_of_le (by show (p.wts ++ [_]).length ≤ m; rw [List.length_append]; simp only [List.length_cons, List.length_nil]; omega), List.drop_eq_nil_of_le (by omega)]
        rfl
    by_cases a5 : waitsL (serveF { p with wts := p.wts ++ [⟨n, p.now + p.wait⟩] }) n
    · rw [if_pos a5]; exact fin _ rfl rfl rfl rfl rfl rfl rfl
    · rw [if_neg a5]; exact fin _ rfl rfl rfl rfl rfl rfl rfl
  rw [if_neg k0]
  by_cases k1 : k = 1
  · have k7 : k ≠ 7 := by omega
    rw [if_pos k1]
    unfold openedF
    cases hg : p.get n with
    | none => exact bad 281 (by decide)
    | some c =>
      simp only
      by_cases a1 : c.st ≠ 1
      · rw [if_pos a1]; exact bad 282 (by decide)
      rw [if_neg a1]
      by_cases a2 : y
      · rw [if_pos a2]
        exact FairR.same k n y ((h.set _ _).mov _ _ _) (hb.set n ⟨n, 2, c.cl, c.since⟩ (show (2 : Int) ≠ 4 by decide)) rfl ⟨0, rfl⟩ rfl k7
      · rw [if_neg a2]; exact srv _ (h.del _) rfl rfl rfl k7
  rw [if_neg k1]
  by_cases k2 : k = 2
  · have k7 : k ≠ 7 := by omega
    rw [if_pos k2]
    unfold releaseF
    cases hg : p.get n with
    | none => exact bad 281 (by decide)
    | some c =>
      simp only
      by_cases a1 : c.st ≠ 2
      · rw [if_pos a1]; exact bad 282 (by decide)
      rw [if_neg a1]
      by_cases a2 : p.closed ∨ (p.conns.length : Int) > p.lim
      · rw [if_pos a2]; exact srv _ ((h.del _).mov _ _ _) rfl rfl rfl k7
      · rw [if_neg a2]
        exact FairR.same k n y ((h.set _ _).mov _ _ _) (hb.set n ⟨n, 3, c.cl, c.since⟩ (show (3 : Int) ≠ 4 by decide)) rfl ⟨0, rfl⟩ rfl k7
  rw [if_neg k2]
  by_cases k3 : k = 3
  · have k7 : k ≠ 7 := by omega
    rw [if_pos k3]
    unfold resetF
    cases hg : p.get n with
    | none => exact bad 281 (by decide)
    | some c =>
      simp only
      by_cases a1 : c.st ≠ 3
      · rw [if_pos a1]; exact bad 282 (by decide)
      rw [if_neg a1]
      by_cases a2 : y ∧ ¬ p.closed ∧ (p.conns.length : Int) ≤ p.lim
      · rw [if_pos a2]; exact srv _ (h.set _ _) rfl rfl rfl k7
      · rw [if_neg a2]; exact srv _ ((h.del _).mov _ _ _) rfl rfl rfl k7
  rw [if_neg k3]
  by_cases k4 : k = 4
  · have k7 : k ≠ 7 := by omega
    rw [if_pos k4]
    unfold lostF
    cases hg : p.get n with
    | none => exact bad 281 (by decide)
    | some c => exact srv _ (h.del _) rfl rfl rfl k7
  rw [if_neg k4]
  by_cases k5 : k = 5
  · rw [if_pos k5]
    unfold leaveF
    by_cases a1 : ¬ waitsL p n
    · rw [if_pos a1]; exact bad 281 (by decide)
    · rw [if_neg a1]
      have hs : (p.wts.filter fun w => decide (w.cl ≠ n)).Sublist p.wts := List.filter_sublist
      refine ⟨⟨h.len, List.Nodup.sublist (hs.map _) h.dist, fun w hw => h.til w (hs.subset hw), fun hc => ?_, h.wt⟩, fun hw hp => hb (fun e => hw ?_) hp, rfl, rfl, fun q => absurd q.1 (by omega), fun _ => rfl, fun w => w.cl ≠ n, 0, [], by rw [List.drop_zero, List.append_nil]; exact kept_eq fun w => by simp, fun w _ q => .inl ⟨k5, Classical.not_not.1 q⟩, fun _ _ q => (by cases q), .inl rfl⟩
      · show (p.wts.filter fun w => decide (w.cl ≠ n)) = []
        rw [h.clo hc]; rfl
      · show (p.wts.filter fun w => decide (w.cl ≠ n)) = []
        rw [e]; rfl
  rw [if_neg k5]
  by_cases k6 : k = 6
  · rw [if_pos k6]
    unfold tickF
    by_cases a1 : ¬ (0 ≤ n ∧ n ≤ 1048576)
    · rw [if_pos a1]; exact bad 2 (by decide)
    · rw [if_neg a1]
      obtain ⟨c, hc⟩ : ∃ c, c = clR (oldP p.keep (p.now + n)) p.conns (outL (fun w => w.til ≤ p.now + n) { p with now := p.now + n }) := ⟨_, rfl⟩
      rw [← hc]
      obtain ⟨c1, c2, c3, c4, c5, c6⟩ := clR_sv (t := oldP p.keep (p.now + n)) p.conns (outL (fun w => w.til ≤ p.now + n) { p with now := p.now + n })
      rw [← hc] at c1 c2 c3 c4 c5 c6
      have hs : (outW (fun w => w.til ≤ p.now + n) p.wts).Sublist p.wts := List.filter_sublist
      have c6' : c.wts = outW (fun w => w.til ≤ p.now + n) p.wts := c6
      have c2' : c.now = p.now + n := c2
      have c5' : c.closed = p.closed := c5
      have frc : Fr c := by
        refine ⟨?_, by rw [c6']; exact List.Nodup.sublist (hs.map _) h.dist, fun w hw => ?_, fun q => ?_, by rw [c3]; exact h.wt⟩
        · rw [hc]
          refine clR_keeps (I := fun q => (q.conns.length : Int) ≤ q.lim) (fun p n h => ?_) _ _ h.len
          have h2 := List.length_filter_le (fun c : PC => decide (c.num ≠ n)) p.conns
          show ((p.conns.filter fun c => decide (c.num ≠ n)).length : Int) ≤ p.lim
          omega
        · rw [c6'] at hw
          rw [c2']
          have := (List.mem_filter.1 hw).2
          have := of_decide_eq_true (p := ¬ (fun w : WT => w.til ≤ p.now + n) w) (inst := _) this
          have : ¬ w.til ≤ p.now + n := this
          omega
        · rw [c5'] at q
          rw [c6', h.clo q]; rfl
      have sv := Sv.serve c
      obtain ⟨m, hmm⟩ := sv.wts
      have fr := frc.serve
      refine ⟨⟨fr.len, fr.dist, fr.til, fr.clo, fr.wt⟩, Bz.serve frc, rfl, sv.lim.trans c1, fun q => absurd q.1 (by omega), fun _ => sv.paused.trans c4, fun w => ¬ w.til ≤ p.now + n, m, [], ?_, fun w _ q => .inr (.inl ?_), fun _ _ q => (by cases q), .inl rfl⟩
      · show (serveF c).wts = _
        rw [hmm, c6', List.append_nil]
        congr 1
        exact kept_eq fun w => by simp
      · show w.til ≤ (serveF c).now
        rw [sv.now, c2']; exact Classical.not_not.1 q
  rw [if_neg k6]
  by_cases k7 : k = 7
  · rw [if_pos k7]
    unfold pauseF
    by_cases a1 : p.closed
    · rw [if_pos a1]; exact bad 9 (by decide)
    · rw [if_neg a1]
      have h1 : Fr { p with paused := y } := ⟨h.len, h.dist, h.til, h.clo, h.wt⟩
      have sv := Sv.serve { p with paused := y }
      have fr := h1.serve
      obtain ⟨m, hmm⟩ := sv.wts
      refine ⟨⟨fr.len, fr.dist, fr.til, fr.clo, fr.wt⟩, Bz.serve h1, rfl, sv.lim, fun _ => sv.paused, fun q => absurd ⟨k7, rfl⟩ q, fun _ => True, m, [], ?_, fun _ _ q => absurd trivial q, fun _ _ q => (by cases q), .inl rfl⟩
      have e := kept_all p.wts
      rw [e, List.append_nil]
      exact hmm
  rw [if_neg k7, if_neg hk8]
  have k9 : k = 9 := by omega
  unfold closeF
  by_cases a1 : p.closed
  · rw [if_pos a1]; exact bad 9 (by decide)
  · rw [if_neg a1]
    obtain ⟨c, hc⟩ : ∃ c, c = clR idleP p.conns (outL (fun _ => True) { p with closed := True }) := ⟨_, rfl⟩
    rw [← hc]
    obtain ⟨c1, c2, c3, c4, c5, c6⟩ := clR_sv (t := idleP) p.conns (outL (fun _ => True) { p with closed := True })
    rw [← hc] at c1 c2 c3 c4 c5 c6
    have c6' : c.wts = [] := by
      rw [c6]
      show outW (fun _ => True) p.wts = []
      exact List.filter_eq_nil_iff.2 fun _ _ => by simp
    refine ⟨⟨?_, by show (c.wts.map WT.cl).Nodup; rw [c6']; exact List.nodup_nil, fun w hw => ?_, fun _ => c6', by show 1 ≤ c.wait; rw [c3]; exact h.wt⟩, fun q => absurd c6' q, rfl, c1, fun q => absurd q.1 k7, fun _ => c4, fun _ => False, 0, [], ?_, fun _ _ _ => .inr (.inr k9), fun _ _ q => (by cases q), .inl rfl⟩
    · show (c.conns.length : Int) ≤ c.lim
      rw [hc]
      refine clR_keeps (I := fun q => (q.conns.length : Int) ≤ q.lim) (fun p n h => ?_) _ _ h.len
      have h2 := List.length_filter_le (fun c : PC => decide (c.num ≠ n)) p.conns
      show ((p.conns.filter fun c => decide (c.num ≠ n)).length : Int) ≤ p.lim
      omega
    · have hw : w ∈ c.wts := hw
      rw [c6'] at hw; cases hw
    · show c.wts = _
      rw [c6', List.append_nil, List.drop_zero]
      exact (List.filter_eq_nil_iff.2 fun w _ => by simp).symm
end
end Go.Proofs.Ytbebdlmldogcmaa
set_option linter.unusedSimpArgs false
set_option linter.unusedVariables false
set_option linter.unusedSectionVars false
set_option linter.defProp false
set_option maxRecDepth 10000
set_option maxHeartbeats 1000000
namespace Go.Proofs.Ytbebdlmldogcmaa
open Go.Proofs Go.Lx Go.Wx Go.IntWalk
noncomputable section

def Few (K : Nat) (p : PL) : Prop := p.moves.length + p.wts.length ≤ K
theorem Few.serve {K : Nat} {p : PL} (h : Few K p) : Few K (serveF p) := by
  refine serveF_keeps (I := Few K) (fun p q h hs => ?_) h
  obtain ⟨w, ws, hw, h1⟩ := serve1_cases hs
  unfold Few at h
  rw [hw] at h
  simp only [List.length_cons] at h
  rcases h1 with ⟨c, _, _, rfl⟩ | ⟨_, _, rfl⟩
  · show (p.moves ++ [_]).length + ws.length ≤ K
    rw [List.length_append]; simp only [List.length_cons, List.length_nil]; omega
  · show (p.moves ++ [_]).length + ws.length ≤ K
    rw [List.length_append]; simp only [List.length_cons, List.length_nil]; omega
theorem Few.mov {K : Nat} {p : PL} (h : Few K p) (a b c : Int) : Few (K + 1) (p.mov a b c) := by
  unfold Few at h ⊢
  show (p.moves ++ [_]).length + p.wts.length ≤ K + 1
  rw [List.length_append]; simp only [List.length_cons, List.length_nil]; omega
theorem Few.del {K : Nat} {p : PL} (h : Few K p) (n : Int) : Few K (p.del n) := h
theorem Few.set {K : Nat} {p : PL} (h : Few K p) (n : Int) (c : PC) : Few K (p.set n c) := h
theorem Few.clR {t : PC → Prop} : ∀ (l : List PC) {K : Nat} {p : PL}, Few K p → Few (K + l.length) (clR t l p)
  | [], K, p, h => h
  | c :: l, K, p, h => by
    rw [Go.Proofs.Ytbebdlmldogcmaa.clR]
    have e : K + (c :: l).length = (K + 1) + l.length := by simp only [List.length_cons]; omega
    rw [e]
    by_cases hc : t c
    · rw [if_pos hc]; exact Few.clR l ((h.del c.num).mov 6 c.num 0)
    · rw [if_neg hc]; exact Few.clR l (show Few (K + 1) p by unfold Few at h ⊢; omega)
theorem Few.limR (n : Int) : ∀ (f : Nat) {K : Nat} {p : PL}, Few K p → Few (K + f) (limR f p n)
  | 0, K, p, h => h
  | f + 1, K, p, h => by
    rw [Go.Proofs.Ytbebdlmldogcmaa.limR]
    have h0 : Few (K + (f + 1)) p := by unfold Few at h ⊢; omega
    cases hl : longC p.conns none with
    | none => exact h0
    | some c =>
      simp only
      by_cases hc : (p.conns.length : Int) > n
      · rw [if_pos hc]
        have e : K + (f + 1) = (K + 1) + f := by omega
        rw [e]
        exact Few.limR n f ((h.del c.num).mov 6 c.num 0)
      · rw [if_neg hc]; exact h0
end
end Go.Proofs.Ytbebdlmldogcmaa
set_option linter.unusedSimpArgs false
set_option linter.unusedVariables false
set_option linter.unusedSectionVars false
set_option linter.defProp false
set_option maxRecDepth 10000
set_option maxHeartbeats 1000000
namespace Go.Proofs.Ytbebdlmldogcmaa
open Int (reduceLE reduceLT reduceToNat)
open Nat (reduceLeDiff reduceEqDiff reduceAdd)
open Go.Proofs Go.Lx Go.Wx Go.IntWalk
noncomputable section
structure ACT where
  kd : Int
  n : Int
  y : Prop
def ACT.cells (a : ACT) : List V := [.int .i64 a.kd, .int .i64 a.n, bo a.y]
def acells (l : List ACT) : List V := l.flatMap ACT.cells
theorem acells_len (l : List ACT) : (acells l).length = l.length * 3 := by
  induction l with
  | nil => rfl
  | cons w l ih =>
    show (ACT.cells w ++ acells l).length = _
    rw [List.length_append, ih]
    show 3 + _ = (l.length + 1) * 3
    omega
theorem acells_drop : ∀ (l : List ACT) (i : Nat), (acells l).drop (i * 3) = acells (l.drop i)
  | l, 0 => by simp
  | [], i + 1 => by simp [acells]
  | w :: l, i + 1 => by
    have ih := acells_drop l i
    rw [show (i + 1) * 3 = 3 + i * 3 by omega, List.drop_succ_cons, ← ih, show acells (w :: l) = w.cells ++ acells l from rfl, ← List.drop_drop]
    rfl
theorem acells_at {l : List ACT} {i : Nat} (hi : i < l.length) : ((acells l).drop (i * 3)).take 3 = [.int .i64 l[i].kd, .int .i64 l[i].n, bo l[i].y] := by
  rw [acells_drop, List.drop_eq_getElem_cons hi]
  rfl
theorem three_at {cs : List V} {k : Nat} {a b c : V} (h : (cs.drop k).take 3 = [a, b, c]) : cs[k]? = some a ∧ cs[k + 1]? = some b ∧ cs[k + 2]? = some c := by
  have h0 := congrArg (fun l : List V => l[0]?) h
  have h1 := congrArg (fun l : List V => l[1]?) h
  have h2 := congrArg (fun l : List V => l[2]?) h
  simp only [List.getElem?_take, List.getElem?_drop] at h0 h1 h2
  exact ⟨h0, h1, h2⟩
def ARow (h : H) (lv : V) (l : List ACT) : Prop := (lv = .nilslice ∧ l = []) ∨ ∃ b m, lv = .slice b 0 l.length m ∧ b < h.nx ∧ h.get b = some (.ro (acells l))
theorem ARow.len {h : H} {lv : V} {l : List ACT} (ha : ARow h lv l) : lenO (some (.slice 39)) lv = some (.int .i64 l.length) := by
  rcases ha with ⟨rfl, rfl⟩ | ⟨b, m, rfl, _⟩ <;> rfl
theorem ARow.ext {h h' : H} {lv : V} {l : List ACT} (ha : ARow h lv l) (hx : Ext h h') : ARow h' lv l := by
  rcases ha with h1 | ⟨b, m, rfl, hb, hg⟩
  · exact .inl h1
  · exact .inr ⟨b, m, rfl, Nat.lt_of_lt_of_le hb hx.1, by rw [hx.2 _ hb]; exact hg⟩
theorem ARow.opened {h : H} {lv : V} {l : List ACT} (ha : ARow h lv l) (h0 : 0 < l.length) : ∃ b m, lv = .slice b 0 l.length m ∧ b < h.nx ∧ h.get b = some (.ro (acells l)) := by
  rcases ha with ⟨_, rfl⟩ | h1
  · cases h0
  · exact h1
def ints (l : List Int) : List V := l.map (V.int .i64)
theorem ints_len (l : List Int) : (ints l).length = l.length := List.length_map ..
def dis (a b : V) : Prop := ∀ k o n m o' n' m', a = .slice k o n m → b ≠ .slice k o' n' m'
theorem dis.symm {a b : V} (h : dis a b) : dis b a := fun k o n m o' n' m' q w => h k o' n' m' o n m w q
structure Tri (n0 : Nat) (h : H) (hv cv nv : V) (t : Tr) : Prop where
  had : Lst n0 h hv (ints t.had) 3 1
  clean : Lst n0 h cv (ints t.clean) 3 1
  now : Lst n0 h nv (ints t.now) 3 1
  d1 : dis hv cv
  d2 : dis hv nv
  d3 : dis cv nv
theorem Tri.keep {n0 : Nat} {h h' : H} {hv cv nv : V} {t : Tr} (x : Tri n0 h hv cv nv t) (hn : h.nx ≤ h'.nx) (hk : ∀ k o n m, (hv = .slice k o n m ∨ cv = .slice k o n m ∨ nv = .slice k o n m) → h'.get k = h.get k) : Tri n0 h' hv cv nv t :=
  ⟨Lst.keep x.had hn fun k o n m q => hk k o n m (.inl q), Lst.keep x.clean hn fun k o n m q => hk k o n m (.inr (.inl q)), Lst.keep x.now hn fun k o n m q => hk k o n m (.inr (.inr q)), x.d1, x.d2, x.d3⟩
theorem Tri.ext {n0 : Nat} {h h' : H} {hv cv nv : V} {t : Tr} (x : Tri n0 h hv cv nv t) (hx : Ext h h') : Tri n0 h' hv cv nv t :=
  ⟨x.had.ext hx, x.clean.ext hx, x.now.ext hx, x.d1, x.d2, x.d3⟩
theorem lst_put {n0 : Nat} {h : H} {b : Nat} {l l' : List Int} (hb : n0 ≤ b ∧ b < h.nx) (hl : l'.length = l.length) (h0 : 0 < l.length) : Lst n0 (h.put b (.cells (ints l') 3 true)) (.slice b 0 l.length l.length) (ints l') 3 1 :=
  .inl (.inr ⟨b, l.length, hb.1, hb.2, rfl, h0, put_eq rfl, by rw [ints_len, hl]; omega⟩)
theorem Tri.setC {n0 : Nat} {h : H} {hv cv nv : V} {t : Tr} (x : Tri n0 h hv cv nv t) {i : Nat} (hi : i < t.clean.length) : ∃ b, cv = .slice b 0 t.clean.length t.clean.length ∧ n0 ≤ b ∧ b < h.nx ∧ h.get b = some (.cells (ints t.clean) 3 true) ∧ ∀ v, Tri n0 (h.put b (.cells (ints (t.clean.set i v)) 3 true)) hv cv nv { t with clean := t.clean.set i v } := by
  obtain ⟨b, rfl, h1, h2, h3⟩ := lst_rowV x.clean (by omega)
  refine ⟨b, rfl, h1, h2, h3, fun v => ⟨Lst.put' x.had fun k o n m q e => by subst e; exact x.d1 _ _ _ _ _ _ _ q rfl, lst_put ⟨h1, h2⟩ (List.length_set ..) (by omega), Lst.put' x.now fun k o n m q e => by subst e; exact x.d3.symm _ _ _ _ _ _ _ q rfl, x.d1, x.d2, x.d3⟩⟩
theorem PR.not3 {D : PD} {P : PS} {h : H} (r : PR D P h) {k : Nat} {c : List V} {fl : Bool} (hk : h.get k = some (.cells c 3 fl)) : ¬ owns D P k ∧ ∀ o n m, D.wv ≠ .slice k o n m := by
  refine ⟨fun q => ?_, fun o n m q => ?_⟩
  · rcases q with rfl | rfl | ⟨x, hx, rfl⟩ | ⟨o, n, m, q⟩
    · rw [r.pool] at hk; simp at hk
    · rw [r.map] at hk; simp at hk
    · rw [r.conn x hx] at hk; simp at hk
    · rcases r.mvs with (⟨h0, _⟩ | ⟨b, n', _, _, h3, _, h5, _⟩) | ⟨_, b, _, _, h3, h5⟩
      · rw [h0] at q; cases q
      · rw [h3] at q; cases q; rw [h5] at hk; simp at hk
      · rw [h3] at q; cases q; rw [h5] at hk; simp at hk
  · rcases r.wts with ⟨h0, _⟩ | ⟨b, o', m', c', fl', h3, _, h5, _⟩
    · rw [h0] at q; cases q
    · rw [h3] at q; cases q; rw [h5] at hk; simp at hk
end
end Go.Proofs.Ytbebdlmldogcmaa
set_option linter.unusedSimpArgs false
set_option linter.unusedVariables false
set_option linter.unusedSectionVars false
set_option linter.defProp false
set_option maxRecDepth 10000
set_option maxHeartbeats 1000000
namespace Go.Proofs.Ytbebdlmldogcmaa
open Int (reduceLE reduceLT reduceToNat)
open Nat (reduceLeDiff reduceEqDiff reduceAdd)
open Go.Proofs Go.Lx Go.Wx Go.IntWalk
noncomputable section

theorem pool_nil (b : Nat) : binV Try.prog .eql 22 (constO (.tmp 31) || constO (.const (Value.pointer none))) (.ptr b 0) .nilptr = some (.bool false) := by kernel_rfl
theorem Lst.get3 {n0 : Nat} {h : H} {v : V} {cells : List V} (hl : Lst n0 h v cells 3 1) {k o n m : Nat} (q : v = .slice k o n m) : ∃ c fl, h.get k = some (.cells c 3 fl) := by
  rcases hl with (⟨h0, _⟩ | ⟨b, n', _, _, h3, _, h5, _⟩) | ⟨_, b, _, _, h3, h5⟩
  · rw [h0] at q; cases q
  · rw [h3] at q; cases q; exact ⟨_, _, h5⟩
  · rw [h3] at q; cases q; exact ⟨_, _, h5⟩
theorem Tri.get {n0 : Nat} {h : H} {hv cv nv : V} {t : Tr} (x : Tri n0 h hv cv nv t) {k o n m : Nat} (q : hv = .slice k o n m ∨ cv = .slice k o n m ∨ nv = .slice k o n m) : k < h.nx ∧ ∃ c fl, h.get k = some (.cells c 3 fl) := by
  rcases q with q | q | q
  · exact ⟨Lst.lt x.had q, Lst.get3 x.had q⟩
  · exact ⟨Lst.lt x.clean q, Lst.get3 x.clean q⟩
  · exact ⟨Lst.lt x.now q, Lst.get3 x.now q⟩
theorem Tri.step {n0 : Nat} {h h1 : H} {hv cv nv : V} {t : Tr} {D D1 : PD} {P P1 : PS} (x : Tri n0 h hv cv nv t) (r : PR D P h) (st : Stp D P h D1 P1 h1) : Tri n0 h1 hv cv nv t := by
  refine x.keep st.nx fun k o n m q => ?_
  obtain ⟨g1, c, fl, g2⟩ := x.get q
  exact st.same k g1 (r.not3 g2).1
theorem cond_yes {c : Cfg} {Ok : Nat → Prop} {k : List Kt} {Q : Ex → Env → H → Prop} {env : Env} {h : H} {x : Operand} {a b : Code} {p : Prop} (hv : evalE env x = bo p) (hp : p) (hB : run c Ok k a env h Q) : run c Ok k (.cond x a b) env h Q := by
  rw [run_cond, hv, condW_bo]
  exact ⟨fun _ => hB, fun q => absurd hp q⟩
theorem Lst.get42 {n0 : Nat} {h : H} {v : V} {cells : List V} (hl : Lst n0 h v cells 42 3) {k o n m : Nat} (q : v = .slice k o n m) : ∃ c fl, h.get k = some (.cells c 42 fl) := by
  rcases hl with (⟨h0, _⟩ | ⟨b, n', _, _, h3, _, h5, _⟩) | ⟨_, b, _, _, h3, h5⟩
  · rw [h0] at q; cases q
  · rw [h3] at q; cases q; exact ⟨_, _, h5⟩
  · rw [h3] at q; cases q; exact ⟨_, _, h5⟩
structure CW (h0 : H) (D : PD) (P : PS) (hv cv nv : V) (t : Tr) (mv : V) (ms : List MV) (h' : H) : Prop where
  pr : PR D P h'
  tri : Tri h0.nx h' hv cv nv t
  mvs : Lst 0 h' mv (mcells ms) 42 3
  own : ∀ k, owns D P k → h0.nx ≤ k
  ext : Ext h0 h'
theorem CW.of {h0 : H} {D : PD} {P : PS} {hv cv nv hv' cv' nv' : V} {t t' : Tr} {mv : V} {ms : List MV} {h' h4 : H} (x : CW h0 D P hv cv nv t mv ms h') (hn : h'.nx ≤ h4.nx) (hk : ∀ k, k < h'.nx → (∀ c fl, h'.get k ≠ some (.cells c 3 fl)) → h4.get k = h'.get k) (hk0 : ∀ k, k < h0.nx → h4.get k = h'.get k) (tri : Tri h0.nx h4 hv' cv' nv' t') : CW h0 D P hv' cv' nv' t' mv ms h4 where
  pr := x.pr.keep hn (fun k q => hk k (owns_lt x.pr q) fun c fl e => (x.pr.not3 e).1 q) (fun k o n m q => hk k (x.pr.wts.lt q) fun c fl e => (x.pr.not3 e).2 o n m q)
  tri := tri
  mvs := Lst.keep x.mvs hn fun k o n m q => hk k (Lst.lt x.mvs q) fun c fl e => by
    obtain ⟨c', fl', e'⟩ := Lst.get42 x.mvs q
    rw [e'] at e
    simp at e
  own := x.own
  ext := ⟨Nat.le_trans x.ext.1 hn, fun k hk => by rw [hk0 k hk, x.ext.2 k hk]⟩
theorem CW.grow {h0 : H} {D : PD} {P : PS} {hv cv nv : V} {t : Tr} {mv : V} {ms : List MV} {h' h4 : H} (x : CW h0 D P hv cv nv t mv ms h') (hx : Ext h' h4) : CW h0 D P hv cv nv t mv ms h4 :=
  x.of hx.1 (fun k hk _ => hx.2 k hk) (fun k hk => hx.2 k (Nat.lt_of_lt_of_le hk x.ext.1)) (x.tri.ext hx)
theorem CW.wrote {h0 : H} {D : PD} {P : PS} {hv cv nv : V} {t t' : Tr} {mv : V} {ms : List MV} {h' : H} (x : CW h0 D P hv cv nv t mv ms h') {b : Nat} {c : List V} {fl : Bool} {ob : Ob} (hb : h0.nx ≤ b) (hg : h'.get b = some (.cells c 3 fl)) (tri : Tri h0.nx (h'.put b ob) hv cv nv t') : CW h0 D P hv cv nv t' mv ms (h'.put b ob) :=
  x.of (Nat.le_refl _) (fun k hk hne => put_ne fun e => hne c fl (by rw [e]; exact hg)) (fun k hk => put_ne (by omega)) tri
variable {S : Set0} (hS : StdP S)
include hS
end
end Go.Proofs.Ytbebdlmldogcmaa
set_option linter.unusedSimpArgs false
set_option linter.unusedVariables false
set_option linter.unusedSectionVars false
set_option linter.defProp false
set_option maxRecDepth 10000
set_option maxHeartbeats 1000000
namespace Go.Proofs.Ytbebdlmldogcmaa
open Int (reduceLE reduceLT reduceToNat)
open Nat (reduceLeDiff reduceEqDiff reduceAdd)
open Go.Proofs Go.Lx Go.Wx Go.IntWalk
noncomputable section

theorem flat_int (k : IntKind) (a b : Int) : eqFlat (.int k) (.int k a) (.int k b) = some (decide (a = b)) := by
  unfold eqFlat
  simp
  rfl
theorem eql_wt (c : Bool) (a b a' b' : Int) : binV Try.prog .eql 61 c (.agg [.int .i64 a, .int .i64 b]) (.agg [.int .i64 a', .int .i64 b']) = some (bo (a = a' ∧ b = b')) := by
  have e : binV Try.prog .eql 61 c (.agg [.int .i64 a, .int .i64 b]) (.agg [.int .i64 a', .int .i64 b']) = (match eqFlat (.int .i64) (.int .i64 a) (.int .i64 a') with
    | some true => (match eqFlat (.int .i64) (.int .i64 b) (.int .i64 b') with
      | some true => some true
      | r => r)
    | r => r).map V.bool := by kernel_rfl
  rw [e, flat_int, flat_int]
  unfold bo
  by_cases h1 : a = a'
  · by_cases h2 : b = b'
    · simp [h1, h2]
    · simp [h1, h2]
  · simp [h1]
def ordLf (t kind client : Int) (w : WT) : Prop := (kind = 5 ∧ w.cl = client) ∨ w.til ≤ t ∨ kind = 9
def ordP (was now : List WT) (t kind client : Int) : Prop := ∃ k, ordK (ordLf t kind client) now was 0 = some k ∧ (∀ w ∈ now, t < w.til) ∧ (k = now.length ∨ kind = 0 ∧ k + 1 = now.length ∧ ∃ w, now[k]? = some w ∧ w.cl = client)
def Or1 (was now : List WT) (wv nv : V) (t kind client : Int) (h0 : H) (m : Nat) (env : Env) (h' : H) : Prop :=
  ∃ (i k : Nat), m = was.length - i ∧ i ≤ was.length ∧ k ≤ i ∧ env 0 = wv ∧ env 1 = nv ∧ env 2 = .int .i64 t ∧ env 3 = .int .i64 kind ∧ env 4 = .int .i64 client ∧ env 11 = .int .i64 k ∧ env 12 = .int .i64 i ∧ h' = h0 ∧ k ≤ now.length ∧ ordK (ordLf t kind client) now (was.drop i) k = ordK (ordLf t kind client) now was 0
def Or2 (now : List WT) (nv : V) (t kind client : Int) (k : Nat) (h0 : H) (m : Nat) (env : Env) (h' : H) : Prop :=
  ∃ (i : Nat), m = now.length - i ∧ i ≤ now.length ∧ env 1 = nv ∧ env 2 = .int .i64 t ∧ env 3 = .int .i64 kind ∧ env 4 = .int .i64 client ∧ env 11 = .int .i64 k ∧ env 14 = .int .i64 i ∧ h' = h0 ∧ ∀ a (ha : a < now.length), a < i → t < now[a].til
variable {S : Set0} (hS : StdP S)
include hS
theorem order_spec {h : H} {wv nv : V} {was now : List WT} (hw : Wts h wv was) (hn : Wts h nv now) (hl1 : was.length ≤ 1000) (hl2 : now.length ≤ 1000) (t kind client : Int) : Exact S.cfg 21 [wv, nv, .int .i64 t, .int .i64 kind, .int .i64 client] h (bo (ordP was now t kind client)) := by
  refine into Try.f21 _ Try.func21 (hS.ownP _ (by decide)) rfl rfl (by kernel_rfl) (by kernel_rfl) ?_
  have hlw := hw.len
  have hln := hn.len
  simp +contextual (disch := first | (simp only [fq]; done) | omega | (simp only [Knx]; omega) | (apply Nat.le_antisymm <;> simp only [Knx] <;> omega) | fail) only [wpy, fW, reduceLE, reduceLT, reduceLeDiff, UInt8.reduceToNat, ↓reduceIte, reduceEqDiff, reduceAdd, reduceCtorEq, reduceToNat, Try.f21]
  refine run_loop_cut (fun env' h' => ∃ k, env' 1 = nv ∧ env' 2 = .int .i64 t ∧ env' 3 = .int .i64 kind ∧ env' 4 = .int .i64 client ∧ env' 11 = .int .i64 (k : Nat) ∧ k ≤ now.length ∧ h' = h ∧ ordK (ordLf t kind client) now was 0 = some k) ?_ ?_
  · refine run_loop (Or1 was now wv nv t kind client h) was.length ⟨0, 0, (Nat.sub_zero _).symm, Nat.zero_le _, Nat.le_refl _, by simp +contextual (disch := first | (simp only [fq]; done) | omega | (simp only [Knx]; omega) | (apply Nat.le_antisymm <;> simp only [Knx] <;> omega) | fail) only [wpy, fW, reduceLE, reduceLT, reduceLeDiff, UInt8.reduceToNat, ↓reduceIte, reduceEqDiff, reduceAdd, reduceCtorEq, reduceToNat], by simp +contextual (disch := first | (simp only [fq]; done) | omega | (simp only [Knx]; omega) | (apply Nat.le_antisymm <;> simp only [Knx] <;> omega) | fail) only [wpy, fW, reduceLE, reduceLT, reduceLeDiff, UInt8.reduceToNat, ↓reduceIte, reduceEqDiff, reduceAdd, reduceCtorEq, reduceToNat], by simp +contextual (disch := first | (simp only [fq]; done) | omega | (simp only [Knx]; omega) | (apply Nat.le_antisymm <;> simp only [Knx] <;> omega) | fail) only [wpy, fW, reduceLE, reduceLT, reduceLeDiff, UInt8.reduceToNat, ↓reduceIte, reduceEqDiff, reduceAdd, reduceCtorEq, reduceToNat], by simp +contextual (disch := first | (simp only [fq]; done) | omega | (simp only [Knx]; omega) | (apply Nat.le_antisymm <;> simp only [Knx] <;> omega) | fail) only [wpy, fW, reduceLE, reduceLT, reduceLeDiff, UInt8.reduceToNat, ↓reduceIte, reduceEqDiff, reduceAdd, reduceCtorEq, reduceToNat], by simp +contextual (disch := first | (simp only [fq]; done) | omega | (simp only [Knx]; omega) | (apply Nat.le_antisymm <;> simp only [Knx] <;> omega) | fail) only [wpy, fW, reduceLE, reduceLT, reduceLeDiff, UInt8.reduceToNat, ↓reduceIte, reduceEqDiff, reduceAdd, reduceCtorEq, reduceToNat], by simp +contextual (disch := first | (simp only [fq]; done) | omega | (simp only [Knx]; omega) | (apply Nat.le_antisymm <;> simp only [Knx] <;> omega) | fail) only [wpy, fW, reduceLE, reduceLT, reduceLeDiff, UInt8.reduceToNat, ↓reduceIte, reduceEqDiff, reduceAdd, reduceCtorEq, reduceToNat], by simp +contextual (disch := first | (simp only [fq]; done) | omega | (simp only [Knx]; omega) | (apply Nat.le_antisymm <;> simp only [Knx] <;> omega) | fail) only [wpy, fW, reduceLE, reduceLT, reduceLeDiff, UInt8.reduceToNat, ↓reduceIte, reduceEqDiff, reduceAdd, reduceCtorEq, reduceToNat], rfl, Nat.zero_le _, rfl⟩ ?_
    rintro m env h1 ⟨i, k, rfl, hi, hki, e0, e1, e2, e3, e4, e11, e12, rfl, hkn, hor⟩
    by_cases hlt : i < was.length
    · obtain ⟨wb, wo, wm, wc, wfl, rfl, hwm, hwn, hwg, hwc⟩ := hw.opened (by omega)
      obtain ⟨x0, x1⟩ := hwc i hlt
      obtain ⟨y0, y1⟩ := wcell_get x1
      have hd : was.drop i = was[i] :: was.drop (i + 1) := List.drop_eq_getElem_cons hlt
      rw [hd, ordK] at hor
      have hwi : IntKind.i64.wrap ((i : Int) + 1) = ((i + 1 : Nat) : Int) := by rw [i64_in _ (by omega)]; omega
      have hwk : IntKind.i64.wrap ((k : Int) + 1) = ((k + 1 : Nat) : Int) := by rw [i64_in _ (by omega)]; omega
      have x2 : (wc.drop (wo + i * 2)).take 2 = [.int .i64 was[i].cl, .int .i64 was[i].til] := x1
      by_cases hit : now[k]? = some was[i]
      · have hkl : k < now.length := by
          rcases Nat.lt_or_ge k now.length with q | q
          · exact q
          · rw [List.getElem?_eq_none q] at hit; cases hit
        obtain ⟨nb, no, nm, nc, nfl, rfl, hnm, hnn, hng, hnc⟩ := hn.opened (by omega)
        obtain ⟨z0, z1⟩ := hnc k hkl
        have ek : now[k] = was[i] := by rw [List.getElem?_eq_getElem hkl] at hit; exact Option.some.inj hit
        have z2 : (nc.drop (no + k * 2)).take 2 = [.int .i64 was[i].cl, .int .i64 was[i].til] := by rw [z1, ek]; rfl
        rw [if_pos hit] at hor
        simp +contextual (disch := first | (simp only [fq]; done) | omega | (simp only [Knx]; omega) | (apply Nat.le_antisymm <;> simp only [Knx] <;> omega) | fail) only [wpyr, fW, reduceLE, reduceLT, reduceLeDiff, UInt8.reduceToNat, ↓reduceIte, reduceEqDiff, reduceAdd, reduceCtorEq, reduceToNat, Try.f21, e0, e1, e11, e12, hlw, hlt]
        refine cond_yes (p := True) (by simp +contextual (disch := first | (simp only [fq]; done) | omega | (simp only [Knx]; omega) | (apply Nat.le_antisymm <;> simp only [Knx] <;> omega) | fail) only [wpy, fW, reduceLE, reduceLT, reduceLeDiff, UInt8.reduceToNat, ↓reduceIte, reduceEqDiff, reduceAdd, reduceCtorEq, reduceToNat]) trivial ?_
        simp +contextual (disch := first | (simp only [fq]; done) | omega | (simp only [Knx]; omega) | (apply Nat.le_antisymm <;> simp only [Knx] <;> omega) | fail) only [wpyr, fW, reduceLE, reduceLT, reduceLeDiff, UInt8.reduceToNat, ↓reduceIte, reduceEqDiff, reduceAdd, reduceCtorEq, reduceToNat, Try.f21]
        refine draw_by [] (by kernel_rfl) ?_
        simp +contextual (disch := first | (simp only [fq]; done) | omega | (simp only [Knx]; omega) | (apply Nat.le_antisymm <;> simp only [Knx] <;> omega) | fail) only [wpy, fW, reduceLE, reduceLT, reduceLeDiff, UInt8.reduceToNat, ↓reduceIte, reduceEqDiff, reduceAdd, reduceCtorEq, reduceToNat, Try.f21, e0, e1, e11, e12, hlt, hln, hkl, hwg, hng, x0, x2, z0, z2, eql_wt]
        exact ⟨fun p hp => (by cases hp), was.length - (i + 1), by omega, i + 1, k + 1, rfl, hlt, by omega, by simp +contextual (disch := first | (simp only [fq]; done) | omega | (simp only [Knx]; omega) | (apply Nat.le_antisymm <;> simp only [Knx] <;> omega) | fail) only [wpy, fW, reduceLE, reduceLT, reduceLeDiff, UInt8.reduceToNat, ↓reduceIte, reduceEqDiff, reduceAdd, reduceCtorEq, reduceToNat, e0], by simp +contextual (disch := first | (simp only [fq]; done) | omega | (simp only [Knx]; omega) | (apply Nat.le_antisymm <;> simp only [Knx] <;> omega) | fail) only [wpy, fW, reduceLE, reduceLT, reduceLeDiff, UInt8.reduceToNat, ↓reduceIte, reduceEqDiff, reduceAdd, reduceCtorEq, reduceToNat, e1], by simp +contextual (disch := first | (simp only [fq]; done) | omega | (simp only [Knx]; omega) | (apply Nat.le_antisymm <;> simp only [Knx] <;> omega) | fail) only [wpy, fW, reduceLE, reduceLT, reduceLeDiff, UInt8.reduceToNat, ↓reduceIte, reduceEqDiff, reduceAdd, reduceCtorEq, reduceToNat, e2], by simp +contextual (disch := first | (simp only [fq]; done) | omega | (simp only [Knx]; omega) | (apply Nat.le_antisymm <;> simp only [Knx] <;> omega) | fail) only [wpy, fW, reduceLE, reduceLT, reduceLeDiff, UInt8.reduceToNat, ↓reduceIte, reduceEqDiff, reduceAdd, reduceCtorEq, reduceToNat, e3], by simp +contextual (disch := first | (simp only [fq]; done) | omega | (simp only [Knx]; omega) | (apply Nat.le_antisymm <;> simp only [Knx] <;> omega) | fail) only [wpy, fW, reduceLE, reduceLT, reduceLeDiff, UInt8.reduceToNat, ↓reduceIte, reduceEqDiff, reduceAdd, reduceCtorEq, reduceToNat, e4], by simp +contextual (disch := first | (simp only [fq]; done) | omega | (simp only [Knx]; omega) | (apply Nat.le_antisymm <;> simp only [Knx] <;> omega) | fail) only [wpy, fW, reduceLE, reduceLT, reduceLeDiff, UInt8.reduceToNat, ↓reduceIte, reduceEqDiff, reduceAdd, reduceCtorEq, reduceToNat, hwk], by simp +contextual (disch := first | (simp only [fq]; done) | omega | (simp only [Knx]; omega) | (apply Nat.le_antisymm <;> simp only [Knx] <;> omega) | fail) only [wpy, fW, reduceLE, reduceLT, reduceLeDiff, UInt8.reduceToNat, ↓reduceIte, reduceEqDiff, reduceAdd, reduceCtorEq, reduceToNat, hwi], rfl, hkl, hor⟩
      · have hL : ordLf t kind client was[i] ↔ ((kind = 5 ∧ was[i].cl = client ∨ was[i].til ≤ t) ∨ kind = 9) := ⟨fun q => q.elim (fun q => .inl (.inl q)) (fun q => q.elim (fun q => .inl (.inr q)) .inr), fun q => q.elim (fun q => q.elim .inl (fun q => .inr (.inl q))) (fun q => .inr (.inr q))⟩
        rw [if_neg hit] at hor
        by_cases hkl : k < now.length
        · obtain ⟨nb, no, nm, nc, nfl, rfl, hnm, hnn, hng, hnc⟩ := hn.opened (by omega)
          obtain ⟨z0, z1⟩ := hnc k hkl
          have z2 : (nc.drop (no + k * 2)).take 2 = [.int .i64 now[k].cl, .int .i64 now[k].til] := z1
          have hne : (was[i].cl = now[k].cl ∧ was[i].til = now[k].til) = False := eq_false fun q => hit (by
            rw [List.getElem?_eq_getElem hkl]
            congr 1
            cases hA : now[k]
            cases hB : was[i]
            rw [hA, hB] at q
            simp only at q
            rw [q.1, q.2])
          simp +contextual (disch := first | (simp only [fq]; done) | omega | (simp only [Knx]; omega) | (apply Nat.le_antisymm <;> simp only [Knx] <;> omega) | fail) only [wpyr, fW, reduceLE, reduceLT, reduceLeDiff, UInt8.reduceToNat, ↓reduceIte, reduceEqDiff, reduceAdd, reduceCtorEq, reduceToNat, Try.f21, e0, e1, e11, e12, hlw, hlt]
          refine cond_yes (p := True) (by simp +contextual (disch := first | (simp only [fq]; done) | omega | (simp only [Knx]; omega) | (apply Nat.le_antisymm <;> simp only [Knx] <;> omega) | fail) only [wpy, fW, reduceLE, reduceLT, reduceLeDiff, UInt8.reduceToNat, ↓reduceIte, reduceEqDiff, reduceAdd, reduceCtorEq, reduceToNat]) trivial ?_
          simp +contextual (disch := first | (simp only [fq]; done) | omega | (simp only [Knx]; omega) | (apply Nat.le_antisymm <;> simp only [Knx] <;> omega) | fail) only [wpyr, fW, reduceLE, reduceLT, reduceLeDiff, UInt8.reduceToNat, ↓reduceIte, reduceEqDiff, reduceAdd, reduceCtorEq, reduceToNat, Try.f21]
          refine draw_by [] (by kernel_rfl) ?_
          simp +contextual (disch := first | (simp only [fq]; done) | omega | (simp only [Knx]; omega) | (apply Nat.le_antisymm <;> simp only [Knx] <;> omega) | fail) only [wpy, fW, reduceLE, reduceLT, reduceLeDiff, UInt8.reduceToNat, ↓reduceIte, reduceEqDiff, reduceAdd, reduceCtorEq, reduceToNat, Try.f21, e0, e1, e2, e3, e4, e11, e12, hlt, hln, hkl, hwg, hng, x0, x2, z0, z2, eql_wt, hne, y0, y1]
          refine ⟨fun p hp => (by cases hp), fun q => bo_eq ⟨fun w => w.elim, fun ⟨k', w, _⟩ => ?_⟩, fun q => ⟨was.length - (i + 1), by omega, i + 1, k, rfl, hlt, by omega, by simp +contextual (disch := first | (simp only [fq]; done) | omega | (simp only [Knx]; omega) | (apply Nat.le_antisymm <;> simp only [Knx] <;> omega) | fail) only [wpy, fW, reduceLE, reduceLT, reduceLeDiff, UInt8.reduceToNat, ↓reduceIte, reduceEqDiff, reduceAdd, reduceCtorEq, reduceToNat, e0], by simp +contextual (disch := first | (simp only [fq]; done) | omega | (simp only [Knx]; omega) | (apply Nat.le_antisymm <;> simp only [Knx] <;> omega) | fail) only [wpy, fW, reduceLE, reduceLT, reduceLeDiff, UInt8.reduceToNat, ↓reduceIte, reduceEqDiff, reduceAdd, reduceCtorEq, reduceToNat, e1], by simp +contextual (disch := first | (simp only [fq]; done) | omega | (simp only [Knx]; omega) | (apply Nat.le_antisymm <;> simp only [Knx] <;> omega) | fail) only [wpy, fW, reduceLE, reduceLT, reduceLeDiff, UInt8.reduceToNat, ↓reduceIte, reduceEqDiff, reduceAdd, reduceCtorEq, reduceToNat, e2], by simp +contextual (disch := first | (simp only [fq]; done) | omega | (simp only [Knx]; omega) | (apply Nat.le_antisymm <;> simp only [Knx] <;> omega) | fail) only [wpy, fW, reduceLE, reduceLT, reduceLeDiff, UInt8.reduceToNat, ↓reduceIte, reduceEqDiff, reduceAdd, reduceCtorEq, reduceToNat, e3], by simp +contextual (disch := first | (simp only [fq]; done) | omega | (simp only [Knx]; omega) | (apply Nat.le_antisymm <;> simp only [Knx] <;> omega) | fail) only [wpy, fW, reduceLE, reduceLT, reduceLeDiff, UInt8.reduceToNat, ↓reduceIte, reduceEqDiff, reduceAdd, reduceCtorEq, reduceToNat, e4], by simp +contextual (disch := first | (simp only [fq]; done) | omega | (simp only [Knx]; omega) | (apply Nat.le_antisymm <;> simp only [Knx] <;> omega) | fail) only [wpy, fW, reduceLE, reduceLT, reduceLeDiff, UInt8.reduceToNat, ↓reduceIte, reduceEqDiff, reduceAdd, reduceCtorEq, reduceToNat, e11], by simp +contextual (disch := first | (simp only [fq]; done) | omega | (simp only [Knx]; omega) | (apply Nat.le_antisymm <;> simp only [Knx] <;> omega) | fail) only [wpy, fW, reduceLE, reduceLT, reduceLeDiff, UInt8.reduceToNat, ↓reduceIte, reduceEqDiff, reduceAdd, reduceCtorEq, reduceToNat, hwi], rfl, hkn, ?_⟩⟩
          · rw [if_pos ⟨q.1, fun w => q.2 (hL.1 w)⟩] at hor
            rw [← hor] at w
            cases w
          · rw [if_neg (fun w => q ⟨w.1, fun u => w.2 (hL.2 u)⟩)] at hor
            exact hor
        · simp +contextual (disch := first | (simp only [fq]; done) | omega | (simp only [Knx]; omega) | (apply Nat.le_antisymm <;> simp only [Knx] <;> omega) | fail) only [wpyr, fW, reduceLE, reduceLT, reduceLeDiff, UInt8.reduceToNat, ↓reduceIte, reduceEqDiff, reduceAdd, reduceCtorEq, reduceToNat, Try.f21, e0, e1, e11, e12, hlw, hlt]
          refine cond_yes (p := True) (by simp +contextual (disch := first | (simp only [fq]; done) | omega | (simp only [Knx]; omega) | (apply Nat.le_antisymm <;> simp only [Knx] <;> omega) | fail) only [wpy, fW, reduceLE, reduceLT, reduceLeDiff, UInt8.reduceToNat, ↓reduceIte, reduceEqDiff, reduceAdd, reduceCtorEq, reduceToNat]) trivial ?_
          simp +contextual (disch := first | (simp only [fq]; done) | omega | (simp only [Knx]; omega) | (apply Nat.le_antisymm <;> simp only [Knx] <;> omega) | fail) only [wpyr, fW, reduceLE, reduceLT, reduceLeDiff, UInt8.reduceToNat, ↓reduceIte, reduceEqDiff, reduceAdd, reduceCtorEq, reduceToNat, Try.f21]
          refine draw_by [] (by kernel_rfl) ?_
          simp +contextual (disch := first | (simp only [fq]; done) | omega | (simp only [Knx]; omega) | (apply Nat.le_antisymm <;> simp only [Knx] <;> omega) | fail) only [wpy, fW, reduceLE, reduceLT, reduceLeDiff, UInt8.reduceToNat, ↓reduceIte, reduceEqDiff, reduceAdd, reduceCtorEq, reduceToNat, Try.f21, e0, e1, e2, e3, e4, e11, e12, hlt, hln, hkl, hwg, x0, x2, y0, y1]
          refine ⟨fun p hp => (by cases hp), fun q => bo_eq ⟨fun w => w.elim, fun ⟨k', w, _⟩ => ?_⟩, fun q => ⟨was.length - (i + 1), by omega, i + 1, k, rfl, hlt, by omega, by simp +contextual (disch := first | (simp only [fq]; done) | omega | (simp only [Knx]; omega) | (apply Nat.le_antisymm <;> simp only [Knx] <;> omega) | fail) only [wpy, fW, reduceLE, reduceLT, reduceLeDiff, UInt8.reduceToNat, ↓reduceIte, reduceEqDiff, reduceAdd, reduceCtorEq, reduceToNat, e0], by simp +contextual (disch := first | (simp only [fq]; done) | omega | (simp only [Knx]; omega) | (apply Nat.le_antisymm <;> simp only [Knx] <;> omega) | fail) only [wpy, fW, reduceLE, reduceLT, reduceLeDiff, UInt8.reduceToNat, ↓reduceIte, reduceEqDiff, reduceAdd, reduceCtorEq, reduceToNat, e1], by simp +contextual (disch := first | (simp only [fq]; done) | omega | (simp only [Knx]; omega) | (apply Nat.le_antisymm <;> simp only [Knx] <;> omega) | fail) only [wpy, fW, reduceLE, reduceLT, reduceLeDiff, UInt8.reduceToNat, ↓reduceIte, reduceEqDiff, reduceAdd, reduceCtorEq, reduceToNat, e2], by simp +contextual (disch := first | (simp only [fq]; done) | omega | (simp only [Knx]; omega) | (apply Nat.le_antisymm <;> simp only [Knx] <;> omega) | fail) only [wpy, fW, reduceLE, reduceLT, reduceLeDiff, UInt8.reduceToNat, ↓reduceIte, reduceEqDiff, reduceAdd, reduceCtorEq, reduceToNat, e3], by simp +contextual (disch := first | (simp only [fq]; done) | omega | (simp only [Knx]; omega) | (apply Nat.le_antisymm <;> simp only [Knx] <;> omega) | fail) only [wpy, fW, reduceLE, reduceLT, reduceLeDiff, UInt8.reduceToNat, ↓reduceIte, reduceEqDiff, reduceAdd, reduceCtorEq, reduceToNat, e4], by simp +contextual (disch := first | (simp only [fq]; done) | omega | (simp only [Knx]; omega) | (apply Nat.le_antisymm <;> simp only [Knx] <;> omega) | fail) only [wpy, fW, reduceLE, reduceLT, reduceLeDiff, UInt8.reduceToNat, ↓reduceIte, reduceEqDiff, reduceAdd, reduceCtorEq, reduceToNat, e11], by simp +contextual (disch := first | (simp only [fq]; done) | omega | (simp only [Knx]; omega) | (apply Nat.le_antisymm <;> simp only [Knx] <;> omega) | fail) only [wpy, fW, reduceLE, reduceLT, reduceLeDiff, UInt8.reduceToNat, ↓reduceIte, reduceEqDiff, reduceAdd, reduceCtorEq, reduceToNat, hwi], rfl, hkn, ?_⟩⟩
          · rw [if_pos ⟨q.1, fun w => q.2 (hL.1 w)⟩] at hor
            rw [← hor] at w
            cases w
          · rw [if_neg (fun w => q ⟨w.1, fun u => w.2 (hL.2 u)⟩)] at hor
            exact hor
    · have hie : i = was.length := by omega
      subst hie
      rw [List.drop_length] at hor
      simp +contextual (disch := first | (simp only [fq]; done) | omega | (simp only [Knx]; omega) | (apply Nat.le_antisymm <;> simp only [Knx] <;> omega) | fail) only [wpy, fW, reduceLE, reduceLT, reduceLeDiff, UInt8.reduceToNat, ↓reduceIte, reduceEqDiff, reduceAdd, reduceCtorEq, reduceToNat, Try.f21, e0, e1, e2, e3, e4, e11, e12, hlw, hlt]
      exact ⟨k, rfl, hkn, hor.symm⟩
  · rintro env1 h1 ⟨k, e1, e2, e3, e4, e11, hkn, rfl, hor⟩
    simp +contextual (disch := first | (simp only [fq]; done) | omega | (simp only [Knx]; omega) | (apply Nat.le_antisymm <;> simp only [Knx] <;> omega) | fail) only [wpy, fW, reduceLE, reduceLT, reduceLeDiff, UInt8.reduceToNat, ↓reduceIte, reduceEqDiff, reduceAdd, reduceCtorEq, reduceToNat, Try.f21]
    refine run_loop_cut (fun env' h' => env' 1 = nv ∧ env' 3 = .int .i64 kind ∧ env' 4 = .int .i64 client ∧ env' 11 = .int .i64 (k : Nat) ∧ h' = h1 ∧ ∀ w ∈ now, t < w.til) ?_ ?_
    · refine run_loop (Or2 now nv t kind client k h1) now.length ⟨0, (Nat.sub_zero _).symm, Nat.zero_le _, by simp +contextual (disch := first | (simp only [fq]; done) | omega | (simp only [Knx]; omega) | (apply Nat.le_antisymm <;> simp only [Knx] <;> omega) | fail) only [wpy, fW, reduceLE, reduceLT, reduceLeDiff, UInt8.reduceToNat, ↓reduceIte, reduceEqDiff, reduceAdd, reduceCtorEq, reduceToNat, e1], by simp +contextual (disch := first | (simp only [fq]; done) | omega | (simp only [Knx]; omega) | (apply Nat.le_antisymm <;> simp only [Knx] <;> omega) | fail) only [wpy, fW, reduceLE, reduceLT, reduceLeDiff, UInt8.reduceToNat, ↓reduceIte, reduceEqDiff, reduceAdd, reduceCtorEq, reduceToNat, e2], by simp +contextual (disch := first | (simp only [fq]; done) | omega | (simp only [Knx]; omega) | (apply Nat.le_antisymm <;> simp only [Knx] <;> omega) | fail) only [wpy, fW, reduceLE, reduceLT, reduceLeDiff, UInt8.reduceToNat, ↓reduceIte, reduceEqDiff, reduceAdd, reduceCtorEq, reduceToNat, e3], by simp +contextual (disch := first | (simp only [fq]; done) | omega | (simp only [Knx]; omega) | (apply Nat.le_antisymm <;> simp only [Knx] <;> omega) | fail) only [wpy, fW, reduceLE, reduceLT, reduceLeDiff, UInt8.reduceToNat, ↓reduceIte, reduceEqDiff, reduceAdd, reduceCtorEq, reduceToNat, e4], by simp +contextual (disch := first | (simp only [fq]; done) | omega | (simp only [Knx]; omega) | (apply Nat.le_antisymm <;> simp only [Knx] <;> omega) | fail) only [wpy, fW, reduceLE, reduceLT, reduceLeDiff, UInt8.reduceToNat, ↓reduceIte, reduceEqDiff, reduceAdd, reduceCtorEq, reduceToNat, e11], by simp +contextual (disch := first | (simp only [fq]; done) | omega | (simp only [Knx]; omega) | (apply Nat.le_antisymm <;> simp only [Knx] <;> omega) | fail) only [wpy, fW, reduceLE, reduceLT, reduceLeDiff, UInt8.reduceToNat, ↓reduceIte, reduceEqDiff, reduceAdd, reduceCtorEq, reduceToNat], rfl, fun a ha q => absurd q (Nat.not_lt_zero _)⟩ ?_
      rintro m env h2 ⟨i, rfl, hi, e1, e2, e3, e4, e11, e14, rfl, hall⟩
      by_cases hlt : i < now.length
      · obtain ⟨nb, no, nm, nc, nfl, rfl, hnm, hnn, hng, hnc⟩ := hn.opened (by omega)
        obtain ⟨z0, z1⟩ := hnc i hlt
        obtain ⟨y0, y1⟩ := wcell_get z1
        have hwi : IntKind.i64.wrap ((i : Int) + 1) = ((i + 1 : Nat) : Int) := by rw [i64_in _ (by omega)]; omega
        by_cases ht : now[i].til ≤ t
        · simp +contextual (disch := first | (simp only [fq]; done) | omega | (simp only [Knx]; omega) | (apply Nat.le_antisymm <;> simp only [Knx] <;> omega) | fail) only [wpy, fW, reduceLE, reduceLT, reduceLeDiff, UInt8.reduceToNat, ↓reduceIte, reduceEqDiff, reduceAdd, reduceCtorEq, reduceToNat, Try.f21, e1, e2, e3, e4, e11, e14, hlt, hng, y0, y1, ht]
          refine bo_eq ⟨fun w => w.elim, fun ⟨k', w, u, _⟩ => ?_⟩
          have := u _ (List.getElem_mem hlt)
          omega
        · simp +contextual (disch := first | (simp only [fq]; done) | omega | (simp only [Knx]; omega) | (apply Nat.le_antisymm <;> simp only [Knx] <;> omega) | fail) only [wpy, fW, reduceLE, reduceLT, reduceLeDiff, UInt8.reduceToNat, ↓reduceIte, reduceEqDiff, reduceAdd, reduceCtorEq, reduceToNat, Try.f21, e1, e2, e3, e4, e11, e14, hlt, hng, y0, y1, ht]
          refine ⟨now.length - (i + 1), by omega, i + 1, rfl, hlt, by simp +contextual (disch := first | (simp only [fq]; done) | omega | (simp only [Knx]; omega) | (apply Nat.le_antisymm <;> simp only [Knx] <;> omega) | fail) only [wpy, fW, reduceLE, reduceLT, reduceLeDiff, UInt8.reduceToNat, ↓reduceIte, reduceEqDiff, reduceAdd, reduceCtorEq, reduceToNat, e1], by simp +contextual (disch := first | (simp only [fq]; done) | omega | (simp only [Knx]; omega) | (apply Nat.le_antisymm <;> simp only [Knx] <;> omega) | fail) only [wpy, fW, reduceLE, reduceLT, reduceLeDiff, UInt8.reduceToNat, ↓reduceIte, reduceEqDiff, reduceAdd, reduceCtorEq, reduceToNat, e2], by simp +contextual (disch := first | (simp only [fq]; done) | omega | (simp only [Knx]; omega) | (apply Nat.le_antisymm <;> simp only [Knx] <;> omega) | fail) only [wpy, fW, reduceLE, reduceLT, reduceLeDiff, UInt8.reduceToNat, ↓reduceIte, reduceEqDiff, reduceAdd, reduceCtorEq, reduceToNat, e3], by simp +contextual (disch := first | (simp only [fq]; done) | omega | (simp only [Knx]; omega) | (apply Nat.le_antisymm <;> simp only [Knx] <;> omega) | fail) only [wpy, fW, reduceLE, reduceLT, reduceLeDiff, UInt8.reduceToNat, ↓reduceIte, reduceEqDiff, reduceAdd, reduceCtorEq, reduceToNat, e4], by simp +contextual (disch := first | (simp only [fq]; done) | omega | (simp only [Knx]; omega) | (apply Nat.le_antisymm <;> simp only [Knx] <;> omega) | fail) only [wpy, fW, reduceLE, reduceLT, reduceLeDiff, UInt8.reduceToNat, ↓reduceIte, reduceEqDiff, reduceAdd, reduceCtorEq, reduceToNat, e11], by simp +contextual (disch := first | (simp only [fq]; done) | omega | (simp only [Knx]; omega) | (apply Nat.le_antisymm <;> simp only [Knx] <;> omega) | fail) only [wpy, fW, reduceLE, reduceLT, reduceLeDiff, UInt8.reduceToNat, ↓reduceIte, reduceEqDiff, reduceAdd, reduceCtorEq, reduceToNat, hwi], rfl, fun a ha q => ?_⟩
          by_cases e : a = i
          · subst e; omega
          · exact hall a ha (by omega)
      · simp +contextual (disch := first | (simp only [fq]; done) | omega | (simp only [Knx]; omega) | (apply Nat.le_antisymm <;> simp only [Knx] <;> omega) | fail) only [wpy, fW, reduceLE, reduceLT, reduceLeDiff, UInt8.reduceToNat, ↓reduceIte, reduceEqDiff, reduceAdd, reduceCtorEq, reduceToNat, Try.f21, e1, e2, e3, e4, e11, e14, hln, hlt]
        intro w hw
        obtain ⟨a, ha, rfl⟩ := List.mem_iff_getElem.1 hw
        exact hall a ha (by omega)
    · rintro env h2 ⟨e1, e3, e4, e11, rfl, hall⟩
      by_cases hkl : k < now.length
      · obtain ⟨nb, no, nm, nc, nfl, rfl, hnm, hnn, hng, hnc⟩ := hn.opened (by omega)
        obtain ⟨z0, z1⟩ := hnc k hkl
        obtain ⟨y0, y1⟩ := wcell_get z1
        have hwl : IntKind.i64.wrap ((now.length : Int) - 1) = ((now.length - 1 : Nat) : Int) := by rw [i64_in _ (by omega)]; omega
        have hnk : ¬ k = now.length := by omega
        have fin : ordP was now t kind client ↔ (k = now.length ∨ kind = 0 ∧ k + 1 = now.length ∧ ∃ w, now[k]? = some w ∧ w.cl = client) := ⟨fun ⟨k', q, _, z⟩ => by rw [hor] at q; cases q; exact z, fun z => ⟨k, hor, hall, z⟩⟩
        by_cases hk0 : kind = 0
        · by_cases hk1 : k = now.length - 1
          · subst hk1
            simp +contextual (disch := first | (simp only [fq]; done) | omega | (simp only [Knx]; omega) | (apply Nat.le_antisymm <;> simp only [Knx] <;> omega) | fail) only [wpy, fW, reduceLE, reduceLT, reduceLeDiff, UInt8.reduceToNat, ↓reduceIte, reduceEqDiff, reduceAdd, reduceCtorEq, reduceToNat, Try.f21, e1, e3, e4, e11, hln, hwl, hkl, hnk, hk0, hng, y0, y1]
            rw [← hk0]
            refine bo_eq (Iff.trans ⟨fun q => .inr ⟨hk0, by omega, _, List.getElem?_eq_getElem hkl, q⟩, fun q => ?_⟩ fin.symm)
            rcases q with q | ⟨_, _, w, hw, e⟩
            · omega
            · rw [List.getElem?_eq_getElem hkl] at hw
              rw [Option.some.inj hw]; exact e
          · simp +contextual (disch := first | (simp only [fq]; done) | omega | (simp only [Knx]; omega) | (apply Nat.le_antisymm <;> simp only [Knx] <;> omega) | fail) only [wpy, fW, reduceLE, reduceLT, reduceLeDiff, UInt8.reduceToNat, ↓reduceIte, reduceEqDiff, reduceAdd, reduceCtorEq, reduceToNat, Try.f21, e1, e3, e4, e11, hln, hwl, hkl, hnk, hk0, hk1, hng, y0, y1]
            rw [← hk0]
            refine bo_eq (Iff.trans ⟨fun q => q.elim, fun q => ?_⟩ fin.symm)
            rcases q with q | ⟨_, q, _⟩ <;> omega
        · simp +contextual (disch := first | (simp only [fq]; done) | omega | (simp only [Knx]; omega) | (apply Nat.le_antisymm <;> simp only [Knx] <;> omega) | fail) only [wpy, fW, reduceLE, reduceLT, reduceLeDiff, UInt8.reduceToNat, ↓reduceIte, reduceEqDiff, reduceAdd, reduceCtorEq, reduceToNat, Try.f21, e1, e3, e4, e11, hln, hwl, hkl, hnk, hk0, hng, y0, y1]
          refine bo_eq (Iff.trans ⟨fun q => q.elim, fun q => ?_⟩ fin.symm)
          rcases q with q | ⟨q, _⟩
          · omega
          · exact absurd q hk0
      · have hke : k = now.length := by omega
        simp +contextual (disch := first | (simp only [fq]; done) | omega | (simp only [Knx]; omega) | (apply Nat.le_antisymm <;> simp only [Knx] <;> omega) | fail) only [wpy, fW, reduceLE, reduceLT, reduceLeDiff, UInt8.reduceToNat, ↓reduceIte, reduceEqDiff, reduceAdd, reduceCtorEq, reduceToNat, Try.f21, e1, e3, e4, e11, hln, hke]
        exact bo_eq ⟨fun _ => ⟨k, hor, hall, .inl hke⟩, fun _ => trivial⟩
end
end Go.Proofs.Ytbebdlmldogcmaa
set_option linter.unusedSimpArgs false
set_option linter.unusedVariables false
set_option linter.unusedSectionVars false
set_option linter.defProp false
set_option maxRecDepth 10000
set_option maxHeartbeats 1000000
namespace Go.Proofs.Ytbebdlmldogcmaa
open Int (reduceLE reduceLT reduceToNat)
open Nat (reduceLeDiff reduceEqDiff reduceAdd)
open Go.Proofs Go.Lx Go.Wx Go.IntWalk
noncomputable section

theorem nodup_cl : ∀ {l : List WT}, (l.map WT.cl).Nodup → l.Nodup
  | [], _ => List.nodup_nil
  | w :: l, h => by
    rw [List.map_cons, List.nodup_cons] at h
    rw [List.nodup_cons]
    exact ⟨fun q => h.1 (List.mem_map_of_mem q), nodup_cl h.2⟩
theorem fair_order {p : PL} {k n : Int} {y : Prop} {r : Res} (hp : Fr p) (h : FairR p k n y r) : ordP p.wts r.2.2.wts r.2.2.now k n := by
  obtain ⟨q, m, ext, e, hlf, hne, hex⟩ := h.ord
  refine ⟨_, ordK_head (lf := ordLf r.2.2.now k n) (q := q) (ext := ext) p.wts m e (nodup_cl hp.dist) hlf hne, h.fr.til, ?_⟩
  rcases hex with rfl | ⟨hk, w, rfl, hw⟩
  · exact .inl (by rw [e, List.append_nil])
  · refine .inr ⟨hk, ?_, w, ?_, hw⟩
    · rw [e, List.length_append]; rfl
    · rw [e, List.getElem?_append_right (Nat.le_refl _), Nat.sub_self]; rfl
def idles : List CN → Nat
  | [] => 0
  | c :: l => (if c.st = 4 then 1 else 0) + idles l
theorem idles_le : ∀ l : List CN, idles l ≤ l.length
  | [] => Nat.le_refl _
  | c :: l => by
    have := idles_le l
    rw [idles]
    simp only [List.length_cons]
    split <;> omega
theorem idles_none : ∀ {l : List CN}, (∀ c ∈ l, c.st ≠ 4) → idles l = 0
  | [], _ => rfl
  | c :: l, h => by rw [idles, if_neg (h c (.head _)), idles_none fun c hc => h c (.tail _ hc)]
theorem idles_snoc : ∀ (l : List CN) (c : CN), idles (l ++ [c]) = idles l + (if c.st = 4 then 1 else 0)
  | [], c => by show (if c.st = 4 then 1 else 0) + 0 = 0 + _; omega
  | x :: l, c => by
    show _ + idles (l ++ [c]) = _ + idles l + _
    rw [idles_snoc l c]; omega
theorem cncells_drop : ∀ (l : List CN) (i : Nat), (cncells l).drop (i * 4) = cncells (l.drop i)
  | l, 0 => by simp
  | [], i + 1 => by simp [cncells]
  | w :: l, i + 1 => by
    have ih := cncells_drop l i
    rw [show (i + 1) * 4 = 4 + i * 4 by omega, List.drop_succ_cons, ← ih, show cncells (w :: l) = w.cells ++ cncells l from rfl, ← List.drop_drop]
    rfl
theorem cncells_st {l : List CN} {i : Nat} (hi : i < l.length) : (cncells l)[i * 4 + 1]? = some (.int .i64 l[i].st) := by
  have h : ((cncells l).drop (i * 4))[1]? = some (.int .i64 l[i].st) := by
    rw [cncells_drop, List.drop_eq_getElem_cons hi]
    rfl
  rw [List.getElem?_drop] at h
  exact h
theorem cn_len {n0 : Nat} {h : H} {cv : V} {l : List CN} (hl : Lst n0 h cv (cncells l) 49 4) : lenO (some (.slice 49)) cv = some (.int .i64 l.length) := by
  have hn := cncells_len l
  rcases hl with (⟨rfl, hw⟩ | ⟨b, n, _, _, rfl, _, _, hk⟩) | ⟨hw, b, _, _, rfl, _⟩
  · rw [hw] at hn
    have : l.length = 0 := by simp at hn; omega
    rw [this]; rfl
  · have : n = l.length := by omega
    rw [this]; rfl
  · rw [hw] at hn
    have : l.length = 0 := by simp at hn; omega
    rw [this]; rfl
theorem cn_row {n0 : Nat} {h : H} {cv : V} {l : List CN} (hl : Lst n0 h cv (cncells l) 49 4) (h0 : 0 < l.length) : ∃ b, cv = .slice b 0 l.length l.length ∧ b < h.nx ∧ h.get b = some (.cells (cncells l) 49 true) := by
  have hn := cncells_len l
  rcases hl with (⟨rfl, hw⟩ | ⟨b, n, _, h2, rfl, _, h5, hk⟩) | ⟨hw, b, _, _, rfl, _⟩
  · rw [hw] at hn; simp at hn; omega
  · obtain rfl : n = l.length := by omega
    exact ⟨b, rfl, h2, h5⟩
  · rw [hw] at hn; simp at hn; omega
def FaO (al : List ACT) (lv : V) (a : Int) (s : Nat) (h0 : H) (m : Nat) (env : Env) (h' : H) : Prop :=
  ∃ (i : Nat) (D : PD) (P : PS), m = al.length - i ∧ i ≤ al.length ∧ env 1 = lv ∧ env 2 = .ptr s 0 ∧ env 5 = .ptr D.b 0 ∧ env 7 = bo P.paused ∧ env 8 = .int .i64 i ∧ PR D P h' ∧ P.moves = [] ∧ Bds (i : Int) P ∧ Gw ((i : Int) * 1048576) P.pl ∧ Fr P.pl ∧ Bz P.pl ∧ P.lim = a ∧ (∀ k, owns D P k → h0.nx ≤ k) ∧ Ext h0 h'
def FaC (lv wv nv cv : V) (s : Nat) (b : Nat) (pa : Prop) (i kk : Int) (l : List CN) (h0 : H) (m : Nat) (env : Env) (h' : H) : Prop :=
  ∃ (j : Nat), m = l.length - j ∧ j ≤ l.length ∧ env 1 = lv ∧ env 2 = .ptr s 0 ∧ env 5 = .ptr b 0 ∧ env 7 = bo pa ∧ env 8 = .int .i64 i ∧ env 9 = .int .i64 kk ∧ env 10 = wv ∧ env 13 = nv ∧ env 14 = cv ∧ env 15 = .int .i64 (idles (l.take j) : Nat) ∧ env 16 = .int .i64 j ∧ h' = h0
variable {S : Set0} (hS : StdP S)
include hS
theorem fair_law (a b c : Int) (al : List ACT) (lv : V) (h : H) (ha : ARow h lv al) (hl : al.length < 2 ^ 63) : Pure S.cfg 5 [.agg [.int .i64 a, .int .i64 b, .int .i64 c], lv] h fun v _ => v = .bool true := by
  refine into Try.f5 _ Try.func5 (hS.ownP _ (by decide)) rfl rfl (by kernel_rfl) (by kernel_rfl) ?_
  simp +contextual (disch := first | (simp only [fq]; done) | omega | (simp only [Knx]; omega) | (apply Nat.le_antisymm <;> simp only [Knx] <;> omega) | fail) only [wpy, fW, reduceLE, reduceLT, reduceLeDiff, UInt8.reduceToNat, ↓reduceIte, reduceEqDiff, reduceAdd, reduceCtorEq, reduceToNat, Try.f5]
  obtain ⟨hA, hhA⟩ : ∃ hA, hA = h.push (Ob.cells [V.int IntKind.i64 a, V.int IntKind.i64 b, V.int IntKind.i64 c] 32 false) := ⟨_, rfl⟩
  rw [← hhA]
  have hxA : Ext h hA := by rw [hhA]; exact (Ext.refl h).push _
  have hgA : hA.get h.nx = some (Ob.cells [V.int IntKind.i64 a, V.int IntKind.i64 b, V.int IntKind.i64 c] 32 false) := by rw [hhA]; exact push_eq rfl
  have hnA : hA.nx = h.nx + 1 := by rw [hhA]; rfl
  clear hhA
  have haA := ha.ext hxA
  have hlenA := haA.len
  refine callF_exact (hS.lives hA) ?_
  simp +contextual (disch := first | (simp only [fq]; done) | omega | (simp only [Knx]; omega) | (apply Nat.le_antisymm <;> simp only [Knx] <;> omega) | fail) only [wpy, fW, reduceLE, reduceLT, reduceLeDiff, UInt8.reduceToNat, ↓reduceIte, reduceEqDiff, reduceAdd, reduceCtorEq, reduceToNat, Try.f5, hgA]
  refine callF_pure (new_spec hS a b c hA) ?_
  rintro v h1 hx1 (⟨hbad, rfl⟩ | ⟨hok, D0, hDb, rfl, r0, ho0⟩)
  · simp +contextual (disch := first | (simp only [fq]; done) | omega | (simp only [Knx]; omega) | (apply Nat.le_antisymm <;> simp only [Knx] <;> omega) | fail) only [wpy, fW, reduceLE, reduceLT, reduceLeDiff, UInt8.reduceToNat, ↓reduceIte, reduceEqDiff, reduceAdd, reduceCtorEq, reduceToNat, Try.f5, hlenA]
    exact ⟨fun _ => hxA.trans hx1, fun q => absurd (.inl (by decide)) q⟩
  by_cases hlen : 400 < al.length
  · simp +contextual (disch := first | (simp only [fq]; done) | omega | (simp only [Knx]; omega) | (apply Nat.le_antisymm <;> simp only [Knx] <;> omega) | fail) only [wpy, fW, reduceLE, reduceLT, reduceLeDiff, UInt8.reduceToNat, ↓reduceIte, reduceEqDiff, reduceAdd, reduceCtorEq, reduceToNat, Try.f5, hlenA, hlen, pool_nil]
    exact hxA.trans hx1
  simp +contextual (disch := first | (simp only [fq]; done) | omega | (simp only [Knx]; omega) | (apply Nat.le_antisymm <;> simp only [Knx] <;> omega) | fail) only [wpy, fW, reduceLE, reduceLT, reduceLeDiff, UInt8.reduceToNat, ↓reduceIte, reduceEqDiff, reduceAdd, reduceCtorEq, reduceToNat, Try.f5, hlenA, hlen, pool_nil]
  have hq1 := hok.1
  have hq2 := hok.2.1
  refine run_loop (FaO al lv a h.nx hA) al.length ⟨0, D0, P0 a b c, (Nat.sub_zero _).symm, Nat.zero_le _, by simp +contextual (disch := first | (simp only [fq]; done) | omega | (simp only [Knx]; omega) | (apply Nat.le_antisymm <;> simp only [Knx] <;> omega) | fail) only [wpy, fW, reduceLE, reduceLT, reduceLeDiff, UInt8.reduceToNat, ↓reduceIte, reduceEqDiff, reduceAdd, reduceCtorEq, reduceToNat], by simp +contextual (disch := first | (simp only [fq]; done) | omega | (simp only [Knx]; omega) | (apply Nat.le_antisymm <;> simp only [Knx] <;> omega) | fail) only [wpy, fW, reduceLE, reduceLT, reduceLeDiff, UInt8.reduceToNat, ↓reduceIte, reduceEqDiff, reduceAdd, reduceCtorEq, reduceToNat], by simp +contextual (disch := first | (simp only [fq]; done) | omega | (simp only [Knx]; omega) | (apply Nat.le_antisymm <;> simp only [Knx] <;> omega) | fail) only [wpy, fW, reduceLE, reduceLT, reduceLeDiff, UInt8.reduceToNat, ↓reduceIte, reduceEqDiff, reduceAdd, reduceCtorEq, reduceToNat], (by simp +contextual (disch := first | (simp only [fq]; done) | omega | (simp only [Knx]; omega) | (apply Nat.le_antisymm <;> simp only [Knx] <;> omega) | fail) only [wpy, fW, reduceLE, reduceLT, reduceLeDiff, UInt8.reduceToNat, ↓reduceIte, reduceEqDiff, reduceAdd, reduceCtorEq, reduceToNat]; rfl), by simp +contextual (disch := first | (simp only [fq]; done) | omega | (simp only [Knx]; omega) | (apply Nat.le_antisymm <;> simp only [Knx] <;> omega) | fail) only [wpy, fW, reduceLE, reduceLT, reduceLeDiff, UInt8.reduceToNat, ↓reduceIte, reduceEqDiff, reduceAdd, reduceCtorEq, reduceToNat], r0, rfl, ⟨hq1.2, fun c hc => (by cases hc), Int.le_refl _, Int.le_refl _, by decide, Nat.zero_le _⟩, ⟨Nat.zero_le _, fun c hc => (by cases hc), ⟨Int.le_refl _, Int.le_refl _⟩, ⟨by have := hq2.1; show 0 ≤ b; omega, hq2.2⟩⟩, ⟨by have := hq1.1; show ((0 : Nat) : Int) ≤ a; omega, List.nodup_nil, fun w hw => (by cases hw), fun _ => rfl, hq2.1⟩, fun q => absurd rfl q, rfl, ho0, hx1⟩ ?_
  rintro m env h2 ⟨i, D, P, rfl, hi, e1, e2, e5, e7, e8, r, hm, B, G, F, Z, hlim, hown, hx2⟩
  have ha2 := haA.ext hx2
  have hlen2 := ha2.len
  have hn2 := hx2.1
  by_cases hlt : i < al.length
  · obtain ⟨rb, rm, rfl, hrb, hrg⟩ := haA.opened (by omega)
    have hrg2 : h2.get rb = some (.ro (acells al)) := by rw [hx2.2 _ hrb]; exact hrg
    have hal := acells_len al
    have x0 : i * 3 + 3 ≤ (acells al).length := by omega
    have x1 := acells_at hlt
    obtain ⟨y0, y1, y2⟩ := three_at x1
    have hwi : IntKind.i64.wrap ((i : Int) + 1) = ((i + 1 : Nat) : Int) := by rw [i64_in _ (by omega)]; omega
    have hii : (i : Int) * 1048576 + 1048576 = ((i + 1 : Nat) : Int) * 1048576 := by omega
    have eii : ((i + 1 : Nat) : Int) = (i : Int) + 1 := by omega
    have B1 : Bds ((i + 1 : Nat) : Int) P := by
      have hbt := B.top
      refine ⟨B.lim, B.num, B.pos, ?_, by omega, B.mvs⟩
      rw [eii]
      have hge : (i : Int) ≤ (i : Int) + 1 := by omega
      exact Int.le_trans hbt hge
    have G1 : Gw (((i + 1 : Nat) : Int) * 1048576) P.pl := by
      rw [← hii]
      have hge : (i : Int) * 1048576 ≤ (i : Int) * 1048576 + 1048576 := by omega
      exact G.mono hge
    simp +contextual (disch := first | (simp only [fq]; done) | omega | (simp only [Knx]; omega) | (apply Nat.le_antisymm <;> simp only [Knx] <;> omega) | fail) only [wpy, fW, reduceLE, reduceLT, reduceLeDiff, UInt8.reduceToNat, ↓reduceIte, reduceEqDiff, reduceAdd, reduceCtorEq, reduceToNat, Try.f5, e1, e2, e5, e7, e8, hlt, hrg2, y0, x0, x1]
    refine callF_exact (pick_spec hS al[i].kd h2) ?_
    obtain ⟨kk, hkk⟩ : ∃ kk, kk = al[i].kd % 10 := ⟨_, rfl⟩
    rw [← hkk]
    have hkk0 : 0 ≤ kk ∧ kk ≤ 9 := by omega
    by_cases k8 : kk = 8
    · simp +contextual (disch := first | (simp only [fq]; done) | omega | (simp only [Knx]; omega) | (apply Nat.le_antisymm <;> simp only [Knx] <;> omega) | fail) only [wpy, fW, reduceLE, reduceLT, reduceLeDiff, UInt8.reduceToNat, ↓reduceIte, reduceEqDiff, reduceAdd, reduceCtorEq, reduceToNat, Try.f5, e1, e2, e5, e7, e8, k8]
      exact ⟨al.length - (i + 1), by omega, i + 1, D, P, rfl, hlt, by simp +contextual (disch := first | (simp only [fq]; done) | omega | (simp only [Knx]; omega) | (apply Nat.le_antisymm <;> simp only [Knx] <;> omega) | fail) only [wpy, fW, reduceLE, reduceLT, reduceLeDiff, UInt8.reduceToNat, ↓reduceIte, reduceEqDiff, reduceAdd, reduceCtorEq, reduceToNat, e1], by simp +contextual (disch := first | (simp only [fq]; done) | omega | (simp only [Knx]; omega) | (apply Nat.le_antisymm <;> simp only [Knx] <;> omega) | fail) only [wpy, fW, reduceLE, reduceLT, reduceLeDiff, UInt8.reduceToNat, ↓reduceIte, reduceEqDiff, reduceAdd, reduceCtorEq, reduceToNat, e2], by simp +contextual (disch := first | (simp only [fq]; done) | omega | (simp only [Knx]; omega) | (apply Nat.le_antisymm <;> simp only [Knx] <;> omega) | fail) only [wpy, fW, reduceLE, reduceLT, reduceLeDiff, UInt8.reduceToNat, ↓reduceIte, reduceEqDiff, reduceAdd, reduceCtorEq, reduceToNat, e5], by simp +contextual (disch := first | (simp only [fq]; done) | omega | (simp only [Knx]; omega) | (apply Nat.le_antisymm <;> simp only [Knx] <;> omega) | fail) only [wpy, fW, reduceLE, reduceLT, reduceLeDiff, UInt8.reduceToNat, ↓reduceIte, reduceEqDiff, reduceAdd, reduceCtorEq, reduceToNat, e7], by simp +contextual (disch := first | (simp only [fq]; done) | omega | (simp only [Knx]; omega) | (apply Nat.le_antisymm <;> simp only [Knx] <;> omega) | fail) only [wpy, fW, reduceLE, reduceLT, reduceLeDiff, UInt8.reduceToNat, ↓reduceIte, reduceEqDiff, reduceAdd, reduceCtorEq, reduceToNat, hwi], r, hm, B1, G1, F, Z, hlim, hown, hx2⟩
    simp +contextual (disch := first | (simp only [fq]; done) | omega | (simp only [Knx]; omega) | (apply Nat.le_antisymm <;> simp only [Knx] <;> omega) | fail) only [wpy, fW, reduceLE, reduceLT, reduceLeDiff, UInt8.reduceToNat, ↓reduceIte, reduceEqDiff, reduceAdd, reduceCtorEq, reduceToNat, Try.f5, e1, e2, e5, e7, e8, k8]
    have hwl : P.wts.length ≤ 256 := G.wl
    refine callF_pure (waiters_spec hS r (by omega)) ?_
    intro wv h3 hx3 hLw
    have r3 := r.ext hx3
    have hn3 := hx3.1
    have hrg3 : h3.get rb = some (.ro (acells al)) := by rw [hx3.2 _ (by omega)]; exact hrg2
    simp +contextual (disch := first | (simp only [fq]; done) | omega | (simp only [Knx]; omega) | (apply Nat.le_antisymm <;> simp only [Knx] <;> omega) | fail) only [wpy, fW, reduceLE, reduceLT, reduceLeDiff, UInt8.reduceToNat, ↓reduceIte, reduceEqDiff, reduceAdd, reduceCtorEq, reduceToNat, Try.f5, e1, e2, e5, e7, e8, hlt, hrg3, x0, x1]
    refine callF_of (call_spec hS r3 hm B (by omega) G (by omega) al[i].kd al[i].n al[i].y) (fun k q => by rw [fresh_def]; have := hown k q; exact .inl (by omega)) ?_
    have hfa := fair_ask (p := P.pl) hm F Z kk al[i].n al[i].y k8 hkk0.2 hkk0.1
    have G4 := G.ask kk al[i].n al[i].y
    rw [hii] at G4
    rw [← hkk]
    obtain ⟨R, hR⟩ : ∃ R, R = askF P.pl kk al[i].n al[i].y := ⟨_, rfl⟩
    rw [← hR] at hfa G4 ⊢
    rintro v h4 ⟨D4, P4, mv, rfl, st4, hpl, hm4, hL4, hmv4, B4⟩
    have r4 := st4.pr
    have hn4 := st4.nx
    have hs4 : ∀ k, k < hA.nx → h4.get k = h3.get k := fun k hk => st4.same k (by omega) (fun q => by have := hown k q; omega)
    have hx4 : Ext hA h4 := ⟨by omega, fun k hk => by rw [hs4 k hk, hx3.2 k (by omega)]; exact hx2.2 k hk⟩
    have hown4 : ∀ k, owns D4 P4 k → hA.nx ≤ k := fun k q => by
      rcases st4.own k q with q | q
      · exact hown k q
      · omega
    have eb4 := st4.b
    rw [← eb4] at e5
    have hLw4 : Lst h2.nx h4 wv (wtcells P.wts) 61 2 := Lst.keep hLw hn4 fun k o n m q => st4.same k (Lst.lt hLw q) fun w => by
      have := owns_lt r w
      have := Lst.lo hLw q
      omega
    have hrg4 : h4.get rb = some (.ro (acells al)) := by rw [hx4.2 _ hrb]; exact hrg
    have hpa : P4.paused = R.2.2.paused := by rw [← hpl]; rfl
    have B4' : Bds ((i + 1 : Nat) : Int) P4 := by rw [eii]; exact B4
    simp +contextual (disch := first | (simp only [fq]; done) | omega | (simp only [Knx]; omega) | (apply Nat.le_antisymm <;> simp only [Knx] <;> omega) | fail) only [wpyr, fW, reduceLE, reduceLT, reduceLeDiff, UInt8.reduceToNat, ↓reduceIte, reduceEqDiff, reduceAdd, reduceCtorEq, reduceToNat, Try.f5, e1, e2, e5, e7, e8, eb4]
    refine run_cut (fun env' h' => env' 1 = .slice rb 0 al.length rm ∧ env' 2 = .ptr h.nx 0 ∧ env' 5 = .ptr D4.b 0 ∧ env' 7 = bo P4.paused ∧ env' 8 = .int .i64 i ∧ env' 9 = .int .i64 kk ∧ env' 10 = wv ∧ h' = h4) ?_ ?_
    · by_cases h7 : kk = 7 ∧ R.1 = 0
      · have hy : P4.paused = al[i].y := hpa.trans (hfa.pa h7)
        have h7' : (kk = 7 ∧ R.1 = 0) = True := eq_true h7
        simp +contextual (disch := first | (simp only [fq]; done) | omega | (simp only [Knx]; omega) | (apply Nat.le_antisymm <;> simp only [Knx] <;> omega) | fail) only [wpy, fW, reduceLE, reduceLT, reduceLeDiff, UInt8.reduceToNat, ↓reduceIte, reduceEqDiff, reduceAdd, reduceCtorEq, reduceToNat, Try.f5, e1, e2, e5, e7, e8, eb4, h7', hlt, hrg4, y2, hy]
      · have hy : P4.paused = P.paused := hpa.trans (hfa.pb h7)
        have h7' : (kk = 7 ∧ R.1 = 0) = False := eq_false h7
        simp +contextual (disch := first | (simp only [fq]; done) | omega | (simp only [Knx]; omega) | (apply Nat.le_antisymm <;> simp only [Knx] <;> omega) | fail) only [wpy, fW, reduceLE, reduceLT, reduceLeDiff, UInt8.reduceToNat, ↓reduceIte, reduceEqDiff, reduceAdd, reduceCtorEq, reduceToNat, Try.f5, e1, e2, e5, e7, e8, eb4, h7', hy]
    rintro env5 h5 ⟨e1, e2, e5, e7, e8, e9, e10, rfl⟩
    have hwl5 : P4.wts.length ≤ 256 := by have := G4.wl; rw [← hpl] at this; exact this
    simp +contextual (disch := first | (simp only [fq]; done) | omega | (simp only [Knx]; omega) | (apply Nat.le_antisymm <;> simp only [Knx] <;> omega) | fail) only [wpy, fW, reduceLE, reduceLT, reduceLeDiff, UInt8.reduceToNat, ↓reduceIte, reduceEqDiff, reduceAdd, reduceCtorEq, reduceToNat, Try.f5, e5]
    refine callF_pure (waiters_spec hS r4 (by omega)) ?_
    intro nv h6 hx6 hLn
    have r6 := r4.ext hx6
    simp +contextual (disch := first | (simp only [fq]; done) | omega | (simp only [Knx]; omega) | (apply Nat.le_antisymm <;> simp only [Knx] <;> omega) | fail) only [wpy, fW, reduceLE, reduceLT, reduceLeDiff, UInt8.reduceToNat, ↓reduceIte, reduceEqDiff, reduceAdd, reduceCtorEq, reduceToNat, Try.f5, e5]
    refine callF_pure (conns_spec hS r6) ?_
    intro cv h7 hx7 hLc
    have r7 := r6.ext hx7
    have hlc := cn_len hLc
    have hx47 := hx6.trans hx7
    have hx07 := hx4.trans hx47
    have hfew := r4.few
    simp +contextual (disch := first | (simp only [fq]; done) | omega | (simp only [Knx]; omega) | (apply Nat.le_antisymm <;> simp only [Knx] <;> omega) | fail) only [wpy, fW, reduceLE, reduceLT, reduceLeDiff, UInt8.reduceToNat, ↓reduceIte, reduceEqDiff, reduceAdd, reduceCtorEq, reduceToNat, Try.f5, e5]
    refine run_loop_cut (fun env' h' => env' 1 = .slice rb 0 al.length rm ∧ env' 2 = .ptr h.nx 0 ∧ env' 5 = .ptr D4.b 0 ∧ env' 7 = bo P4.paused ∧ env' 8 = .int .i64 i ∧ env' 9 = .int .i64 kk ∧ env' 10 = wv ∧ env' 13 = nv ∧ env' 14 = cv ∧ env' 15 = .int .i64 (idles P4.conns : Nat) ∧ h' = h7) ?_ ?_
    · refine run_loop (FaC (.slice rb 0 al.length rm) wv nv cv h.nx D4.b P4.paused i kk P4.conns h7) P4.conns.length ⟨0, (Nat.sub_zero _).symm, Nat.zero_le _, by simp +contextual (disch := first | (simp only [fq]; done) | omega | (simp only [Knx]; omega) | (apply Nat.le_antisymm <;> simp only [Knx] <;> omega) | fail) only [wpy, fW, reduceLE, reduceLT, reduceLeDiff, UInt8.reduceToNat, ↓reduceIte, reduceEqDiff, reduceAdd, reduceCtorEq, reduceToNat, e1], by simp +contextual (disch := first | (simp only [fq]; done) | omega | (simp only [Knx]; omega) | (apply Nat.le_antisymm <;> simp only [Knx] <;> omega) | fail) only [wpy, fW, reduceLE, reduceLT, reduceLeDiff, UInt8.reduceToNat, ↓reduceIte, reduceEqDiff, reduceAdd, reduceCtorEq, reduceToNat, e2], by simp +contextual (disch := first | (simp only [fq]; done) | omega | (simp only [Knx]; omega) | (apply Nat.le_antisymm <;> simp only [Knx] <;> omega) | fail) only [wpy, fW, reduceLE, reduceLT, reduceLeDiff, UInt8.reduceToNat, ↓reduceIte, reduceEqDiff, reduceAdd, reduceCtorEq, reduceToNat, e5], by simp +contextual (disch := first | (simp only [fq]; done) | omega | (simp only [Knx]; omega) | (apply Nat.le_antisymm <;> simp only [Knx] <;> omega) | fail) only [wpy, fW, reduceLE, reduceLT, reduceLeDiff, UInt8.reduceToNat, ↓reduceIte, reduceEqDiff, reduceAdd, reduceCtorEq, reduceToNat, e7], by simp +contextual (disch := first | (simp only [fq]; done) | omega | (simp only [Knx]; omega) | (apply Nat.le_antisymm <;> simp only [Knx] <;> omega) | fail) only [wpy, fW, reduceLE, reduceLT, reduceLeDiff, UInt8.reduceToNat, ↓reduceIte, reduceEqDiff, reduceAdd, reduceCtorEq, reduceToNat, e8], by simp +contextual (disch := first | (simp only [fq]; done) | omega | (simp only [Knx]; omega) | (apply Nat.le_antisymm <;> simp only [Knx] <;> omega) | fail) only [wpy, fW, reduceLE, reduceLT, reduceLeDiff, UInt8.reduceToNat, ↓reduceIte, reduceEqDiff, reduceAdd, reduceCtorEq, reduceToNat, e9], by simp +contextual (disch := first | (simp only [fq]; done) | omega | (simp only [Knx]; omega) | (apply Nat.le_antisymm <;> simp only [Knx] <;> omega) | fail) only [wpy, fW, reduceLE, reduceLT, reduceLeDiff, UInt8.reduceToNat, ↓reduceIte, reduceEqDiff, reduceAdd, reduceCtorEq, reduceToNat, e10], by simp +contextual (disch := first | (simp only [fq]; done) | omega | (simp only [Knx]; omega) | (apply Nat.le_antisymm <;> simp only [Knx] <;> omega) | fail) only [wpy, fW, reduceLE, reduceLT, reduceLeDiff, UInt8.reduceToNat, ↓reduceIte, reduceEqDiff, reduceAdd, reduceCtorEq, reduceToNat], by simp +contextual (disch := first | (simp only [fq]; done) | omega | (simp only [Knx]; omega) | (apply Nat.le_antisymm <;> simp only [Knx] <;> omega) | fail) only [wpy, fW, reduceLE, reduceLT, reduceLeDiff, UInt8.reduceToNat, ↓reduceIte, reduceEqDiff, reduceAdd, reduceCtorEq, reduceToNat], (by simp +contextual (disch := first | (simp only [fq]; done) | omega | (simp only [Knx]; omega) | (apply Nat.le_antisymm <;> simp only [Knx] <;> omega) | fail) only [wpy, fW, reduceLE, reduceLT, reduceLeDiff, UInt8.reduceToNat, ↓reduceIte, reduceEqDiff, reduceAdd, reduceCtorEq, reduceToNat]; rfl), by simp +contextual (disch := first | (simp only [fq]; done) | omega | (simp only [Knx]; omega) | (apply Nat.le_antisymm <;> simp only [Knx] <;> omega) | fail) only [wpy, fW, reduceLE, reduceLT, reduceLeDiff, UInt8.reduceToNat, ↓reduceIte, reduceEqDiff, reduceAdd, reduceCtorEq, reduceToNat], rfl⟩ ?_
      rintro m8 env8 h8 ⟨j, rfl, hj, e1, e2, e5, e7, e8, e9, e10, e13, e14, e15, e16, rfl⟩
      by_cases hjl : j < P4.conns.length
      · obtain ⟨qb, rfl, hqb, hqg⟩ := cn_row hLc (by omega)
        have z1 := cncells_st hjl
        have htk : P4.conns.take (j + 1) = P4.conns.take j ++ [P4.conns[j]] := List.take_succ_eq_append_getElem hjl
        have hid := idles_snoc (P4.conns.take j) P4.conns[j]
        rw [← htk] at hid
        have hile := idles_le (P4.conns.take j)
        rw [List.length_take] at hile
        have hwj : IntKind.i64.wrap ((j : Int) + 1) = ((j + 1 : Nat) : Int) := by rw [i64_in _ (by omega)]; omega
        by_cases h4 : P4.conns[j].st = 4
        · rw [if_pos h4] at hid
          have hwd : IntKind.i64.wrap ((idles (P4.conns.take j) : Int) + 1) = ((idles (P4.conns.take (j + 1)) : Nat) : Int) := by rw [i64_in _ (by omega)]; omega
          simp +contextual (disch := first | (simp only [fq]; done) | omega | (simp only [Knx]; omega) | (apply Nat.le_antisymm <;> simp only [Knx] <;> omega) | fail) only [wpy, fW, reduceLE, reduceLT, reduceLeDiff, UInt8.reduceToNat, ↓reduceIte, reduceEqDiff, reduceAdd, reduceCtorEq, reduceToNat, Try.f5, e1, e2, e5, e7, e8, e9, e10, e13, e14, e15, e16, hlc, hjl, hqg, z1, h4]
          exact ⟨P4.conns.length - (j + 1), by omega, j + 1, rfl, hjl, by simp +contextual (disch := first | (simp only [fq]; done) | omega | (simp only [Knx]; omega) | (apply Nat.le_antisymm <;> simp only [Knx] <;> omega) | fail) only [wpy, fW, reduceLE, reduceLT, reduceLeDiff, UInt8.reduceToNat, ↓reduceIte, reduceEqDiff, reduceAdd, reduceCtorEq, reduceToNat, e1], by simp +contextual (disch := first | (simp only [fq]; done) | omega | (simp only [Knx]; omega) | (apply Nat.le_antisymm <;> simp only [Knx] <;> omega) | fail) only [wpy, fW, reduceLE, reduceLT, reduceLeDiff, UInt8.reduceToNat, ↓reduceIte, reduceEqDiff, reduceAdd, reduceCtorEq, reduceToNat, e2], by simp +contextual (disch := first | (simp only [fq]; done) | omega | (simp only [Knx]; omega) | (apply Nat.le_antisymm <;> simp only [Knx] <;> omega) | fail) only [wpy, fW, reduceLE, reduceLT, reduceLeDiff, UInt8.reduceToNat, ↓reduceIte, reduceEqDiff, reduceAdd, reduceCtorEq, reduceToNat, e5], by simp +contextual (disch := first | (simp only [fq]; done) | omega | (simp only [Knx]; omega) | (apply Nat.le_antisymm <;> simp only [Knx] <;> omega) | fail) only [wpy, fW, reduceLE, reduceLT, reduceLeDiff, UInt8.reduceToNat, ↓reduceIte, reduceEqDiff, reduceAdd, reduceCtorEq, reduceToNat, e7], by simp +contextual (disch := first | (simp only [fq]; done) | omega | (simp only [Knx]; omega) | (apply Nat.le_antisymm <;> simp only [Knx] <;> omega) | fail) only [wpy, fW, reduceLE, reduceLT, reduceLeDiff, UInt8.reduceToNat, ↓reduceIte, reduceEqDiff, reduceAdd, reduceCtorEq, reduceToNat, e8], by simp +contextual (disch := first | (simp only [fq]; done) | omega | (simp only [Knx]; omega) | (apply Nat.le_antisymm <;> simp only [Knx] <;> omega) | fail) only [wpy, fW, reduceLE, reduceLT, reduceLeDiff, UInt8.reduceToNat, ↓reduceIte, reduceEqDiff, reduceAdd, reduceCtorEq, reduceToNat, e9], by simp +contextual (disch := first | (simp only [fq]; done) | omega | (simp only [Knx]; omega) | (apply Nat.le_antisymm <;> simp only [Knx] <;> omega) | fail) only [wpy, fW, reduceLE, reduceLT, reduceLeDiff, UInt8.reduceToNat, ↓reduceIte, reduceEqDiff, reduceAdd, reduceCtorEq, reduceToNat, e10], by simp +contextual (disch := first | (simp only [fq]; done) | omega | (simp only [Knx]; omega) | (apply Nat.le_antisymm <;> simp only [Knx] <;> omega) | fail) only [wpy, fW, reduceLE, reduceLT, reduceLeDiff, UInt8.reduceToNat, ↓reduceIte, reduceEqDiff, reduceAdd, reduceCtorEq, reduceToNat, e13], by simp +contextual (disch := first | (simp only [fq]; done) | omega | (simp only [Knx]; omega) | (apply Nat.le_antisymm <;> simp only [Knx] <;> omega) | fail) only [wpy, fW, reduceLE, reduceLT, reduceLeDiff, UInt8.reduceToNat, ↓reduceIte, reduceEqDiff, reduceAdd, reduceCtorEq, reduceToNat, e14], (by simp +contextual (disch := first | (simp only [fq]; done) | omega | (simp only [Knx]; omega) | (apply Nat.le_antisymm <;> simp only [Knx] <;> omega) | fail) only [wpy, fW, reduceLE, reduceLT, reduceLeDiff, UInt8.reduceToNat, ↓reduceIte, reduceEqDiff, reduceAdd, reduceCtorEq, reduceToNat, hwd]; exact hid.symm), by simp +contextual (disch := first | (simp only [fq]; done) | omega | (simp only [Knx]; omega) | (apply Nat.le_antisymm <;> simp only [Knx] <;> omega) | fail) only [wpy, fW, reduceLE, reduceLT, reduceLeDiff, UInt8.reduceToNat, ↓reduceIte, reduceEqDiff, reduceAdd, reduceCtorEq, reduceToNat, hwj], rfl⟩
        · rw [if_neg h4, Nat.add_zero] at hid
          simp +contextual (disch := first | (simp only [fq]; done) | omega | (simp only [Knx]; omega) | (apply Nat.le_antisymm <;> simp only [Knx] <;> omega) | fail) only [wpy, fW, reduceLE, reduceLT, reduceLeDiff, UInt8.reduceToNat, ↓reduceIte, reduceEqDiff, reduceAdd, reduceCtorEq, reduceToNat, Try.f5, e1, e2, e5, e7, e8, e9, e10, e13, e14, e15, e16, hlc, hjl, hqg, z1, h4]
          exact ⟨P4.conns.length - (j + 1), by omega, j + 1, rfl, hjl, by simp +contextual (disch := first | (simp only [fq]; done) | omega | (simp only [Knx]; omega) | (apply Nat.le_antisymm <;> simp only [Knx] <;> omega) | fail) only [wpy, fW, reduceLE, reduceLT, reduceLeDiff, UInt8.reduceToNat, ↓reduceIte, reduceEqDiff, reduceAdd, reduceCtorEq, reduceToNat, e1], by simp +contextual (disch := first | (simp only [fq]; done) | omega | (simp only [Knx]; omega) | (apply Nat.le_antisymm <;> simp only [Knx] <;> omega) | fail) only [wpy, fW, reduceLE, reduceLT, reduceLeDiff, UInt8.reduceToNat, ↓reduceIte, reduceEqDiff, reduceAdd, reduceCtorEq, reduceToNat, e2], by simp +contextual (disch := first | (simp only [fq]; done) | omega | (simp only [Knx]; omega) | (apply Nat.le_antisymm <;> simp only [Knx] <;> omega) | fail) only [wpy, fW, reduceLE, reduceLT, reduceLeDiff, UInt8.reduceToNat, ↓reduceIte, reduceEqDiff, reduceAdd, reduceCtorEq, reduceToNat, e5], by simp +contextual (disch := first | (simp only [fq]; done) | omega | (simp only [Knx]; omega) | (apply Nat.le_antisymm <;> simp only [Knx] <;> omega) | fail) only [wpy, fW, reduceLE, reduceLT, reduceLeDiff, UInt8.reduceToNat, ↓reduceIte, reduceEqDiff, reduceAdd, reduceCtorEq, reduceToNat, e7], by simp +contextual (disch := first | (simp only [fq]; done) | omega | (simp only [Knx]; omega) | (apply Nat.le_antisymm <;> simp only [Knx] <;> omega) | fail) only [wpy, fW, reduceLE, reduceLT, reduceLeDiff, UInt8.reduceToNat, ↓reduceIte, reduceEqDiff, reduceAdd, reduceCtorEq, reduceToNat, e8], by simp +contextual (disch := first | (simp only [fq]; done) | omega | (simp only [Knx]; omega) | (apply Nat.le_antisymm <;> simp only [Knx] <;> omega) | fail) only [wpy, fW, reduceLE, reduceLT, reduceLeDiff, UInt8.reduceToNat, ↓reduceIte, reduceEqDiff, reduceAdd, reduceCtorEq, reduceToNat, e9], by simp +contextual (disch := first | (simp only [fq]; done) | omega | (simp only [Knx]; omega) | (apply Nat.le_antisymm <;> simp only [Knx] <;> omega) | fail) only [wpy, fW, reduceLE, reduceLT, reduceLeDiff, UInt8.reduceToNat, ↓reduceIte, reduceEqDiff, reduceAdd, reduceCtorEq, reduceToNat, e10], by simp +contextual (disch := first | (simp only [fq]; done) | omega | (simp only [Knx]; omega) | (apply Nat.le_antisymm <;> simp only [Knx] <;> omega) | fail) only [wpy, fW, reduceLE, reduceLT, reduceLeDiff, UInt8.reduceToNat, ↓reduceIte, reduceEqDiff, reduceAdd, reduceCtorEq, reduceToNat, e13], by simp +contextual (disch := first | (simp only [fq]; done) | omega | (simp only [Knx]; omega) | (apply Nat.le_antisymm <;> simp only [Knx] <;> omega) | fail) only [wpy, fW, reduceLE, reduceLT, reduceLeDiff, UInt8.reduceToNat, ↓reduceIte, reduceEqDiff, reduceAdd, reduceCtorEq, reduceToNat, e14], by simp +contextual (disch := first | (simp only [fq]; done) | omega | (simp only [Knx]; omega) | (apply Nat.le_antisymm <;> simp only [Knx] <;> omega) | fail) only [wpy, fW, reduceLE, reduceLT, reduceLeDiff, UInt8.reduceToNat, ↓reduceIte, reduceEqDiff, reduceAdd, reduceCtorEq, reduceToNat, e15, hid], by simp +contextual (disch := first | (simp only [fq]; done) | omega | (simp only [Knx]; omega) | (apply Nat.le_antisymm <;> simp only [Knx] <;> omega) | fail) only [wpy, fW, reduceLE, reduceLT, reduceLeDiff, UInt8.reduceToNat, ↓reduceIte, reduceEqDiff, reduceAdd, reduceCtorEq, reduceToNat, hwj], rfl⟩
      · have hje : P4.conns.take j = P4.conns := List.take_of_length_le (by omega)
        rw [hje] at e15
        simp +contextual (disch := first | (simp only [fq]; done) | omega | (simp only [Knx]; omega) | (apply Nat.le_antisymm <;> simp only [Knx] <;> omega) | fail) only [wpy, fW, reduceLE, reduceLT, reduceLeDiff, UInt8.reduceToNat, ↓reduceIte, reduceEqDiff, reduceAdd, reduceCtorEq, reduceToNat, Try.f5, e1, e2, e5, e7, e8, e9, e10, e13, e14, e15, e16, hlc, hjl]
    rintro env9 h9 ⟨e1, e2, e5, e7, e8, e9, e10, e13, e14, e15, rfl⟩
    have hgs : h9.get h.nx = some (Ob.cells [V.int IntKind.i64 a, V.int IntKind.i64 b, V.int IntKind.i64 c] 32 false) := by rw [hx07.2 _ (by omega)]; exact hgA
    have hrg9 : h9.get rb = some (.ro (acells al)) := by rw [hx07.2 _ hrb]; exact hrg
    have hW4 : Wts h9 wv P.wts := Wts.of_lst (hLw4.ext hx47)
    have hN4 : Wts h9 nv P4.wts := Wts.of_lst (hLn.ext hx7)
    have hwlen := hW4.len
    have hnlen := hN4.len
    have hord : ordP P.wts P4.wts P4.now kk al[i].n := by
      have := fair_order F hfa
      rw [← hpl] at this
      exact this
    have hfr : Fr P4.pl := by rw [hpl]; exact hfa.fr
    have hbz : Bz P4.pl := by rw [hpl]; exact hfa.bz
    have hl4 : P4.lim = a := by
      have e : P4.lim = R.2.2.lim := by rw [← hpl]; rfl
      rw [e, hfa.lim]; exact hlim
    simp +contextual (disch := first | (simp only [fq]; done) | omega | (simp only [Knx]; omega) | (apply Nat.le_antisymm <;> simp only [Knx] <;> omega) | fail) only [wpyr, fW, reduceLE, reduceLT, reduceLeDiff, UInt8.reduceToNat, ↓reduceIte, reduceEqDiff, reduceAdd, reduceCtorEq, reduceToNat, Try.f5]
    refine draw_by [(29, 35)] (by kernel_rfl) ?_
    have hcl : (P4.conns.length : Int) ≤ a := by
      have q := hfr.len
      have q1 : ((P4.conns.map CN.pc).length : Int) ≤ P4.lim := q
      rw [List.length_map, hl4] at q1
      exact q1
    have f1 : ¬ a.toNat < P4.conns.length := by omega
    have f2 : ((0 < P4.wts.length ∧ ¬P4.paused) ∧ (0 < idles P4.conns ∨ P4.conns.length < a.toNat)) = False := eq_false (by
      rintro ⟨⟨q1, q2⟩, q3⟩
      obtain ⟨z1, z2⟩ := hbz (by intro e; have e : P4.wts = [] := e; rw [e] at q1; cases q1) q2
      have z1 : P4.lim ≤ ((P4.conns.map CN.pc).length : Int) := z1
      rw [List.length_map, hl4] at z1
      have z3 : idles P4.conns = 0 := idles_none fun c hc => z2 c.pc (List.mem_map_of_mem hc)
      omega)
    simp +contextual (disch := first | (simp only [fq]; done) | omega | (simp only [Knx]; omega) | (apply Nat.le_antisymm <;> simp only [Knx] <;> omega) | fail) only [wpyr, fW, reduceLE, reduceLT, reduceLeDiff, UInt8.reduceToNat, ↓reduceIte, reduceEqDiff, reduceAdd, reduceCtorEq, reduceToNat, Try.f5, e1, e2, e5, e7, e8, e9, e10, e13, e14, e15, hlc, hgs, hnlen, f1, f2]
    refine callF_exact (now_spec hS r7) ?_
    simp +contextual (disch := first | (simp only [fq]; done) | omega | (simp only [Knx]; omega) | (apply Nat.le_antisymm <;> simp only [Knx] <;> omega) | fail) only [wpyr, fW, reduceLE, reduceLT, reduceLeDiff, UInt8.reduceToNat, ↓reduceIte, reduceEqDiff, reduceAdd, reduceCtorEq, reduceToNat, Try.f5, e1, e2, e5, e7, e8, e9, e10, e13, e14, e15, hlc, hgs, hnlen, f1, f2, hlt, hrg9, y1]
    refine callF_exact (order_spec hS hW4 hN4 (by omega) (by omega) _ _ _) ?_
    have hord' : ordP P.wts P4.wts P4.now kk al[i].n = True := eq_true hord
    simp +contextual (disch := first | (simp only [fq]; done) | omega | (simp only [Knx]; omega) | (apply Nat.le_antisymm <;> simp only [Knx] <;> omega) | fail) only [wpy, fW, reduceLE, reduceLT, reduceLeDiff, UInt8.reduceToNat, ↓reduceIte, reduceEqDiff, reduceAdd, reduceCtorEq, reduceToNat, Try.f5, e1, e2, e5, e7, e8, e9, e10, e13, e14, e15, hord']
    have hrb9 : rb < h9.nx := by have := hx07.1; omega
    refine ⟨fun p hp => ?_, al.length - (i + 1), by omega, i + 1, D4, P4, rfl, hlt, by simp +contextual (disch := first | (simp only [fq]; done) | omega | (simp only [Knx]; omega) | (apply Nat.le_antisymm <;> simp only [Knx] <;> omega) | fail) only [wpy, fW, reduceLE, reduceLT, reduceLeDiff, UInt8.reduceToNat, ↓reduceIte, reduceEqDiff, reduceAdd, reduceCtorEq, reduceToNat, e1], by simp +contextual (disch := first | (simp only [fq]; done) | omega | (simp only [Knx]; omega) | (apply Nat.le_antisymm <;> simp only [Knx] <;> omega) | fail) only [wpy, fW, reduceLE, reduceLT, reduceLeDiff, UInt8.reduceToNat, ↓reduceIte, reduceEqDiff, reduceAdd, reduceCtorEq, reduceToNat, e2], by simp +contextual (disch := first | (simp only [fq]; done) | omega | (simp only [Knx]; omega) | (apply Nat.le_antisymm <;> simp only [Knx] <;> omega) | fail) only [wpy, fW, reduceLE, reduceLT, reduceLeDiff, UInt8.reduceToNat, ↓reduceIte, reduceEqDiff, reduceAdd, reduceCtorEq, reduceToNat, e5], by simp +contextual (disch := first | (simp only [fq]; done) | omega | (simp only [Knx]; omega) | (apply Nat.le_antisymm <;> simp only [Knx] <;> omega) | fail) only [wpy, fW, reduceLE, reduceLT, reduceLeDiff, UInt8.reduceToNat, ↓reduceIte, reduceEqDiff, reduceAdd, reduceCtorEq, reduceToNat, e7], by simp +contextual (disch := first | (simp only [fq]; done) | omega | (simp only [Knx]; omega) | (apply Nat.le_antisymm <;> simp only [Knx] <;> omega) | fail) only [wpy, fW, reduceLE, reduceLT, reduceLeDiff, UInt8.reduceToNat, ↓reduceIte, reduceEqDiff, reduceAdd, reduceCtorEq, reduceToNat, hwi], r7, hm4, B4', by rw [hpl]; exact G4, hfr, hbz, hl4, hown4, hx07⟩
    have hp : p = (29, 35) := by simpa using hp
    subst hp
    exact pair_one rfl rfl (fun e he => by
      rw [List.mem_singleton.1 (show e ∈ [_] from he)]
      exact .inr ⟨rfl, hrb9, fun w => w⟩)
  · simp +contextual (disch := first | (simp only [fq]; done) | omega | (simp only [Knx]; omega) | (apply Nat.le_antisymm <;> simp only [Knx] <;> omega) | fail) only [wpy, fW, reduceLE, reduceLT, reduceLeDiff, UInt8.reduceToNat, ↓reduceIte, reduceEqDiff, reduceAdd, reduceCtorEq, reduceToNat, Try.f5, e1, e2, e5, e7, e8, hlt, hlen2]
    exact hxA.trans hx2
end
end Go.Proofs.Ytbebdlmldogcmaa
set_option linter.unusedVariables false
set_option linter.unusedSimpArgs false
set_option maxRecDepth 100000
namespace Go.Proofs.Ytbebdlmldogcmaa.glue
open Go.Proofs Go.Shelf Go.ChangeShapes Go.WideShapes Go.ChangeAt Go.RowKit Go.Lx

theorem own : ownKnob Try.prog.godebug = none := by kernel_rfl
theorem laidOut : laidOutB Try.prog = true := by kernel_rfl
theorem mixed : Try.prog.follows .mixedOrders = true := Checked.mixed Try.checked

noncomputable def ρ : Go.Shelf.Ren := ⟨fun n => match n with | 6 => 47 | 8 => 55 | 9 => 56 | 10 => 57 | 11 => 58 | _ => 0, fun n => match n with | 0 => 0 | 3 => 64 | 4 => 4 | 23 => 52 | 24 => 36 | 26 => 3 | 28 => 81 | 33 => 58 | _ => 0, fun n => n⟩

theorem lay : KeyLay Try.prog ρ .i64 8 where
  mixed := mixed
  f6 := ⟨ "slices.Sorted[int]", by kernel_rfl, by kernel_rfl⟩
  f8 := ⟨ "slices.Collect[int]", by kernel_rfl, by kernel_rfl⟩
  f10 := ⟨ "maps.Keys[map[int]*sluicegate/api.Conn,int,*sluicegate/api.Conn]$1", by kernel_rfl, by kernel_rfl⟩
  f11 := ⟨ "slices.AppendSeq[[]int,int]", by kernel_rfl, by kernel_rfl⟩
  t0 := by kernel_rfl
  a0 := fun w => by kernel_rfl
  z0 := fun w => by kernel_rfl
  v0 := fun w => by kernel_rfl
  t4 := by kernel_rfl
  a4 := fun w => by kernel_rfl
  z4 := fun w => by kernel_rfl
  v4 := fun w => by kernel_rfl
  t23 := by kernel_rfl
  a23 := fun w => by kernel_rfl
  z23 := fun w => by kernel_rfl
  v23 := fun w => by kernel_rfl
  t24 := by kernel_rfl
  a24 := fun w => by kernel_rfl
  z24 := fun w => by kernel_rfl
  v24 := fun w => by kernel_rfl
  t26 := by kernel_rfl
  a26 := fun w => by kernel_rfl
  z26 := fun w => by kernel_rfl
  v26 := fun w => by kernel_rfl
  t28 := by kernel_rfl
  a28 := fun w => by kernel_rfl
  z28 := fun w => by kernel_rfl
  v28 := fun w => by kernel_rfl
  t33 := by kernel_rfl
  a33 := fun w => by kernel_rfl
  z33 := fun w => by kernel_rfl
  v33 := fun w => by kernel_rfl
  i26 := by kernel_rfl

noncomputable section
noncomputable def base : Set0 := { exts := [] }
theorem base_ok (lf : Nat) : SumOk (base.cfg.at lf) := sumOk_none _ rfl
theorem baseS : StdS base where
  ownS := fun _ _ => rfl
theorem e9 : Go.Proofs.Enters Try.prog (ρ.f 9) := Go.Proofs.enters_of Try.func56 (by kernel_rfl) (by first | rfl | kernel_rfl)
theorem e6 : Go.Proofs.Enters Try.prog (ρ.f 6) := Go.Proofs.enters_of Try.func47 (by kernel_rfl) (by first | rfl | kernel_rfl)
theorem eL : Go.Proofs.Enters Try.prog 8 := Go.Proofs.enters_of Try.func8 (by kernel_rfl) (by first | rfl | kernel_rfl)
noncomputable def cfg0 : Cfg := { P := Try.prog, lf := 100000, gl := .leaf, sum := fun _ => none }
noncomputable def cfg1 : Cfg := { P := Try.prog, lf := 100000, gl := .leaf, sum := sums [(47, sortedM cfg0 41 57 56 .i64 3)] }
theorem cfg1_ok : SumOk cfg1 := by
  refine sumOk_list _ [(47, sortedM cfg0 41 57 56 .i64 3)] rfl ?_
  intro p hp
  rw [List.mem_singleton] at hp
  subst hp
  exact extSum_sorted cfg0 mixed (sumOk_none _ rfl) rfl lay rfl (by kernel_rfl) e9 e6 (by decide) (n := 40) (by kernel_rfl) .leaf
theorem livesRun : yes (callM cfg1 100 8 [] st0) = true := by kernel_rfl
noncomputable def st : Set0 := { exts := [(47, sortedMG (base.cfg.at 100000) 41 57 56 .i64 3), (8, constTrue)] }
theorem st_ok (lf : Nat) : SumOk (st.cfg.at lf) := by
  refine sumOk_list _ [(47, sortedMG (base.cfg.at 100000) 41 57 56 .i64 3), (8, constTrue)] rfl ?_
  intro p hp
  rcases List.mem_cons.1 hp with rfl | hp
  · exact extSum_sortedG (base.cfg.at 100000) mixed (base_ok 100000) rfl lay rfl (by kernel_rfl) e9 e6 (by decide) (n := 40) (by kernel_rfl) (sorts baseS) (fun lf => base_ok lf) .leaf
  rw [List.mem_singleton] at hp
  subst hp
  exact extSum_true cfg1 mixed cfg1_ok livesRun rfl eL rfl
open Go.Wx in
theorem std : StdP st where
  ownS := by
    repeat (refine List.forall_mem_cons.2 ⟨rfl, ?_⟩)
    intro f hf
    cases hf
  ownP := by
    repeat (refine List.forall_mem_cons.2 ⟨rfl, ?_⟩)
    intro f hf
    cases hf
  srt := ⟨_, _, rfl⟩
  lives := fun h => callW_sum (s := h.st) (g := constTrue) rfl (Nice.ret _) rfl LogOk_nil ⟨rfl, rfl⟩
open Go.Wx in
theorem wf_row (c : List V) : WF (T.leaf.set 0 (some (Ob.ro c))) 1 := by
  intro k hk
  rw [T.get_set] at hk
  split at hk
  · omega
  · exact absurd rfl hk
theorem und32 : isStructD (Try.prog.underlying 32) = true := by kernel_rfl
theorem und33 : Try.prog.underlying 33 = some (.slice 39) := by kernel_rfl
theorem und3 : Try.prog.underlying 3 = some (.int .i64) := by kernel_rfl
theorem und4 : Try.prog.underlying 4 = some .bool := by kernel_rfl
theorem cells32 : Try.prog.cellsOf 32 = 3 := by kernel_rfl
theorem cells39 : Try.prog.cellsOf 39 = 3 := by kernel_rfl
theorem cells3 : Try.prog.cellsOf 3 = 1 := by kernel_rfl
theorem cells4 : Try.prog.cellsOf 4 = 1 := by kernel_rfl
noncomputable def fieldsAre (d : Option TypeDesc) (ts : List (TypeId × Nat)) : Bool := match d with
  | some (.struct fs) => fs.toList.map (fun f => (f.type, f.offset)) == ts
  | _ => false
theorem fields32 : fieldsAre (Try.prog.underlying 32) [(3, 0), (3, 1), (3, 2)] = true := by kernel_rfl
theorem fields39 : fieldsAre (Try.prog.underlying 39) [(3, 0), (3, 1), (4, 2)] = true := by kernel_rfl
theorem fieldsAre_ok {d : Option TypeDesc} {ts : List (TypeId × Nat)} (h : fieldsAre d ts = true) : ∃ fs, d = some (.struct fs) ∧ ∀ p ∈ ts, ∃ f ∈ fs.toList, f.type = p.1 ∧ f.offset = p.2 := by
  unfold fieldsAre at h
  cases d with
  | none => cases h
  | some d =>
    cases d <;> try (cases h; done)
    rename_i fs
    refine ⟨fs, rfl, fun p hp => ?_⟩
    have := eq_of_beq h
    rw [← this] at hp
    obtain ⟨f, hf, e⟩ := List.mem_map.1 hp
    exact ⟨f, hf, by rw [← e], by rw [← e]⟩
section
variable {H : Type} {enc : TypeId × Value → H} {w : World} {spare : Nat → Bool} {held : Bool}
theorem three {cs : List Value} (h : cs.length = 3) {P0 P1 P2 : List Value → Prop} (h0 : P0 ((cs.drop 0).take 1)) (h1 : P1 ((cs.drop 1).take 1)) (h2 : P2 ((cs.drop 2).take 1)) : ∃ a b c, cs = [a, b, c] ∧ P0 [a] ∧ P1 [b] ∧ P2 [c] := by
  match cs, h with
  | [a, b, c], _ => exact ⟨a, b, c, rfl, h0, h1, h2⟩
theorem setup_cells {fuel : Nat} {cs : List Value} {x : DataW H × List MemPlace} (h : DataW.trod enc Try.prog w 0 spare held fuel 32 cs = some x) : ∃ a b c, cs = [.int .i64 a, .int .i64 b, .int .i64 c] := by
  obtain ⟨fs, hu, hf⟩ := fieldsAre_ok fields32
  have hl := trod_struct_len hu h
  rw [cells32] at hl
  have get : ∀ o, ((3, o) : TypeId × Nat) ∈ [((3, 0) : TypeId × Nat), (3, 1), (3, 2)] → ∃ n, (cs.drop o).take 1 = [.int .i64 n] := fun o ho => by
    obtain ⟨f, hm, e1, e2⟩ := hf _ ho
    obtain ⟨y, hy⟩ := trod_field' hu hm h
    rw [e1, e2, cells3] at hy
    obtain ⟨n, hn, _⟩ := trod_int und3 hy
    exact ⟨n, hn⟩
  obtain ⟨a, b, c, rfl, h0, h1, h2⟩ := three hl (P0 := fun l => ∃ n, l = [.int .i64 n]) (P1 := fun l => ∃ n, l = [.int .i64 n]) (P2 := fun l => ∃ n, l = [.int .i64 n]) (get 0 (by simp)) (get 1 (by simp)) (get 2 (by simp))
  obtain ⟨n0, e0⟩ := h0
  obtain ⟨n1, e1⟩ := h1
  obtain ⟨n2, e2⟩ := h2
  cases e0; cases e1; cases e2
  exact ⟨n0, n1, n2, rfl⟩
def isAct (cs : List Value) : Prop := ∃ a b, ∃ c : Bool, cs = [.int .i64 a, .int .i64 b, .bool c]
theorem act_cells {fuel : Nat} {cs : List Value} {x : DataW H × List MemPlace} (h : DataW.trod enc Try.prog w 0 spare held fuel 39 cs = some x) : isAct cs := by
  obtain ⟨fs, hu, hf⟩ := fieldsAre_ok fields39
  have hl := trod_struct_len hu h
  rw [cells39] at hl
  have get : ∀ o, ((3, o) : TypeId × Nat) ∈ [((3, 0) : TypeId × Nat), (3, 1), (4, 2)] → ∃ n, (cs.drop o).take 1 = [.int .i64 n] := fun o ho => by
    obtain ⟨f, hm, e1, e2⟩ := hf _ ho
    obtain ⟨y, hy⟩ := trod_field' hu hm h
    rw [e1, e2, cells3] at hy
    obtain ⟨n, hn, _⟩ := trod_int und3 hy
    exact ⟨n, hn⟩
  have getb : ∃ n : Bool, (cs.drop 2).take 1 = [.bool n] := by
    obtain ⟨f, hm, e1, e2⟩ := hf (4, 2) (by simp)
    obtain ⟨y, hy⟩ := trod_field' hu hm h
    rw [e1, e2, cells4] at hy
    exact trod_bool und4 hy
  obtain ⟨a, b, c, rfl, h0, h1, h2⟩ := three hl (P0 := fun l => ∃ n, l = [.int .i64 n]) (P1 := fun l => ∃ n, l = [.int .i64 n]) (P2 := fun l => ∃ n : Bool, l = [.bool n]) (get 0 (by simp)) (get 1 (by simp)) getb
  obtain ⟨n0, e0⟩ := h0
  obtain ⟨n1, e1⟩ := h1
  obtain ⟨n2, e2⟩ := h2
  cases e0; cases e1; cases e2
  exact ⟨n0, n1, n2, rfl⟩
end
theorem acts_of : ∀ (rows : List (List Value)), (∀ r ∈ rows, r.length = 3 ∧ isAct r) → ∃ al : List ACT, al.length = rows.length ∧ ∀ (i : Nat) (v : V), (acells al)[i]? = some v → ∃ r, rows.flatten[i]? = some r ∧ ∀ μ ν, VRel μ ν v r
  | [], _ => ⟨[], rfl, fun i v h => by simp [acells] at h⟩
  | r :: rows, h => by
    obtain ⟨al, h1, h2⟩ := acts_of rows fun r hr => h r (.tail _ hr)
    obtain ⟨_, a, b, c, e⟩ := h r (.head _)
    refine ⟨⟨a, b, c = true⟩ :: al, by simp [h1], fun i v hi => ?_⟩
    subst e
    have e1 : acells (⟨a, b, c = true⟩ :: al) = [.int .i64 a, .int .i64 b, Go.Wx.bo (c = true)] ++ acells al := rfl
    rw [e1] at hi
    have e2 : ([Value.int .i64 a, Value.int .i64 b, Value.bool c] :: rows).flatten = [Value.int .i64 a, Value.int .i64 b, Value.bool c] ++ rows.flatten := rfl
    rw [e2]
    match i with
    | 0 => cases hi; exact ⟨_, rfl, fun μ ν => .int _ _⟩
    | 1 => cases hi; exact ⟨_, rfl, fun μ ν => .int _ _⟩
    | 2 =>
      have : Go.Wx.bo (c = true) = v := Option.some.inj hi
      rw [← this, ← Go.Wx.bo_bool]
      exact ⟨_, rfl, fun μ ν => .bool _⟩
    | i + 3 => exact h2 i v hi
theorem slice_arg {W : World} {base : Nat} {v : Value} (h : Value.okWide Try.prog W .any base 33 v) : v = .slice none 0 0 ∨ ∃ a len cap, v = .slice (some a) len cap ∧ len ≤ cap ∧ cap < 2 ^ 63 ∧ a.spot = none ∧ ∃ q, W.shape? a.block = some q := by
  unfold Value.okWide at h
  rw [und33] at h
  unfold Cell.okWide Cell.ok at h
  rw [und33] at h
  cases v <;> simp only [] at h <;> try (exact h.elim)
  rename_i ao len cap
  cases ao with
  | none =>
    left
    cases len <;> cases cap <;> first | rfl | exact h.elim
  | some a =>
    obtain ⟨w1, w2, _, w3, row, cells, w4, _⟩ := h
    exact .inr ⟨a, len, cap, rfl, w1, by have : IntKind.i64.max = 9223372036854775807 := rfl; omega, w3, _, w4⟩
open Go.Wx in
theorem walk {f : FuncId} (hsu : st.cfg.sum f = none) (hlaw : ∀ (a b c : Int) (al : List ACT) (lv : V) (h : H), ARow h lv al → al.length < 2 ^ 63 → Pure st.cfg f [.agg [.int .i64 a, .int .i64 b, .int .i64 c], lv] h fun v _ => v = .bool true) {H : Type} {enc : TypeId × Value → H} {spare : Nat → Bool} {held : Bool} {W : World} {base : Nat} {v0 v1 : Value} {d0 d1 : DataW H} {p0 p1 : List MemPlace} (hv0 : ∃ cs, v0 = .agg ⟨cs⟩) (hv1 : Value.okWide Try.prog W .any base 33 v1) (h0 : DataW.Trod enc Try.prog W 0 spare held 32 v0 d0 p0) (h1 : DataW.Trod enc Try.prog W 0 spare held 33 v1 d1 p1) : Calls Try.prog f #[v0, v1] W fun e W' => e = .returned (.bool true) ∧ Below W.heap.size W W' := by
  obtain ⟨cs, rfl⟩ := hv0
  obtain ⟨fuel0, h0⟩ := h0
  obtain ⟨fuel1, h1⟩ := h1
  obtain ⟨a, b, c, e⟩ := setup_cells h0
  have e : cs = [.int .i64 a, .int .i64 b, .int .i64 c] := e
  subst e
  rcases slice_arg hv1 with rfl | ⟨ad, len, cap, rfl, hlc, hcm, hsp, hsh⟩
  · obtain ⟨v, h', lf, k, l, hrun, _, rfl⟩ := callW_run (hlaw a b c [] .nilslice ⟨.leaf, 0⟩ (.inl ⟨rfl, rfl⟩) (by decide))
    exact law_calls_g (st.cfg.at lf) mixed (st_ok lf) (vs := [.agg [.int .i64 a, .int .i64 b, .int .i64 c], .nilslice]) (n := k) (by rw [show st0 = (⟨.leaf, 0, []⟩ : St) from rfl, hrun]; rfl) hsu (.cons (.agg (.cons (.int _ _) (.cons (.int _ _) (.cons (.int _ _) .nil)))) (.cons .nilslice .nil)) (ν := fun _ => undef) W Globs.none
  · obtain ⟨_, _, hel⟩ := trod_row und33 hsp h1
    rw [cells39] at hel
    obtain ⟨rows, rc, et, frz, hrl, hh, hrows, hfl⟩ := flat_row (sz := 3) (Q := isAct) hsh fun i hi => by
      obtain ⟨cs, y, h2, h3, h4⟩ := hel i hi
      exact ⟨cs, h3, act_cells h2, h4⟩
    obtain ⟨al, hal, hac⟩ := acts_of rows hrows
    rw [hrl] at hal
    subst hal
    obtain ⟨v, h', lf, k, l, hrun, _, rfl⟩ := callW_runH (h := ⟨T.leaf.set 0 (some (.ro (acells al))), 1⟩) (wf_row _) (hlaw a b c al (.slice 0 0 al.length cap) ⟨T.leaf.set 0 (some (.ro (acells al))), 1⟩ (.inr ⟨0, cap, rfl, Nat.one_pos, by show T.get _ 0 = _; rw [T.get_set, if_pos rfl]⟩) (by omega))
    refine law_calls_r (st.cfg.at lf) mixed (st_ok lf) (vs := [.agg [.int .i64 a, .int .i64 b, .int .i64 c], .slice 0 0 al.length cap]) (n := k) (ν := fun _ => undef) (μ := upd (fun _ => none) 0 ⟨ad.block, ad.off, false, 0, 0⟩) hrun hsu W ⟨fun j ob hk => ?_, fun j j' ob ob' q q' hk hk' hne => ?_⟩ (fun j hj => upd_ne _ _ (by have : 1 ≤ j := hj; omega)) (fun j q hk => ?_) (.cons (.agg (.cons (.int _ _) (.cons (.int _ _) (.cons (.int _ _) .nil)))) (.cons (.slice (upd_same _ _ _) hlc ?_) .nil)) Globs.none
    · rw [T.get_set] at hk
      split at hk
      · rename_i e0
        subst e0
        cases hk
        refine ⟨_, upd_same _ _ _, rfl, rc, et, frz, hh, fun i v hi => ?_⟩
        obtain ⟨r', q1, q2⟩ := hac i v hi
        exact ⟨r', hfl i r' q1, q2 _ _⟩
      · cases hk
    · rw [T.get_set] at hk hk'
      split at hk
      · split at hk'
        · omega
        · cases hk'
      · cases hk
    · by_cases h0 : j = 0
      · subst h0; exact ⟨_, by rw [T.get_set, if_pos rfl]⟩
      · rw [upd_ne _ _ h0] at hk; cases hk
    · refine .inr ⟨?_, .inl rfl⟩
      obtain ⟨ab, ao, asp⟩ := ad
      simp only at hsp
      subst hsp
      rfl
end
end Go.Proofs.Ytbebdlmldogcmaa.glue
