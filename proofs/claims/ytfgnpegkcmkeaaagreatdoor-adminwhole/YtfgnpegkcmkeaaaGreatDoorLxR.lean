/-
  What a run of the machine hangs on: where another heap agrees with the first one in all that was looked at, it does there what it did.
-/
import Derived.Test.YtfgnpegkcmkeaaaGreatDoorLxE
set_option linter.unusedSimpArgs false
set_option linter.unusedVariables false
namespace Go.Lx
noncomputable section
inductive Lo where
 | blk (k : Nat)
 | cell (k i : Nat)
inductive LV where
 | gone
 | cells (n : Nat) (e : TypeId) (p : Bool)
 | other (o : Ob)
 | cell (v : Option V)
def lookB : Option Ob → LV
 | none => .gone
 | some (.cells c e p) => .cells c.length e p
 | some o => .other o
def lookC : Option Ob → Nat → LV
 | some (.cells c _ _), i => .cell c[i]?
 | _, _ => .cell none
def look (h : T Ob) : Lo → LV
 | .blk k => lookB (h.get k)
 | .cell k i => lookC (h.get k) i
theorem get_of_look {h g : T Ob} {k : Nat} (hl : ∀ l, look h l = look g l) : h.get k = g.get k := by
 have hb : lookB (h.get k) = lookB (g.get k) := hl (.blk k)
 have hc : ∀ i, lookC (h.get k) i = lookC (g.get k) i := fun i => hl (.cell k i)
 cases h1 : h.get k with
 | none =>
   rw [h1] at hb
   cases h2 : g.get k with
   | none => rfl
   | some o => rw [h2] at hb; cases o <;> simp [lookB] at hb
 | some o =>
   rw [h1] at hb hc
   cases h2 : g.get k with
   | none => rw [h2] at hb; cases o <;> simp [lookB] at hb
   | some o' =>
     rw [h2] at hb hc
     cases o <;> cases o' <;> simp only [lookB, LV.cells.injEq, LV.other.injEq, reduceCtorEq] at hb
     ·obtain ⟨e1, e2, e3⟩ := hb
      subst e2; subst e3
      congr 2
      apply List.ext_getElem?
      intro i
      have := hc i
      simpa [lookC] using this
     all_goals (rw [hb])
def LE.reads : LE → Lo → Prop
 | .rd k _ _, .blk k' => k' = k
 | .rd k lo n, .cell k' i => k' = k ∧ lo ≤ i ∧ i < lo + n
 | .wr k _ _, .blk k' => k' = k
 | .rdd k, .blk k' => k' = k
 | _, _ => False
def LE.writes : LE → Lo → Prop
 | .wr k lo n, .cell k' i => k' = k ∧ lo ≤ i ∧ i < lo + n
 | .wrd k, .blk k' => k' = k
 | .wrd k, .cell k' _ => k' = k
 | _, _ => False
def Rd (l : List LE) (x : Lo) : Prop := ∃ e ∈ l, e.reads x
def Wr (l : List LE) (x : Lo) : Prop := ∃ e ∈ l, e.writes x
theorem Rd_head {e : LE} {l : List LE} {x : Lo} (h : e.reads x) : Rd (e :: l) x := ⟨e, List.mem_cons_self, h⟩
theorem Wr_head {e : LE} {l : List LE} {x : Lo} (h : e.writes x) : Wr (e :: l) x := ⟨e, List.mem_cons_self, h⟩
theorem Rd_append {a b : List LE} {x : Lo} : Rd (a ++ b) x ↔ Rd a x ∨ Rd b x := by
 unfold Rd; constructor
 ·rintro ⟨e, h, r⟩; rcases List.mem_append.1 h with h | h
  ·exact .inl ⟨e, h, r⟩
  ·exact .inr ⟨e, h, r⟩
 ·rintro (⟨e, h, r⟩ | ⟨e, h, r⟩)
  ·exact ⟨e, List.mem_append.2 (.inl h), r⟩
  ·exact ⟨e, List.mem_append.2 (.inr h), r⟩
theorem Wr_append {a b : List LE} {x : Lo} : Wr (a ++ b) x ↔ Wr a x ∨ Wr b x := by
 unfold Wr; constructor
 ·rintro ⟨e, h, r⟩; rcases List.mem_append.1 h with h | h
  ·exact .inl ⟨e, h, r⟩
  ·exact .inr ⟨e, h, r⟩
 ·rintro (⟨e, h, r⟩ | ⟨e, h, r⟩)
  ·exact ⟨e, List.mem_append.2 (.inl h), r⟩
  ·exact ⟨e, List.mem_append.2 (.inr h), r⟩
structure Did {α : Type} (F : M α) (s : St) (a : α) (s' : St) (l : List LE) : Prop where
 log : s'.log = l ++ s.log
 next : s.next ≤ s'.next
 stays : ∀ x, ¬ Wr l x → look s'.heap x = look s.heap x
 again : ∀ s2 : St, s2.next = s.next → (∀ x, Rd l x → look s2.heap x = look s.heap x) →
  ∃ s2', F s2 = .ok a s2' ∧ s2'.log = l ++ s2.log ∧ s2'.next = s'.next ∧ (∀ x, Wr l x → look s2'.heap x = look s'.heap x) ∧ ∀ x, ¬ Wr l x → look s2'.heap x = look s2.heap x
def Local {α : Type} (F : M α) : Prop := ∀ s a s', F s = .ok a s' → ∃ l, Did F s a s' l
theorem Local.ret {α : Type} (a : α) : Local (Lx.ret a) := by
 intro s b s' h
 obtain ⟨rfl, rfl⟩ := ret_ok h
 exact ⟨[], rfl, Nat.le_refl _, fun _ _ => rfl, fun s2 hn _ => ⟨s2, rfl, rfl, hn, fun x ⟨e, he, _⟩ => by simp at he, fun _ _ => rfl⟩⟩
theorem Local.err {α : Type} (w : String) : Local (err w : M α) := fun s a s' h => (err_ok h).elim
theorem Local.opt {α : Type} (o : Option α) (w : String) : Local (Lx.opt o w) := by
 cases o with
 | none => exact Local.err w
 | some a => exact Local.ret a
theorem Local.cond {α : Type} {b : Bool} {x y : M α} (hx : Local x) (hy : Local y) : Local (bif b then x else y) := by
 cases b
 ·exact hy
 ·exact hx
theorem Local.bnd {α β : Type} {F : M α} {G : α → M β} (hF : Local F) (hG : ∀ a, Local (G a)) : Local (Lx.bnd F G) := by
 intro s b s' h
 obtain ⟨a, s1, h1, h2⟩ := bnd_ok h
 obtain ⟨l1, d1⟩ := hF s a s1 h1
 obtain ⟨l2, d2⟩ := hG a s1 b s' h2
 refine ⟨l2 ++ l1, by rw [d2.log, d1.log, List.append_assoc], Nat.le_trans d1.next d2.next, fun x hx => ?_, fun s2 hn hr => ?_⟩
 ·rw [Wr_append] at hx
  rw [d2.stays x (fun h => hx (.inl h)), d1.stays x (fun h => hx (.inr h))]
 ·obtain ⟨s3, e1, e2, e3, e4, e5⟩ := d1.again s2 hn (fun x hx => hr x (Rd_append.2 (.inr hx)))
  obtain ⟨s4, f1, f2, f3, f4, f5⟩ := d2.again s3 e3 (fun x hx => by
   by_cases hw : Wr l1 x
   ·exact e4 x hw
   ·rw [e5 x hw, hr x (Rd_append.2 (.inl hx)), d1.stays x hw])
  refine ⟨s4, by unfold Lx.bnd; rw [e1]; exact f1, by rw [f2, e2, List.append_assoc], f3, fun x hx => ?_, fun x hx => ?_⟩
  ·by_cases hw : Wr l2 x
   ·exact f4 x hw
   ·rw [f5 x hw, d2.stays x hw]
    rcases Wr_append.1 hx with h | h
    ·exact absurd h hw
    ·exact e4 x h
  ·rw [Wr_append] at hx
   rw [f5 x (fun h => hx (.inl h)), e5 x (fun h => hx (.inr h))]
theorem cells_of_look {h g : T Ob} {k : Nat} {c : List V} {e : TypeId} {p : Bool} (hg : h.get k = some (.cells c e p)) (hb : look g (.blk k) = look h (.blk k)) : ∃ c', g.get k = some (.cells c' e p) ∧ c'.length = c.length := by
 simp only [look, hg] at hb
 cases h2 : g.get k with
 | none => rw [h2] at hb; cases hb
 | some o =>
   rw [h2] at hb
   cases o <;> simp only [lookB, LV.cells.injEq, reduceCtorEq] at hb
   obtain ⟨e1, e2, e3⟩ := hb
   subst e2; subst e3
   exact ⟨_, rfl, e1⟩
theorem Local.ld (k o n : Nat) : Local (Lx.ld k o n) := by
 intro s a s' h
 obtain ⟨c, ⟨ob, hob, hrow⟩, hl, rfl, rfl⟩ := ld_ok h
 cases ob with
 | ro c0 =>
   cases hrow
   refine ⟨[.rd k o n], rfl, Nat.le_refl _, fun _ _ => rfl, fun s2 hn hr => ?_⟩
   have hb := hr (.blk k) (Rd_head rfl)
   have hg2 : s2.heap.get k = some (.ro c) := by
    simp only [look, hob] at hb
    cases h2 : s2.heap.get k with
    | none => rw [h2] at hb; cases hb
    | some o => rw [h2] at hb; cases o <;> simp only [lookB, LV.other.injEq, reduceCtorEq] at hb <;> rw [hb]
   refine ⟨{ s2 with log := .rd k o n :: s2.log }, ?_, rfl, hn, fun x ⟨e, he, hw⟩ => ?_, fun _ _ => rfl⟩
   ·unfold Lx.ld
    simp only [hg2, ble_iff.2 hl, cond_true]
   ·simp at he; subst he; exact hw.elim
 | map es clock => cases hrow
 | siter s pos => cases hrow
 | miter m since seen last => cases hrow
 | cells c0 e p =>
 cases hrow
 have hg := hob
 refine ⟨[.rd k o n], rfl, Nat.le_refl _, fun _ _ => rfl, fun s2 hn hr => ?_⟩
 obtain ⟨c', hg', hl'⟩ := cells_of_look hg (hr (.blk k) (Rd_head rfl))
 have hsub : sub c' o n = sub c o n := by
  apply List.ext_getElem?
  intro i
  by_cases hi : i < n
  ·rw [sub_get hi, sub_get hi]
   have := hr (.cell k (o + i)) (Rd_head ⟨rfl, by omega, by omega⟩)
   simpa [look, hg, hg', lookC] using this
  ·rw [List.getElem?_eq_none (by rw [sub_length (by omega)]; omega), List.getElem?_eq_none (by rw [sub_length hl]; omega)]
 refine ⟨{ s2 with log := .rd k o n :: s2.log }, ?_, rfl, hn, fun x ⟨e, he, hw⟩ => ?_, fun _ _ => rfl⟩
 ·unfold Lx.ld
  simp only [hg', hl', ble_iff.2 hl, cond_true, hsub]
 ·simp at he; subst he; exact hw.elim
theorem look_set_ne {h : T Ob} {k : Nat} {o : Option Ob} {x : Lo} (hx : ∀ k', (x = .blk k' ∨ ∃ i, x = .cell k' i) → k' ≠ k) : look (h.set k o) x = look h x := by
 cases x with
 | blk k' => simp [look, T.get_set, hx k' (.inl rfl)]
 | cell k' i => simp [look, T.get_set, hx k' (.inr ⟨i, rfl⟩)]
theorem Local.stc (k o : Nat) (vs : List V) : Local (Lx.stc k o vs) := by
 intro s a s' h
 obtain ⟨c, e, p, hg, hl, hc, rfl⟩ := stc_ok h
 have stays : ∀ (h : T Ob) (c : List V) (x : Lo), h.get k = some (.cells c e p) → o + vs.length ≤ c.length → ¬ Wr [.wr k o vs.length] x → look (h.set k (some (.cells (listPut c o vs) e p))) x = look h x := by
  intro h c x hg hl hx
  cases x with
  | blk k' =>
    by_cases e : k' = k
    ·subst e; simp [look, T.get_set, hg, lookB, listPut_length]
    ·simp [look, T.get_set, e]
  | cell k' i =>
    by_cases e : k' = k
    ·subst e
     simp only [look, T.get_set_same, hg, lookC]
     rw [listPut_get _ _ _ _ hl, if_neg]
     intro hi
     exact hx (Wr_head ⟨rfl, hi.1, hi.2⟩)
    ·simp [look, T.get_set, e]
 refine ⟨[.wr k o vs.length], rfl, Nat.le_refl _, fun x hx => stays _ _ x hg hl hx, fun s2 hn hr => ?_⟩
 obtain ⟨c', hg', hl'⟩ := cells_of_look hg (hr (.blk k) (Rd_head rfl))
 refine ⟨{ s2 with heap := s2.heap.set k (some (.cells (listPut c' o vs) e p)), log := .wr k o vs.length :: s2.log }, ?_, rfl, hn, fun x ⟨e', he, hw⟩ => ?_, fun x hx => stays _ _ x hg' (by omega) hx⟩
 ·unfold Lx.stc
  simp only [hg', hl', ble_iff.2 hl, hc, Bool.and_self, cond_true]
 ·simp at he; subst he
  cases x with
  | blk k' => exact hw.elim
  | cell k' i =>
    obtain ⟨rfl, h1, h2⟩ := hw
    simp only [look, T.get_set_same, lookC]
    rw [listPut_get _ _ _ _ (by omega), listPut_get _ _ _ _ hl, if_pos ⟨h1, h2⟩, if_pos ⟨h1, h2⟩]
theorem Local.blk (k : Nat) : Local (Lx.blk k) := by
 intro s a s' h
 obtain ⟨c, e, p, hg, rfl, rfl⟩ := blk_ok h
 refine ⟨[.rdd k], rfl, Nat.le_refl _, fun _ _ => rfl, fun s2 hn hr => ?_⟩
 obtain ⟨c', hg', hl'⟩ := cells_of_look hg (hr (.blk k) (Rd_head rfl))
 refine ⟨{ s2 with log := .rdd k :: s2.log }, ?_, rfl, hn, fun x ⟨e, he, hw⟩ => ?_, fun _ _ => rfl⟩
 ·unfold Lx.blk
  simp only [hg', hl']
 ·simp at he; subst he; exact hw.elim
theorem Local.blkS (k : Nat) : Local (Lx.blkS k) := by
 intro s a s' h
 obtain ⟨h0, rfl⟩ := blkS_ok h
 obtain ⟨n, e, p⟩ := a
 rcases h0 with ⟨c, hg, hl⟩ | ⟨c, hg, hl, he, hp⟩
 ·simp only at hg hl
  subst hl
  refine ⟨[.rdd k], rfl, Nat.le_refl _, fun _ _ => rfl, fun s2 hn hr => ?_⟩
  obtain ⟨c', hg', hl'⟩ := cells_of_look hg (hr (.blk k) (Rd_head rfl))
  refine ⟨{ s2 with log := .rdd k :: s2.log }, ?_, rfl, hn, fun x ⟨e, he, hw⟩ => ?_, fun _ _ => rfl⟩
  ·unfold Lx.blkS
   simp only [hg', hl']
  ·simp at he; subst he; exact hw.elim
 ·simp only at hl he hp
  subst hl he hp
  refine ⟨[.rdd k], rfl, Nat.le_refl _, fun _ _ => rfl, fun s2 hn hr => ?_⟩
  have hb := hr (.blk k) (Rd_head rfl)
  have hg2 : s2.heap.get k = some (.ro c) := by
   simp only [look, hg] at hb
   cases h2 : s2.heap.get k with
   | none => rw [h2] at hb; cases hb
   | some o => rw [h2] at hb; cases o <;> simp only [lookB, LV.other.injEq, reduceCtorEq] at hb <;> rw [hb]
  refine ⟨{ s2 with log := .rdd k :: s2.log }, ?_, rfl, hn, fun x ⟨e, he, hw⟩ => ?_, fun _ _ => rfl⟩
  ·unfold Lx.blkS
   simp only [hg2]
  ·simp at he; subst he; exact hw.elim
theorem ob_of_look {h g : T Ob} {k : Nat} {o : Ob} (hg : h.get k = some o) (hc : o.isCells = false) (hb : look g (.blk k) = look h (.blk k)) : g.get k = some o := by
 simp only [look, hg] at hb
 cases h2 : g.get k with
 | none => rw [h2] at hb; cases o <;> simp [lookB] at hb
 | some o' =>
   rw [h2] at hb
   cases o <;> cases o' <;> simp only [lookB, LV.cells.injEq, LV.other.injEq, reduceCtorEq] at hb <;> first | (cases hc; done) | rw [hb]
theorem Local.getO (k : Nat) : Local (Lx.getO k) := by
 intro s a s' h
 obtain ⟨hg, hc, rfl⟩ := getO_ok h
 refine ⟨[.rdd k], rfl, Nat.le_refl _, fun _ _ => rfl, fun s2 hn hr => ?_⟩
 have hg' := ob_of_look hg hc (hr (.blk k) (Rd_head rfl))
 refine ⟨{ s2 with log := .rdd k :: s2.log }, ?_, rfl, hn, fun x ⟨e, he, hw⟩ => ?_, fun _ _ => rfl⟩
 ·unfold Lx.getO
  simp only [hg', hc, cond_false]
 ·simp at he; subst he; exact hw.elim
theorem whole {s s2 : St} {k : Nat} {o : Option Ob} {l0 : List LE} (hw : ∀ x, Wr l0 x → False) :
  (∀ x, ¬ Wr (.wrd k :: l0) x → look (s.heap.set k o) x = look s.heap x) ∧ (∀ x, Wr (.wrd k :: l0) x → look (s2.heap.set k o) x = look (s.heap.set k o) x) := by
 constructor
 ·intro x hx
  refine look_set_ne fun k' h e => hx ⟨.wrd k, by simp, ?_⟩
  rcases h with h | ⟨i, h⟩ <;> (subst h; exact e)
 ·rintro x ⟨e, he, hx⟩
  rcases List.mem_cons.1 he with rfl | he
  ·cases x with
   | blk k' => obtain rfl : k' = k := hx; simp [look, T.get_set]
   | cell k' i => obtain rfl : k' = k := hx; simp [look, T.get_set]
  ·exact (hw x ⟨e, he, hx⟩).elim
theorem noWr_rdd (k : Nat) : ∀ x, Wr [.rdd k] x → False := by
 rintro x ⟨e, he, hw⟩; simp at he; subst he; exact hw
theorem Local.setO (k : Nat) (o : Ob) : Local (Lx.setO k o) := by
 intro s a s' h
 obtain ⟨o', hg, hc, hc', rfl⟩ := setO_ok h
 refine ⟨[.wrd k, .rdd k], rfl, Nat.le_refl _, fun x hx => (whole (s := s) (s2 := s) (noWr_rdd k)).1 x hx, fun s2 hn hr => ?_⟩
 have hg' := ob_of_look hg hc (hr (.blk k) ⟨.rdd k, by simp, rfl⟩)
 refine ⟨{ s2 with heap := s2.heap.set k (some o), log := .wrd k :: .rdd k :: s2.log }, ?_, rfl, hn, fun x hx => (whole (s := s) (s2 := s2) (noWr_rdd k)).2 x hx, fun x hx => (whole (s := s2) (s2 := s2) (noWr_rdd k)).1 x hx⟩
 unfold Lx.setO
 simp only [hg', hc, hc', Bool.or_self, cond_false]
theorem Local.kill (k : Nat) : Local (Lx.kill k) := by
 intro s a s' h
 obtain ⟨c, e, p, hg, rfl⟩ := kill_ok h
 refine ⟨[.wrd k, .rdd k], rfl, Nat.le_refl _, fun x hx => (whole (s := s) (s2 := s) (noWr_rdd k)).1 x hx, fun s2 hn hr => ?_⟩
 obtain ⟨c', hg', hl'⟩ := cells_of_look hg (hr (.blk k) ⟨.rdd k, by simp, rfl⟩)
 refine ⟨{ s2 with heap := s2.heap.set k none, log := .wrd k :: .rdd k :: s2.log }, ?_, rfl, hn, fun x hx => (whole (s := s) (s2 := s2) (noWr_rdd k)).2 x hx, fun x hx => (whole (s := s2) (s2 := s2) (noWr_rdd k)).1 x hx⟩
 unfold Lx.kill
 simp only [hg']
theorem Local.alloc (ob : Ob) : Local (Lx.alloc ob) := by
 intro s a s' h
 obtain ⟨rfl, rfl⟩ := alloc_ok h
 have h0 : ∀ x, Wr [] x → False := by rintro x ⟨e, he, _⟩; simp at he
 refine ⟨[.wrd s.next], rfl, Nat.le_succ _, fun x hx => (whole (s := s) (s2 := s) h0).1 x hx, fun s2 hn hr => ?_⟩
 refine ⟨{ heap := s2.heap.set s.next (some ob), next := s.next + 1, log := .wrd s.next :: s2.log }, ?_, rfl, rfl, fun x hx => (whole (s := s) (s2 := s2) h0).2 x hx, fun x hx => (whole (s := s2) (s2 := s2) h0).1 x hx⟩
 unfold Lx.alloc
 rw [hn]
end
end Go.Lx
