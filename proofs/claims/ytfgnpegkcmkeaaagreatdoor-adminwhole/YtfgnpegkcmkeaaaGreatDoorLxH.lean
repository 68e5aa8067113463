/-
  Each of the machine's operations is the model's, through the relation: slice expressions, conversions, len, cap.
-/
import Derived.Test.YtfgnpegkcmkeaaaGreatDoorLxG
import Derived.Laws.BytesString
import Derived.Laws.Append
set_option linter.unusedSimpArgs false
set_option linter.unusedVariables false
namespace Go.Lx
inductive OpRel (μ : Mu) (ν : Nat → Value) : Option V → Option Value → Prop
 | none : OpRel μ ν none none
 | some {v : V} {r : Value} (h : VRel μ ν v r) : OpRel μ ν (some v) (some r)
section
variable {P : Program} {μ : Mu} {ν : Nat → Value} {s s' : St} {w : World}
theorem inI_spec {i : Int} {n : Nat} (h : inI i n = true) : 0 ≤ i ∧ i ≤ n ∧ i = i.toNat := by
 cases i with
 | ofNat m =>
   have h' : Nat.ble m n = true := h
   rw [ble_iff] at h'
   exact ⟨Int.natCast_nonneg m, Int.ofNat_le.2 h', rfl⟩
 | negSucc m => cases h
theorem bound_some {x : V} {r : Value} {lim lim' d n : Nat} {code : BoundsCode} (hx : VRel μ ν x r) (h : boundO (some x) lim d = some n) (hl : lim ≤ lim') :
  (Instr.sliceBound r lim' code).run P w = .ok n w ∧ n ≤ lim := by
 unfold boundO at h
 cases x <;> simp only at h <;> try (cases h; done)
 rename_i k i
 cases hb : inI i lim
 ·rw [hb] at h; cases h
 ·rw [hb, cond_true] at h
  injection h with h
  obtain ⟨h1, h2, h3⟩ := inI_spec hb
  cases hx
  refine ⟨?_, by omega⟩
  simp only [Instr.sliceBound, asIntOf, Sem.run_bind, Sem.run_pure, Result.andThen_ok, Sem.run_ite]
  rw [if_pos (by omega), h]
theorem bounds_run {lo hi mx : Option V} {lo' hi' mx' : Option Value} {isSlice : Bool} {len cap cap' l h m : Nat} (hlo : OpRel μ ν lo lo') (hhi : OpRel μ ν hi hi') (hmx : OpRel μ ν mx mx')
  (hb : boundsV lo hi mx len cap = some (l, h, m)) (hc : cap ≤ cap') :
  ∃ m', (Instr.sliceBounds isSlice len cap' lo' hi' mx').run P w = .ok (l, h, m') w ∧ l ≤ h ∧ m ≤ cap ∧ (m' = m ∨ (m' = cap' ∧ m = cap)) ∧ (h = len ∧ m = cap ∨ h ≤ m) := by
 unfold boundsV at hb
 cases hm : boundO mx cap cap with
 | none => rw [hm] at hb; cases hb
 | some m0 =>
   rw [hm] at hb
   simp only at hb
   cases hmx with
   | none =>
     have hm0 : m0 = cap := by injection hm with hm; exact hm.symm
     subst hm0
     cases hhi with
     | none =>
       simp only [boundO] at hb
       cases hlo with
       | none =>
         simp only at hb; injection hb with hb; injection hb with e1 e2; injection e2 with e2 e3; subst e1 e2 e3
         exact ⟨cap', by simp [Instr.sliceBounds], Nat.zero_le _, Nat.le_refl _, .inr ⟨rfl, rfl⟩, .inl ⟨rfl, rfl⟩⟩
       | some hx =>
         rename_i x r
         cases hl : boundO (some x) len 0 with
         | none => unfold boundO at hl; simp only [hl] at hb; cases hb
         | some l0 =>
           have hl' := hl; unfold boundO at hl'
           simp only [hl'] at hb; injection hb with hb; injection hb with e1 e2; injection e2 with e2 e3; subst e1 e2 e3
           obtain ⟨g1, g2⟩ := bound_some (P := P) (w := w) (code := .sliceB) hx hl (Nat.le_refl _)
           exact ⟨cap', by simp [Instr.sliceBounds, g1], g2, Nat.le_refl _, .inr ⟨rfl, rfl⟩, .inl ⟨rfl, rfl⟩⟩
     | some hy =>
       rename_i y q
       cases hh : boundO (some y) m0 len with
       | none => simp only [hh] at hb; cases hb
       | some h0 =>
         simp only [hh] at hb
         obtain ⟨g1, g2⟩ := bound_some (P := P) (w := w) (code := if isSlice then .sliceAcap else .sliceAlen) hy hh hc
         cases hlo with
         | none =>
           simp only [boundO] at hb; injection hb with hb; injection hb with e1 e2; injection e2 with e2 e3; subst e1 e2 e3
           exact ⟨cap', by simp [Instr.sliceBounds, g1], Nat.zero_le _, Nat.le_refl _, .inr ⟨rfl, rfl⟩, .inr g2⟩
         | some hx =>
           rename_i x r
           cases hl : boundO (some x) h0 0 with
           | none => simp only [hl] at hb; cases hb
           | some l0 =>
             simp only [hl] at hb; injection hb with hb; injection hb with e1 e2; injection e2 with e2 e3; subst e1 e2 e3
             obtain ⟨f1, f2⟩ := bound_some (P := P) (w := w) (code := .sliceB) hx hl (Nat.le_refl _)
             exact ⟨cap', by simp [Instr.sliceBounds, g1, f1], f2, Nat.le_refl _, .inr ⟨rfl, rfl⟩, .inr g2⟩
   | some hz =>
     rename_i z u
     obtain ⟨k1, k2⟩ := bound_some (P := P) (w := w) (code := if isSlice then .slice3Acap else .slice3Alen) hz hm hc
     cases hhi with
     | none => simp only at hb; cases hb
     | some hy =>
       rename_i y q
       cases hh : boundO (some y) m0 len with
       | none => simp only [hh] at hb; cases hb
       | some h0 =>
         simp only [hh] at hb
         obtain ⟨g1, g2⟩ := bound_some (P := P) (w := w) (code := .slice3B) hy hh (Nat.le_refl _)
         cases hlo with
         | none =>
           simp only [boundO] at hb; injection hb with hb; injection hb with e1 e2; injection e2 with e2 e3; subst e1 e2 e3
           exact ⟨_, by simp [Instr.sliceBounds, k1, g1], Nat.zero_le _, k2, .inl rfl, .inr g2⟩
         | some hx =>
           rename_i x r
           cases hl : boundO (some x) h0 0 with
           | none => simp only [hl] at hb; cases hb
           | some l0 =>
             simp only [hl] at hb; injection hb with hb; injection hb with e1 e2; injection e2 with e2 e3; subst e1 e2 e3
             obtain ⟨f1, f2⟩ := bound_some (P := P) (w := w) (code := .slice3C) hx hl (Nat.le_refl _)
             exact ⟨_, by simp [Instr.sliceBounds, k1, g1, f1], f2, k2, .inl rfl, .inr g2⟩
theorem extract_nats (b : ByteArray) (l h : Nat) : toNats (b.extract l h) = sub (toNats b) l (h - l) := by
 simp [toNats, sub, ByteArray.data_extract, List.map_drop, List.map_take]
theorem OpRel.isSome {o : Option V} {o' : Option Value} (h : OpRel μ ν o o') : o.isSome = o'.isSome := by cases h <;> rfl
theorem sim_slice {t : TypeId} {x v : V} {x' : Value} {lo hi mx : Option V} {lo' hi' mx' : Option Value} (hr : Rel P μ ν s.heap w.heap) (hx : VRel μ ν x x') (hlo : OpRel μ ν lo lo') (hhi : OpRel μ ν hi hi') (hmx : OpRel μ ν mx mx')
  (h : sliceM P t x lo hi mx s = .ok v s') : SimV P μ ν s s' w (Instr.sliceAt t x' lo' hi' mx') v := by
 unfold sliceM at h
 cases hd : P.underlying t with
 | none => simp only [hd] at h; exact (err_ok h).elim
 | some d =>
   have arr : ∀ {n : Nat} {e : TypeId} {b o l hh m sz : Nat} {p : Pl}, boundsV lo hi mx n n = some (l, hh, m) → μ b = some p → szT P e = some sz →
     ∃ m', (Instr.sliceBounds false n n lo' hi' mx').run P w = .ok (l, hh, m') w ∧
      VRel μ ν (.slice b (o + l * sz) (hh - l) (m - l)) (.slice (some (if m' = l then (⟨p.blk, p.off + o, none⟩ : Addr) else (⟨p.blk, p.off + o, none⟩ : Addr).add (l * sz))) (hh - l) (m' - l)) := by
    intro n e b o l hh m sz p hb hp hs
    obtain ⟨m', g1, g2, g3, g4, g5⟩ := bounds_run (P := P) (w := w) (isSlice := false) hlo hhi hmx hb (Nat.le_refl _)
    have hm : m' = m := by omega
    subst hm
    refine ⟨m', g1, .slice hp (by omega) ?_⟩
    by_cases hml : m' = l
    ·exact .inl ⟨by omega, by omega⟩
    ·rw [if_neg hml, add_none, Nat.add_assoc]
     exact .inr ⟨rfl, .inl rfl⟩
   cases d <;> simp only [hd] at h
   case string =>
    cases hx <;> simp only at h <;> try exact (err_ok h).elim
    rename_i b
    cases hm : mx.isSome
    ·rw [hm, cond_false] at h
     have hmn : mx = none := by cases mx <;> simp at hm ⊢
     subst hmn
     cases hmx
     cases hb : boundsV lo hi none (toNats b).length (toNats b).length with
     | none => simp only [hb] at h; exact (err_ok h).elim
     | some r =>
       obtain ⟨l, hh, m⟩ := r
       simp only [hb] at h
       obtain ⟨rfl, rfl⟩ := ret_ok h
       rw [toNats_length] at hb
       obtain ⟨m', g1, g2, g3, g4, g5⟩ := bounds_run (P := P) (w := w) (isSlice := false) hlo hhi .none hb (Nat.le_refl _)
       refine .quiet (r := .string (b.extract l hh)) hr ?_ (by rw [← extract_nats]; exact .str _) rfl rfl
       simp only [Instr.sliceAt, Sem.run_bind, run_underlying hd, Result.andThen_ok, Instr.slice, Option.isSome_none, Bool.false_eq_true, if_false, g1, Sem.run_pure, Sem.run_ite]
    ·rw [hm, cond_true] at h; exact (err_ok h).elim
   case slice e =>
    cases hx <;> simp only at h <;> try exact (err_ok h).elim
    case nilslice =>
     cases hb : boundsV lo hi mx 0 0 <;> cases hn : szT P e <;> simp only [hb, hn] at h <;> try exact (err_ok h).elim
     case some.some r n =>
      obtain ⟨l, hh, m⟩ := r
      obtain ⟨rfl, rfl⟩ := ret_ok h
      obtain ⟨m', g1, g2, g3, g4, g5⟩ := bounds_run (P := P) (w := w) (isSlice := true) hlo hhi hmx hb (Nat.le_refl _)
      have e1 : l = 0 := by omega
      have e2 : hh = 0 := by omega
      have e3 : m' = 0 := by omega
      subst e1; subst e2; subst e3
      refine .quiet (r := .slice none 0 0) hr ?_ .nilslice rfl rfl
      simp only [Instr.sliceAt, Sem.run_bind, run_underlying hd, Result.andThen_ok, Instr.slice, g1, run_sizeOf hn, Sem.run_pure]
      rfl
    case slice b o len cap cap' p a hp hl hs =>
     cases hb : boundsV lo hi mx len cap <;> cases hn : szT P e <;> simp only [hb, hn] at h <;> try exact (err_ok h).elim
     rename_i r n
     obtain ⟨l, hh, m⟩ := r
     simp only at h
     cases hle : Nat.ble hh cap
     ·rw [hle, cond_false] at h; exact (err_ok h).elim
     ·rw [hle, cond_true] at h
      rw [ble_iff] at hle
      obtain ⟨⟨ln, e', q⟩, s1, h1, h2⟩ := bnd_ok h
      obtain ⟨hg, rfl⟩ := blkS_ok h1
      simp only at hg
      simp only at h2
      cases hc : (!q || (szT P e' == some n))
      ·rw [hc, cond_false] at h2; exact (err_ok h2).elim
      ·rw [hc, cond_true] at h2
       obtain ⟨rfl, rfl⟩ := ret_ok h2
       have hopn : p.opn = true → q = true ∧ szT P e' = some p.esz := by
        rcases hg with ⟨c, hg, _⟩ | ⟨c, hg, _⟩
        ·obtain ⟨p', hp', hor⟩ := hr.ob b _ hg
         rw [hp] at hp'; cases hp'
         intro h1
         have hq : q = true := hor.1 ▸ h1
         exact ⟨hq, hor.2.1 hq⟩
        ·obtain ⟨p', hp', hor⟩ := hr.ob b _ hg
         rw [hp] at hp'; cases hp'
         intro h1
         rw [hor.1] at h1
         cases h1
       have hcap : cap ≤ cap' := by rcases hs with ⟨h0, h1⟩ | ⟨_, h1 | ⟨_, h1, _⟩⟩ <;> omega
       obtain ⟨m', g1, g2, g3, g4, g5⟩ := bounds_run (P := P) (w := w) (isSlice := true) hlo hhi hmx hb hcap
       have hhm : hh - l ≤ m - l := by omega
       refine .quiet (r := .slice (some (if m' = l then a else a.add (l * n))) (hh - l) (m' - l)) hr ?_ (.slice hp hhm ?_) rfl rfl
       ·simp only [Instr.sliceAt, Sem.run_bind, run_underlying hd, Result.andThen_ok, Instr.slice, g1, run_sizeOf hn, Sem.run_pure]
        split <;> rfl
       ·rcases hs with ⟨h0, h1⟩ | ⟨h0, h1⟩
        ·exact .inl ⟨by omega, by omega⟩
        ·subst h0
         by_cases hml : m' = l
         ·exact .inl ⟨by omega, by omega⟩
         ·rw [if_neg hml, add_none]
          refine .inr ⟨by rw [Nat.add_assoc], ?_⟩
          rcases g4 with g4 | ⟨g4, g4'⟩
          ·exact .inl (by omega)
          ·rcases h1 with h1 | ⟨h1, h2, h3⟩
           ·exact .inl (by omega)
           ·refine .inr ⟨h1, by omega, ?_⟩
            obtain ⟨hq, hz⟩ := hopn h1
            subst hq
            simp only [Bool.not_true, Bool.false_or, beq_iff_eq] at hc
            rw [hc] at hz; injection hz with hz
            subst g4
            rw [hz]
            rw [hz] at *
            have : l * p.esz + (m' - l) * p.esz ≤ m' * p.esz := by
             rw [← Nat.add_mul]; exact Nat.mul_le_mul_right _ (by omega)
            omega
   case array n e =>
    cases hx <;> simp only at h <;> try exact (err_ok h).elim
    rename_i b o p hp
    cases hb : boundsV lo hi mx n n <;> cases hn : szT P e <;> simp only [hb, hn] at h <;> try exact (err_ok h).elim
    rename_i r sz
    obtain ⟨l, hh, m⟩ := r
    obtain ⟨rfl, rfl⟩ := ret_ok h
    obtain ⟨m', g1, g2⟩ := arr (o := o) hb hp hn
    refine .quiet hr ?_ g2 rfl rfl
    simp only [Instr.sliceAt, Instr.sureAddr, Sem.run_bind, run_underlying hd, Result.andThen_ok, Sem.run_pure, g1, run_sizeOf hn]
   case pointer ar =>
    cases hx <;> simp only at h <;> try exact (err_ok h).elim
    rename_i b o p hp
    cases hda : P.underlying ar with
    | none => simp only [hda] at h; exact (err_ok h).elim
    | some da =>
      cases da <;> simp only [hda] at h <;> try exact (err_ok h).elim
      rename_i n e
      cases hb : boundsV lo hi mx n n <;> cases hn : szT P e <;> simp only [hb, hn] at h <;> try exact (err_ok h).elim
      rename_i r sz
      obtain ⟨l, hh, m⟩ := r
      obtain ⟨rfl, rfl⟩ := ret_ok h
      obtain ⟨m', g1, g2⟩ := arr (o := o) hb hp hn
      refine .quiet hr ?_ g2 rfl rfl
      simp only [Instr.sliceAt, Instr.slice, asAddr, Sem.run_bind, run_underlying hd, run_underlying hda, Result.andThen_ok, Sem.run_pure, g1, run_sizeOf hn]
   all_goals exact (err_ok h).elim
end
end Go.Lx
