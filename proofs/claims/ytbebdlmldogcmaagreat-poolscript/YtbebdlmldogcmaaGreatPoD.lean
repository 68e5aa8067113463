/-
  Several texts of one walk, joined.
-/
import Derived.Test.YtbebdlmldogcmaaGreatPoC
import Derived.Test.YtbebdlmldogcmaaGreatRows
import Derived.Test.YtbebdlmldogcmaaGreatLyR
import Derived.Test.YtbebdlmldogcmaaGreatLyU
import Derived.Test.YtbebdlmldogcmaaGreatLyG
set_option linter.unusedSimpArgs false
set_option linter.unusedVariables false
set_option linter.unusedSectionVars false
set_option linter.defProp false
set_option maxRecDepth 10000
set_option maxHeartbeats 1000000
namespace Go.Wx
open Go.Lx
noncomputable section
variable {c : Cfg} {Ok : Nat → Prop} {env : Env} {h : H} {K : V → H → Fp → Prop}
theorem append_srcA {s x : Operand} {t tx : TypeId} {e sz bytes n0 : Nat} {cells new : List V} {sv xv : V} (hsv : evalE env s = sv) (hxv : evalE env x = xv) (hap : apI c.P t = some (e, sz, bytes)) (htx : ∃ d, c.P.underlying tx = some d ∧ isIntD d = false) (ha : Acc n0 h sv cells e sz)
    (hx : Src h xv new sz) (hc : new.all V.isCell = true) (hroom : cells.length + new.length ≤ 1073741824) (hsz : 0 < sz)
    (hOk : ∀ k, n0 ≤ k → Ok k) (hn0 : n0 ≤ h.nx) (hK : ∀ v h' L, Acc n0 h' v (cells ++ new) e sz → h.nx ≤ h'.nx → (∀ k, k < n0 → h'.get k = h.get k) → K v h' (.lg L)) : opW c Ok (.call ⟨.builtin .append, #[s, x], #[t, tx]⟩) env h K := by
  have hform : sv = .nilslice ∨ ∃ b o n m, sv = .slice b o n m := by
    rcases ha with ⟨rfl, _⟩ | ⟨b, n, _, _, rfl, _⟩
    · exact .inl rfl
    · exact .inr ⟨_, _, _, _, rfl⟩
  rcases hx with ⟨rfl, rfl⟩ | ⟨b2, o2, n, m, rfl, hb2, hr, hl⟩
  · exact append_nilsrc hsv hform hap htx hxv (hK _ _ _ (by rw [List.append_nil]; exact ha) (Nat.le_refl _) (fun _ _ => rfl))
  · rcases Nat.eq_zero_or_pos n with rfl | hn
    · have hn0 : new = [] := List.eq_nil_of_length_eq_zero (by omega)
      subst hn0
      rw [Nat.zero_mul] at hr
      exact append_zero hsv hform hap htx hxv hr (hK _ _ _ (by rw [List.append_nil]; exact ha) (Nat.le_refl _) (fun _ _ => rfl))
    · exact append_accW hsv hap htx ha hxv hn hr hl hc hroom hsz hOk (fun v h' L h1 h2 h3 => hK v h' L h1 h2.1 (fun k hk => h2.2 k (by omega) fun o n m => ha.ne hk)) hn0
end
end Go.Wx
namespace Go.Proofs.YtbebdlmldogcmaaGreat
open Int (reduceLE reduceLT reduceToNat)
open Nat (reduceLeDiff reduceEqDiff reduceAdd)
open Go.Proofs Go.Lx Go.Wx Go.IntWalk
noncomputable section
theorem wtI_cases (cl : Int) : ∀ (l : List WT) (k : Nat), (wtI cl l k = -1 ∧ ∀ w ∈ l, w.cl ≠ cl) ∨ ∃ j w, wtI cl l k = ((k + j : Nat) : Int) ∧ l[j]? = some w ∧ w.cl = cl
  | [], k => .inl ⟨rfl, fun w hw => by cases hw⟩
  | w :: l, k => by
    rw [wtI]
    by_cases h : w.cl = cl
    · rw [if_pos h]
      exact .inr ⟨0, w, rfl, rfl, h⟩
    · rw [if_neg h]
      rcases wtI_cases cl l (k + 1) with ⟨h1, h2⟩ | ⟨j, x, h1, h2, h3⟩
      · refine .inl ⟨h1, fun y hy => ?_⟩
        rcases List.mem_cons.1 hy with rfl | hy
        · exact h
        · exact h2 y hy
      · exact .inr ⟨j + 1, x, by rw [h1]; congr 1; omega, h2, h3⟩
theorem wt_erase {cl : Int} : ∀ {l : List WT}, (l.map WT.cl).Nodup → ∀ {i : Nat} {c : WT}, l[i]? = some c → c.cl = cl → (l.filter fun x => decide (x.cl ≠ cl)) = l.eraseIdx i
  | [], _, i, c, h, _ => by simp at h
  | x :: l, hn, 0, c, h, hc => by
    have h : x = c := by simpa using h
    subst h
    rw [List.map_cons, List.nodup_cons] at hn
    rw [List.filter_cons, if_neg (by simp [hc]), List.eraseIdx_cons_zero]
    refine List.filter_eq_self.2 fun y hy => ?_
    have hne : ¬ y.cl = cl := fun e => hn.1 (by rw [hc, ← e]; exact List.mem_map_of_mem hy)
    simpa using hne
  | x :: l, hn, i + 1, c, h, hc => by
    rw [List.map_cons, List.nodup_cons] at hn
    have h : l[i]? = some c := by simpa using h
    have hm : c ∈ l := List.mem_of_getElem? h
    have hne : ¬ x.cl = cl := fun e => hn.1 (by rw [e, ← hc]; exact List.mem_map_of_mem hm)
    rw [List.filter_cons, if_pos (by simpa using hne), List.eraseIdx_cons_succ, wt_erase hn.2 h hc]
theorem WRow.src {h : H} {v : V} {ws : List WT} (hw : WRow h v ws) : Src h v (wtcells ws) 2 := hw.wts.src
section
variable {c : Cfg} {Ok : Nat → Prop} {env : Env} {h : H} {K : V → H → Fp → Prop}
theorem wslice_take {t : TypeId} {x hi : Operand} {i : Nat} {v : V} {ws : List WT} (hu : c.P.underlying t = some (.slice 70)) (hs : szT c.P 70 = some 2) (hx : evalE env x = v) (hhi : evalE env hi = .int .i64 (i : Nat)) (hw : WRow h v ws) (hil : i ≤ ws.length) (hK : ∀ v1 L, Src h v1 (wtcells (ws.take i)) 2 → K v1 h (.lg L)) : opW c Ok (.slice t x none (some hi) none) env h K := by
  rcases hw with ⟨rfl, rfl⟩ | ⟨b, o, cs, rfl, hb, hg, hl, hd⟩
  · obtain rfl : i = 0 := by simpa using hil
    refine slice_none hu hs hx (r := (0, 0, 0)) ?_ (hK _ _ (.inl ⟨rfl, by simp [wtcells]⟩))
    show boundsV none (some (evalE env hi)) none 0 0 = _
    rw [hhi]
    exact bounds_hi (Nat.le_refl _)
  · refine slice_row (l := 0) (hh := i) (mm := ws.length) hu hs hx (by rw [hg]; rfl) (fun _ => rfl) ?_ hil (hK _ _ (.inr ⟨b, _, _, _, rfl, hb, ?_, ?_⟩))
    · show boundsV none (some (evalE env hi)) none ws.length ws.length = _
      rw [hhi]
      exact bounds_hi hil
    · rw [hg, Nat.sub_zero, Nat.zero_mul, Nat.add_zero]
      unfold rdC
      have : o + i * 2 ≤ cs.length := by omega
      simp only [ble_iff.2 this, cond_true, sub]
      rw [hd, wtcells_take]
    · rw [wtcells_len, List.length_take, Nat.sub_zero]; omega
theorem wslice_drop {t : TypeId} {x lo : Operand} {i : Nat} {v : V} {ws : List WT} (hu : c.P.underlying t = some (.slice 70)) (hs : szT c.P 70 = some 2) (hx : evalE env x = v) (hlo : evalE env lo = .int .i64 (i : Nat)) (hw : WRow h v ws) (hil : i ≤ ws.length) (hK : ∀ v1 L, Src h v1 (wtcells (ws.drop i)) 2 → K v1 h (.lg L)) : opW c Ok (.slice t x (some lo) none none) env h K := by
  rcases hw with ⟨rfl, rfl⟩ | ⟨b, o, cs, rfl, hb, hg, hl, hd⟩
  · obtain rfl : i = 0 := by simpa using hil
    refine slice_none hu hs hx (r := (0, 0, 0)) ?_ (hK _ _ (.inl ⟨rfl, by simp [wtcells]⟩))
    show boundsV (some (evalE env lo)) none none 0 0 = _
    rw [hlo]
    exact bounds_lo (Nat.le_refl _) (Nat.le_refl _)
  · refine slice_row (l := i) (hh := ws.length) (mm := ws.length) hu hs hx (by rw [hg]; rfl) (fun _ => rfl) ?_ (Nat.le_refl _) (hK _ _ (.inr ⟨b, _, _, _, rfl, hb, ?_, ?_⟩))
    · show boundsV (some (evalE env lo)) none none ws.length ws.length = _
      rw [hlo]
      exact bounds_lo hil (Nat.le_refl _)
    · rw [hg]
      unfold rdC
      have : o + i * 2 + (ws.length - i) * 2 ≤ cs.length := by omega
      simp only [ble_iff.2 this, cond_true, sub]
      rw [← List.drop_drop, hd, wtcells_drop, List.take_of_length_le (by rw [wtcells_len, List.length_drop]; exact Nat.le_refl _)]
    · rw [wtcells_len, List.length_drop]
end
variable {S : Set0} (hS : StdP S)
include hS
theorem rpause_spec {T : Int} {D : RD} {p : PL} {h : H} (r : RR D p h) (K : Rk T p) (on : Prop) : callW S.cfg (rowns D) 42 [.ptr D.b 0, bo on] h (ROp D h (pauseF p on)) := by
  refine into Tryz.f42 _ Tryz.func42 (hS.ownP _ (by decide)) rfl rfl (by kernel_rfl) (by kernel_rfl) ?_
  have hp := r.pool
  unfold rcells at hp
  unfold pauseF
  simp +contextual (disch := first | simp only [fq]; done | omega | simp only [Knx]; omega) only [fV, reduceLE, reduceLT, reduceLeDiff, ↓reduceIte, reduceEqDiff, reduceAdd, reduceCtorEq, reduceToNat, Tryz.f42]
  refine callF_exact (rnone_spec hS r) ?_
  by_cases hc : p.closed
  · rw [if_pos hc]
    simp +contextual (disch := first | simp only [fq]; done | omega | simp only [Knx]; omega) only [fV, reduceLE, reduceLT, reduceLeDiff, ↓reduceIte, reduceEqDiff, reduceAdd, reduceCtorEq, reduceToNat, Tryz.f42, hp, hc]
    exact ROp.bad r 9
  · rw [if_neg hc]
    obtain ⟨n1, n2, n3, n4, n5, n6⟩ := r.ne
    simp +contextual (disch := first | simp only [fq]; done | omega | simp only [Knx]; omega) only [fV, reduceLE, reduceLT, reduceLeDiff, ↓reduceIte, reduceEqDiff, reduceAdd, reduceCtorEq, reduceToNat, Tryz.f42, hp, hc]
    refine ⟨.inr (.inr (.inl rfl)), ?_⟩
    have s1 := RStp.set (h4 := h) (D' := D) (p' := { p with paused := on }) r (Nat.le_refl _) (fun _ _ _ => rfl) rfl r.conns r.wts r.mvs r.few (fun k o n m q => by
      rcases q with q | q | q
      · exact ⟨n1 k o n m q, .inl (.inr (.inl ⟨o, n, m, q⟩))⟩
      · exact ⟨n2 k o n m q, .inl (.inr (.inr (.inl ⟨o, n, m, q⟩)))⟩
      · exact ⟨n3 k o n m q, .inl (.inr (.inr (.inr ⟨o, n, m, q⟩)))⟩)
    unfold rcells at s1
    simp only at s1
    have hcF : bo p.closed = bo False := bo_eq ⟨hc, False.elim⟩
    rw [hcF] at s1
    refine callF_of (rserve_spec hS (D := D) (p := { p with paused := on }) s1.rr ⟨K.nd, K.num, K.cl, K.dist, K.top, K.tt, K.pos, K.mvs, K.lim⟩) (fun k q => by rw [fresh_def]; exact (s1.own k q).elim .inr .inl) ?_
    rintro v h2 ⟨D2, s2⟩
    have s12 := s1.trans s2
    have eb := s2.b
    simp +contextual (disch := first | simp only [fq]; done | omega | simp only [Knx]; omega) only [fV, reduceLE, reduceLT, reduceLeDiff, ↓reduceIte, reduceEqDiff, reduceAdd, reduceCtorEq, reduceToNat, Tryz.f42]
    rw [← eb]
    refine rtold_end hS s12 (fun k q => by rw [fresh_def]; exact (s12.own k q).elim .inr .inl) ?_
    rintro h3 mv hR
    simp +contextual (disch := first | simp only [fq]; done | omega | simp only [Knx]; omega) only [fV, reduceLE, reduceLT, reduceLeDiff, ↓reduceIte, reduceEqDiff, reduceAdd, reduceCtorEq, reduceToNat, Tryz.f42]
    have e : p.closed = False := eq_false hc
    rw [e] at hR
    exact hR
theorem rleave_spec {T : Int} {D : RD} {p : PL} {h : H} (r : RR D p h) (hm : p.moves = []) (K : Rk T p) (hw : p.wts.length ≤ 256) (cl : Int) : callW S.cfg (rowns D) 40 [.ptr D.b 0, .int .i64 cl] h (ROp D h (leaveF p cl)) := by
  refine into Tryz.f40 _ Tryz.func40 (hS.ownP _ (by decide)) rfl rfl (by kernel_rfl) (by kernel_rfl) ?_
  have hp := r.pool
  unfold rcells at hp
  unfold leaveF
  have hb1 := r.lt
  simp +contextual (disch := first | simp only [fq]; done | omega | simp only [Knx]; omega) only [fV, reduceLE, reduceLT, reduceLeDiff, ↓reduceIte, reduceEqDiff, reduceAdd, reduceCtorEq, reduceToNat, Tryz.f40]
  refine callF_exact (rnone_spec hS r) ?_
  simp +contextual (disch := first | simp only [fq]; done | omega | simp only [Knx]; omega) only [fV, reduceLE, reduceLT, reduceLeDiff, ↓reduceIte, reduceEqDiff, reduceAdd, reduceCtorEq, reduceToNat, Tryz.f40]
  refine callF_exact (rwaits_spec hS r (by omega) cl) ?_
  rcases wtI_cases cl p.wts 0 with ⟨h1, h2⟩ | ⟨j, w, h1, h2, h3⟩
  · rw [h1, if_pos (fun ⟨w, hw, e⟩ => h2 w hw e)]
    simp +contextual (disch := first | simp only [fq]; done | omega | simp only [Knx]; omega) only [fV, reduceLE, reduceLT, reduceLeDiff, ↓reduceIte, reduceEqDiff, reduceAdd, reduceCtorEq, reduceToNat, Tryz.f40, Int.reduceLT]
    exact ROp.bad r 281
  · rw [Nat.zero_add] at h1
    rw [h1, if_neg (fun q => q ⟨w, List.mem_of_getElem? h2, h3⟩)]
    have hjl : j < p.wts.length := by
      rcases Nat.lt_or_ge j p.wts.length with q | q
      · exact q
      · rw [List.getElem?_eq_none q] at h2; cases h2
    have hj0 : ¬ (j : Int) < 0 := by omega
    simp +contextual (disch := first | simp only [fq]; done | omega | simp only [Knx]; omega) only [fV, reduceLE, reduceLT, reduceLeDiff, ↓reduceIte, reduceEqDiff, reduceAdd, reduceCtorEq, reduceToNat, Tryz.f40, hj0, hp]
    refine wslice_take (i := j) (v := D.wv) (ws := p.wts) (by kernel_rfl) (by kernel_rfl) rfl rfl r.wts (by omega) ?_
    intro v1 L1 hs1
    have hwl := wtcells_len p.wts
    simp +contextual (disch := first | simp only [fq]; done | omega | simp only [Knx]; omega) only [fV, reduceLE, reduceLT, reduceLeDiff, ↓reduceIte, reduceEqDiff, reduceAdd, reduceCtorEq, reduceToNat, Tryz.f40]
    refine append_srcA (n0 := h.nx) (sv := .nilslice) (xv := v1) (cells := []) (new := wtcells (p.wts.take j)) rfl rfl ap44 ⟨.slice 70, by kernel_rfl, rfl⟩ (.inl ⟨rfl, rfl⟩) hs1 (wtcells_isCell _) (by rw [wtcells_len, List.length_take]; simp only [List.length_nil]; omega) (by decide) (fun k hk => by rw [fresh_def]; exact .inl hk) (Nat.le_refl _) ?_
    intro v2 h2' L2 hl2 hn2 hf2
    have hp2 := (hf2 _ hb1).trans hp
    have hx2 : Ext h h2' := ⟨hn2, hf2⟩
    have hwi : IntKind.i64.wrap ((j : Int) + 1) = ((j + 1 : Nat) : Int) := by rw [i64_in _ (by omega)]; omega
    simp +contextual (disch := first | simp only [fq]; done | omega | simp only [Knx]; omega) only [fV, reduceLE, reduceLT, reduceLeDiff, ↓reduceIte, reduceEqDiff, reduceAdd, reduceCtorEq, reduceToNat, Tryz.f40, hp2, hwi]
    refine wslice_drop (i := j + 1) (v := D.wv) (ws := p.wts) (by kernel_rfl) (by kernel_rfl) rfl rfl (r.wts.keep hx2.1 fun k o n m q => hx2.2 k (r.wts.lt q).1) (by omega) ?_
    intro v3 L3 hs3
    simp +contextual (disch := first | simp only [fq]; done | omega | simp only [Knx]; omega) only [fV, reduceLE, reduceLT, reduceLeDiff, ↓reduceIte, reduceEqDiff, reduceAdd, reduceCtorEq, reduceToNat, Tryz.f40]
    refine append_srcA (n0 := h.nx) (sv := v2) (xv := v3) (cells := [] ++ wtcells (p.wts.take j)) (new := wtcells (p.wts.drop (j + 1))) rfl rfl ap44 ⟨.slice 70, by kernel_rfl, rfl⟩ hl2 hs3 (wtcells_isCell _) (by rw [List.nil_append, wtcells_len, wtcells_len, List.length_take, List.length_drop]; omega) (by decide) (fun k hk => by rw [fresh_def]; exact .inl hk) hn2 ?_
    intro v4 h4 L4 hl4 hn4 hf4
    have hx4 : Ext h h4 := ⟨by omega, fun k hk => hf4 k hk ▸ hf2 k hk⟩
    have hp4 := (hx4.2 _ hb1).trans hp
    obtain ⟨c1, c2⟩ := hl4.cell
    simp +contextual (disch := first | simp only [fq]; done | omega | simp only [Knx]; omega) only [fV, reduceLE, reduceLT, reduceLeDiff, ↓reduceIte, reduceEqDiff, reduceAdd, reduceCtorEq, reduceToNat, Tryz.f40, hp4, c1, c2]
    have e : ([] ++ wtcells (p.wts.take j)) ++ wtcells (p.wts.drop (j + 1)) = wtcells (p.wts.filter fun w => decide (w.cl ≠ cl)) := by
      rw [List.nil_append, ← wtcells_app, wt_erase K.dist h2 h3, List.eraseIdx_eq_take_drop_succ]
    rw [e] at hl4
    obtain ⟨n1, n2, n3, n4, n5, n6⟩ := r.ne
    refine ⟨.inr (.inr (.inl rfl)), { D with wv := v4 }, .nilslice, rfl, ?_, ?_, fun k o n m q => (by cases q)⟩
    · exact RStp.set (h4 := h4) (D' := { D with wv := v4 }) (p' := { p with wts := p.wts.filter (fun w => decide (w.cl ≠ cl)), moves := [] }) r hx4.1 (fun k hk _ => hx4.2 k hk) rfl (Lst.ext r.conns hx4) (WRow.of_lst hl4) (by have := r.mvs.ext hx4; rw [hm] at this; exact this) r.few (fun k o n m q => by
        rcases q with q | q | q
        · exact ⟨n1 k o n m q, .inl (.inr (.inl ⟨o, n, m, q⟩))⟩
        · have := (hl4.blk q).1
          exact ⟨by omega, .inr this⟩
        · exact ⟨n3 k o n m q, .inl (.inr (.inr (.inr ⟨o, n, m, q⟩)))⟩)
    · show Lst 0 _ .nilslice (mcells p.moves) 63 3
      rw [hm]
      exact .inl (.inl ⟨rfl, rfl⟩)
theorem rconns_spec {D : RD} {p : PL} {h : H} (r : RR D p h) : Pure S.cfg 12 [.ptr D.b 0] h fun v h' => Lst h.nx h' v (pccells p.conns) 65 4 := by
  refine into Tryz.f12 _ Tryz.func12 (hS.ownP _ (by decide)) rfl rfl (by kernel_rfl) (by kernel_rfl) ?_
  have hp := r.pool
  unfold rcells at hp
  simp +contextual (disch := first | simp only [fq]; done | omega | simp only [Knx]; omega) only [fV, reduceLE, reduceLT, reduceLeDiff, ↓reduceIte, reduceEqDiff, reduceAdd, reduceCtorEq, reduceToNat, Tryz.f12]
  refine callF_exact (rnone_spec hS r) ?_
  have hpl := pccells_len p.conns
  have hf := r.few
  simp +contextual (disch := first | simp only [fq]; done | omega | simp only [Knx]; omega) only [fV, reduceLE, reduceLT, reduceLeDiff, ↓reduceIte, reduceEqDiff, reduceAdd, reduceCtorEq, reduceToNat, Tryz.f12, hp]
  have hsrc : Src h D.cv (pccells p.conns) 4 := by
    rcases r.conns with (⟨h0, h1⟩ | ⟨b, n, _, hb, h3, _, h5, h6⟩) | ⟨h1, b, _, hb, h3, h5⟩
    · exact .inl ⟨h0, h1⟩
    · exact .inr ⟨b, 0, n, n, h3, hb, by rw [h5]; exact rdC_all h6, h6⟩
    · exact .inr ⟨b, 0, 0, 0, h3, hb, by rw [h5, h1]; rfl, by rw [h1]; rfl⟩
  refine append_lst (n0 := h.nx) (sv := .nilslice) (xv := D.cv) (cells := []) (new := pccells p.conns) rfl rfl ap41 ⟨.slice 65, by kernel_rfl, rfl⟩ (.inl (.inl ⟨rfl, rfl⟩)) hsrc (pccells_isCell _) (by simp only [List.length_nil]; omega) (by decide) (fun k hk => by rw [fresh_def]; exact .inl hk) (Nat.le_refl _) ?_
  intro v2 h2 L2 hl2 hn2 hk2 hf2 hL2
  simp +contextual (disch := first | simp only [fq]; done | omega | simp only [Knx]; omega) only [fV, reduceLE, reduceLT, reduceLeDiff, ↓reduceIte, reduceEqDiff, reduceAdd, reduceCtorEq, reduceToNat, Tryz.f12]
  exact ⟨⟨hn2, hf2⟩, hl2⟩
theorem rwaiters_spec {D : RD} {p : PL} {h : H} (r : RR D p h) (hw : p.wts.length ≤ 1000) : Pure S.cfg 15 [.ptr D.b 0] h fun v h' => Lst h.nx h' v (wtcells p.wts) 70 2 := by
  refine into Tryz.f15 _ Tryz.func15 (hS.ownP _ (by decide)) rfl rfl (by kernel_rfl) (by kernel_rfl) ?_
  have hp := r.pool
  unfold rcells at hp
  simp +contextual (disch := first | simp only [fq]; done | omega | simp only [Knx]; omega) only [fV, reduceLE, reduceLT, reduceLeDiff, ↓reduceIte, reduceEqDiff, reduceAdd, reduceCtorEq, reduceToNat, Tryz.f15]
  refine callF_exact (rnone_spec hS r) ?_
  have hpl := wtcells_len p.wts
  simp +contextual (disch := first | simp only [fq]; done | omega | simp only [Knx]; omega) only [fV, reduceLE, reduceLT, reduceLeDiff, ↓reduceIte, reduceEqDiff, reduceAdd, reduceCtorEq, reduceToNat, Tryz.f15, hp]
  refine append_lst (n0 := h.nx) (sv := .nilslice) (xv := D.wv) (cells := []) (new := wtcells p.wts) rfl rfl ap44 ⟨.slice 70, by kernel_rfl, rfl⟩ (.inl (.inl ⟨rfl, rfl⟩)) r.wts.src (wtcells_isCell _) (by simp only [List.length_nil]; omega) (by decide) (fun k hk => by rw [fresh_def]; exact .inl hk) (Nat.le_refl _) ?_
  intro v2 h2 L2 hl2 hn2 hk2 hf2 hL2
  simp +contextual (disch := first | simp only [fq]; done | omega | simp only [Knx]; omega) only [fV, reduceLE, reduceLT, reduceLeDiff, ↓reduceIte, reduceEqDiff, reduceAdd, reduceCtorEq, reduceToNat, Tryz.f15]
  exact ⟨⟨hn2, hf2⟩, hl2⟩
end
noncomputable section
section
variable {c : Cfg} {Ok : Nat → Prop} {env : Env} {h : H} {K : V → H → Fp → Prop}
theorem wappend {s x : Operand} {t tx : TypeId} {bytes b2 : Nat} {v : V} {w : WT} {ws : List WT} (hsv : evalE env s = v) (hw : WRow h v ws) (hap : apI c.P t = some (70, 2, bytes)) (htx : ∃ d, c.P.underlying tx = some d ∧ isIntD d = false) (hx : evalE env x = .slice b2 0 1 1) (hg2 : h.get b2 = some (.cells w.cells 70 false)) (hroom : ws.length ≤ 1000) (hOk : ∀ k, (∃ o n m, v = .slice k o n m) → h.nx ≤ k ∨ Ok k)
    (hK : ∀ v' h' L, WRow h' v' (ws ++ [w]) → (∀ k o n m, v' = .slice k o n m → h.nx ≤ k) → h.nx ≤ h'.nx → (∀ k, k < h.nx → (∀ o n m, v ≠ .slice k o n m) → h'.get k = h.get k) → K v' h' (.lg L)) : opW c Ok (.call ⟨.builtin .append, #[s, x], #[t, tx]⟩) env h K := by
  have hr2 : rdC (h.get b2) 0 (1 * 2) = some w.cells := by rw [hg2]; exact rdC_all rfl
  rcases hw with ⟨rfl, rfl⟩ | ⟨b, o, cs, rfl, hb, hg, hl, hd⟩
  · refine append_fresh (n0 := 0) (sv := .nilslice) (cells := []) (new := w.cells) hsv hx hap htx (.inl (.inl ⟨rfl, rfl⟩)) (by decide) hr2 rfl rfl (by show 0 + 2 ≤ _; omega) (by decide) (fun k ⟨_, _, _, q⟩ => by cases q) (Nat.zero_le _) ?_
    intro v' h' L ha hn hk hL
    refine hK v' h' L (WRow.of_lst (n0 := h.nx) (by simpa [wtcells] using ha)) (fun k o n m q => (ha.blk q).1) hn (fun k hk' _ => hk k hk' fun o n m q => by cases q)
  · have hold : rdC (h.get b) o (ws.length * 2) = some (wtcells ws) := by
      rw [hg]
      unfold rdC
      simp only [ble_iff.2 (show o + ws.length * 2 ≤ cs.length by omega), cond_true, sub]
      rw [hd, List.take_of_length_le (by rw [wtcells_len]; exact Nat.le_refl _)]
    refine append_off (old := wtcells ws) (new := w.cells) hsv hg hold hap htx hx (by decide) hr2 rfl (by omega) (hOk b ⟨_, _, _, rfl⟩) ?_
    intro L hL
    refine hK _ _ L (.inr ⟨h.nx, 0, wtcells ws ++ w.cells, by simp, ?_, ?_, ?_, ?_⟩) (fun k o' n m q => by cases q; exact Nat.le_refl _) (Nat.le_succ _) (fun k hk hne => ?_)
    · exact Nat.lt_succ_self _
    · exact push_eq rfl
    · rw [List.length_append, List.length_append, wtcells_len]
      show 0 + (ws.length + 1) * 2 = ws.length * 2 + 2
      omega
    · rw [List.drop_zero, wtcells_snoc]
    · rw [push_ne (by show ¬ k = h.nx; omega), del_ne (fun e => hne _ _ _ (by rw [e]))]
end
def AcI (D : RD) (cl : Int) (l : List PC) (h0 : H) (m : Nat) (env : Env) (h' : H) : Prop :=
  ∃ (i : Nat), m = l.length - i ∧ i ≤ l.length ∧ env 0 = .ptr D.b 0 ∧ env 1 = .int .i64 cl ∧ env 6 = .int .i64 i ∧ h' = h0 ∧ ∀ a (ha : a < l.length), a < i → ¬ (l[a].cl = cl ∧ (l[a].st = 1 ∨ l[a].st = 2))
theorem waits_wtI {p : PL} {cl : Int} : waitsL p cl ↔ 0 ≤ wtI cl p.wts 0 := by
  rcases wtI_cases cl p.wts 0 with ⟨h1, h2⟩ | ⟨j, w, h1, h2, h3⟩
  · rw [h1]
    exact ⟨fun ⟨w, hw, e⟩ => absurd e (h2 w hw), fun q => absurd q (by decide)⟩
  · rw [h1]
    exact ⟨fun _ => by omega, fun _ => ⟨w, List.mem_of_getElem? h2, h3⟩⟩
variable {S : Set0} (hS : StdP S)
include hS
theorem racquire_spec {T : Int} {D : RD} {p : PL} {h : H} (r : RR D p h) (hm : p.moves = []) (K : Rk T p) (hT : T + 1 ≤ 1099511627776) (hw : p.wts.length ≤ 256) (cl : Int) (hnw : 0 ≤ p.now + p.wait ∧ p.now + p.wait < 4611686018427387904) : callW S.cfg (rowns D) 35 [.ptr D.b 0, .int .i64 cl] h (ROp D h (acquireF p cl)) := by
  refine into Tryz.f35 _ Tryz.func35 (hS.ownP _ (by decide)) rfl rfl (by kernel_rfl) (by kernel_rfl) ?_
  have hp := r.pool
  unfold rcells at hp
  have hlc := pc_len r.conns
  have hlw := r.wts.wts.len
  have hf := r.few
  unfold acquireF
  obtain ⟨q6, hq6⟩ : ∃ q6, q6 = serveF { p with wts := p.wts ++ [⟨cl, p.now + p.wait⟩] } := ⟨_, rfl⟩
  rw [← hq6]
  simp +contextual (disch := first | simp only [fq]; done | omega | simp only [Knx]; omega) only [fV, reduceLE, reduceLT, reduceLeDiff, ↓reduceIte, reduceEqDiff, reduceAdd, reduceCtorEq, reduceToNat, Tryz.f35]
  refine callF_exact (rnone_spec hS r) ?_
  simp +contextual (disch := first | simp only [fq]; done | omega | simp only [Knx]; omega) only [fV, reduceLE, reduceLT, reduceLeDiff, ↓reduceIte, reduceEqDiff, reduceAdd, reduceCtorEq, reduceToNat, Tryz.f35]
  by_cases hb : ¬ (1 ≤ cl ∧ cl ≤ 1073741824)
  · rw [if_pos hb]
    have hb' : (cl < 1 ∨ 1073741824 < cl) = True := eq_true (by omega)
    simp +contextual (disch := first | simp only [fq]; done | omega | simp only [Knx]; omega) only [fV, reduceLE, reduceLT, reduceLeDiff, ↓reduceIte, reduceEqDiff, reduceAdd, reduceCtorEq, reduceToNat, Tryz.f35, hb']
    exact ROp.bad r 2
  rw [if_neg hb]
  rw [Classical.not_not] at hb
  have hb1 : ¬ cl < 1 := by omega
  have hb2 : ¬ 1073741824 < cl := by omega
  by_cases hcl : p.closed
  · rw [if_pos hcl]
    simp +contextual (disch := first | simp only [fq]; done | omega | simp only [Knx]; omega) only [fV, reduceLE, reduceLT, reduceLeDiff, ↓reduceIte, reduceEqDiff, reduceAdd, reduceCtorEq, reduceToNat, Tryz.f35, hb1, hb2, hp, hcl]
    exact ROp.bad r 9
  rw [if_neg hcl]
  simp +contextual (disch := first | simp only [fq]; done | omega | simp only [Knx]; omega) only [fV, reduceLE, reduceLT, reduceLeDiff, ↓reduceIte, reduceEqDiff, reduceAdd, reduceCtorEq, reduceToNat, Tryz.f35, hb1, hb2, hp, hcl]
  refine run_loop_cut (fun env' h' => env' 0 = .ptr D.b 0 ∧ env' 1 = .int .i64 cl ∧ h' = h ∧ ¬ hasL p cl) ?_ ?_
  · refine run_loop (AcI D cl p.conns h) p.conns.length ⟨0, (Nat.sub_zero _).symm, Nat.zero_le _, rfl, rfl, rfl, rfl, fun a ha q => absurd q (Nat.not_lt_zero _)⟩ ?_
    rintro m env h1 ⟨i, rfl, hi, e0, e1, e6, rfl, hall⟩
    by_cases hlt : i < p.conns.length
    · obtain ⟨cb, hcv, _, hcb, hcg⟩ := pc_row r.conns (by omega)
      obtain ⟨y0, y1, y2, y3⟩ := four_at (pccells_at hlt)
      rw [hcv] at hp hlc
      have hwi : IntKind.i64.wrap ((i : Int) + 1) = ((i + 1 : Nat) : Int) := by rw [i64_in _ (by omega)]; omega
      by_cases hhc : p.conns[i].cl = cl ∧ (p.conns[i].st = 1 ∨ p.conns[i].st = 2)
      · have hhas : hasL p cl ∨ waitsL p cl := .inl ⟨_, List.getElem_mem hlt, hhc⟩
        rw [if_pos hhas]
        have hst : (p.conns[i].st = 1 ∨ p.conns[i].st = 2) = True := eq_true hhc.2
        simp +contextual (disch := first | simp only [fq]; done | omega | simp only [Knx]; omega) only [fV, reduceLE, reduceLT, reduceLeDiff, ↓reduceIte, reduceEqDiff, reduceAdd, reduceCtorEq, reduceToNat, Tryz.f35, e0, e1, e6, hp, hlc, hlt, hcg, y1, y2, hhc.1, hst]
        exact ROp.bad r 280
      · have hhc' : (p.conns[i].cl = cl ∧ (p.conns[i].st = 1 ∨ p.conns[i].st = 2)) = False := eq_false hhc
        simp +contextual (disch := first | simp only [fq]; done | omega | simp only [Knx]; omega) only [fV, reduceLE, reduceLT, reduceLeDiff, ↓reduceIte, reduceEqDiff, reduceAdd, reduceCtorEq, reduceToNat, Tryz.f35, e0, e1, e6, hp, hlc, hlt, hcg, y1, y2, hhc']
        refine ⟨p.conns.length - (i + 1), by omega, i + 1, rfl, hlt, e0, e1, by simp +contextual (disch := first | simp only [fq]; done | omega | simp only [Knx]; omega) only [fV, reduceLE, reduceLT, reduceLeDiff, ↓reduceIte, reduceEqDiff, reduceAdd, reduceCtorEq, reduceToNat, hwi], rfl, fun a ha q => ?_⟩
        by_cases e : a = i
        · subst e; exact hhc
        · exact hall a ha (by omega)
    · simp +contextual (disch := first | simp only [fq]; done | omega | simp only [Knx]; omega) only [fV, reduceLE, reduceLT, reduceLeDiff, ↓reduceIte, reduceEqDiff, reduceAdd, reduceCtorEq, reduceToNat, Tryz.f35, e0, e1, e6, hp, hlc, hlt]
      rintro ⟨c, hc, q⟩
      obtain ⟨a, ha, rfl⟩ := List.mem_iff_getElem.1 hc
      exact hall a ha (by omega) q
  rintro env1 h1 ⟨e0, e1, rfl, hnh⟩
  simp +contextual (disch := first | simp only [fq]; done | omega | simp only [Knx]; omega) only [fV, reduceLE, reduceLT, reduceLeDiff, ↓reduceIte, reduceEqDiff, reduceAdd, reduceCtorEq, reduceToNat, Tryz.f35, e0, e1]
  refine callF_exact (rwaits_spec hS r (by omega) cl) ?_
  by_cases hwt : waitsL p cl
  · rw [if_pos (.inr hwt)]
    have hge := waits_wtI.1 hwt
    simp +contextual (disch := first | simp only [fq]; done | omega | simp only [Knx]; omega) only [fV, reduceLE, reduceLT, reduceLeDiff, ↓reduceIte, reduceEqDiff, reduceAdd, reduceCtorEq, reduceToNat, Tryz.f35, e0, e1, hge]
    exact ROp.bad r 280
  have hno : ¬ (hasL p cl ∨ waitsL p cl) := fun q => q.elim hnh hwt
  rw [if_neg hno]
  have hge : ¬ 0 ≤ wtI cl p.wts 0 := fun q => hwt (waits_wtI.2 q)
  by_cases hfl : 256 ≤ p.wts.length
  · rw [if_pos hfl]
    simp +contextual (disch := first | simp only [fq]; done | omega | simp only [Knx]; omega) only [fV, reduceLE, reduceLT, reduceLeDiff, ↓reduceIte, reduceEqDiff, reduceAdd, reduceCtorEq, reduceToNat, Tryz.f35, e0, e1, hge, hp, hlw, hfl]
    exact ROp.bad r 283
  rw [if_neg hfl]
  simp +contextual (disch := first | simp only [fq]; done | omega | simp only [Knx]; omega) only [fV, reduceLE, reduceLT, reduceLeDiff, ↓reduceIte, reduceEqDiff, reduceAdd, reduceCtorEq, reduceToNat, Tryz.f35, e0, e1, hge, hp, hlw, hfl]
  refine draw_by [(4, 17)] (by kernel_rfl) ?_
  have hwr : IntKind.i64.wrap (p.now + p.wait) = p.now + p.wait := i64_in _ (by omega)
  simp +contextual (disch := first | simp only [fq]; done | omega | simp only [Knx]; omega) only [wpyr, fW, reduceLE, reduceLT, reduceLeDiff, ↓reduceIte, reduceEqDiff, reduceAdd, reduceCtorEq, reduceToNat, Tryz.f35, e0, e1, hp, hwr]
  have hlt1 := r.lt
  obtain ⟨hA, hhA⟩ : ∃ hA, hA = h1.push (Ob.cells [V.int IntKind.i64 cl, V.int IntKind.i64 (p.now + p.wait)] 70 false) := ⟨_, rfl⟩
  rw [← hhA]
  have hxA : Ext h1 hA := by rw [hhA]; exact (Ext.refl h1).push _
  have hgA : hA.get h1.nx = some (Ob.cells [V.int IntKind.i64 cl, V.int IntKind.i64 (p.now + p.wait)] 70 false) := by rw [hhA]; exact push_eq rfl
  have hnA : hA.nx = h1.nx + 1 := by rw [hhA]; rfl
  clear hhA
  obtain ⟨n1, n2, n3, n4, n5, n6⟩ := r.ne
  refine wappend (v := D.wv) (w := ⟨cl, p.now + p.wait⟩) (ws := p.wts) (b2 := h1.nx) rfl (r.wts.keep hxA.1 fun k o n m q => hxA.2 k (r.wts.lt q).1) ap44 ⟨.slice 70, by kernel_rfl, rfl⟩ rfl hgA (by omega) (fun k ⟨o, n, m, q⟩ => .inr (by rw [fresh_def]; exact .inr (.inr (.inr (.inl ⟨o, n, m, q⟩))))) ?_
  intro v4 h4 L4 hw4 hv4 hn4 hk4
  have hold : ∀ k, k < h1.nx → (∀ o n m, D.wv ≠ .slice k o n m) → h4.get k = h1.get k := fun k hk q => by rw [hk4 k (by omega) q, hxA.2 k hk]
  have hp4 : h4.get D.b = _ := (hold D.b hlt1 fun o n m q => n2 _ _ _ _ q rfl).trans hp
  obtain ⟨c2, c1⟩ := hw4.wts.cell
  simp +contextual (disch := first | simp only [fq]; done | omega | simp only [Knx]; omega) only [wpyr, fW, reduceLE, reduceLT, reduceLeDiff, ↓reduceIte, reduceEqDiff, reduceAdd, reduceCtorEq, reduceToNat, Tryz.f35, e0, e1, hp4, c1, c2]
  have s5 := RStp.set (h4 := h4) (D' := { D with wv := v4 }) (p' := { p with wts := p.wts ++ [⟨cl, p.now + p.wait⟩] }) r (by omega) (fun k hk ho => hold k hk fun o n m q => ho (.inr (.inr (.inl ⟨o, n, m, q⟩)))) rfl (Lst.keep r.conns (by omega) fun k o n m q => hold k (Lst.lt r.conns q) fun o' n' m' q' => n4 k _ _ _ _ _ _ q q') hw4 (Lst.keep r.mvs (by omega) fun k o n m q => hold k (Lst.lt r.mvs q) fun o' n' m' q' => n6 k _ _ _ _ _ _ q' q) hf (fun k o n m q => by
    rcases q with q | q | q
    · exact ⟨n1 k o n m q, .inl (.inr (.inl ⟨o, n, m, q⟩))⟩
    · have := hv4 k o n m q
      exact ⟨by omega, .inr (by omega)⟩
    · exact ⟨n3 k o n m q, .inl (.inr (.inr (.inr ⟨o, n, m, q⟩)))⟩)
  have hne0 : cl ≠ 0 := by omega
  have K5 : Rk (T + 1) { p with wts := p.wts ++ [⟨cl, p.now + p.wait⟩] } := by
    refine ⟨K.nd, K.num, fun w hw => ?_, ?_, ?_, hT, K.pos, ?_, K.lim⟩
    · rcases List.mem_append.1 hw with hw | hw
      · exact K.cl w hw
      · rw [List.mem_singleton.1 hw]; exact hne0
    · show ((p.wts ++ [_]).map WT.cl).Nodup
      rw [List.map_append, List.nodup_append]
      refine ⟨K.dist, by simp, fun a ha b hb e => ?_⟩
      obtain ⟨x, hx, rfl⟩ := List.mem_map.1 ha
      have hb : b = cl := by simpa using hb
      exact hwt ⟨x, hx, by rw [e, hb]⟩
    · have := K.top
      show p.last + ((p.wts ++ [_]).length : Int) ≤ T + 1
      rw [List.length_append]; simp only [List.length_cons, List.length_nil]; omega
    · show p.moves.length + (p.wts ++ [_]).length ≤ _
      rw [hm, List.length_append]; simp only [List.length_cons, List.length_nil]; omega
  have hown : ∀ {D2 : RD} {p2 : PL} {h2 : H}, RStp D h1 D2 p2 h2 → ∀ k, rowns D2 k → fresh h1.nx (rowns D) k := fun s k q => by rw [fresh_def]; exact (s.own k q).elim .inr .inl
  refine ⟨.inr (.inr (.inl rfl)), fun p hp => ?_, ?_⟩
  · have hp : p = (4, 17) := by simpa using hp
    subst hp
    exact pair_one rfl rfl (apart_blk fun x hx y hy => by
      rw [List.mem_singleton.1 (show x ∈ [_] from hx), List.mem_singleton.1 hy]
      show ¬ D.b = h1.nx
      omega)
  refine callF_of (rserve_spec hS (D := { D with wv := v4 }) (p := { p with wts := p.wts ++ [⟨cl, p.now + p.wait⟩] }) s5.rr K5) (hown s5) ?_
  rintro v h6 ⟨D6, s6⟩
  have s56 := s5.trans s6
  have eb6 := s6.b
  have K6 := K5.serve
  have sv := Sv.serve { p with wts := p.wts ++ [⟨cl, p.now + p.wait⟩] }
  obtain ⟨m6, hm6⟩ := sv.wts
  rw [← hq6] at s56 K6 hm6
  have hwl6 : q6.wts.length ≤ 1000 := by
    rw [hm6, List.length_drop]
    show (p.wts ++ [_]).length - m6 ≤ 1000
    rw [List.length_append]; simp only [List.length_cons, List.length_nil]; omega
  rw [← show D6.b = D.b from eb6] at e0
  simp +contextual (disch := first | simp only [fq]; done | omega | simp only [Knx]; omega) only [fV, reduceLE, reduceLT, reduceLeDiff, ↓reduceIte, reduceEqDiff, reduceAdd, reduceCtorEq, reduceToNat, Tryz.f35, e0, e1]
  refine callF_exact (rwaits_spec hS s56.rr hwl6 cl) ?_
  by_cases hw7 : waitsL q6 cl
  · rw [if_pos hw7]
    have hg7 := waits_wtI.1 hw7
    simp +contextual (disch := first | simp only [fq]; done | omega | simp only [Knx]; omega) only [fV, reduceLE, reduceLT, reduceLeDiff, ↓reduceIte, reduceEqDiff, reduceAdd, reduceCtorEq, reduceToNat, Tryz.f35, e0, e1, hg7]
    refine callF_of (rmove_spec hS s56.rr 3 0 cl (by have := K6.mvs; omega)) (hown s56) ?_
    rintro v h8 ⟨mv, s8⟩
    have s58 := s56.trans s8
    simp +contextual (disch := first | simp only [fq]; done | omega | simp only [Knx]; omega) only [fV, reduceLE, reduceLT, reduceLeDiff, ↓reduceIte, reduceEqDiff, reduceAdd, reduceCtorEq, reduceToNat, Tryz.f35, e0]
    refine rtold_end hS s58 (hown s58) ?_
    rintro h9 mv9 hR
    simp +contextual (disch := first | simp only [fq]; done | omega | simp only [Knx]; omega) only [fV, reduceLE, reduceLT, reduceLeDiff, ↓reduceIte, reduceEqDiff, reduceAdd, reduceCtorEq, reduceToNat, Tryz.f35]
    exact hR
  · rw [if_neg hw7]
    have hg7 : ¬ 0 ≤ wtI cl q6.wts 0 := fun q => hw7 (waits_wtI.2 q)
    simp +contextual (disch := first | simp only [fq]; done | omega | simp only [Knx]; omega) only [fV, reduceLE, reduceLT, reduceLeDiff, ↓reduceIte, reduceEqDiff, reduceAdd, reduceCtorEq, reduceToNat, Tryz.f35, e0, e1, hg7]
    refine rtold_end hS s56 (hown s56) ?_
    rintro h9 mv9 hR
    simp +contextual (disch := first | simp only [fq]; done | omega | simp only [Knx]; omega) only [fV, reduceLE, reduceLT, reduceLeDiff, ↓reduceIte, reduceEqDiff, reduceAdd, reduceCtorEq, reduceToNat, Tryz.f35]
    exact hR
end
noncomputable section
def LiI (T : Int) (D0 : RD) (n : Int) (g : PL) (h0 : H) (m : Nat) (env : Env) (h' : H) : Prop :=
  ∃ (D : RD) (p : PL), m = p.conns.length ∧ env 0 = .ptr D0.b 0 ∧ env 1 = .int .i64 n ∧ RStp D0 h0 D p h' ∧ p.moves.length + p.conns.length ≤ 2000 ∧ (p.conns.map PC.num).Nodup ∧ limR (p.conns.length + 1) p n = g
def BkI (t : PC → Prop) (D0 : RD) (x : Nat) (g : PL) (h0 : H) (m : Nat) (env : Env) (h' : H) : Prop :=
  ∃ (i : Nat) (D : RD) (p : PL), m = p.conns.length - i ∧ i ≤ p.conns.length ∧ env 0 = .ptr D0.b 0 ∧ env x = .int .i64 i ∧ RStp D0 h0 D p h' ∧ p.moves.length + p.conns.length ≤ 5000 ∧ (p.conns.map PC.num).Nodup ∧ clR t (p.conns.drop i) p = g
theorem nodup_erase {l : List PC} (h : (l.map PC.num).Nodup) (i : Nat) : ((l.eraseIdx i).map PC.num).Nodup := List.Nodup.sublist ((List.eraseIdx_sublist l i).map _) h
theorem len_erase {l : List PC} {i : Nat} (h : i < l.length) : (l.eraseIdx i).length + 1 = l.length := by
  rw [List.length_eraseIdx, if_pos h]; omega
structure Rk0 (T : Int) (p : PL) : Prop where
  nd : (p.conns.map PC.num).Nodup
  num : ∀ c ∈ p.conns, 1 ≤ c.num ∧ c.num ≤ p.last
  cl : ∀ w ∈ p.wts, w.cl ≠ 0
  dist : (p.wts.map WT.cl).Nodup
  top : p.last + p.wts.length ≤ T
  tt : T ≤ 1099511627776
  pos : 0 ≤ p.last
  lim : p.lim ≤ 64
theorem Rk.r0 {T : Int} {p : PL} (h : Rk T p) : Rk0 T p := ⟨h.nd, h.num, h.cl, h.dist, h.top, h.tt, h.pos, h.lim⟩
theorem Rk0.rk {T : Int} {p : PL} (h : Rk0 T p) {K : Nat} (hf : Few K p) (hK : K ≤ 900000) : Rk T p := ⟨h.nd, h.num, h.cl, h.dist, h.top, h.tt, h.pos, Nat.le_trans hf hK, h.lim⟩
theorem Rk0.drop {T : Int} {p : PL} (h : Rk0 T p) (n : Int) : Rk0 T ((p.del n).mov 6 n 0) := ⟨List.Nodup.sublist (List.filter_sublist.map _) h.nd, fun c hc => h.num c (List.mem_filter.1 hc).1, h.cl, h.dist, h.top, h.tt, h.pos, h.lim⟩
variable {S : Set0} (hS : StdP S)
include hS
theorem rlimit_spec {T : Int} {D : RD} {p : PL} {h : H} (r : RR D p h) (hm : p.moves = []) (K : Rk T p) (hw : p.wts.length ≤ 256) (n : Int) : callW S.cfg (rowns D) 43 [.ptr D.b 0, .int .i64 n] h (ROp D h (limitF p n)) := by
  refine into Tryz.f43 _ Tryz.func43 (hS.ownP _ (by decide)) rfl rfl (by kernel_rfl) (by kernel_rfl) ?_
  have hp := r.pool
  unfold rcells at hp
  have hf := r.few
  unfold limitF
  simp +contextual (disch := first | simp only [fq]; done | omega | simp only [Knx]; omega) only [fV, reduceLE, reduceLT, reduceLeDiff, ↓reduceIte, reduceEqDiff, reduceAdd, reduceCtorEq, reduceToNat, Tryz.f43]
  refine callF_exact (rnone_spec hS r) ?_
  simp +contextual (disch := first | simp only [fq]; done | omega | simp only [Knx]; omega) only [fV, reduceLE, reduceLT, reduceLeDiff, ↓reduceIte, reduceEqDiff, reduceAdd, reduceCtorEq, reduceToNat, Tryz.f43]
  by_cases hb : ¬ (1 ≤ n ∧ n ≤ 64)
  · rw [if_pos hb]
    have hb' : (n < 1 ∨ 64 < n) = True := eq_true (by omega)
    simp +contextual (disch := first | simp only [fq]; done | omega | simp only [Knx]; omega) only [fV, reduceLE, reduceLT, reduceLeDiff, ↓reduceIte, reduceEqDiff, reduceAdd, reduceCtorEq, reduceToNat, Tryz.f43, hb']
    exact ROp.bad r 2
  rw [if_neg hb]
  rw [Classical.not_not] at hb
  have hb1 : ¬ n < 1 := by omega
  have hb2 : ¬ 64 < n := by omega
  simp +contextual (disch := first | simp only [fq]; done | omega | simp only [Knx]; omega) only [fV, reduceLE, reduceLT, reduceLeDiff, ↓reduceIte, reduceEqDiff, reduceAdd, reduceCtorEq, reduceToNat, Tryz.f43, hb1, hb2, hp]
  refine ⟨.inr (.inr (.inl rfl)), ?_⟩
  obtain ⟨n1, n2, n3, n4, n5, n6⟩ := r.ne
  have s1 := RStp.set (h4 := h) (D' := D) (p' := { p with lim := n }) r (Nat.le_refl _) (fun _ _ _ => rfl) rfl r.conns r.wts r.mvs r.few (fun k o n m q => by
    rcases q with q | q | q
    · exact ⟨n1 k o n m q, .inl (.inr (.inl ⟨o, n, m, q⟩))⟩
    · exact ⟨n2 k o n m q, .inl (.inr (.inr (.inl ⟨o, n, m, q⟩)))⟩
    · exact ⟨n3 k o n m q, .inl (.inr (.inr (.inr ⟨o, n, m, q⟩)))⟩)
  unfold rcells at s1
  simp only at s1
  obtain ⟨h1, hh1⟩ : ∃ h1, h1 = h.put D.b (Ob.cells [bo True, V.int IntKind.i64 n, V.int IntKind.i64 p.wait, V.int IntKind.i64 p.keep, V.int IntKind.i64 p.now, D.cv, D.wv, V.int IntKind.i64 p.last, bo p.paused, bo p.closed, D.mv] 58 false) := ⟨_, rfl⟩
  rw [← hh1] at s1 ⊢
  obtain ⟨g, hg⟩ : ∃ g, g = limR (p.conns.length + 1) { p with lim := n } n := ⟨_, rfl⟩
  rw [← hg]
  have Kg : Rk T g := by
    have h0 : Rk0 T { p with lim := n } := ⟨K.nd, K.num, K.cl, K.dist, K.top, K.tt, K.pos, hb.2⟩
    have hfew : Few 256 { p with lim := n } := by unfold Few; show p.moves.length + p.wts.length ≤ 256; rw [hm]; show 0 + _ ≤ _; omega
    rw [hg]
    exact (limR_keeps (I := Rk0 T) (fun p n h => h.drop n) n _ _ h0).rk (Few.limR n (p.conns.length + 1) hfew) (by omega)
  refine run_loop_cut (fun env' h' => env' 0 = .ptr D.b 0 ∧ ∃ D1, RStp D h D1 g h') ?_ ?_
  · refine run_loop (LiI T D n g h) p.conns.length ⟨D, { p with lim := n }, rfl, rfl, rfl, s1, by show p.moves.length + p.conns.length ≤ _; rw [hm]; show 0 + _ ≤ _; omega, K.nd, hg.symm⟩ ?_
    rintro m env h2 ⟨D2, p2, rfl, e0, e1, st, hml, hnd, hlg⟩
    have r2 := st.rr
    have eb2 := st.b
    rw [← eb2] at e0
    have hp2 := r2.pool
    unfold rcells at hp2
    have hlc := pc_len r2.conns
    have hbl := best_long p2.conns 0 none
    rw [limR] at hlg
    by_cases hgt : (p2.conns.length : Int) > n
    · have hgt' : n < (p2.conns.length : Int) := hgt
      simp +contextual (disch := first | simp only [fq]; done | omega | simp only [Knx]; omega) only [wpyr, fW, reduceLE, reduceLT, reduceLeDiff, ↓reduceIte, reduceEqDiff, reduceAdd, reduceCtorEq, reduceToNat, Tryz.f43, e0, e1, hp2, hlc, hgt']
      refine callF_pure (rlongest_spec hS r2 0) ?_
      rintro v h3 hx3 rfl
      have r3 := r2.ext hx3
      have st3 := st.trans (RStp.ext r2 hx3)
      cases hB : bestR 0 p2.conns 0 none with
      | none =>
        rw [hB] at hbl
        have hbl : longC p2.conns none = none := hbl.symm
        rw [hbl] at hlg
        simp +contextual (disch := first | simp only [fq]; done | omega | simp only [Knx]; omega) only [fV, reduceLE, reduceLT, reduceLeDiff, ↓reduceIte, reduceEqDiff, reduceAdd, reduceCtorEq, reduceToNat, Tryz.f43, e0, e1, bestV_none, Int.reduceLE]
        exact ⟨by rw [eb2], D2, by rw [← hlg]; exact st3⟩
      | some x =>
        obtain ⟨i, c⟩ := x
        rw [hB] at hbl
        have hbl : longC p2.conns none = some c := hbl.symm
        rw [hbl] at hlg
        simp only [if_pos hgt] at hlg
        have hci := best_idx hB
        have hil : i < p2.conns.length := by
          rcases Nat.lt_or_ge i p2.conns.length with q | q
          · exact q
          · rw [List.getElem?_eq_none q] at hci; cases hci
        have eic : p2.conns[i] = c := by rw [List.getElem?_eq_getElem hil] at hci; exact Option.some.inj hci
        have hge : (0 : Int) ≤ (i : Int) := by omega
        simp +contextual (disch := first | simp only [fq]; done | omega | simp only [Knx]; omega) only [fV, reduceLE, reduceLT, reduceLeDiff, ↓reduceIte, reduceEqDiff, reduceAdd, reduceCtorEq, reduceToNat, Tryz.f43, e0, e1, bestV_some, hge]
        refine callF_pure (rlongest_spec hS r3 0) ?_
        rintro v h4 hx4 rfl
        have r4 := r3.ext hx4
        have st4 := st3.trans (RStp.ext r3 hx4)
        rw [hB, bestV_some]
        simp +contextual (disch := first | simp only [fq]; done | omega | simp only [Knx]; omega) only [fV, reduceLE, reduceLT, reduceLeDiff, ↓reduceIte, reduceEqDiff, reduceAdd, reduceCtorEq, reduceToNat, Tryz.f43, e0, e1]
        refine callF_of (rclosedc_spec hS r4 hil (by omega)) (fun k q => by rw [fresh_def]; exact (st4.own k q).elim .inr .inl) ?_
        rintro v h5 ⟨D5, s5⟩
        rw [eic, ← del_eq hnd hci rfl] at s5
        have st5 := st4.trans s5
        have hle := len_erase hil
        have hde : (p2.del c.num).conns = p2.conns.eraseIdx i := by rw [del_eq hnd hci rfl]
        simp +contextual (disch := first | simp only [fq]; done | omega | simp only [Knx]; omega) only [fV, reduceLE, reduceLT, reduceLeDiff, ↓reduceIte, reduceEqDiff, reduceAdd, reduceCtorEq, reduceToNat, Tryz.f43, e0, e1]
        refine ⟨((p2.del c.num).mov 6 c.num 0).conns.length, ?_, D5, (p2.del c.num).mov 6 c.num 0, rfl, by simp +contextual (disch := first | simp only [fq]; done | omega | simp only [Knx]; omega) only [fV, reduceLE, reduceLT, reduceLeDiff, ↓reduceIte, reduceEqDiff, reduceAdd, reduceCtorEq, reduceToNat, e0, eb2], e1, st5, ?_, ?_, ?_⟩
        · show (p2.del c.num).conns.length < _
          rw [hde]; omega
        · show (p2.moves ++ [_]).length + (p2.del c.num).conns.length ≤ 2000
          rw [hde, List.length_append]; simp only [List.length_cons, List.length_nil]; omega
        · show ((p2.del c.num).conns.map PC.num).Nodup
          rw [hde]; exact nodup_erase hnd i
        · rw [← hlg]
          congr 1
          show (p2.del c.num).conns.length + 1 = _
          rw [hde]; exact hle
    · have hgt' : ¬ n < (p2.conns.length : Int) := hgt
      simp +contextual (disch := first | simp only [fq]; done | omega | simp only [Knx]; omega) only [fV, reduceLE, reduceLT, reduceLeDiff, ↓reduceIte, reduceEqDiff, reduceAdd, reduceCtorEq, reduceToNat, Tryz.f43, e0, e1, hp2, hlc, hgt']
      refine ⟨by rw [eb2], D2, ?_⟩
      have e : p2 = g := by
        rw [← hlg]
        cases longC p2.conns none with
        | none => rfl
        | some c => simp only [if_neg hgt]
      rw [← e]
      exact st
  · rintro env1 h3 ⟨e0, D1, st⟩
    have eb := st.b
    rw [← eb] at e0
    simp +contextual (disch := first | simp only [fq]; done | omega | simp only [Knx]; omega) only [fV, reduceLE, reduceLT, reduceLeDiff, ↓reduceIte, reduceEqDiff, reduceAdd, reduceCtorEq, reduceToNat, Tryz.f43, e0]
    refine callF_of (rserve_spec hS st.rr Kg) (fun k q => by rw [fresh_def]; exact (st.own k q).elim .inr .inl) ?_
    rintro v h4 ⟨D4, s4⟩
    have s14 := st.trans s4
    have eb4 := s4.b
    simp +contextual (disch := first | simp only [fq]; done | omega | simp only [Knx]; omega) only [fV, reduceLE, reduceLT, reduceLeDiff, ↓reduceIte, reduceEqDiff, reduceAdd, reduceCtorEq, reduceToNat, Tryz.f43, e0]
    rw [← eb4]
    refine rtold_end hS s14 (fun k q => by rw [fresh_def]; exact (s14.own k q).elim .inr .inl) ?_
    rintro h5 mv hR
    simp +contextual (disch := first | simp only [fq]; done | omega | simp only [Knx]; omega) only [fV, reduceLE, reduceLT, reduceLeDiff, ↓reduceIte, reduceEqDiff, reduceAdd, reduceCtorEq, reduceToNat, Tryz.f43]
    exact hR
end
noncomputable section
theorem drop_erase {α : Type} : ∀ (l : List α) (i : Nat), (l.eraseIdx i).drop i = l.drop (i + 1)
  | [], i => by simp
  | x :: l, 0 => rfl
  | x :: l, i + 1 => by
    show (x :: l.eraseIdx i).drop (i + 1) = l.drop (i + 1)
    rw [List.drop_succ_cons, drop_erase l i]
def CoW (D0 : RD) (p : PL) (q : WT → Prop) (h0 : H) (m : Nat) (env : Env) (h' : H) : Prop :=
  ∃ (j : Nat) (D : RD), m = p.wts.length - j ∧ j ≤ p.wts.length ∧ env 0 = .ptr D0.b 0 ∧ env 4 = .int .i64 j ∧ RStp D0 h0 D { p with moves := p.moves ++ outM q (p.wts.take j) } h'
variable {S : Set0} (hS : StdP S)
include hS
theorem rclose_spec {T : Int} {D : RD} {p : PL} {h : H} (r : RR D p h) (hm : p.moves = []) (K : Rk T p) (hw : p.wts.length ≤ 256) : callW S.cfg (rowns D) 44 [.ptr D.b 0] h (ROp D h (closeF p)) := by
  refine into Tryz.f44 _ Tryz.func44 (hS.ownP _ (by decide)) rfl rfl (by kernel_rfl) (by kernel_rfl) ?_
  have hp := r.pool
  unfold rcells at hp
  have hf := r.few
  unfold closeF
  simp +contextual (disch := first | simp only [fq]; done | omega | simp only [Knx]; omega) only [fV, reduceLE, reduceLT, reduceLeDiff, ↓reduceIte, reduceEqDiff, reduceAdd, reduceCtorEq, reduceToNat, Tryz.f44]
  refine callF_exact (rnone_spec hS r) ?_
  by_cases hc : p.closed
  · rw [if_pos hc]
    simp +contextual (disch := first | simp only [fq]; done | omega | simp only [Knx]; omega) only [fV, reduceLE, reduceLT, reduceLeDiff, ↓reduceIte, reduceEqDiff, reduceAdd, reduceCtorEq, reduceToNat, Tryz.f44, hp, hc]
    exact ROp.bad r 9
  rw [if_neg hc]
  obtain ⟨n1, n2, n3, n4, n5, n6⟩ := r.ne
  have s1 := RStp.set (h4 := h) (D' := D) (p' := { p with closed := True }) r (Nat.le_refl _) (fun _ _ _ => rfl) rfl r.conns r.wts r.mvs r.few (fun k o n m q => by
    rcases q with q | q | q
    · exact ⟨n1 k o n m q, .inl (.inr (.inl ⟨o, n, m, q⟩))⟩
    · exact ⟨n2 k o n m q, .inl (.inr (.inr (.inl ⟨o, n, m, q⟩)))⟩
    · exact ⟨n3 k o n m q, .inl (.inr (.inr (.inr ⟨o, n, m, q⟩)))⟩)
  unfold rcells at s1
  simp only at s1
  obtain ⟨h1, hh1⟩ : ∃ h1, h1 = h.put D.b (Ob.cells [bo True, V.int IntKind.i64 p.lim, V.int IntKind.i64 p.wait, V.int IntKind.i64 p.keep, V.int IntKind.i64 p.now, D.cv, D.wv, V.int IntKind.i64 p.last, bo p.paused, bo True, D.mv] 58 false) := ⟨_, rfl⟩
  obtain ⟨g, hg⟩ : ∃ g, g = clR idleP p.conns (outL (fun _ => True) { p with closed := True }) := ⟨_, rfl⟩
  rw [← hg]
  rw [← hh1] at s1
  obtain ⟨q, hq⟩ : ∃ q : PL, q = { p with closed := True } := ⟨_, rfl⟩
  rw [← hq] at s1 hg
  have hqm : q.moves = [] := by rw [hq]; exact hm
  have hqw : q.wts = p.wts := by rw [hq]
  have hqc : q.conns = p.conns := by rw [hq]
  simp +contextual (disch := first | simp only [fq]; done | omega | simp only [Knx]; omega) only [fV, reduceLE, reduceLT, reduceLeDiff, ↓reduceIte, reduceEqDiff, reduceAdd, reduceCtorEq, reduceToNat, Tryz.f44, hp, hc]
  rw [← hh1]
  refine ⟨.inr (.inr (.inl rfl)), ?_⟩
  refine run_loop_cut (fun env' h' => env' 0 = .ptr D.b 0 ∧ ∃ D1, RStp D h D1 { q with moves := outM (fun _ => True) q.wts } h') ?_ ?_
  · refine run_loop (CoW D q (fun _ => True) h) q.wts.length ⟨0, D, (Nat.sub_zero _).symm, Nat.zero_le _, rfl, rfl, by rw [hqm]; exact (show ({ q with moves := [] ++ outM (fun _ => True) (q.wts.take 0) } : PL) = q by rw [List.nil_append]; show ({ q with moves := [] } : PL) = q; rw [← hqm]) ▸ s1⟩ ?_
    rintro m env h2 ⟨j, D2, rfl, hj, e0, e4, st⟩
    have r2 := st.rr
    have eb2 := st.b
    rw [← eb2] at e0
    have hp2 := r2.pool
    unfold rcells at hp2
    simp only at hp2
    have hlw := r2.wts.wts.len
    simp only at hlw
    by_cases hlt : j < q.wts.length
    · obtain ⟨wb, wo, wm, wc, wfl, hwv, hwm, hwn, hwg, hwc⟩ := r2.wts.wts.opened (by show 0 < q.wts.length; omega)
      obtain ⟨x0, x1⟩ := hwc j hlt
      obtain ⟨y0, y1⟩ := wcell_get x1
      simp only at hwv y0
      rw [hwv] at hp2 hlw
      have hwi : IntKind.i64.wrap ((j : Int) + 1) = ((j + 1 : Nat) : Int) := by rw [i64_in _ (by rw [hqw] at hlt; omega)]; omega
      simp +contextual (disch := first | simp only [fq]; done | omega | simp only [Knx]; omega) only [fV, reduceLE, reduceLT, reduceLeDiff, ↓reduceIte, reduceEqDiff, reduceAdd, reduceCtorEq, reduceToNat, Tryz.f44, e0, e4, hp2, hlw, hlt, hwg, y0]
      have hol : (outM (fun _ => True) (q.wts.take j)).length ≤ (q.wts.take j).length := by unfold outM; rw [List.length_map]; exact List.length_filter_le _ _
      rw [List.length_take] at hol
      have hqw2 : q.wts.length = p.wts.length := by rw [hqw]
      refine callF_of (rmove_spec hS r2 4 0 q.wts[j].cl (by show (q.moves ++ _).length ≤ _; rw [hqm, List.nil_append]; omega)) (fun k q => by rw [fresh_def]; exact (st.own k q).elim .inr .inl) ?_
      rintro v h3 ⟨mv, s3⟩
      have st3 := st.trans s3
      have htk : q.wts.take (j + 1) = q.wts.take j ++ [q.wts[j]] := List.take_succ_eq_append_getElem hlt
      have e : ({ q with moves := q.moves ++ outM (fun _ => True) (q.wts.take j) } : PL).mov 4 0 q.wts[j].cl = { q with moves := q.moves ++ outM (fun _ => True) (q.wts.take (j + 1)) } := by
        rw [htk, (outM_snoc _ _ _).1 trivial]
        unfold PL.mov
        simp only [List.append_assoc]
      rw [e] at st3
      simp +contextual (disch := first | simp only [fq]; done | omega | simp only [Knx]; omega) only [fV, reduceLE, reduceLT, reduceLeDiff, ↓reduceIte, reduceEqDiff, reduceAdd, reduceCtorEq, reduceToNat, Tryz.f44, e0, e4]
      exact ⟨q.wts.length - (j + 1), by omega, j + 1, _, rfl, hlt, by simp +contextual (disch := first | simp only [fq]; done | omega | simp only [Knx]; omega) only [fV, reduceLE, reduceLT, reduceLeDiff, ↓reduceIte, reduceEqDiff, reduceAdd, reduceCtorEq, reduceToNat, e0, eb2], by simp +contextual (disch := first | simp only [fq]; done | omega | simp only [Knx]; omega) only [fV, reduceLE, reduceLT, reduceLeDiff, ↓reduceIte, reduceEqDiff, reduceAdd, reduceCtorEq, reduceToNat, e4, hwi], st3⟩
    · have htk : q.wts.take j = q.wts := List.take_of_length_le (by omega)
      rw [htk, hqm, List.nil_append] at st
      simp +contextual (disch := first | simp only [fq]; done | omega | simp only [Knx]; omega) only [fV, reduceLE, reduceLT, reduceLeDiff, ↓reduceIte, reduceEqDiff, reduceAdd, reduceCtorEq, reduceToNat, Tryz.f44, e0, e4, hp2, hlw, hlt]
      exact ⟨by rw [eb2], D2, st⟩
  · rintro env1 h2 ⟨e0, D1, st⟩
    have r2 := st.rr
    have eb2 := st.b
    rw [← eb2] at e0
    have hp2 := r2.pool
    unfold rcells at hp2
    simp only at hp2
    obtain ⟨m1, m2, m3, m4, m5, m6⟩ := r2.ne
    have hob := st.own D1.b (.inl rfl)
    have s3 := RStp.set (h4 := h2) (D' := { D1 with wv := .nilslice }) (p' := { q with wts := [], moves := outM (fun _ => True) q.wts }) r2 (Nat.le_refl _) (fun _ _ _ => rfl) rfl r2.conns (.inl ⟨rfl, rfl⟩) r2.mvs r2.few (fun k o n m w => by
      rcases w with w | w | w
      · exact ⟨m1 k o n m w, .inl (.inr (.inl ⟨o, n, m, w⟩))⟩
      · cases w
      · exact ⟨m3 k o n m w, .inl (.inr (.inr (.inr ⟨o, n, m, w⟩)))⟩)
    unfold rcells at s3
    simp only at s3
    obtain ⟨h3, hh3⟩ : ∃ h3, h3 = h2.put D1.b (Ob.cells [bo True, V.int IntKind.i64 q.lim, V.int IntKind.i64 q.wait, V.int IntKind.i64 q.keep, V.int IntKind.i64 q.now, D1.cv, V.nilslice, V.int IntKind.i64 q.last, bo q.paused, bo q.closed, D1.mv] 58 false) := ⟨_, rfl⟩
    rw [← hh3] at s3
    have st3 := st.trans s3
    have hoL : outL (fun _ => True) q = { q with wts := [], moves := outM (fun _ => True) q.wts } := by
      have e : outW (fun _ => True) q.wts = [] := List.filter_eq_nil_iff.2 fun _ _ => by simp
      unfold outL
      rw [e]
    rw [← hoL] at st3
    have hol : (outM (fun _ => True) q.wts).length ≤ q.wts.length := by unfold outM; rw [List.length_map]; exact List.length_filter_le _ _
    simp +contextual (disch := first | simp only [fq]; done | omega | simp only [Knx]; omega) only [fV, reduceLE, reduceLT, reduceLeDiff, ↓reduceIte, reduceEqDiff, reduceAdd, reduceCtorEq, reduceToNat, Tryz.f44, e0, hp2]
    rw [← hh3]
    refine ⟨.inr hob.symm, ?_⟩
    refine run_loop_cut (fun env' h' => env' 0 = .ptr D.b 0 ∧ ∃ D4, RStp D h D4 g h') ?_ ?_
    · refine run_loop (BkI idleP D 5 g h) q.conns.length ⟨0, { D1 with wv := .nilslice }, outL (fun _ => True) q, (Nat.sub_zero _).symm, Nat.zero_le _, by simp +contextual (disch := first | simp only [fq]; done | omega | simp only [Knx]; omega) only [fV, reduceLE, reduceLT, reduceLeDiff, ↓reduceIte, reduceEqDiff, reduceAdd, reduceCtorEq, reduceToNat, e0, eb2], rfl, st3, ?_, by show (q.conns.map PC.num).Nodup; rw [hqc]; exact K.nd, by show clR idleP (q.conns.drop 0) _ = _; rw [hg, hqc]; rfl⟩ ?_
      · show (outM (fun _ => True) q.wts).length + q.conns.length ≤ 5000
        rw [hqc]; rw [hqw] at hol ⊢; omega
      rintro m env h4 ⟨i, D4, p4, rfl, hi, e0, e5, st4, hml, hnd, hcl⟩
      have r4 := st4.rr
      have eb4 := st4.b
      rw [← eb4] at e0
      have hp4 := r4.pool
      unfold rcells at hp4
      have hlc := pc_len r4.conns
      have hf4 := r4.few
      by_cases hlt : i < p4.conns.length
      · obtain ⟨cb, hcv, _, hcb, hcg⟩ := pc_row r4.conns (by omega)
        obtain ⟨y0, y1, y2, y3⟩ := four_at (pccells_at hlt)
        rw [hcv] at hp4 hlc
        have hwi : IntKind.i64.wrap ((i : Int) + 1) = ((i + 1 : Nat) : Int) := by rw [i64_in _ (by omega)]; omega
        have hd : p4.conns.drop i = p4.conns[i] :: p4.conns.drop (i + 1) := List.drop_eq_getElem_cons hlt
        rw [hd, clR] at hcl
        have hci : p4.conns[i]? = some p4.conns[i] := List.getElem?_eq_getElem hlt
        by_cases ht : p4.conns[i].st = 4
        · rw [if_pos (show idleP p4.conns[i] from ht)] at hcl
          simp +contextual (disch := first | simp only [fq]; done | omega | simp only [Knx]; omega) only [fV, reduceLE, reduceLT, reduceLeDiff, ↓reduceIte, reduceEqDiff, reduceAdd, reduceCtorEq, reduceToNat, Tryz.f44, e0, e5, hp4, hlc, hlt, hcg, y1, ht]
          refine callF_of (rclosedc_spec hS r4 hlt (by omega)) (fun k q => by rw [fresh_def]; exact (st4.own k q).elim .inr .inl) ?_
          rintro v h5 ⟨D5, s5⟩
          rw [← del_eq hnd hci rfl] at s5
          have hle := len_erase hlt
          have hde : (p4.del p4.conns[i].num).conns = p4.conns.eraseIdx i := by rw [del_eq hnd hci rfl]
          have hlen5 : ((p4.del p4.conns[i].num).mov 6 p4.conns[i].num 0).conns.length + 1 = p4.conns.length := by
            show (p4.del _).conns.length + 1 = _
            rw [hde]; exact hle
          simp +contextual (disch := first | simp only [fq]; done | omega | simp only [Knx]; omega) only [fV, reduceLE, reduceLT, reduceLeDiff, ↓reduceIte, reduceEqDiff, reduceAdd, reduceCtorEq, reduceToNat, Tryz.f44, e0, e5]
          refine ⟨((p4.del p4.conns[i].num).mov 6 p4.conns[i].num 0).conns.length - i, by omega, i, D5, _, rfl, by omega, by simp +contextual (disch := first | simp only [fq]; done | omega | simp only [Knx]; omega) only [fV, reduceLE, reduceLT, reduceLeDiff, ↓reduceIte, reduceEqDiff, reduceAdd, reduceCtorEq, reduceToNat, e0, eb4], e5, st4.trans s5, ?_, ?_, ?_⟩
          · show (p4.moves ++ [_]).length + (p4.del p4.conns[i].num).conns.length ≤ 5000
            rw [hde, List.length_append]; simp only [List.length_cons, List.length_nil]; omega
          · show ((p4.del p4.conns[i].num).conns.map PC.num).Nodup
            rw [hde]; exact nodup_erase hnd i
          · rw [← hcl]
            congr 1
            show (p4.del p4.conns[i].num).conns.drop i = _
            rw [hde]; exact drop_erase _ _
        · rw [if_neg (show ¬ idleP p4.conns[i] from ht)] at hcl
          simp +contextual (disch := first | simp only [fq]; done | omega | simp only [Knx]; omega) only [fV, reduceLE, reduceLT, reduceLeDiff, ↓reduceIte, reduceEqDiff, reduceAdd, reduceCtorEq, reduceToNat, Tryz.f44, e0, e5, hp4, hlc, hlt, hcg, y1, ht]
          exact ⟨p4.conns.length - (i + 1), by omega, i + 1, D4, p4, rfl, hlt, by simp +contextual (disch := first | simp only [fq]; done | omega | simp only [Knx]; omega) only [fV, reduceLE, reduceLT, reduceLeDiff, ↓reduceIte, reduceEqDiff, reduceAdd, reduceCtorEq, reduceToNat, e0, eb4], by simp +contextual (disch := first | simp only [fq]; done | omega | simp only [Knx]; omega) only [fV, reduceLE, reduceLT, reduceLeDiff, ↓reduceIte, reduceEqDiff, reduceAdd, reduceCtorEq, reduceToNat, hwi], st4, hml, hnd, hcl⟩
      · have hie : p4.conns.drop i = [] := List.drop_eq_nil_of_le (by omega)
        rw [hie] at hcl
        simp +contextual (disch := first | simp only [fq]; done | omega | simp only [Knx]; omega) only [fV, reduceLE, reduceLT, reduceLeDiff, ↓reduceIte, reduceEqDiff, reduceAdd, reduceCtorEq, reduceToNat, Tryz.f44, e0, e5, hp4, hlc, hlt]
        exact ⟨by rw [eb4], D4, by rw [← hcl]; exact st4⟩
    · rintro env5 h5 ⟨e0, D5, st5⟩
      have eb5 := st5.b
      rw [← eb5] at e0
      simp +contextual (disch := first | simp only [fq]; done | omega | simp only [Knx]; omega) only [fV, reduceLE, reduceLT, reduceLeDiff, ↓reduceIte, reduceEqDiff, reduceAdd, reduceCtorEq, reduceToNat, Tryz.f44, e0]
      refine rtold_end hS st5 (fun k q => by rw [fresh_def]; exact (st5.own k q).elim .inr .inl) ?_
      rintro h6 mv hR
      simp +contextual (disch := first | simp only [fq]; done | omega | simp only [Knx]; omega) only [fV, reduceLE, reduceLT, reduceLeDiff, ↓reduceIte, reduceEqDiff, reduceAdd, reduceCtorEq, reduceToNat, Tryz.f44]
      exact hR
end
noncomputable section
theorem RStp.upd {D0 D D' : RD} {p p' : PL} {h0 h : H} (st : RStp D0 h0 D p h) (eb : D'.b = D.b)
    (hc : Lst 0 h D'.cv (pccells p'.conns) 65 4) (hw : WRow h D'.wv p'.wts) (hm : Lst 0 h D'.mv (mcells p'.moves) 63 3) (hf : p'.conns.length ≤ 1000)
    (hn : ∀ k o n m, D'.cv = .slice k o n m ∨ D'.wv = .slice k o n m ∨ D'.mv = .slice k o n m → k ≠ D.b ∧ (rowns D0 k ∨ h0.nx ≤ k)) :
    RStp D0 h0 D' p' (h.put D.b (.cells (rcells D' p') 58 false)) where
  rr := {
    pool := by rw [eb, put_eq rfl]
    conns := Lst.keep hc (Nat.le_refl _) fun k o n m q => put_ne (hn k o n m (.inl q)).1
    wts := hw.keep (Nat.le_refl _) fun k o n m q => put_ne (hn k o n m (.inr (.inl q))).1
    mvs := Lst.keep hm (Nat.le_refl _) fun k o n m q => put_ne (hn k o n m (.inr (.inr q))).1
    lt := by rw [eb]; exact st.rr.lt
    few := hf }
  nx := st.nx
  same := fun k hk ho => by
    have hb := st.own D.b (.inl rfl)
    rw [put_ne (fun e => by rw [← e] at hb; exact hb.elim ho (by omega)), st.same k hk ho]
  own := fun k q => by
    rcases q with q | ⟨o, n, m, q⟩ | ⟨o, n, m, q⟩ | ⟨o, n, m, q⟩
    · exact st.own k (.inl (by rw [q, eb]))
    · exact (hn k o n m (.inl q)).2
    · exact (hn k o n m (.inr (.inl q))).2
    · exact (hn k o n m (.inr (.inr q))).2
  b := eb.trans st.b
def TiW (D0 : RD) (p : PL) (q : WT → Prop) (h0 : H) (m : Nat) (env : Env) (h' : H) : Prop :=
  ∃ (j : Nat) (D : RD) (lv : V), m = p.wts.length - j ∧ j ≤ p.wts.length ∧ env 0 = .ptr D0.b 0 ∧ env 6 = lv ∧ env 7 = .int .i64 j ∧ RStp D0 h0 D { p with moves := outM q (p.wts.take j) } h' ∧ Wx.Acc h0.nx h' lv (wtcells (outW q (p.wts.take j))) 70 2 ∧ ∀ k o n m, lv = .slice k o n m → ¬ rowns D k
def BkT (t : PC → Prop) (keep now : Int) (D0 : RD) (x : Nat) (g : PL) (h0 : H) (m : Nat) (env : Env) (h' : H) : Prop :=
  ∃ (i : Nat) (D : RD) (p : PL), m = p.conns.length - i ∧ i ≤ p.conns.length ∧ env 0 = .ptr D0.b 0 ∧ env x = .int .i64 i ∧ RStp D0 h0 D p h' ∧ p.moves.length + p.conns.length ≤ 5000 ∧ (p.conns.map PC.num).Nodup ∧ p.keep = keep ∧ p.now = now ∧ (∀ c ∈ p.conns, 0 ≤ c.since ∧ c.since ≤ now) ∧ clR t (p.conns.drop i) p = g
variable {S : Set0} (hS : StdP S)
include hS
theorem rtick_spec {T : Int} {D : RD} {p : PL} {h : H} (r : RR D p h) (hm : p.moves = []) (K : Rk T p) (hw : p.wts.length ≤ 256) (n : Int) (hnow : 0 ≤ p.now ∧ p.now ≤ 2305843009213693952) (hsin : ∀ c ∈ p.conns, 0 ≤ c.since ∧ c.since ≤ p.now) : callW S.cfg (rowns D) 41 [.ptr D.b 0, .int .i64 n] h (ROp D h (tickF p n)) := by
  refine into Tryz.f41 _ Tryz.func41 (hS.ownP _ (by decide)) rfl rfl (by kernel_rfl) (by kernel_rfl) ?_
  have hp := r.pool
  unfold rcells at hp
  have hf := r.few
  unfold tickF
  simp +contextual (disch := first | simp only [fq]; done | omega | simp only [Knx]; omega) only [fV, reduceLE, reduceLT, reduceLeDiff, ↓reduceIte, reduceEqDiff, reduceAdd, reduceCtorEq, reduceToNat, Tryz.f41]
  refine callF_exact (rnone_spec hS r) ?_
  simp +contextual (disch := first | simp only [fq]; done | omega | simp only [Knx]; omega) only [fV, reduceLE, reduceLT, reduceLeDiff, ↓reduceIte, reduceEqDiff, reduceAdd, reduceCtorEq, reduceToNat, Tryz.f41]
  by_cases hb : ¬ (0 ≤ n ∧ n ≤ 1048576)
  · rw [if_pos hb]
    have hb' : (n < 0 ∨ 1048576 < n) = True := eq_true (by omega)
    simp +contextual (disch := first | simp only [fq]; done | omega | simp only [Knx]; omega) only [fV, reduceLE, reduceLT, reduceLeDiff, ↓reduceIte, reduceEqDiff, reduceAdd, reduceCtorEq, reduceToNat, Tryz.f41, hb']
    exact ROp.bad r 2
  rw [if_neg hb]
  rw [Classical.not_not] at hb
  have hb1 : ¬ n < 0 := by omega
  have hb2 : ¬ 1048576 < n := by omega
  have hwn : IntKind.i64.wrap (p.now + n) = p.now + n := i64_in _ (by omega)
  obtain ⟨n1, n2, n3, n4, n5, n6⟩ := r.ne
  have s1 := RStp.set (h4 := h) (D' := D) (p' := { p with now := p.now + n }) r (Nat.le_refl _) (fun _ _ _ => rfl) rfl r.conns r.wts r.mvs r.few (fun k o n m q => by
    rcases q with q | q | q
    · exact ⟨n1 k o n m q, .inl (.inr (.inl ⟨o, n, m, q⟩))⟩
    · exact ⟨n2 k o n m q, .inl (.inr (.inr (.inl ⟨o, n, m, q⟩)))⟩
    · exact ⟨n3 k o n m q, .inl (.inr (.inr (.inr ⟨o, n, m, q⟩)))⟩)
  unfold rcells at s1
  simp only at s1
  obtain ⟨h1, hh1⟩ : ∃ h1, h1 = h.put D.b (Ob.cells [bo True, V.int IntKind.i64 p.lim, V.int IntKind.i64 p.wait, V.int IntKind.i64 p.keep, V.int IntKind.i64 (p.now + n), D.cv, D.wv, V.int IntKind.i64 p.last, bo p.paused, bo p.closed, D.mv] 58 false) := ⟨_, rfl⟩
  rw [← hh1] at s1
  obtain ⟨pr, hpr⟩ : ∃ pr : WT → Prop, pr = fun w => w.til ≤ p.now + n := ⟨_, rfl⟩
  obtain ⟨q, hq⟩ : ∃ q : PL, q = { p with now := p.now + n } := ⟨_, rfl⟩
  obtain ⟨g, hg⟩ : ∃ g, g = clR (oldP p.keep (p.now + n)) p.conns (outL pr q) := ⟨_, rfl⟩
  rw [← hpr, ← hq, ← hg]
  rw [← hq] at s1
  have hqm : q.moves = [] := by rw [hq]; exact hm
  have hqw : q.wts = p.wts := by rw [hq]
  have hqc : q.conns = p.conns := by rw [hq]
  have hqn : q.now = p.now + n := by rw [hq]
  have hqk : q.keep = p.keep := by rw [hq]
  have hqw2 : q.wts.length = p.wts.length := by rw [hqw]
  have Kq : Rk0 T q := by rw [hq]; exact ⟨K.nd, K.num, K.cl, K.dist, K.top, K.tt, K.pos, K.lim⟩
  have Kg : Rk T g := by
    have hM : (outM pr q.wts).length ≤ q.wts.length := by unfold outM; rw [List.length_map]; exact List.length_filter_le _ _
    have hW : (outW pr q.wts).length ≤ q.wts.length := List.length_filter_le _ _
    have hs : (outW pr q.wts).Sublist q.wts := List.filter_sublist
    have h0 : Rk0 T (outL pr q) := by
      refine ⟨Kq.nd, Kq.num, fun w hw => Kq.cl w (hs.subset hw), List.Nodup.sublist (hs.map _) Kq.dist, ?_, Kq.tt, Kq.pos, Kq.lim⟩
      have := Kq.top
      show q.last + ((outW pr q.wts).length : Int) ≤ T
      omega
    have hfew : Few 512 (outL pr q) := by
      unfold Few
      show (outM pr q.wts).length + (outW pr q.wts).length ≤ 512
      omega
    rw [hg]
    exact (clR_keeps (I := Rk0 T) (fun p n h => h.drop n) _ _ h0).rk (Few.clR p.conns hfew) (by omega)
  simp +contextual (disch := first | simp only [fq]; done | omega | simp only [Knx]; omega) only [fV, reduceLE, reduceLT, reduceLeDiff, ↓reduceIte, reduceEqDiff, reduceAdd, reduceCtorEq, reduceToNat, Tryz.f41, hb1, hb2, hp, hwn]
  rw [← hh1]
  refine ⟨.inr (.inr (.inl rfl)), ?_⟩
  refine run_loop_cut (fun env' h' => env' 0 = .ptr D.b 0 ∧ ∃ D1 lv, env' 6 = lv ∧ RStp D h D1 { q with moves := outM pr q.wts } h' ∧ Wx.Acc h.nx h' lv (wtcells (outW pr q.wts)) 70 2 ∧ ∀ k o n m, lv = .slice k o n m → ¬ rowns D1 k) ?_ ?_
  · refine run_loop (TiW D q pr h) q.wts.length ⟨0, D, .nilslice, (Nat.sub_zero _).symm, Nat.zero_le _, rfl, rfl, rfl, (show ({ q with moves := outM pr (q.wts.take 0) } : PL) = q by show ({ q with moves := [] } : PL) = q; rw [← hqm]) ▸ s1, .inl ⟨rfl, rfl⟩, fun k o n m q => (by cases q)⟩ ?_
    rintro m env h2 ⟨j, D2, lv, rfl, hj, e0, e6, e7, st, hL, hlo⟩
    have r2 := st.rr
    have eb2 := st.b
    rw [← eb2] at e0
    have hp2 := r2.pool
    unfold rcells at hp2
    simp only [hqn] at hp2
    have hlw := r2.wts.wts.len
    simp only at hlw
    by_cases hlt : j < q.wts.length
    · obtain ⟨wb, wo, wm, wc, wfl, hwv, hwm, hwn2, hwg, hwc⟩ := r2.wts.wts.opened (by show 0 < q.wts.length; omega)
      obtain ⟨x0, x1⟩ := hwc j hlt
      obtain ⟨y0, y1⟩ := wcell_get x1
      simp only at hwv y0 y1 x0
      have x2 : (wc.drop (wo + j * 2)).take 2 = [.int .i64 q.wts[j].cl, .int .i64 q.wts[j].til] := x1
      rw [hwv] at hp2 hlw
      have hwi : IntKind.i64.wrap ((j : Int) + 1) = ((j + 1 : Nat) : Int) := by rw [i64_in _ (by omega)]; omega
      have htk : q.wts.take (j + 1) = q.wts.take j ++ [q.wts[j]] := List.take_succ_eq_append_getElem hlt
      have hol : (outM pr (q.wts.take j)).length ≤ (q.wts.take j).length := by unfold outM; rw [List.length_map]; exact List.length_filter_le _ _
      have hol2 : (outW pr (q.wts.take j)).length ≤ (q.wts.take j).length := List.length_filter_le _ _
      rw [List.length_take] at hol hol2
      simp +contextual (disch := first | simp only [fq]; done | omega | simp only [Knx]; omega) only [wpyr, fW, reduceLE, reduceLT, reduceLeDiff, ↓reduceIte, reduceEqDiff, reduceAdd, reduceCtorEq, reduceToNat, Tryz.f41, e0, e6, e7, hp2, hlw, hlt]
      refine cond_yes (p := True) rfl trivial ?_
      simp +contextual (disch := first | simp only [fq]; done | omega | simp only [Knx]; omega) only [wpyr, fW, reduceLE, reduceLT, reduceLeDiff, ↓reduceIte, reduceEqDiff, reduceAdd, reduceCtorEq, reduceToNat, Tryz.f41]
      refine draw_by [] (by kernel_rfl) ?_
      by_cases ht : q.wts[j].til ≤ p.now + n
      · have hpt : pr q.wts[j] := by rw [hpr]; exact ht
        simp +contextual (disch := first | simp only [fq]; done | omega | simp only [Knx]; omega) only [fV, reduceLE, reduceLT, reduceLeDiff, ↓reduceIte, reduceEqDiff, reduceAdd, reduceCtorEq, reduceToNat, Tryz.f41, e0, e6, e7, hp2, hlt, hwg, y0, y1, ht]
        refine ⟨fun p hp => (by cases hp), ?_⟩
        refine callF_of (rmove_spec hS r2 4 0 q.wts[j].cl (by show (outM pr (q.wts.take j)).length ≤ _; omega)) (fun k q => by rw [fresh_def]; exact (st.own k q).elim .inr .inl) ?_
        rintro v h3 ⟨mv, s3⟩
        have e : ({ q with moves := outM pr (q.wts.take j) } : PL).mov 4 0 q.wts[j].cl = { q with moves := outM pr (q.wts.take (j + 1)) } := by
          rw [htk, (outM_snoc _ _ _).1 hpt]
          rfl
        rw [e] at s3
        simp +contextual (disch := first | simp only [fq]; done | omega | simp only [Knx]; omega) only [fV, reduceLE, reduceLT, reduceLeDiff, ↓reduceIte, reduceEqDiff, reduceAdd, reduceCtorEq, reduceToNat, Tryz.f41, e0, e6, e7]
        refine ⟨q.wts.length - (j + 1), by omega, j + 1, _, lv, rfl, hlt, by simp +contextual (disch := first | simp only [fq]; done | omega | simp only [Knx]; omega) only [fV, reduceLE, reduceLT, reduceLeDiff, ↓reduceIte, reduceEqDiff, reduceAdd, reduceCtorEq, reduceToNat, e0, eb2], e6, by simp +contextual (disch := first | simp only [fq]; done | omega | simp only [Knx]; omega) only [fV, reduceLE, reduceLT, reduceLeDiff, ↓reduceIte, reduceEqDiff, reduceAdd, reduceCtorEq, reduceToNat, e7, hwi], st.trans s3, ?_, fun k o n m w z => ?_⟩
        · rw [htk, (outW_snoc _ _ _).1 hpt]
          rcases hL with h1 | ⟨b, k, h1, h2, h3, h4, h5, h6⟩
          · exact .inl h1
          · exact .inr ⟨b, k, h1, Nat.lt_of_lt_of_le h2 s3.nx, h3, h4, by rw [s3.same b h2 (hlo _ _ _ _ h3)]; exact h5, h6⟩
        · rcases s3.own k z with z | z
          · exact hlo k o n m w z
          · have := (hL.blk w).2; omega
      · have hpt : ¬ pr q.wts[j] := by rw [hpr]; exact ht
        simp +contextual (disch := first | simp only [fq]; done | omega | simp only [Knx]; omega) only [fV, reduceLE, reduceLT, reduceLeDiff, ↓reduceIte, reduceEqDiff, reduceAdd, reduceCtorEq, reduceToNat, Tryz.f41, e0, e6, e7, hp2, hlt, hwg, y0, y1, x0, x2, ht]
        refine ⟨fun p hp => (by cases hp), ?_⟩
        obtain ⟨hA, hhA⟩ : ∃ hA, hA = h2.push (Ob.cells [V.int IntKind.i64 q.wts[j].cl, V.int IntKind.i64 q.wts[j].til] 70 false) := ⟨_, rfl⟩
        rw [← hhA]
        have hxA : Ext h2 hA := by rw [hhA]; exact (Ext.refl h2).push _
        have hgA : hA.get h2.nx = some (Ob.cells [V.int IntKind.i64 q.wts[j].cl, V.int IntKind.i64 q.wts[j].til] 70 false) := by rw [hhA]; exact push_eq rfl
        have hnA : hA.nx = h2.nx + 1 := by rw [hhA]; rfl
        clear hhA
        have hnx := st.nx
        refine append_fresh (n0 := h.nx) (sv := lv) (cells := wtcells (outW pr (q.wts.take j))) (new := WT.cells q.wts[j]) (by simp +contextual (disch := first | simp only [fq]; done | omega | simp only [Knx]; omega) only [fV, reduceLE, reduceLT, reduceLeDiff, ↓reduceIte, reduceEqDiff, reduceAdd, reduceCtorEq, reduceToNat, e6]) (b2 := h2.nx) (o2 := 0) (n := 1) (m := 1) (by simp +contextual (disch := first | simp only [fq]; done | omega | simp only [Knx]; omega) only [fV, reduceLE, reduceLT, reduceLeDiff, ↓reduceIte, reduceEqDiff, reduceAdd, reduceCtorEq, reduceToNat]) ap44 ⟨.slice 70, by kernel_rfl, rfl⟩ (.inl (hL.ext hxA)) (by decide) (by rw [hgA]; exact rdC_all rfl) rfl rfl (by rw [wtcells_len]; show _ * 2 + 2 ≤ _; omega) (by decide) (fun k ⟨o, n, m, w⟩ => by rw [fresh_def]; exact .inl (hL.blk w).1) (by omega) ?_
        intro v5 h5 L5 ha5 hx5 hk5 hL5
        have hold : ∀ k, k < h2.nx → (∀ o n m, lv ≠ .slice k o n m) → h5.get k = h2.get k := fun k hk w => by rw [hk5 k (by omega) w, hxA.2 k hk]
        simp +contextual (disch := first | simp only [fq]; done | omega | simp only [Knx]; omega) only [fV, reduceLE, reduceLT, reduceLeDiff, ↓reduceIte, reduceEqDiff, reduceAdd, reduceCtorEq, reduceToNat, Tryz.f41, e0, e6, e7]
        refine ⟨q.wts.length - (j + 1), by omega, j + 1, D2, v5, rfl, hlt, by simp +contextual (disch := first | simp only [fq]; done | omega | simp only [Knx]; omega) only [fV, reduceLE, reduceLT, reduceLeDiff, ↓reduceIte, reduceEqDiff, reduceAdd, reduceCtorEq, reduceToNat, e0, eb2], rfl, by simp +contextual (disch := first | simp only [fq]; done | omega | simp only [Knx]; omega) only [fV, reduceLE, reduceLT, reduceLeDiff, ↓reduceIte, reduceEqDiff, reduceAdd, reduceCtorEq, reduceToNat, e7, hwi], ?_, ?_, fun k o n m w z => ?_⟩
        · have hrr : RR D2 { q with moves := outM pr (q.wts.take j) } h5 := r2.keep (by omega) fun k z => hold k (rowns_lt r2 z) fun o n m w => hlo k o n m w z
          rw [htk, (outM_snoc _ _ _).2 hpt]
          exact ⟨hrr, by omega, fun k hk ho => by rw [hold k (by omega) (fun o n m w => by have := (hL.blk w).1; omega)]; exact st.same k hk ho, st.own, st.b⟩
        · rw [htk, (outW_snoc _ _ _).2 hpt, wtcells_snoc]
          exact ha5.mono (by omega)
        · have := (ha5.blk w).1
          have := rowns_lt r2 z
          omega
    · have htk : q.wts.take j = q.wts := List.take_of_length_le (by omega)
      rw [htk] at st hL
      simp +contextual (disch := first | simp only [fq]; done | omega | simp only [Knx]; omega) only [fV, reduceLE, reduceLT, reduceLeDiff, ↓reduceIte, reduceEqDiff, reduceAdd, reduceCtorEq, reduceToNat, Tryz.f41, e0, e6, e7, hp2, hlw, hlt]
      exact ⟨by rw [eb2], D2, lv, rfl, st, hL, hlo⟩
  · rintro env1 h2 ⟨e0, D1, lv, e6, st, hL, hlo⟩
    have r2 := st.rr
    have eb2 := st.b
    rw [← eb2] at e0
    have hp2 := r2.pool
    unfold rcells at hp2
    simp only at hp2
    obtain ⟨m1, m2, m3, m4, m5, m6⟩ := r2.ne
    have hob := st.own D1.b (.inl rfl)
    obtain ⟨c1, c2⟩ := hL.cell
    have s3 := RStp.upd st (D' := { D1 with wv := lv }) (p' := outL pr q) rfl r2.conns (WRow.of_lst hL) r2.mvs r2.few (fun k o n m w => by
      rcases w with w | w | w
      · exact ⟨m1 k o n m w, st.own k (.inr (.inl ⟨o, n, m, w⟩))⟩
      · exact ⟨fun e => hlo k o n m w (.inl e), .inr (hL.blk w).1⟩
      · exact ⟨m3 k o n m w, st.own k (.inr (.inr (.inr ⟨o, n, m, w⟩)))⟩)
    unfold rcells at s3
    have s3' : RStp D h { D1 with wv := lv } (outL pr q) (h2.put D1.b (Ob.cells [bo True, V.int IntKind.i64 q.lim, V.int IntKind.i64 q.wait, V.int IntKind.i64 q.keep, V.int IntKind.i64 q.now, D1.cv, lv, V.int IntKind.i64 q.last, bo q.paused, bo q.closed, D1.mv] 58 false)) := s3
    obtain ⟨h3, hh3⟩ : ∃ h3, h3 = h2.put D1.b (Ob.cells [bo True, V.int IntKind.i64 q.lim, V.int IntKind.i64 q.wait, V.int IntKind.i64 q.keep, V.int IntKind.i64 q.now, D1.cv, lv, V.int IntKind.i64 q.last, bo q.paused, bo q.closed, D1.mv] 58 false) := ⟨_, rfl⟩
    rw [← hh3] at s3'
    have hol : (outM pr q.wts).length ≤ q.wts.length := by unfold outM; rw [List.length_map]; exact List.length_filter_le _ _
    simp +contextual (disch := first | simp only [fq]; done | omega | simp only [Knx]; omega) only [fV, reduceLE, reduceLT, reduceLeDiff, ↓reduceIte, reduceEqDiff, reduceAdd, reduceCtorEq, reduceToNat, Tryz.f41, e0, e6, hp2, c1, c2]
    rw [← hh3]
    refine ⟨.inr hob.symm, ?_⟩
    refine run_loop_cut (fun env' h' => env' 0 = .ptr D.b 0 ∧ ∃ D4, RStp D h D4 g h') ?_ ?_
    · refine run_loop (BkT (oldP p.keep (p.now + n)) p.keep (p.now + n) D 8 g h) q.conns.length ⟨0, { D1 with wv := lv }, outL pr q, (Nat.sub_zero _).symm, Nat.zero_le _, by simp +contextual (disch := first | simp only [fq]; done | omega | simp only [Knx]; omega) only [fV, reduceLE, reduceLT, reduceLeDiff, ↓reduceIte, reduceEqDiff, reduceAdd, reduceCtorEq, reduceToNat, e0, eb2], rfl, s3', ?_, by show (q.conns.map PC.num).Nodup; rw [hqc]; exact K.nd, hqk, hqn, fun c hc => ?_, by show clR _ (q.conns.drop 0) _ = _; rw [hg, hqc]; rfl⟩ ?_
      · show (outM pr q.wts).length + q.conns.length ≤ 5000
        rw [hqc]; omega
      · have hc : c ∈ q.conns := hc
        rw [hqc] at hc
        have := hsin c hc
        omega
      rintro m env h4 ⟨i, D4, p4, rfl, hi, e0, e8, st4, hml, hnd, hk4, hn4, hs4, hcl⟩
      have r4 := st4.rr
      have eb4 := st4.b
      rw [← eb4] at e0
      have hp4 := r4.pool
      unfold rcells at hp4
      rw [hk4, hn4] at hp4
      have hlc := pc_len r4.conns
      have hf4 := r4.few
      by_cases hlt : i < p4.conns.length
      · obtain ⟨cb, hcv, _, hcb, hcg⟩ := pc_row r4.conns (by omega)
        have z0 : i * 4 + 4 ≤ (pccells p4.conns).length := by rw [pccells_len]; omega
        have z1 := pccells_at hlt
        rw [hcv] at hp4 hlc
        have hwi : IntKind.i64.wrap ((i : Int) + 1) = ((i + 1 : Nat) : Int) := by rw [i64_in _ (by omega)]; omega
        have hd : p4.conns.drop i = p4.conns[i] :: p4.conns.drop (i + 1) := List.drop_eq_getElem_cons hlt
        rw [hd, clR] at hcl
        have hci : p4.conns[i]? = some p4.conns[i] := List.getElem?_eq_getElem hlt
        obtain ⟨c, hc⟩ : ∃ c, c = p4.conns[i] := ⟨_, rfl⟩
        rw [← hc] at hcl hci z1
        have hsc := hs4 c (by rw [hc]; exact List.getElem_mem hlt)
        have hold := rold_spec hS r4 c (by rw [hn4]; omega) (by rw [hn4]; exact hsc)
        rw [hk4, hn4] at hold
        unfold PC.cells at hold
        have stay : ∀ (env' : Env) (h' : H), Ext h4 h' → ¬ oldP p.keep (p.now + n) c → env' 0 = .ptr D.b 0 → env' 8 = .int .i64 ((i + 1 : Nat) : Int) → ∃ m', m' < p4.conns.length - i ∧ BkT (oldP p.keep (p.now + n)) p.keep (p.now + n) D 8 g h m' env' h' := fun env' h' hx ho q0 q8 => by
          rw [if_neg ho] at hcl
          exact ⟨p4.conns.length - (i + 1), by omega, i + 1, D4, p4, rfl, hlt, q0, q8, st4.trans (RStp.ext r4 hx), hml, hnd, hk4, hn4, hs4, hcl⟩
        by_cases hkp : 0 < p.keep
        · simp +contextual (disch := first | simp only [fq]; done | omega | simp only [Knx]; omega) only [fV, reduceLE, reduceLT, reduceLeDiff, ↓reduceIte, reduceEqDiff, reduceAdd, reduceCtorEq, reduceToNat, Tryz.f41, e0, e8, hp4, hlc, hlt, hcg, z0, z1, hkp]
          refine callF_pure hold ?_
          rintro v h5 hx5 rfl
          have r5 := r4.ext hx5
          have st5 := st4.trans (RStp.ext r4 hx5)
          by_cases ht : c.st = 4 ∧ p.keep ≤ p.now + n - c.since
          · have ho : oldP p.keep (p.now + n) c := ⟨hkp, ht.1, ht.2⟩
            rw [if_pos ho] at hcl
            have ht' : (c.st = 4 ∧ p.keep ≤ p.now + n - c.since) = True := eq_true ht
            simp +contextual (disch := first | simp only [fq]; done | omega | simp only [Knx]; omega) only [fV, reduceLE, reduceLT, reduceLeDiff, ↓reduceIte, reduceEqDiff, reduceAdd, reduceCtorEq, reduceToNat, Tryz.f41, e0, e8, ht']
            refine callF_of (rclosedc_spec hS r5 hlt (by omega)) (fun k q => by rw [fresh_def]; exact (st5.own k q).elim .inr .inl) ?_
            rintro v h6 ⟨D6, s6⟩
            rw [← hc, ← del_eq hnd hci rfl] at s6
            have hle := len_erase hlt
            have hde : (p4.del c.num).conns = p4.conns.eraseIdx i := by rw [del_eq hnd hci rfl]
            have hlen5 : ((p4.del c.num).mov 6 c.num 0).conns.length + 1 = p4.conns.length := by
              show (p4.del _).conns.length + 1 = _
              rw [hde]; exact hle
            simp +contextual (disch := first | simp only [fq]; done | omega | simp only [Knx]; omega) only [fV, reduceLE, reduceLT, reduceLeDiff, ↓reduceIte, reduceEqDiff, reduceAdd, reduceCtorEq, reduceToNat, Tryz.f41, e0, e8]
            refine ⟨((p4.del c.num).mov 6 c.num 0).conns.length - i, by omega, i, D6, _, rfl, by omega, by simp +contextual (disch := first | simp only [fq]; done | omega | simp only [Knx]; omega) only [fV, reduceLE, reduceLT, reduceLeDiff, ↓reduceIte, reduceEqDiff, reduceAdd, reduceCtorEq, reduceToNat, e0, eb4], e8, st5.trans s6, ?_, ?_, hk4, hn4, fun x hx => hs4 x (List.mem_filter.1 hx).1, ?_⟩
            · show (p4.moves ++ [_]).length + (p4.del c.num).conns.length ≤ 5000
              rw [hde, List.length_append]; simp only [List.length_cons, List.length_nil]; omega
            · show ((p4.del c.num).conns.map PC.num).Nodup
              rw [hde]; exact nodup_erase hnd i
            · rw [← hcl]
              congr 1
              show (p4.del c.num).conns.drop i = _
              rw [hde]; exact drop_erase _ _
          · have ht' : (c.st = 4 ∧ p.keep ≤ p.now + n - c.since) = False := eq_false ht
            simp +contextual (disch := first | simp only [fq]; done | omega | simp only [Knx]; omega) only [fV, reduceLE, reduceLT, reduceLeDiff, ↓reduceIte, reduceEqDiff, reduceAdd, reduceCtorEq, reduceToNat, Tryz.f41, e0, e8, ht']
            exact stay _ _ hx5 (fun ho => ht ⟨ho.2.1, ho.2.2⟩) (by simp +contextual (disch := first | simp only [fq]; done | omega | simp only [Knx]; omega) only [fV, reduceLE, reduceLT, reduceLeDiff, ↓reduceIte, reduceEqDiff, reduceAdd, reduceCtorEq, reduceToNat, e0, eb4]) (by simp +contextual (disch := first | simp only [fq]; done | omega | simp only [Knx]; omega) only [fV, reduceLE, reduceLT, reduceLeDiff, ↓reduceIte, reduceEqDiff, reduceAdd, reduceCtorEq, reduceToNat, hwi])
        · simp +contextual (disch := first | simp only [fq]; done | omega | simp only [Knx]; omega) only [fV, reduceLE, reduceLT, reduceLeDiff, ↓reduceIte, reduceEqDiff, reduceAdd, reduceCtorEq, reduceToNat, Tryz.f41, e0, e8, hp4, hlc, hlt, hcg, z0, z1, hkp]
          exact stay _ _ (Ext.refl _) (fun ho => hkp ho.1) (by simp +contextual (disch := first | simp only [fq]; done | omega | simp only [Knx]; omega) only [fV, reduceLE, reduceLT, reduceLeDiff, ↓reduceIte, reduceEqDiff, reduceAdd, reduceCtorEq, reduceToNat, e0, eb4]) (by simp +contextual (disch := first | simp only [fq]; done | omega | simp only [Knx]; omega) only [fV, reduceLE, reduceLT, reduceLeDiff, ↓reduceIte, reduceEqDiff, reduceAdd, reduceCtorEq, reduceToNat, hwi])
      · have hie : p4.conns.drop i = [] := List.drop_eq_nil_of_le (by omega)
        rw [hie] at hcl
        simp +contextual (disch := first | simp only [fq]; done | omega | simp only [Knx]; omega) only [fV, reduceLE, reduceLT, reduceLeDiff, ↓reduceIte, reduceEqDiff, reduceAdd, reduceCtorEq, reduceToNat, Tryz.f41, e0, e8, hp4, hlc, hlt]
        exact ⟨by rw [eb4], D4, by rw [← hcl]; exact st4⟩
    · rintro env5 h5 ⟨e0, D5, st5⟩
      have eb5 := st5.b
      rw [← eb5] at e0
      simp +contextual (disch := first | simp only [fq]; done | omega | simp only [Knx]; omega) only [fV, reduceLE, reduceLT, reduceLeDiff, ↓reduceIte, reduceEqDiff, reduceAdd, reduceCtorEq, reduceToNat, Tryz.f41, e0]
      refine callF_of (rserve_spec hS st5.rr Kg) (fun k q => by rw [fresh_def]; exact (st5.own k q).elim .inr .inl) ?_
      rintro v h6 ⟨D6, s6⟩
      have s56 := st5.trans s6
      have eb6 := s6.b
      simp +contextual (disch := first | simp only [fq]; done | omega | simp only [Knx]; omega) only [fV, reduceLE, reduceLT, reduceLeDiff, ↓reduceIte, reduceEqDiff, reduceAdd, reduceCtorEq, reduceToNat, Tryz.f41, e0]
      rw [← eb6]
      refine rtold_end hS s56 (fun k q => by rw [fresh_def]; exact (s56.own k q).elim .inr .inl) ?_
      rintro h7 mv hR
      simp +contextual (disch := first | simp only [fq]; done | omega | simp only [Knx]; omega) only [fV, reduceLE, reduceLT, reduceLeDiff, ↓reduceIte, reduceEqDiff, reduceAdd, reduceCtorEq, reduceToNat, Tryz.f41]
      exact hR
end
noncomputable section
structure Wo (p : PL) : Prop where
  cl : ∀ w ∈ p.wts, w.cl ≠ 0
  dist : (p.wts.map WT.cl).Nodup
theorem Wo.sub {p q : PL} (h : Wo p) (hs : q.wts.Sublist p.wts) : Wo q := ⟨fun w hw => h.cl w (hs.subset hw), List.Nodup.sublist (hs.map _) h.dist⟩
theorem Wo.serve1 {p q : PL} (h : Wo p) (hs : serve1 p = some q) : Wo q := by
  obtain ⟨w, ws, hw, h1⟩ := serve1_cases hs
  refine h.sub ?_
  rw [hw]
  rcases h1 with ⟨c, _, _, rfl⟩ | ⟨_, _, rfl⟩
  · exact List.sublist_cons_self w ws
  · exact List.sublist_cons_self w ws
theorem Wo.serve {p : PL} (h : Wo p) : Wo (serveF p) := serveF_keeps (fun _ _ => Wo.serve1) h
theorem Wo.del {p : PL} (h : Wo p) (n : Int) : Wo (p.del n) := h.sub (List.Sublist.refl _)
theorem Wo.mov {p : PL} (h : Wo p) (a b c : Int) : Wo (p.mov a b c) := h.sub (List.Sublist.refl _)
theorem Wo.done {p : PL} (h : Wo p) : Wo p.done.2.2 := h.sub (List.Sublist.refl _)
theorem Wo.set {p : PL} (h : Wo p) (n : Int) (c' : PC) : Wo (p.set n c') := h.sub (List.Sublist.refl _)
theorem Wo.ask {p : PL} (h : Wo p) (k n : Int) (y : Prop) : Wo (askF p k n y).2.2 := by
  unfold askF
  by_cases k0 : k = 0
  · rw [if_pos k0]
    unfold acquireF
    by_cases a1 : ¬ (1 ≤ n ∧ n ≤ 1073741824)
    · rw [if_pos a1]; exact h
    rw [if_neg a1]
    by_cases a2 : p.closed
    · rw [if_pos a2]; exact h
    rw [if_neg a2]
    by_cases a3 : hasL p n ∨ waitsL p n
    · rw [if_pos a3]; exact h
    rw [if_neg a3]
    by_cases a4 : 256 ≤ p.wts.length
    · rw [if_pos a4]; exact h
    rw [if_neg a4]
    have h1 : Wo { p with wts := p.wts ++ [⟨n, p.now + p.wait⟩] } := by
      refine ⟨fun w hw => ?_, ?_⟩
      · rcases List.mem_append.1 hw with hw | hw
        · exact h.cl w hw
        · obtain rfl := List.mem_singleton.1 hw
          show n ≠ 0
          rw [Classical.not_not] at a1
          omega
      · show ((p.wts ++ [_]).map WT.cl).Nodup
        rw [List.map_append, List.nodup_append]
        refine ⟨h.dist, by simp, ?_⟩
        rintro a ha b hb rfl
        obtain ⟨w, hw, rfl⟩ := List.mem_map.1 ha
        simp only [List.map_cons, List.map_nil, List.mem_singleton] at hb
        exact a3 (.inr ⟨w, hw, hb⟩)
    by_cases a5 : waitsL (serveF { p with wts := p.wts ++ [⟨n, p.now + p.wait⟩] }) n
    · rw [if_pos a5]; exact (h1.serve.mov _ _ _).done
    · rw [if_neg a5]; exact h1.serve.done
  rw [if_neg k0]
  by_cases k1 : k = 1
  · rw [if_pos k1]
    unfold openedF
    cases hg : p.get n with
    | none => exact h
    | some c =>
      simp only
      by_cases a1 : c.st ≠ 1
      · rw [if_pos a1]; exact h
      rw [if_neg a1]
      by_cases a2 : y
      · rw [if_pos a2]; exact ((h.set _ _).mov _ _ _).done
      · rw [if_neg a2]; exact ((h.del _).serve).done
  rw [if_neg k1]
  by_cases k2 : k = 2
  · rw [if_pos k2]
    unfold releaseF
    cases hg : p.get n with
    | none => exact h
    | some c =>
      simp only
      by_cases a1 : c.st ≠ 2
      · rw [if_pos a1]; exact h
      rw [if_neg a1]
      by_cases a2 : p.closed ∨ (p.conns.length : Int) > p.lim
      · rw [if_pos a2]; exact ((h.del _).mov _ _ _).serve.done
      · rw [if_neg a2]; exact ((h.set _ _).mov _ _ _).done
  rw [if_neg k2]
  by_cases k3 : k = 3
  · rw [if_pos k3]
    unfold resetF
    cases hg : p.get n with
    | none => exact h
    | some c =>
      simp only
      by_cases a1 : c.st ≠ 3
      · rw [if_pos a1]; exact h
      rw [if_neg a1]
      by_cases a2 : y ∧ ¬ p.closed ∧ (p.conns.length : Int) ≤ p.lim
      · rw [if_pos a2]; exact (h.set _ _).serve.done
      · rw [if_neg a2]; exact ((h.del _).mov _ _ _).serve.done
  rw [if_neg k3]
  by_cases k4 : k = 4
  · rw [if_pos k4]
    unfold lostF
    cases hg : p.get n with
    | none => exact h
    | some c => exact (h.del _).serve.done
  rw [if_neg k4]
  by_cases k5 : k = 5
  · rw [if_pos k5]
    unfold leaveF
    by_cases a1 : ¬ waitsL p n
    · rw [if_pos a1]; exact h
    · rw [if_neg a1]
      exact h.sub List.filter_sublist
  rw [if_neg k5]
  by_cases k6 : k = 6
  · rw [if_pos k6]
    unfold tickF
    by_cases a1 : ¬ (0 ≤ n ∧ n ≤ 1048576)
    · rw [if_pos a1]; exact h
    · rw [if_neg a1]
      refine (Wo.serve ?_).done
      exact clR_keeps (fun p n h => (h.del n).mov _ _ _) _ _ (h.sub List.filter_sublist)
  rw [if_neg k6]
  by_cases k7 : k = 7
  · rw [if_pos k7]
    unfold pauseF
    by_cases a1 : p.closed
    · rw [if_pos a1]; exact h
    · rw [if_neg a1]; exact (Wo.serve (p := { p with paused := y }) (h.sub (List.Sublist.refl _))).done
  rw [if_neg k7]
  by_cases k8 : k = 8
  · rw [if_pos k8]
    unfold limitF
    by_cases a1 : ¬ (1 ≤ n ∧ n ≤ 64)
    · rw [if_pos a1]; exact h
    · rw [if_neg a1]
      refine (Wo.serve ?_).done
      exact limR_keeps (fun p n h => (h.del n).mov _ _ _) _ _ _ (h.sub (List.Sublist.refl _))
  rw [if_neg k8]
  unfold closeF
  by_cases a1 : p.closed
  · rw [if_pos a1]; exact h
  · rw [if_neg a1]
    refine Wo.done ?_
    exact clR_keeps (fun p n h => (h.del n).mov _ _ _) _ _ (h.sub List.filter_sublist)
theorem Rk.of {T : Int} {D : PD} {P : PS} {h : H} (r : PR D P h) (B : Bds T P) (w : Wo P.pl) : Rk T P.pl where
  nd := by
    have e : P.pl.conns.map PC.num = P.conns.map CN.num := by
      show (P.conns.map CN.pc).map PC.num = _
      rw [List.map_map]; rfl
    rw [e]
    exact r.rise.imp fun q => by omega
  num := fun c hc => by
    obtain ⟨x, hx, rfl⟩ := List.mem_map.1 hc
    exact B.num x hx
  cl := w.cl
  dist := w.dist
  top := B.top
  tt := B.tt
  pos := B.pos
  mvs := B.mvs
  lim := B.lim
end
noncomputable section
theorem ROp.form {D : RD} {h h' : H} {r : Res} {v : V} (x : ROp D h r v h') : ∃ mv, v = .tuple [mv, .int .i64 r.1] := by
  obtain ⟨_, mv, h1, _⟩ := x
  exact ⟨mv, h1⟩
theorem ROp.lift {D : RD} {p : PL} {h hA h' : H} {r : Res} {v : V} (x : ROp D hA r v h') (w : RR D p h) (hx : Ext h hA) : ROp D h r v h' := by
  obtain ⟨D', mv, h1, h2, h3, h4⟩ := x
  exact ⟨D', mv, h1, (RStp.ext w hx).trans h2, h3, h4⟩
variable {S : Set0} (hS : StdP S)
include hS
theorem rcheck_spec (a b c : Int) (h : H) : Pure S.cfg 25 [.agg [.int .i64 a, .int .i64 b, .int .i64 c]] h fun v _ => v = bo (setupOk a b c) := by
  refine into Tryz.f25 _ Tryz.func25 (hS.ownP _ (by decide)) rfl rfl (by kernel_rfl) (by kernel_rfl) ?_
  unfold setupOk
  simp +contextual (disch := first | simp only [fq]; done | omega | simp only [Knx]; omega) only [fV, reduceLE, reduceLT, reduceLeDiff, ↓reduceIte, reduceEqDiff, reduceAdd, reduceCtorEq, reduceToNat, Tryz.f25]
  exact ⟨(Ext.refl h).push _, bo_eq ⟨fun ⟨⟨⟨⟨x1, x2⟩, x3⟩, x4⟩, x5⟩ => ⟨x1, ⟨x2, x3⟩, x4, x5⟩, fun ⟨x1, ⟨x2, x3⟩, x4, x5⟩ => ⟨⟨⟨⟨x1, x2⟩, x3⟩, x4⟩, x5⟩⟩⟩
theorem rnew_spec (a b c : Int) (h : H) : Pure S.cfg 6 [.agg [.int .i64 a, .int .i64 b, .int .i64 c]] h fun v h' => (¬ setupOk a b c ∧ v = .tuple [.nilptr, .int .i64 2]) ∨ (setupOk a b c ∧ ∃ D, h.nx ≤ D.b ∧ v = .tuple [.ptr D.b 0, .int .i64 0] ∧ RR D (P0 a b c).pl h' ∧ ∀ k, rowns D k → h.nx ≤ k) := by
  refine into Tryz.f6 _ Tryz.func6 (hS.ownP _ (by decide)) rfl rfl (by kernel_rfl) (by kernel_rfl) ?_
  simp +contextual (disch := first | simp only [fq]; done | omega | simp only [Knx]; omega) only [fV, reduceLE, reduceLT, reduceLeDiff, ↓reduceIte, reduceEqDiff, reduceAdd, reduceCtorEq, reduceToNat, Tryz.f6]
  obtain ⟨hA, hhA⟩ : ∃ hA, hA = h.push (Ob.cells [V.int IntKind.i64 a, V.int IntKind.i64 b, V.int IntKind.i64 c] 23 false) := ⟨_, rfl⟩
  rw [← hhA]
  have hxA : Ext h hA := by rw [hhA]; exact (Ext.refl h).push _
  have hgA : hA.get h.nx = some (Ob.cells [V.int IntKind.i64 a, V.int IntKind.i64 b, V.int IntKind.i64 c] 23 false) := by rw [hhA]; exact push_eq rfl
  have hnA : hA.nx = h.nx + 1 := by rw [hhA]; rfl
  clear hhA
  refine callF_pure (rcheck_spec hS a b c hA) ?_
  rintro v h1 hx1 rfl
  have hg1 : h1.get h.nx = some (Ob.cells [V.int IntKind.i64 a, V.int IntKind.i64 b, V.int IntKind.i64 c] 23 false) := by rw [hx1.2 _ (by omega)]; exact hgA
  have hx01 := hxA.trans hx1
  by_cases hok : setupOk a b c
  · have hok' : setupOk a b c = True := eq_true hok
    simp +contextual (disch := first | simp only [fq]; done | omega | simp only [Knx]; omega) only [fV, reduceLE, reduceLT, reduceLeDiff, ↓reduceIte, reduceEqDiff, reduceAdd, reduceCtorEq, reduceToNat, Tryz.f6, hg1, hok']
    refine ⟨hx01.push _, ⟨h1.nx, .nilslice, .nilslice, .nilslice⟩, hx01.1, rfl, ?_, ?_⟩
    · exact {
        pool := push_eq rfl
        conns := .inl (.inl ⟨rfl, rfl⟩)
        wts := .inl ⟨rfl, rfl⟩
        mvs := .inl (.inl ⟨rfl, rfl⟩)
        lt := by show h1.nx < h1.nx + 1; omega
        few := Nat.zero_le _ }
    · rintro k (q | ⟨o, n, m, q⟩ | ⟨o, n, m, q⟩ | ⟨o, n, m, q⟩)
      · have : k = h1.nx := q
        have := hx01.1
        omega
      · cases q
      · cases q
      · cases q
  · have hok' : setupOk a b c = False := eq_false hok
    simp +contextual (disch := first | simp only [fq]; done | omega | simp only [Knx]; omega) only [fV, reduceLE, reduceLT, reduceLeDiff, ↓reduceIte, reduceEqDiff, reduceAdd, reduceCtorEq, reduceToNat, Tryz.f6, hg1, hok']
    exact hx01
theorem rask_spec {T N : Int} {D : RD} {p : PL} {h : H} (r : RR D p h) (hm : p.moves = []) (K : Rk T p) (hT : T + 1 ≤ 1099511627776) (G : Gw N p) (hN : N ≤ 1099511627776) (kd n : Int) (y : Prop) : callW S.cfg (rowns D) 8 [.ptr D.b 0, .agg [.int .i64 kd, .int .i64 n, bo y]] h (ROp D h (askF p (kd % 10) n y)) := by
  refine into Tryz.f8 _ Tryz.func8 (hS.ownP _ (by decide)) rfl rfl (by kernel_rfl) (by kernel_rfl) ?_
  simp +contextual (disch := first | simp only [fq]; done | omega | simp only [Knx]; omega) only [fV, reduceLE, reduceLT, reduceLeDiff, ↓reduceIte, reduceEqDiff, reduceAdd, reduceCtorEq, reduceToNat, Tryz.f8]
  obtain ⟨hA, hhA⟩ : ∃ hA, hA = h.push (Ob.cells [V.int IntKind.i64 kd, V.int IntKind.i64 n, bo y] 37 false) := ⟨_, rfl⟩
  rw [← hhA]
  have hxA : Ext h hA := by rw [hhA]; exact (Ext.refl h).push _
  have hgA : hA.get h.nx = some (Ob.cells [V.int IntKind.i64 kd, V.int IntKind.i64 n, bo y] 37 false) := by rw [hhA]; exact push_eq rfl
  have hnA : hA.nx = h.nx + 1 := by rw [hhA]; rfl
  clear hhA
  have rA := r.ext hxA
  have hw8 : p.wts.length ≤ 800000 := by have h1 : p.wts.length ≤ 256 := G.wl; omega
  have hO : ∀ k, rowns D k → fresh h.nx (rowns D) k := fun k q => by rw [fresh_def]; exact .inr q
  refine callF_exact (pick_spec hS kd hA) ?_
  obtain ⟨kk, hkk⟩ : ∃ kk, kk = kd % 10 := ⟨_, rfl⟩
  rw [← hkk]
  by_cases k0 : kk = 0
  · have e : askF p kk n y = acquireF p n := by unfold askF; rw [if_pos k0]
    rw [e]
    simp +contextual (disch := first | simp only [fq]; done | omega | simp only [Knx]; omega) only [fV, reduceLE, reduceLT, reduceLeDiff, ↓reduceIte, reduceEqDiff, reduceAdd, reduceCtorEq, reduceToNat, Tryz.f8, hgA, k0, Int.reduceEq]
    refine callF_of (racquire_spec hS rA hm K hT G.wl n ⟨Int.add_nonneg G.nw.1 G.wt.1, by have h1 := G.nw.2; have h2 := G.wt.2; omega⟩) hO ?_
    rintro v h1 hR
    obtain ⟨mv, rfl⟩ := hR.form
    simp +contextual (disch := first | simp only [fq]; done | omega | simp only [Knx]; omega) only [fV, reduceLE, reduceLT, reduceLeDiff, ↓reduceIte, reduceEqDiff, reduceAdd, reduceCtorEq, reduceToNat, Tryz.f8, k0, Int.reduceEq]
    exact hR.lift r hxA
  by_cases k1 : kk = 1
  · have e : askF p kk n y = openedF p n y := by unfold askF; rw [if_neg k0, if_pos k1]
    rw [e]
    simp +contextual (disch := first | simp only [fq]; done | omega | simp only [Knx]; omega) only [fV, reduceLE, reduceLT, reduceLeDiff, ↓reduceIte, reduceEqDiff, reduceAdd, reduceCtorEq, reduceToNat, Tryz.f8, hgA, k1, Int.reduceEq]
    refine callF_of (ropened_spec hS rA hm K hw8 n y) hO ?_
    rintro v h1 hR
    obtain ⟨mv, rfl⟩ := hR.form
    simp +contextual (disch := first | simp only [fq]; done | omega | simp only [Knx]; omega) only [fV, reduceLE, reduceLT, reduceLeDiff, ↓reduceIte, reduceEqDiff, reduceAdd, reduceCtorEq, reduceToNat, Tryz.f8, k1, Int.reduceEq]
    exact hR.lift r hxA
  by_cases k2 : kk = 2
  · have e : askF p kk n y = releaseF p n := by unfold askF; rw [if_neg k0, if_neg k1, if_pos k2]
    rw [e]
    simp +contextual (disch := first | simp only [fq]; done | omega | simp only [Knx]; omega) only [fV, reduceLE, reduceLT, reduceLeDiff, ↓reduceIte, reduceEqDiff, reduceAdd, reduceCtorEq, reduceToNat, Tryz.f8, hgA, k2, Int.reduceEq]
    refine callF_of (rrelease_spec hS rA hm K hw8 n) hO ?_
    rintro v h1 hR
    obtain ⟨mv, rfl⟩ := hR.form
    simp +contextual (disch := first | simp only [fq]; done | omega | simp only [Knx]; omega) only [fV, reduceLE, reduceLT, reduceLeDiff, ↓reduceIte, reduceEqDiff, reduceAdd, reduceCtorEq, reduceToNat, Tryz.f8, k2, Int.reduceEq]
    exact hR.lift r hxA
  by_cases k3 : kk = 3
  · have e : askF p kk n y = resetF p n y := by unfold askF; rw [if_neg k0, if_neg k1, if_neg k2, if_pos k3]
    rw [e]
    simp +contextual (disch := first | simp only [fq]; done | omega | simp only [Knx]; omega) only [fV, reduceLE, reduceLT, reduceLeDiff, ↓reduceIte, reduceEqDiff, reduceAdd, reduceCtorEq, reduceToNat, Tryz.f8, hgA, k3, Int.reduceEq]
    refine callF_of (rreset_spec hS rA hm K hw8 n y) hO ?_
    rintro v h1 hR
    obtain ⟨mv, rfl⟩ := hR.form
    simp +contextual (disch := first | simp only [fq]; done | omega | simp only [Knx]; omega) only [fV, reduceLE, reduceLT, reduceLeDiff, ↓reduceIte, reduceEqDiff, reduceAdd, reduceCtorEq, reduceToNat, Tryz.f8, k3, Int.reduceEq]
    exact hR.lift r hxA
  by_cases k4 : kk = 4
  · have e : askF p kk n y = lostF p n := by unfold askF; rw [if_neg k0, if_neg k1, if_neg k2, if_neg k3, if_pos k4]
    rw [e]
    simp +contextual (disch := first | simp only [fq]; done | omega | simp only [Knx]; omega) only [fV, reduceLE, reduceLT, reduceLeDiff, ↓reduceIte, reduceEqDiff, reduceAdd, reduceCtorEq, reduceToNat, Tryz.f8, hgA, k4, Int.reduceEq]
    refine callF_of (rlost_spec hS rA K n) hO ?_
    rintro v h1 hR
    obtain ⟨mv, rfl⟩ := hR.form
    simp +contextual (disch := first | simp only [fq]; done | omega | simp only [Knx]; omega) only [fV, reduceLE, reduceLT, reduceLeDiff, ↓reduceIte, reduceEqDiff, reduceAdd, reduceCtorEq, reduceToNat, Tryz.f8, k4, Int.reduceEq]
    exact hR.lift r hxA
  by_cases k5 : kk = 5
  · have e : askF p kk n y = leaveF p n := by unfold askF; rw [if_neg k0, if_neg k1, if_neg k2, if_neg k3, if_neg k4, if_pos k5]
    rw [e]
    simp +contextual (disch := first | simp only [fq]; done | omega | simp only [Knx]; omega) only [fV, reduceLE, reduceLT, reduceLeDiff, ↓reduceIte, reduceEqDiff, reduceAdd, reduceCtorEq, reduceToNat, Tryz.f8, hgA, k5, Int.reduceEq]
    refine callF_of (rleave_spec hS rA hm K G.wl n) hO ?_
    rintro v h1 hR
    obtain ⟨mv, rfl⟩ := hR.form
    simp +contextual (disch := first | simp only [fq]; done | omega | simp only [Knx]; omega) only [fV, reduceLE, reduceLT, reduceLeDiff, ↓reduceIte, reduceEqDiff, reduceAdd, reduceCtorEq, reduceToNat, Tryz.f8, k5, Int.reduceEq]
    exact hR.lift r hxA
  by_cases k6 : kk = 6
  · have e : askF p kk n y = tickF p n := by unfold askF; rw [if_neg k0, if_neg k1, if_neg k2, if_neg k3, if_neg k4, if_neg k5, if_pos k6]
    rw [e]
    simp +contextual (disch := first | simp only [fq]; done | omega | simp only [Knx]; omega) only [fV, reduceLE, reduceLT, reduceLeDiff, ↓reduceIte, reduceEqDiff, reduceAdd, reduceCtorEq, reduceToNat, Tryz.f8, hgA, k6, Int.reduceEq]
    refine callF_of (rtick_spec hS rA hm K G.wl n ⟨G.nw.1, by have h1 := G.nw.2; omega⟩ G.sin) hO ?_
    rintro v h1 hR
    obtain ⟨mv, rfl⟩ := hR.form
    simp +contextual (disch := first | simp only [fq]; done | omega | simp only [Knx]; omega) only [fV, reduceLE, reduceLT, reduceLeDiff, ↓reduceIte, reduceEqDiff, reduceAdd, reduceCtorEq, reduceToNat, Tryz.f8, k6, Int.reduceEq]
    exact hR.lift r hxA
  by_cases k7 : kk = 7
  · have e : askF p kk n y = pauseF p y := by unfold askF; rw [if_neg k0, if_neg k1, if_neg k2, if_neg k3, if_neg k4, if_neg k5, if_neg k6, if_pos k7]
    rw [e]
    simp +contextual (disch := first | simp only [fq]; done | omega | simp only [Knx]; omega) only [fV, reduceLE, reduceLT, reduceLeDiff, ↓reduceIte, reduceEqDiff, reduceAdd, reduceCtorEq, reduceToNat, Tryz.f8, hgA, k7, Int.reduceEq]
    refine callF_of (rpause_spec hS rA K y) hO ?_
    rintro v h1 hR
    obtain ⟨mv, rfl⟩ := hR.form
    simp +contextual (disch := first | simp only [fq]; done | omega | simp only [Knx]; omega) only [fV, reduceLE, reduceLT, reduceLeDiff, ↓reduceIte, reduceEqDiff, reduceAdd, reduceCtorEq, reduceToNat, Tryz.f8, k7, Int.reduceEq]
    exact hR.lift r hxA
  by_cases k8 : kk = 8
  · have e : askF p kk n y = limitF p n := by unfold askF; rw [if_neg k0, if_neg k1, if_neg k2, if_neg k3, if_neg k4, if_neg k5, if_neg k6, if_neg k7, if_pos k8]
    rw [e]
    simp +contextual (disch := first | simp only [fq]; done | omega | simp only [Knx]; omega) only [fV, reduceLE, reduceLT, reduceLeDiff, ↓reduceIte, reduceEqDiff, reduceAdd, reduceCtorEq, reduceToNat, Tryz.f8, hgA, k8, Int.reduceEq]
    refine callF_of (rlimit_spec hS rA hm K G.wl n) hO ?_
    rintro v h1 hR
    obtain ⟨mv, rfl⟩ := hR.form
    simp +contextual (disch := first | simp only [fq]; done | omega | simp only [Knx]; omega) only [fV, reduceLE, reduceLT, reduceLeDiff, ↓reduceIte, reduceEqDiff, reduceAdd, reduceCtorEq, reduceToNat, Tryz.f8, k8, Int.reduceEq]
    exact hR.lift r hxA
  have e : askF p kk n y = closeF p := by unfold askF; rw [if_neg k0, if_neg k1, if_neg k2, if_neg k3, if_neg k4, if_neg k5, if_neg k6, if_neg k7, if_neg k8]
  rw [e]
  simp +contextual (disch := first | simp only [fq]; done | omega | simp only [Knx]; omega) only [fV, reduceLE, reduceLT, reduceLeDiff, ↓reduceIte, reduceEqDiff, reduceAdd, reduceCtorEq, reduceToNat, Tryz.f8, hgA, k0, k1, k2, k3, k4, k5, k6, k7, k8]
  refine callF_of (rclose_spec hS rA hm K G.wl) hO ?_
  rintro v h1 hR
  obtain ⟨mv, rfl⟩ := hR.form
  simp +contextual (disch := first | simp only [fq]; done | omega | simp only [Knx]; omega) only [fV, reduceLE, reduceLT, reduceLeDiff, ↓reduceIte, reduceEqDiff, reduceAdd, reduceCtorEq, reduceToNat, Tryz.f8, k0, k1, k2, k3, k4, k5, k6, k7, k8]
  exact hR.lift r hxA
end
noncomputable section
theorem mcells_drop : ∀ (l : List MV) (i : Nat), (mcells l).drop (i * 3) = mcells (l.drop i)
  | l, 0 => by simp
  | [], i + 1 => by simp [mcells]
  | w :: l, i + 1 => by
    have ih := mcells_drop l i
    rw [show (i + 1) * 3 = 3 + i * 3 by omega, List.drop_succ_cons, ← ih, show mcells (w :: l) = w.cells ++ mcells l from rfl, ← List.drop_drop]
    rfl
theorem mcells_at {l : List MV} {i : Nat} (hi : i < l.length) : ((mcells l).drop (i * 3)).take 3 = [.int .i64 l[i].kd, .int .i64 l[i].cn, .int .i64 l[i].cl] := by
  rw [mcells_drop, List.drop_eq_getElem_cons hi]
  rfl
theorem Lst.cnt {n0 n e sz : Nat} {h : H} {v : V} {cells : List V} (hl : Lst n0 h v cells e sz) (hn : cells.length = n * sz) (hs : 0 < sz) : lenO (some (.slice e)) v = some (.int .i64 n) := by
  rcases hl with (⟨rfl, hw⟩ | ⟨b, k, _, _, rfl, _, _, hk⟩) | ⟨hw, b, _, _, rfl, _⟩
  · rw [hw] at hn
    obtain rfl : n = 0 := Nat.eq_zero_of_not_pos fun q => by have := Nat.mul_pos q hs; simp at hn; omega
    rfl
  · obtain rfl : k = n := Nat.eq_of_mul_eq_mul_right hs (hk.symm.trans hn)
    rfl
  · rw [hw] at hn
    obtain rfl : n = 0 := Nat.eq_zero_of_not_pos fun q => by have := Nat.mul_pos q hs; simp at hn; omega
    rfl
theorem Lst.open {n0 n e sz : Nat} {h : H} {v : V} {cells : List V} (hl : Lst n0 h v cells e sz) (hn : cells.length = n * sz) (hs : 0 < sz) (h0 : 0 < n) : ∃ b, v = .slice b 0 n n ∧ b < h.nx ∧ h.get b = some (.cells cells e true) := by
  have hp := Nat.mul_pos h0 hs
  rcases hl with (⟨rfl, hw⟩ | ⟨b, k, _, h2, rfl, _, h5, hk⟩) | ⟨hw, b, _, _, rfl, _⟩
  · rw [hw] at hn; simp at hn; omega
  · obtain rfl : k = n := Nat.eq_of_mul_eq_mul_right hs (hk.symm.trans hn)
    exact ⟨b, rfl, h2, h5⟩
  · rw [hw] at hn; simp at hn; omega
theorem flat_same (k : IntKind) (a : Int) : eqFlat (.int k) (.int k a) (.int k a) = some true := by
  unfold eqFlat
  simp
def Look (h : H) (v : V) (cells : List V) (e n : Nat) : Prop := lenO (some (.slice e)) v = some (.int .i64 n) ∧ (0 < n → ∃ b, v = .slice b 0 n n ∧ b < h.nx ∧ h.get b = some (.cells cells e true))
theorem Look.of {n0 n e sz : Nat} {h : H} {v : V} {cells : List V} (hl : Lst n0 h v cells e sz) (hn : cells.length = n * sz) (hs : 0 < sz) : Look h v cells e n := ⟨Lst.cnt hl hn hs, Lst.open hl hn hs⟩
theorem Look.keep {n e : Nat} {h h' : H} {v : V} {cells : List V} (x : Look h v cells e n) (hx : h.nx ≤ h'.nx) (hk : ∀ b, 0 < n → v = .slice b 0 n n → h.get b = some (.cells cells e true) → h'.get b = h.get b) : Look h' v cells e n := ⟨x.1, fun h0 => by
  obtain ⟨b, h1, h2, h3⟩ := x.2 h0
  exact ⟨b, h1, Nat.lt_of_lt_of_le h2 hx, by rw [hk b h0 h1 h3]; exact h3⟩⟩
def CmI (n : Nat) (v w : V) (h0 : H) (m : Nat) (env : Env) (h' : H) : Prop := ∃ i, m = n - i ∧ i ≤ n ∧ env 0 = v ∧ env 1 = w ∧ env 5 = .int .i64 (i : Nat) ∧ h' = h0
theorem neq_smv (q : Bool) (a b c : Int) : binV Tryz.prog .neq 63 q (.agg [.int .i64 a, .int .i64 b, .int .i64 c]) (.agg [.int .i64 a, .int .i64 b, .int .i64 c]) = some (.bool false) := by
  have e : binV Tryz.prog .neq 63 q (.agg [.int .i64 a, .int .i64 b, .int .i64 c]) (.agg [.int .i64 a, .int .i64 b, .int .i64 c]) = (match eqFlat (.int .i64) (.int .i64 a) (.int .i64 a) with
    | some true => (match eqFlat (.int .i64) (.int .i64 b) (.int .i64 b) with
    | some true => (match eqFlat (.int .i64) (.int .i64 c) (.int .i64 c) with
      | some true => some true
      | r => r)
    | r => r)
    | r => r).map fun b => V.bool (!b) := by kernel_rfl
  rw [e]
  simp only [flat_same]
  rfl
theorem neq_scn (q : Bool) (a b c d : Int) : binV Tryz.prog .neq 65 q (.agg [.int .i64 a, .int .i64 b, .int .i64 c, .int .i64 d]) (.agg [.int .i64 a, .int .i64 b, .int .i64 c, .int .i64 d]) = some (.bool false) := by
  have e : binV Tryz.prog .neq 65 q (.agg [.int .i64 a, .int .i64 b, .int .i64 c, .int .i64 d]) (.agg [.int .i64 a, .int .i64 b, .int .i64 c, .int .i64 d]) = (match eqFlat (.int .i64) (.int .i64 a) (.int .i64 a) with
    | some true => (match eqFlat (.int .i64) (.int .i64 b) (.int .i64 b) with
    | some true => (match eqFlat (.int .i64) (.int .i64 c) (.int .i64 c) with
    | some true => (match eqFlat (.int .i64) (.int .i64 d) (.int .i64 d) with
      | some true => some true
      | r => r)
    | r => r)
    | r => r)
    | r => r).map fun b => V.bool (!b) := by kernel_rfl
  rw [e]
  simp only [flat_same]
  rfl
theorem neq_swt (q : Bool) (a b : Int) : binV Tryz.prog .neq 70 q (.agg [.int .i64 a, .int .i64 b]) (.agg [.int .i64 a, .int .i64 b]) = some (.bool false) := by
  have e : binV Tryz.prog .neq 70 q (.agg [.int .i64 a, .int .i64 b]) (.agg [.int .i64 a, .int .i64 b]) = (match eqFlat (.int .i64) (.int .i64 a) (.int .i64 a) with
    | some true => (match eqFlat (.int .i64) (.int .i64 b) (.int .i64 b) with
      | some true => some true
      | r => r)
    | r => r).map fun b => V.bool (!b) := by kernel_rfl
  rw [e]
  simp only [flat_same]
  rfl
variable {S : Set0} (hS : StdP S)
include hS
theorem cmp_mv {h : H} {v w : V} {l : List MV} (hv : Look h v (mcells l) 63 l.length) (hw : Look h w (mcells l) 63 l.length) (hl : l.length ≤ 4611686018427387904) : Exact S.cfg 9 [v, w] h (bo True) := by
  refine into Tryz.f9 _ Tryz.func9 (hS.ownP _ (by decide)) rfl rfl (by kernel_rfl) (by kernel_rfl) ?_
  have hn := mcells_len l
  have c0 := hv.1
  have c1 := hw.1
  simp +contextual (disch := first | simp only [fq]; done | omega | simp only [Knx]; omega) only [fV, reduceLE, reduceLT, reduceLeDiff, ↓reduceIte, reduceEqDiff, reduceAdd, reduceCtorEq, reduceToNat, Tryz.f9, c0, c1]
  refine run_loop (CmI l.length v w h) l.length ⟨0, (Nat.sub_zero _).symm, Nat.zero_le _, rfl, rfl, rfl, rfl⟩ ?_
  rintro m env h1 ⟨i, rfl, hi, e0, e1, e5, rfl⟩
  by_cases hlt : i < l.length
  · obtain ⟨b, rfl, hb, hg⟩ := hv.2 (by omega)
    obtain ⟨b2, rfl, hb2, hg2⟩ := hw.2 (by omega)
    have x0 : i * 3 + 3 ≤ (mcells l).length := by omega
    have x1 := mcells_at hlt
    have hwi : IntKind.i64.wrap ((i : Int) + 1) = ((i + 1 : Nat) : Int) := by rw [i64_in _ (by omega)]; omega
    simp +contextual (disch := first | simp only [fq]; done | omega | simp only [Knx]; omega) only [wpyr, fW, reduceLE, reduceLT, reduceLeDiff, ↓reduceIte, reduceEqDiff, reduceAdd, reduceCtorEq, reduceToNat, Tryz.f9, e0, e5, c0, hlt]
    refine cond_yes (p := True) rfl trivial ?_
    simp +contextual (disch := first | simp only [fq]; done | omega | simp only [Knx]; omega) only [wpyr, fW, reduceLE, reduceLT, reduceLeDiff, ↓reduceIte, reduceEqDiff, reduceAdd, reduceCtorEq, reduceToNat, Tryz.f9]
    refine draw_by [] (by kernel_rfl) ?_
    simp +contextual (disch := first | simp only [fq]; done | omega | simp only [Knx]; omega) only [fV, reduceLE, reduceLT, reduceLeDiff, ↓reduceIte, reduceEqDiff, reduceAdd, reduceCtorEq, reduceToNat, Tryz.f9, e0, e1, e5, hlt, hg, hg2, x0, x1, neq_smv]
    exact ⟨fun p hp => (by cases hp), l.length - (i + 1), by omega, i + 1, rfl, hlt, e0, e1, by simp +contextual (disch := first | simp only [fq]; done | omega | simp only [Knx]; omega) only [fV, reduceLE, reduceLT, reduceLeDiff, ↓reduceIte, reduceEqDiff, reduceAdd, reduceCtorEq, reduceToNat, hwi], rfl⟩
  · simp +contextual (disch := first | simp only [fq]; done | omega | simp only [Knx]; omega) only [fV, reduceLE, reduceLT, reduceLeDiff, ↓reduceIte, reduceEqDiff, reduceAdd, reduceCtorEq, reduceToNat, Tryz.f9, e0, e1, e5, c0, hlt]
theorem cmp_cn {h : H} {v w : V} {l : List PC} (hv : Look h v (pccells l) 65 l.length) (hw : Look h w (pccells l) 65 l.length) (hl : l.length ≤ 4611686018427387904) : Exact S.cfg 10 [v, w] h (bo True) := by
  refine into Tryz.f10 _ Tryz.func10 (hS.ownP _ (by decide)) rfl rfl (by kernel_rfl) (by kernel_rfl) ?_
  have hn := pccells_len l
  have c0 := hv.1
  have c1 := hw.1
  simp +contextual (disch := first | simp only [fq]; done | omega | simp only [Knx]; omega) only [fV, reduceLE, reduceLT, reduceLeDiff, ↓reduceIte, reduceEqDiff, reduceAdd, reduceCtorEq, reduceToNat, Tryz.f10, c0, c1]
  refine run_loop (CmI l.length v w h) l.length ⟨0, (Nat.sub_zero _).symm, Nat.zero_le _, rfl, rfl, rfl, rfl⟩ ?_
  rintro m env h1 ⟨i, rfl, hi, e0, e1, e5, rfl⟩
  by_cases hlt : i < l.length
  · obtain ⟨b, rfl, hb, hg⟩ := hv.2 (by omega)
    obtain ⟨b2, rfl, hb2, hg2⟩ := hw.2 (by omega)
    have x0 : i * 4 + 4 ≤ (pccells l).length := by omega
    have x1 := pccells_at hlt
    have hwi : IntKind.i64.wrap ((i : Int) + 1) = ((i + 1 : Nat) : Int) := by rw [i64_in _ (by omega)]; omega
    simp +contextual (disch := first | simp only [fq]; done | omega | simp only [Knx]; omega) only [wpyr, fW, reduceLE, reduceLT, reduceLeDiff, ↓reduceIte, reduceEqDiff, reduceAdd, reduceCtorEq, reduceToNat, Tryz.f10, e0, e5, c0, hlt]
    refine cond_yes (p := True) rfl trivial ?_
    simp +contextual (disch := first | simp only [fq]; done | omega | simp only [Knx]; omega) only [wpyr, fW, reduceLE, reduceLT, reduceLeDiff, ↓reduceIte, reduceEqDiff, reduceAdd, reduceCtorEq, reduceToNat, Tryz.f10]
    refine draw_by [] (by kernel_rfl) ?_
    simp +contextual (disch := first | simp only [fq]; done | omega | simp only [Knx]; omega) only [fV, reduceLE, reduceLT, reduceLeDiff, ↓reduceIte, reduceEqDiff, reduceAdd, reduceCtorEq, reduceToNat, Tryz.f10, e0, e1, e5, hlt, hg, hg2, x0, x1, neq_scn]
    exact ⟨fun p hp => (by cases hp), l.length - (i + 1), by omega, i + 1, rfl, hlt, e0, e1, by simp +contextual (disch := first | simp only [fq]; done | omega | simp only [Knx]; omega) only [fV, reduceLE, reduceLT, reduceLeDiff, ↓reduceIte, reduceEqDiff, reduceAdd, reduceCtorEq, reduceToNat, hwi], rfl⟩
  · simp +contextual (disch := first | simp only [fq]; done | omega | simp only [Knx]; omega) only [fV, reduceLE, reduceLT, reduceLeDiff, ↓reduceIte, reduceEqDiff, reduceAdd, reduceCtorEq, reduceToNat, Tryz.f10, e0, e1, e5, c0, hlt]
theorem cmp_wt {h : H} {v w : V} {l : List WT} (hv : Look h v (wtcells l) 70 l.length) (hw : Look h w (wtcells l) 70 l.length) (hl : l.length ≤ 4611686018427387904) : Exact S.cfg 13 [v, w] h (bo True) := by
  refine into Tryz.f13 _ Tryz.func13 (hS.ownP _ (by decide)) rfl rfl (by kernel_rfl) (by kernel_rfl) ?_
  have hn := wtcells_len l
  have c0 := hv.1
  have c1 := hw.1
  simp +contextual (disch := first | simp only [fq]; done | omega | simp only [Knx]; omega) only [fV, reduceLE, reduceLT, reduceLeDiff, ↓reduceIte, reduceEqDiff, reduceAdd, reduceCtorEq, reduceToNat, Tryz.f13, c0, c1]
  refine run_loop (CmI l.length v w h) l.length ⟨0, (Nat.sub_zero _).symm, Nat.zero_le _, rfl, rfl, rfl, rfl⟩ ?_
  rintro m env h1 ⟨i, rfl, hi, e0, e1, e5, rfl⟩
  by_cases hlt : i < l.length
  · obtain ⟨b, rfl, hb, hg⟩ := hv.2 (by omega)
    obtain ⟨b2, rfl, hb2, hg2⟩ := hw.2 (by omega)
    have x0 : i * 2 + 2 ≤ (wtcells l).length := by omega
    have x1 := (show ((wtcells l).drop (i * 2)).take 2 = [.int .i64 l[i].cl, .int .i64 l[i].til] from wtcells_at hlt)
    have hwi : IntKind.i64.wrap ((i : Int) + 1) = ((i + 1 : Nat) : Int) := by rw [i64_in _ (by omega)]; omega
    simp +contextual (disch := first | simp only [fq]; done | omega | simp only [Knx]; omega) only [wpyr, fW, reduceLE, reduceLT, reduceLeDiff, ↓reduceIte, reduceEqDiff, reduceAdd, reduceCtorEq, reduceToNat, Tryz.f13, e0, e5, c0, hlt]
    refine cond_yes (p := True) rfl trivial ?_
    simp +contextual (disch := first | simp only [fq]; done | omega | simp only [Knx]; omega) only [wpyr, fW, reduceLE, reduceLT, reduceLeDiff, ↓reduceIte, reduceEqDiff, reduceAdd, reduceCtorEq, reduceToNat, Tryz.f13]
    refine draw_by [] (by kernel_rfl) ?_
    simp +contextual (disch := first | simp only [fq]; done | omega | simp only [Knx]; omega) only [fV, reduceLE, reduceLT, reduceLeDiff, ↓reduceIte, reduceEqDiff, reduceAdd, reduceCtorEq, reduceToNat, Tryz.f13, e0, e1, e5, hlt, hg, hg2, x0, x1, neq_swt]
    exact ⟨fun p hp => (by cases hp), l.length - (i + 1), by omega, i + 1, rfl, hlt, e0, e1, by simp +contextual (disch := first | simp only [fq]; done | omega | simp only [Knx]; omega) only [fV, reduceLE, reduceLT, reduceLeDiff, ↓reduceIte, reduceEqDiff, reduceAdd, reduceCtorEq, reduceToNat, hwi], rfl⟩
  · simp +contextual (disch := first | simp only [fq]; done | omega | simp only [Knx]; omega) only [fV, reduceLE, reduceLT, reduceLeDiff, ↓reduceIte, reduceEqDiff, reduceAdd, reduceCtorEq, reduceToNat, Tryz.f13, e0, e1, e5, c0, hlt]
end
noncomputable section
theorem pool_nil (b : Nat) : binV Tryz.prog .eql 26 (constO (.tmp 33) || constO (.const (Value.pointer none))) (.ptr b 0) .nilptr = some (.bool false) := by kernel_rfl
theorem ref_nil (b : Nat) : binV Tryz.prog .eql 30 (constO (.tmp 35) || constO (.const (Value.pointer none))) (.ptr b 0) .nilptr = some (.bool false) := by kernel_rfl
theorem ref_nil2 (b : Nat) : binV Tryz.prog .eql 30 (constO (.tmp 39) || constO (.const (Value.pointer none))) (.ptr b 0) .nilptr = some (.bool false) := by kernel_rfl
theorem neq_bo (q : Bool) (p : Prop) : binV Tryz.prog .neq 4 q (bo p) (bo p) = some (bo False) := by
  have e : ∀ b : Bool, binV Tryz.prog .neq 4 q (.bool b) (.bool b) = some (.bool false) := by
    intro b
    cases b <;> kernel_rfl
  unfold bo
  rw [e]
  simp
theorem cn_pc (l : List CN) : cncells l = pccells (l.map CN.pc) := by
  induction l with
  | nil => rfl
  | cons c l ih => show CN.cells c ++ cncells l = PC.cells c.pc ++ pccells (l.map CN.pc); rw [ih]; rfl
def Sep (R : RD) (D : PD) (P : PS) : Prop := ∀ k, rowns R k → ¬ owns D P k ∧ ∀ o n m, D.wv ≠ .slice k o n m
theorem Look.not_ref {R : RD} {p : PL} {h : H} {n : Nat} {b : Nat} {ms : List MV} (r : RR R p h) (hm : p.moves = []) (h0 : 0 < ms.length) (hg : h.get b = some (.cells (mcells ms) 63 true)) : ¬ rowns R b := by
  have hl := mcells_len ms
  rintro (rfl | ⟨o, n, m, q⟩ | ⟨o, n, m, q⟩ | ⟨o, n, m, q⟩)
  · have := r.pool; rw [hg] at this; simp at this
  · obtain ⟨_, c, fl, g⟩ := Lst.ty r.clst q; rw [hg] at g; simp at g
  · obtain ⟨_, c, fl, g⟩ := r.wts.lt q; rw [hg] at g; simp at g
  · have hr := r.mvs
    rw [hm] at hr
    rcases hr with (⟨q1, _⟩ | ⟨b', k, _, _, q1, hk, _, hc⟩) | ⟨_, b', _, _, q1, g⟩
    · rw [q1] at q; cases q
    · have : (mcells []).length = 0 := rfl
      omega
    · rw [q1] at q; cases q
      rw [hg] at g
      have := congrArg (fun x : Option Ob => match x with | some (.cells c _ _) => c.length | _ => 0) g
      simp only [List.length_nil] at this
      omega
def ScO (al : List ACT) (lv : V) (h0 : H) (m : Nat) (env : Env) (h' : H) : Prop :=
  ∃ (i : Nat) (D : PD) (P : PS) (R : RD), m = al.length - i ∧ i ≤ al.length ∧ env 1 = lv ∧ env 5 = .ptr D.b 0 ∧ env 7 = .ptr R.b 0 ∧ env 9 = .int .i64 i ∧ PR D P h' ∧ RR R P.pl h' ∧ P.moves = [] ∧ Bds (i : Int) P ∧ Gw ((i : Int) * 1048576) P.pl ∧ Wo P.pl ∧ Sep R D P ∧ (∀ k, owns D P k → h0.nx ≤ k) ∧ (∀ k, rowns R k → h0.nx ≤ k) ∧ Ext h0 h'
variable {S : Set0} (hS : StdP S)
include hS
theorem script_law (a b c : Int) (al : List ACT) (lv : V) (h : H) (ha : ARow h lv al) (hl : al.length < 2 ^ 63) : Pure S.cfg 3 [.agg [.int .i64 a, .int .i64 b, .int .i64 c], lv] h fun v _ => v = .bool true := by
  refine into Tryz.f3 _ Tryz.func3 (hS.ownP _ (by decide)) rfl rfl (by kernel_rfl) (by kernel_rfl) ?_
  simp +contextual (disch := first | simp only [fq]; done | omega | simp only [Knx]; omega) only [fV, reduceLE, reduceLT, reduceLeDiff, ↓reduceIte, reduceEqDiff, reduceAdd, reduceCtorEq, reduceToNat, Tryz.f3]
  obtain ⟨hA, hhA⟩ : ∃ hA, hA = h.push (Ob.cells [V.int IntKind.i64 a, V.int IntKind.i64 b, V.int IntKind.i64 c] 23 false) := ⟨_, rfl⟩
  rw [← hhA]
  have hxA : Ext h hA := by rw [hhA]; exact (Ext.refl h).push _
  have hgA : hA.get h.nx = some (Ob.cells [V.int IntKind.i64 a, V.int IntKind.i64 b, V.int IntKind.i64 c] 23 false) := by rw [hhA]; exact push_eq rfl
  have hnA : hA.nx = h.nx + 1 := by rw [hhA]; rfl
  clear hhA
  have haA := ha.ext hxA
  have hlenA := haA.len
  refine callF_exact (hS.lives hA) ?_
  by_cases hlen : 400 < al.length
  · simp +contextual (disch := first | simp only [fq]; done | omega | simp only [Knx]; omega) only [fV, reduceLE, reduceLT, reduceLeDiff, ↓reduceIte, reduceEqDiff, reduceAdd, reduceCtorEq, reduceToNat, Tryz.f3, hlenA, hlen]
    exact hxA
  simp +contextual (disch := first | simp only [fq]; done | omega | simp only [Knx]; omega) only [fV, reduceLE, reduceLT, reduceLeDiff, ↓reduceIte, reduceEqDiff, reduceAdd, reduceCtorEq, reduceToNat, Tryz.f3, hgA, hlenA, hlen]
  refine callF_pure (new_spec hS a b c hA) ?_
  rintro v h1 hx1 hnew
  have hg1 : h1.get h.nx = some (Ob.cells [V.int IntKind.i64 a, V.int IntKind.i64 b, V.int IntKind.i64 c] 23 false) := by rw [hx1.2 _ (by omega)]; exact hgA
  have hn1 := hx1.1
  rcases hnew with ⟨hbad, rfl⟩ | ⟨hok, D0, hDb, rfl, r0, ho0⟩
  · simp +contextual (disch := first | simp only [fq]; done | omega | simp only [Knx]; omega) only [fV, reduceLE, reduceLT, reduceLeDiff, ↓reduceIte, reduceEqDiff, reduceAdd, reduceCtorEq, reduceToNat, Tryz.f3, hg1]
    refine callF_pure (rnew_spec hS a b c h1) ?_
    rintro v h2 hx2 (⟨_, rfl⟩ | ⟨hok, _⟩)
    · simp +contextual (disch := first | simp only [fq]; done | omega | simp only [Knx]; omega) only [fV, reduceLE, reduceLT, reduceLeDiff, ↓reduceIte, reduceEqDiff, reduceAdd, reduceCtorEq, reduceToNat, Tryz.f3, neq_bo]
      exact (hxA.trans hx1).trans hx2
    · exact absurd hok hbad
  · simp +contextual (disch := first | simp only [fq]; done | omega | simp only [Knx]; omega) only [fV, reduceLE, reduceLT, reduceLeDiff, ↓reduceIte, reduceEqDiff, reduceAdd, reduceCtorEq, reduceToNat, Tryz.f3, hg1]
    refine callF_pure (rnew_spec hS a b c h1) ?_
    rintro v h2 hx2 (⟨hbad, _⟩ | ⟨_, R0, hRb, rfl, rr0, hr0⟩)
    · exact absurd hok hbad
    have hn2 := hx2.1
    simp +contextual (disch := first | simp only [fq]; done | omega | simp only [Knx]; omega) only [fV, reduceLE, reduceLT, reduceLeDiff, ↓reduceIte, reduceEqDiff, reduceAdd, reduceCtorEq, reduceToNat, Tryz.f3, pool_nil, ref_nil, ref_nil2, neq_bo]
    have hq1 := hok.1
    have hq2 := hok.2.1
    have r2 := r0.ext hx2
    refine run_loop (ScO al lv hA) al.length ⟨0, D0, P0 a b c, R0, (Nat.sub_zero _).symm, Nat.zero_le _, rfl, rfl, rfl, rfl, r2, rr0, rfl, ⟨hq1.2, fun c hc => (by cases hc), Int.le_refl _, Int.le_refl _, by decide, Nat.zero_le _⟩, ⟨Nat.zero_le _, fun c hc => (by cases hc), ⟨Int.le_refl _, Int.le_refl _⟩, ⟨by have := hq2.1; show 0 ≤ b; omega, hq2.2⟩⟩, ⟨fun w hw => (by cases hw), List.nodup_nil⟩, fun k q => ⟨fun q2 => by have := hr0 k q; have := owns_lt r0 q2; omega, fun o n m q2 => by have := hr0 k q; have := r0.wts.lt q2; omega⟩, ho0, fun k q => by have := hr0 k q; omega, hx1.trans hx2⟩ ?_
    rintro m env h3 ⟨i, D, P, R, rfl, hi, e1, e5, e7, e9, r, rr, hm, B, G, W, hsep, hown, hrown, hx3⟩
    have ha3 := haA.ext hx3
    have hlen3 := ha3.len
    have hn3 := hx3.1
    by_cases hlt : i < al.length
    · obtain ⟨rb, rm, rfl, hrb, hrg⟩ := haA.opened (by omega)
      have hrg3 : h3.get rb = some (.ro (acells al)) := by rw [hx3.2 _ hrb]; exact hrg
      have hal := acells_len al
      have x0 : i * 3 + 3 ≤ (acells al).length := by omega
      have x1 := acells_at hlt
      have hwi : IntKind.i64.wrap ((i : Int) + 1) = ((i + 1 : Nat) : Int) := by rw [i64_in _ (by omega)]; omega
      have hii : (i : Int) * 1048576 + 1048576 = ((i + 1 : Nat) : Int) * 1048576 := by omega
      have hK := Rk.of r B W
      have G5 := G.ask (al[i].kd % 10) al[i].n al[i].y
      rw [hii] at G5
      have W5 := W.ask (al[i].kd % 10) al[i].n al[i].y
      have hmv := ask_moves (p := P.pl) hm G.wl (by show (P.conns.map CN.pc).length ≤ _; rw [List.length_map]; exact r.few) (al[i].kd % 10) al[i].n al[i].y
      simp +contextual (disch := first | simp only [fq]; done | omega | simp only [Knx]; omega) only [fV, reduceLE, reduceLT, reduceLeDiff, ↓reduceIte, reduceEqDiff, reduceAdd, reduceCtorEq, reduceToNat, Tryz.f3, e1, e5, e7, e9, hlt, hrg3, x0, x1]
      refine callF_of (call_spec hS r hm B (by omega) G (by omega) al[i].kd al[i].n al[i].y) (fun k q => by rw [fresh_def]; have := hown k q; exact .inl (by omega)) ?_
      have hask := fun (h4 : H) (r4 : RR R P.pl h4) => rask_spec hS r4 hm hK (by omega) G (by omega) al[i].kd al[i].n al[i].y
      obtain ⟨Q, hQ⟩ : ∃ Q, Q = askF P.pl (al[i].kd % 10) al[i].n al[i].y := ⟨_, rfl⟩
      rw [← hQ] at hask G5 W5 hmv ⊢
      rintro v h4 ⟨D4, P4, mv, rfl, st4, hpl, hm4, hL4, hmv4, B4⟩
      have r4 := st4.pr
      have hn4 := st4.nx
      have rr4 : RR R P.pl h4 := rr.keep hn4 fun k q => st4.same k (rowns_lt rr q) (hsep k q).1
      have hs4 : ∀ k, k < hA.nx → h4.get k = h3.get k := fun k hk => st4.same k (by omega) (fun q => by have := hown k q; omega)
      have hrg4 : h4.get rb = some (.ro (acells al)) := by rw [hs4 _ hrb]; exact hrg3
      have o4 : ∀ k, owns D4 P4 k → ¬ rowns R k := fun k q q2 => (st4.own k q).elim (hsep k q2).1 fun w => by have := rowns_lt rr q2; omega
      have w4 : ∀ k o n m, D4.wv = .slice k o n m → ¬ rowns R k := fun k o n m q q2 => (st4.wvk k o n m q).elim (fun ⟨o, n, m, q3⟩ => (hsep k q2).2 o n m q3) fun w => by have := rowns_lt rr q2; omega
      have L4 := Look.of hL4 (mcells_len Q.2.1) (by decide)
      simp +contextual (disch := first | simp only [fq]; done | omega | simp only [Knx]; omega) only [fV, reduceLE, reduceLT, reduceLeDiff, ↓reduceIte, reduceEqDiff, reduceAdd, reduceCtorEq, reduceToNat, Tryz.f3, e1, e5, e7, e9, hlt, hrg4, x0, x1]
      refine callF_of (hask h4 rr4) (fun k q => by rw [fresh_def]; have := hrown k q; exact .inl (by omega)) ?_
      rintro v h5 ⟨R5, mv5, rfl, st5, hL5, hmv5⟩
      rw [← hpl] at st5 G5 W5
      have rr5 := st5.rr
      have hn5 := st5.nx
      have r5 : PR D4 P4 h5 := r4.keep hn5 (fun k q => st5.same k (owns_lt r4 q) (o4 k q)) fun k o n m q => st5.same k (r4.wts.lt q) (w4 k o n m q)
      have L5 := Look.of hL5 (mcells_len Q.2.1) (by decide)
      have L45 : Look h5 mv (mcells Q.2.1) 63 Q.2.1.length := L4.keep hn5 fun b h0 q hg => by
        obtain ⟨b', q', hb', _⟩ := L4.2 h0
        rw [q] at q'
        cases q'
        exact st5.same b hb' (Look.not_ref (n := 0) rr4 hm h0 hg)
      have hs5 : ∀ k, k < hA.nx → h5.get k = h4.get k := fun k hk => st5.same k (by omega) (fun q => by have := hrown k q; omega)
      simp +contextual (disch := first | simp only [fq]; done | omega | simp only [Knx]; omega) only [fV, reduceLE, reduceLT, reduceLeDiff, ↓reduceIte, reduceEqDiff, reduceAdd, reduceCtorEq, reduceToNat, Tryz.f3, e1, e5, e7, e9]
      refine callF_exact (cmp_mv hS L45 L5 (by omega)) ?_
      have eb4 := st4.b
      have eb5 := st5.b
      simp +contextual (disch := first | simp only [fq]; done | omega | simp only [Knx]; omega) only [fV, reduceLE, reduceLT, reduceLeDiff, ↓reduceIte, reduceEqDiff, reduceAdd, reduceCtorEq, reduceToNat, Tryz.f3, e1, e5, e7, e9]
      rw [← eb4]
      refine callF_pure (conns_spec hS r5) ?_
      intro cv h6 hx6 hL6
      simp +contextual (disch := first | simp only [fq]; done | omega | simp only [Knx]; omega) only [fV, reduceLE, reduceLT, reduceLeDiff, ↓reduceIte, reduceEqDiff, reduceAdd, reduceCtorEq, reduceToNat, Tryz.f3, e1, e5, e7, e9]
      rw [← eb5]
      have rr6 := rr5.ext hx6
      have r6 := r5.ext hx6
      refine callF_pure (rconns_spec hS rr6) ?_
      intro cv7 h7 hx7 hL7
      simp +contextual (disch := first | simp only [fq]; done | omega | simp only [Knx]; omega) only [fV, reduceLE, reduceLT, reduceLeDiff, ↓reduceIte, reduceEqDiff, reduceAdd, reduceCtorEq, reduceToNat, Tryz.f3, e1, e5, e7, e9]
      have hL67 := hL6.ext hx7
      rw [cn_pc] at hL67
      have hcl : P4.pl.conns.length ≤ 1000 := rr5.few
      refine callF_exact (cmp_cn hS (l := P4.pl.conns) (Look.of hL67 (pccells_len _) (by decide)) (Look.of hL7 (pccells_len _) (by decide)) (by omega)) ?_
      have r7 := r6.ext hx7
      have rr7 := rr6.ext hx7
      have hwl : P4.wts.length ≤ 256 := G5.wl
      have hwl' : P4.pl.wts.length ≤ 256 := G5.wl
      simp +contextual (disch := first | simp only [fq]; done | omega | simp only [Knx]; omega) only [fV, reduceLE, reduceLT, reduceLeDiff, ↓reduceIte, reduceEqDiff, reduceAdd, reduceCtorEq, reduceToNat, Tryz.f3, e1, e5, e7, e9]
      rw [← eb4]
      refine callF_pure (waiters_spec hS r7 (by omega)) ?_
      intro wv h8 hx8 hL8
      have r8 := r7.ext hx8
      have rr8 := rr7.ext hx8
      simp +contextual (disch := first | simp only [fq]; done | omega | simp only [Knx]; omega) only [fV, reduceLE, reduceLT, reduceLeDiff, ↓reduceIte, reduceEqDiff, reduceAdd, reduceCtorEq, reduceToNat, Tryz.f3, e1, e5, e7, e9]
      rw [← eb5]
      refine callF_pure (rwaiters_spec hS rr8 (by omega)) ?_
      intro wv9 h9 hx9 hL9
      have r9 := r8.ext hx9
      have rr9 := rr8.ext hx9
      simp +contextual (disch := first | simp only [fq]; done | omega | simp only [Knx]; omega) only [fV, reduceLE, reduceLT, reduceLeDiff, ↓reduceIte, reduceEqDiff, reduceAdd, reduceCtorEq, reduceToNat, Tryz.f3, e1, e5, e7, e9]
      refine callF_exact (cmp_wt hS (l := P4.wts) (Look.of (hL8.ext hx9) (wtcells_len _) (by decide)) (Look.of hL9 (wtcells_len _) (by decide)) (by omega)) ?_
      simp +contextual (disch := first | simp only [fq]; done | omega | simp only [Knx]; omega) only [fV, reduceLE, reduceLT, reduceLeDiff, ↓reduceIte, reduceEqDiff, reduceAdd, reduceCtorEq, reduceToNat, Tryz.f3, e1, e5, e7, e9]
      rw [← eb4]
      refine callF_exact (now_spec hS r9) ?_
      simp +contextual (disch := first | simp only [fq]; done | omega | simp only [Knx]; omega) only [fV, reduceLE, reduceLT, reduceLeDiff, ↓reduceIte, reduceEqDiff, reduceAdd, reduceCtorEq, reduceToNat, Tryz.f3, e1, e5, e7, e9]
      rw [← eb5]
      have hnw9 := rnow_spec hS rr9
      have enw : P4.pl.now = P4.now := rfl
      rw [enw] at hnw9
      refine callF_exact hnw9 ?_
      simp +contextual (disch := first | simp only [fq]; done | omega | simp only [Knx]; omega) only [fV, reduceLE, reduceLT, reduceLeDiff, ↓reduceIte, reduceEqDiff, reduceAdd, reduceCtorEq, reduceToNat, Tryz.f3, e1, e5, e7, e9]
      rw [← eb4]
      refine callF_exact (closed_spec hS r9) ?_
      simp +contextual (disch := first | simp only [fq]; done | omega | simp only [Knx]; omega) only [fV, reduceLE, reduceLT, reduceLeDiff, ↓reduceIte, reduceEqDiff, reduceAdd, reduceCtorEq, reduceToNat, Tryz.f3, e1, e5, e7, e9]
      rw [← eb5]
      have hcl9 := rclosed_spec hS rr9
      have ecl : P4.pl.closed = P4.closed := rfl
      rw [ecl] at hcl9
      refine callF_exact hcl9 ?_
      simp +contextual (disch := first | simp only [fq]; done | omega | simp only [Knx]; omega) only [fV, reduceLE, reduceLT, reduceLeDiff, ↓reduceIte, reduceEqDiff, reduceAdd, reduceCtorEq, reduceToNat, Tryz.f3, e1, e5, e7, e9, neq_bo]
      have hx59 : Ext h5 h9 := ((hx6.trans hx7).trans hx8).trans hx9
      have hn9 := hx59.1
      have hx09 : Ext hA h9 := ⟨by omega, fun k hk => by rw [hx59.2 k (by omega), hs5 k hk, hs4 k hk]; exact hx3.2 k hk⟩
      exact ⟨al.length - (i + 1), by omega, i + 1, D4, P4, R5, rfl, hlt, e1, by simp +contextual (disch := first | simp only [fq]; done | omega | simp only [Knx]; omega) only [fV, reduceLE, reduceLT, reduceLeDiff, ↓reduceIte, reduceEqDiff, reduceAdd, reduceCtorEq, reduceToNat, e5, eb4], by simp +contextual (disch := first | simp only [fq]; done | omega | simp only [Knx]; omega) only [fV, reduceLE, reduceLT, reduceLeDiff, ↓reduceIte, reduceEqDiff, reduceAdd, reduceCtorEq, reduceToNat, e7, eb5], by simp +contextual (disch := first | simp only [fq]; done | omega | simp only [Knx]; omega) only [fV, reduceLE, reduceLT, reduceLeDiff, ↓reduceIte, reduceEqDiff, reduceAdd, reduceCtorEq, reduceToNat, hwi], r9, rr9, hm4, B4, G5, W5, fun k q => (st5.own k q).elim (fun q1 => ⟨fun q2 => o4 k q2 q1, fun o n m q2 => w4 k o n m q2 q1⟩) (fun q1 => ⟨fun q2 => by have := owns_lt r4 q2; omega, fun o n m q2 => by have := r4.wts.lt q2; omega⟩), fun k q => (st4.own k q).elim (hown k) (fun q1 => by omega), fun k q => (st5.own k q).elim (hrown k) (fun q1 => by omega), hx09⟩
    · simp +contextual (disch := first | simp only [fq]; done | omega | simp only [Knx]; omega) only [fV, reduceLE, reduceLT, reduceLeDiff, ↓reduceIte, reduceEqDiff, reduceAdd, reduceCtorEq, reduceToNat, Tryz.f3, e1, e9, hlen3, hlt]
      exact hxA.trans hx3
end
end Go.Proofs.YtbebdlmldogcmaaGreat
set_option maxRecDepth 100000
namespace Go.Proofs.YtbebdlmldogcmaaGreat.glue
open Go.Proofs Go.Shelf Go.ChangeShapes Go.WideShapes Go.ChangeAt Go.RowKit Go.Lx
theorem own : ownKnob Tryz.prog.godebug = none := by kernel_rfl
theorem laidOut : laidOutB Tryz.prog = true := by kernel_rfl
theorem mixed : Tryz.prog.follows .mixedOrders = true := Checked.mixed Tryz.checked
noncomputable def ρ : Go.Shelf.Ren := ⟨fun n => match n with | 6 => 72 | 8 => 80 | 9 => 81 | 10 => 82 | 11 => 84 | _ => 0, fun n => match n with | 0 => 0 | 3 => 68 | 4 => 4 | 23 => 53 | 24 => 88 | 26 => 3 | 28 => 91 | 33 => 72 | _ => 0, fun n => n⟩
theorem lay : KeyLay Tryz.prog ρ .i64 8 where
  mixed := mixed
  f6 := ⟨ "slices.Sorted[int]", by kernel_rfl, by kernel_rfl⟩
  f8 := ⟨ "slices.Collect[int]", by kernel_rfl, by kernel_rfl⟩
  f10 := ⟨ "maps.Keys[map[int]*sluicegate/api.Conn,int,*sluicegate/api.Conn]$1", by kernel_rfl, by kernel_rfl⟩
  f11 := ⟨ "slices.AppendSeq[[]int,int]", by kernel_rfl, by kernel_rfl⟩
  t0 := by kernel_rfl
  a0 := fun w => by kernel_rfl
  z0 := fun w => by kernel_rfl
  v0 := fun w => by kernel_rfl
  t4 := by kernel_rfl
  a4 := fun w => by kernel_rfl
  z4 := fun w => by kernel_rfl
  v4 := fun w => by kernel_rfl
  t23 := by kernel_rfl
  a23 := fun w => by kernel_rfl
  z23 := fun w => by kernel_rfl
  v23 := fun w => by kernel_rfl
  t24 := by kernel_rfl
  a24 := fun w => by kernel_rfl
  z24 := fun w => by kernel_rfl
  v24 := fun w => by kernel_rfl
  t26 := by kernel_rfl
  a26 := fun w => by kernel_rfl
  z26 := fun w => by kernel_rfl
  v26 := fun w => by kernel_rfl
  t28 := by kernel_rfl
  a28 := fun w => by kernel_rfl
  z28 := fun w => by kernel_rfl
  v28 := fun w => by kernel_rfl
  t33 := by kernel_rfl
  a33 := fun w => by kernel_rfl
  z33 := fun w => by kernel_rfl
  v33 := fun w => by kernel_rfl
  i26 := by kernel_rfl
noncomputable section
noncomputable def base : Set0 := { exts := [] }
theorem base_ok (lf : Nat) : SumOk (base.cfg.at lf) := sumOk_none _ rfl
theorem baseS : StdS base where
  ownS := fun _ _ => rfl
theorem e9 : Go.Proofs.Enters Tryz.prog (ρ.f 9) := Go.Proofs.enters_of Tryz.func81 (by kernel_rfl) (by first | rfl | kernel_rfl)
theorem e6 : Go.Proofs.Enters Tryz.prog (ρ.f 6) := Go.Proofs.enters_of Tryz.func72 (by kernel_rfl) (by first | rfl | kernel_rfl)
theorem eL : Go.Proofs.Enters Tryz.prog 4 := Go.Proofs.enters_of Tryz.func4 (by kernel_rfl) (by first | rfl | kernel_rfl)
noncomputable def cfg0 : Cfg := { P := Tryz.prog, lf := 100000, gl := .leaf, sum := fun _ => none }
noncomputable def cfg1 : Cfg := { P := Tryz.prog, lf := 100000, gl := .leaf, sum := sums [(72, sortedM cfg0 41 82 81 .i64 3)] }
theorem cfg1_ok : SumOk cfg1 := by
  refine sumOk_list _ [(72, sortedM cfg0 41 82 81 .i64 3)] rfl ?_
  intro p hp
  rw [List.mem_singleton] at hp
  subst hp
  exact extSum_sorted cfg0 mixed (sumOk_none _ rfl) rfl lay rfl (by kernel_rfl) e9 e6 (by decide) (n := 40) (by kernel_rfl) .leaf
theorem livesRun : yes (callM cfg1 100 4 [] st0) = true := by kernel_rfl
noncomputable def st : Set0 := { exts := [(72, sortedMG (base.cfg.at 100000) 41 82 81 .i64 3), (4, constTrue)] }
theorem st_ok (lf : Nat) : SumOk (st.cfg.at lf) := by
  refine sumOk_list _ [(72, sortedMG (base.cfg.at 100000) 41 82 81 .i64 3), (4, constTrue)] rfl ?_
  intro p hp
  rcases List.mem_cons.1 hp with rfl | hp
  · exact extSum_sortedG (base.cfg.at 100000) mixed (base_ok 100000) rfl lay rfl (by kernel_rfl) e9 e6 (by decide) (n := 40) (by kernel_rfl) (sorts baseS) (fun lf => base_ok lf) .leaf
  rw [List.mem_singleton] at hp
  subst hp
  exact extSum_true cfg1 mixed cfg1_ok livesRun rfl eL rfl
open Go.Wx in
theorem std : StdP st where
  ownS := by
    repeat (refine List.forall_mem_cons.2 ⟨rfl, ?_⟩)
    intro f hf
    cases hf
  ownP := by
    repeat (refine List.forall_mem_cons.2 ⟨rfl, ?_⟩)
    intro f hf
    cases hf
  srt := ⟨_, _, rfl⟩
  lives := fun h => callW_sum (s := h.st) (g := constTrue) rfl (Nice.ret _) rfl LogOk_nil ⟨rfl, rfl⟩
open Go.Wx in
theorem wf_row (c : List V) : WF (T.leaf.set 0 (some (Ob.ro c))) 1 := by
  intro k hk
  rw [T.get_set] at hk
  split at hk
  · omega
  · exact absurd rfl hk
theorem und23 : isStructD (Tryz.prog.underlying 23) = true := by kernel_rfl
theorem und24 : Tryz.prog.underlying 24 = some (.slice 37) := by kernel_rfl
theorem und3 : Tryz.prog.underlying 3 = some (.int .i64) := by kernel_rfl
theorem und4 : Tryz.prog.underlying 4 = some .bool := by kernel_rfl
theorem cells23 : Tryz.prog.cellsOf 23 = 3 := by kernel_rfl
theorem cells37 : Tryz.prog.cellsOf 37 = 3 := by kernel_rfl
theorem cells3 : Tryz.prog.cellsOf 3 = 1 := by kernel_rfl
theorem cells4 : Tryz.prog.cellsOf 4 = 1 := by kernel_rfl
noncomputable def fieldsAre (d : Option TypeDesc) (ts : List (TypeId × Nat)) : Bool := match d with
  | some (.struct fs) => fs.toList.map (fun f => (f.type, f.offset)) == ts
  | _ => false
theorem fields23 : fieldsAre (Tryz.prog.underlying 23) [(3, 0), (3, 1), (3, 2)] = true := by kernel_rfl
theorem fields37 : fieldsAre (Tryz.prog.underlying 37) [(3, 0), (3, 1), (4, 2)] = true := by kernel_rfl
theorem fieldsAre_ok {d : Option TypeDesc} {ts : List (TypeId × Nat)} (h : fieldsAre d ts = true) : ∃ fs, d = some (.struct fs) ∧ ∀ p ∈ ts, ∃ f ∈ fs.toList, f.type = p.1 ∧ f.offset = p.2 := by
  unfold fieldsAre at h
  cases d with
  | none => cases h
  | some d =>
    cases d <;> try (cases h; done)
    rename_i fs
    refine ⟨fs, rfl, fun p hp => ?_⟩
    have := eq_of_beq h
    rw [← this] at hp
    obtain ⟨f, hf, e⟩ := List.mem_map.1 hp
    exact ⟨f, hf, by rw [← e], by rw [← e]⟩
section
variable {H : Type} {enc : TypeId × Value → H} {w : World} {spare : Nat → Bool} {held : Bool}
theorem three {cs : List Value} (h : cs.length = 3) {P0 P1 P2 : List Value → Prop} (h0 : P0 ((cs.drop 0).take 1)) (h1 : P1 ((cs.drop 1).take 1)) (h2 : P2 ((cs.drop 2).take 1)) : ∃ a b c, cs = [a, b, c] ∧ P0 [a] ∧ P1 [b] ∧ P2 [c] := by
  match cs, h with
  | [a, b, c], _ => exact ⟨a, b, c, rfl, h0, h1, h2⟩
theorem setup_cells {fuel : Nat} {cs : List Value} {x : DataW H × List MemPlace} (h : DataW.trod enc Tryz.prog w 0 spare held fuel 23 cs = some x) : ∃ a b c, cs = [.int .i64 a, .int .i64 b, .int .i64 c] := by
  obtain ⟨fs, hu, hf⟩ := fieldsAre_ok fields23
  have hl := trod_struct_len hu h
  rw [cells23] at hl
  have get : ∀ o, ((3, o) : TypeId × Nat) ∈ [((3, 0) : TypeId × Nat), (3, 1), (3, 2)] → ∃ n, (cs.drop o).take 1 = [.int .i64 n] := fun o ho => by
    obtain ⟨f, hm, e1, e2⟩ := hf _ ho
    obtain ⟨y, hy⟩ := trod_field' hu hm h
    rw [e1, e2, cells3] at hy
    obtain ⟨n, hn, _⟩ := trod_int und3 hy
    exact ⟨n, hn⟩
  obtain ⟨a, b, c, rfl, h0, h1, h2⟩ := three hl (P0 := fun l => ∃ n, l = [.int .i64 n]) (P1 := fun l => ∃ n, l = [.int .i64 n]) (P2 := fun l => ∃ n, l = [.int .i64 n]) (get 0 (by simp)) (get 1 (by simp)) (get 2 (by simp))
  obtain ⟨n0, e0⟩ := h0
  obtain ⟨n1, e1⟩ := h1
  obtain ⟨n2, e2⟩ := h2
  cases e0; cases e1; cases e2
  exact ⟨n0, n1, n2, rfl⟩
def isAct (cs : List Value) : Prop := ∃ a b, ∃ c : Bool, cs = [.int .i64 a, .int .i64 b, .bool c]
theorem act_cells {fuel : Nat} {cs : List Value} {x : DataW H × List MemPlace} (h : DataW.trod enc Tryz.prog w 0 spare held fuel 37 cs = some x) : isAct cs := by
  obtain ⟨fs, hu, hf⟩ := fieldsAre_ok fields37
  have hl := trod_struct_len hu h
  rw [cells37] at hl
  have get : ∀ o, ((3, o) : TypeId × Nat) ∈ [((3, 0) : TypeId × Nat), (3, 1), (4, 2)] → ∃ n, (cs.drop o).take 1 = [.int .i64 n] := fun o ho => by
    obtain ⟨f, hm, e1, e2⟩ := hf _ ho
    obtain ⟨y, hy⟩ := trod_field' hu hm h
    rw [e1, e2, cells3] at hy
    obtain ⟨n, hn, _⟩ := trod_int und3 hy
    exact ⟨n, hn⟩
  have getb : ∃ n : Bool, (cs.drop 2).take 1 = [.bool n] := by
    obtain ⟨f, hm, e1, e2⟩ := hf (4, 2) (by simp)
    obtain ⟨y, hy⟩ := trod_field' hu hm h
    rw [e1, e2, cells4] at hy
    exact trod_bool und4 hy
  obtain ⟨a, b, c, rfl, h0, h1, h2⟩ := three hl (P0 := fun l => ∃ n, l = [.int .i64 n]) (P1 := fun l => ∃ n, l = [.int .i64 n]) (P2 := fun l => ∃ n : Bool, l = [.bool n]) (get 0 (by simp)) (get 1 (by simp)) getb
  obtain ⟨n0, e0⟩ := h0
  obtain ⟨n1, e1⟩ := h1
  obtain ⟨n2, e2⟩ := h2
  cases e0; cases e1; cases e2
  exact ⟨n0, n1, n2, rfl⟩
end
theorem acts_of : ∀ (rows : List (List Value)), (∀ r ∈ rows, r.length = 3 ∧ isAct r) → ∃ al : List ACT, al.length = rows.length ∧ ∀ (i : Nat) (v : V), (acells al)[i]? = some v → ∃ r, rows.flatten[i]? = some r ∧ ∀ μ ν, VRel μ ν v r
  | [], _ => ⟨[], rfl, fun i v h => by simp [acells] at h⟩
  | r :: rows, h => by
    obtain ⟨al, h1, h2⟩ := acts_of rows fun r hr => h r (.tail _ hr)
    obtain ⟨_, a, b, c, e⟩ := h r (.head _)
    refine ⟨⟨a, b, c = true⟩ :: al, by simp [h1], fun i v hi => ?_⟩
    subst e
    have e1 : acells (⟨a, b, c = true⟩ :: al) = [.int .i64 a, .int .i64 b, Go.Wx.bo (c = true)] ++ acells al := rfl
    rw [e1] at hi
    have e2 : ([Value.int .i64 a, Value.int .i64 b, Value.bool c] :: rows).flatten = [Value.int .i64 a, Value.int .i64 b, Value.bool c] ++ rows.flatten := rfl
    rw [e2]
    match i with
    | 0 => cases hi; exact ⟨_, rfl, fun μ ν => .int _ _⟩
    | 1 => cases hi; exact ⟨_, rfl, fun μ ν => .int _ _⟩
    | 2 =>
      have : Go.Wx.bo (c = true) = v := Option.some.inj hi
      rw [← this, ← Go.Wx.bo_bool]
      exact ⟨_, rfl, fun μ ν => .bool _⟩
    | i + 3 => exact h2 i v hi
theorem slice_arg {W : World} {base : Nat} {v : Value} (h : Value.okWide Tryz.prog W .any base 24 v) : v = .slice none 0 0 ∨ ∃ a len cap, v = .slice (some a) len cap ∧ len ≤ cap ∧ cap < 2 ^ 63 ∧ a.spot = none ∧ ∃ q, W.shape? a.block = some q := by
  unfold Value.okWide at h
  rw [und24] at h
  unfold Cell.okWide Cell.ok at h
  rw [und24] at h
  cases v <;> simp only [] at h <;> try (exact h.elim)
  rename_i ao len cap
  cases ao with
  | none =>
    left
    cases len <;> cases cap <;> first | rfl | exact h.elim
  | some a =>
    obtain ⟨w1, w2, _, w3, row, cells, w4, _⟩ := h
    exact .inr ⟨a, len, cap, rfl, w1, by have : IntKind.i64.max = 9223372036854775807 := rfl; omega, w3, _, w4⟩
open Go.Wx in
theorem walk {f : FuncId} (hsu : st.cfg.sum f = none) (hlaw : ∀ (a b c : Int) (al : List ACT) (lv : V) (h : H), ARow h lv al → al.length < 2 ^ 63 → Pure st.cfg f [.agg [.int .i64 a, .int .i64 b, .int .i64 c], lv] h fun v _ => v = .bool true) {H : Type} {enc : TypeId × Value → H} {spare : Nat → Bool} {held : Bool} {W : World} {base : Nat} {v0 v1 : Value} {d0 d1 : DataW H} {p0 p1 : List MemPlace} (hv0 : ∃ cs, v0 = .agg ⟨cs⟩) (hv1 : Value.okWide Tryz.prog W .any base 24 v1) (h0 : DataW.Trod enc Tryz.prog W 0 spare held 23 v0 d0 p0) (h1 : DataW.Trod enc Tryz.prog W 0 spare held 24 v1 d1 p1) : Calls Tryz.prog f #[v0, v1] W fun e W' => e = .returned (.bool true) ∧ Below W.heap.size W W' := by
  obtain ⟨cs, rfl⟩ := hv0
  obtain ⟨fuel0, h0⟩ := h0
  obtain ⟨fuel1, h1⟩ := h1
  obtain ⟨a, b, c, e⟩ := setup_cells h0
  have e : cs = [.int .i64 a, .int .i64 b, .int .i64 c] := e
  subst e
  rcases slice_arg hv1 with rfl | ⟨ad, len, cap, rfl, hlc, hcm, hsp, hsh⟩
  · obtain ⟨v, h', lf, k, l, hrun, _, rfl⟩ := callW_run (hlaw a b c [] .nilslice ⟨.leaf, 0⟩ (.inl ⟨rfl, rfl⟩) (by decide))
    exact law_calls_g (st.cfg.at lf) mixed (st_ok lf) (vs := [.agg [.int .i64 a, .int .i64 b, .int .i64 c], .nilslice]) (n := k) (by rw [show st0 = (⟨.leaf, 0, []⟩ : St) from rfl, hrun]; rfl) hsu (.cons (.agg (.cons (.int _ _) (.cons (.int _ _) (.cons (.int _ _) .nil)))) (.cons .nilslice .nil)) (ν := fun _ => undef) W Globs.none
  · obtain ⟨_, _, hel⟩ := trod_row und24 hsp h1
    rw [cells37] at hel
    obtain ⟨rows, rc, et, frz, hrl, hh, hrows, hfl⟩ := flat_row (sz := 3) (Q := isAct) hsh fun i hi => by
      obtain ⟨cs, y, h2, h3, h4⟩ := hel i hi
      exact ⟨cs, h3, act_cells h2, h4⟩
    obtain ⟨al, hal, hac⟩ := acts_of rows hrows
    rw [hrl] at hal
    subst hal
    obtain ⟨v, h', lf, k, l, hrun, _, rfl⟩ := callW_runH (h := ⟨T.leaf.set 0 (some (.ro (acells al))), 1⟩) (wf_row _) (hlaw a b c al (.slice 0 0 al.length cap) ⟨T.leaf.set 0 (some (.ro (acells al))), 1⟩ (.inr ⟨0, cap, rfl, Nat.one_pos, by show T.get _ 0 = _; rw [T.get_set, if_pos rfl]⟩) (by omega))
    refine law_calls_r (st.cfg.at lf) mixed (st_ok lf) (vs := [.agg [.int .i64 a, .int .i64 b, .int .i64 c], .slice 0 0 al.length cap]) (n := k) (ν := fun _ => undef) (μ := upd (fun _ => none) 0 ⟨ad.block, ad.off, false, 0, 0⟩) hrun hsu W ⟨fun j ob hk => ?_, fun j j' ob ob' q q' hk hk' hne => ?_⟩ (fun j hj => upd_ne _ _ (by have : 1 ≤ j := hj; omega)) (fun j q hk => ?_) (.cons (.agg (.cons (.int _ _) (.cons (.int _ _) (.cons (.int _ _) .nil)))) (.cons (.slice (upd_same _ _ _) hlc ?_) .nil)) Globs.none
    · rw [T.get_set] at hk
      split at hk
      · rename_i e0
        subst e0
        cases hk
        refine ⟨_, upd_same _ _ _, rfl, rc, et, frz, hh, fun i v hi => ?_⟩
        obtain ⟨r', q1, q2⟩ := hac i v hi
        exact ⟨r', hfl i r' q1, q2 _ _⟩
      · cases hk
    · rw [T.get_set] at hk hk'
      split at hk
      · split at hk'
        · omega
        · cases hk'
      · cases hk
    · by_cases h0 : j = 0
      · subst h0; exact ⟨_, by rw [T.get_set, if_pos rfl]⟩
      · rw [upd_ne _ _ h0] at hk; cases hk
    · refine .inr ⟨?_, .inl rfl⟩
      obtain ⟨ab, ao, asp⟩ := ad
      simp only at hsp
      subst hsp
      rfl
end
end Go.Proofs.YtbebdlmldogcmaaGreat.glue
