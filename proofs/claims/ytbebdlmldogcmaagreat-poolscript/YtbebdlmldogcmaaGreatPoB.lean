/-
  Several texts of one walk, joined.
-/
import Derived.Test.YtbebdlmldogcmaaGreatPoA
set_option linter.unusedSimpArgs false
set_option linter.unusedVariables false
set_option linter.unusedSectionVars false
set_option linter.defProp false
set_option maxRecDepth 10000
set_option maxHeartbeats 1000000
namespace Go.Proofs.YtbebdlmldogcmaaGreat
open Int (reduceLE reduceLT reduceToNat)
open Nat (reduceLeDiff reduceEqDiff reduceAdd)
open Go.Proofs Go.Lx Go.Wx Go.IntWalk
noncomputable section
theorem get_some {P : PS} {n : Int} {c : CN} (hf : findC P n = some c) : P.pl.get n = some c.pc := by rw [get_pl, hf]; rfl
theorem get_none {P : PS} {n : Int} (hf : findC P n = none) : P.pl.get n = none := by rw [get_pl, hf]; rfl
variable {S : Set0} (hS : StdP S)
include hS
theorem release_spec {T : Int} {D : PD} {P : PS} {h : H} (r : PR D P h) (hm : P.moves = []) (B : Bds T P) (hw : P.wts.length ≤ 800000) (n : Int) : callW S.cfg (owns D P) 27 [.ptr D.b 0, .int .i64 n] h (OpR T D P h (releaseF P.pl n)) := by
  refine into Tryz.f27 _ Tryz.func27 (hS.ownP _ (by decide)) rfl rfl (by kernel_rfl) (by kernel_rfl) ?_
  simp +contextual (disch := first | simp only [fq]; done | omega | simp only [Knx]; omega) only [fV, reduceLE, reduceLT, reduceLeDiff, ↓reduceIte, reduceEqDiff, reduceAdd, reduceCtorEq, reduceToNat, Tryz.f27]
  cases hf : findC P n with
  | none =>
    have e1 : releaseF P.pl n = (281, [], P.pl) := by unfold releaseF; rw [get_none hf]
    rw [e1]
    refine callF_exact (find_gone hS r 2 hf) ?_
    simp +contextual (disch := first | simp only [fq]; done | omega | simp only [Knx]; omega) only [fV, reduceLE, reduceLT, reduceLeDiff, ↓reduceIte, reduceEqDiff, reduceAdd, reduceCtorEq, reduceToNat, Tryz.f27, Int.reduceEq]
    exact OpR.bad r hm B 281
  | some c =>
    obtain ⟨hc, hcn⟩ := findC_mem hf
    have hp := r.pool
    unfold pcells at hp
    have g := r.conn c hc
    unfold CN.cells at g
    by_cases hst : c.st = 2
    · refine callF_exact (find_ok hS r (st := 2) hf (fun q => q.2 hst)) ?_
      have hst' : ¬ c.pc.st ≠ 2 := fun q => q hst
      have hml : P.moves.length ≤ 1000000 := by rw [hm]; exact Nat.zero_le _
      have hcl2 : (centries P.conns).length = P.conns.length := List.length_map ..
      have hlp : P.pl.conns.length = P.conns.length := List.length_map ..
      have closing : ∀ (K : V → H → Fp → Prop), (P.closed ∨ (P.conns.length : Int) > P.lim) → (∀ v h1 D1, Stp D P h D1 { P with conns := delC P.conns c.num, moves := P.moves ++ [⟨6, c.num, 0⟩] } h1 → K v h1 (.cl h.nx h1.nx (owns D P))) → callF S.cfg (fresh h.nx (owns D P)) 55 [.ptr D.b 0, .ptr c.blk 0] h K := fun K _ hK => callF_of (closes_spec hS r hc hml) (fun k q => by rw [fresh_def]; exact .inr q) fun v h1 ⟨D1, s1⟩ => hK v h1 D1 s1
      by_cases hcl : P.closed
      · have e1 : releaseF P.pl n = (serveF ((P.pl.del n).mov 6 n 0)).done := by
          unfold releaseF
          rw [get_some hf]
          simp only [if_neg hst', if_pos (show P.pl.closed ∨ _ from .inl hcl)]
        rw [e1]
        simp +contextual (disch := first | simp only [fq]; done | omega | simp only [Knx]; omega) only [wpyr, fW, reduceLE, reduceLT, reduceLeDiff, ↓reduceIte, reduceEqDiff, reduceAdd, reduceCtorEq, reduceToNat, Tryz.f27, Int.reduceEq]
        refine cond_no (p := False) rfl (fun q => q) ?_
        simp +contextual (disch := first | simp only [fq]; done | omega | simp only [Knx]; omega) only [wpyr, fW, reduceLE, reduceLT, reduceLeDiff, ↓reduceIte, reduceEqDiff, reduceAdd, reduceCtorEq, reduceToNat, Tryz.f27]
        refine draw_by [] (by kernel_rfl) ?_
        simp +contextual (disch := first | simp only [fq]; done | omega | simp only [Knx]; omega) only [fV, reduceLE, reduceLT, reduceLeDiff, ↓reduceIte, reduceEqDiff, reduceAdd, reduceCtorEq, reduceToNat, Tryz.f27, hp, hcl]
        refine ⟨fun p hp => by (cases hp), ?_⟩
        refine callF_of (closes_spec hS r hc hml) (fun k q => by rw [fresh_def]; exact .inr q) ?_
        rintro v h1 ⟨D1, s1⟩
        have eb1 := s1.b
        simp +contextual (disch := first | simp only [fq]; done | omega | simp only [Knx]; omega) only [fV, reduceLE, reduceLT, reduceLeDiff, ↓reduceIte, reduceEqDiff, reduceAdd, reduceCtorEq, reduceToNat, Tryz.f27]
        rw [← eb1]
        refine callF_of (serve_spec hS s1.pr ((B.sub c.num).mov hm hw 6 c.num 0)) (fun k q => by rw [fresh_def]; exact (s1.own k q).elim .inr .inl) ?_
        rintro v h2 ⟨D2, P2, s2, B2, e2⟩
        have s12 := s1.trans s2
        have eb := s2.b
        simp +contextual (disch := first | simp only [fq]; done | omega | simp only [Knx]; omega) only [fV, reduceLE, reduceLT, reduceLeDiff, ↓reduceIte, reduceEqDiff, reduceAdd, reduceCtorEq, reduceToNat, Tryz.f27]
        rw [← eb]
        refine told_end hS s12 B2 (fun k q => by rw [fresh_def]; exact (s12.own k q).elim .inr .inl) ?_
        rintro v3 h3 mv rfl hR
        simp +contextual (disch := first | simp only [fq]; done | omega | simp only [Knx]; omega) only [fV, reduceLE, reduceLT, reduceLeDiff, ↓reduceIte, reduceEqDiff, reduceAdd, reduceCtorEq, reduceToNat, Tryz.f27]
        have e3 : (({ P with conns := delC P.conns c.num, moves := P.moves ++ [⟨6, c.num, 0⟩] } : PS)).pl = (P.pl.del n).mov 6 n 0 := by
          rw [← hcn, ← del_pl]
          rfl
        rw [e2, e3] at hR
        exact hR
      · by_cases hlen : (P.conns.length : Int) > P.lim
        · have e1 : releaseF P.pl n = (serveF ((P.pl.del n).mov 6 n 0)).done := by
            unfold releaseF
            rw [get_some hf]
            simp only [if_neg hst', if_pos (show P.pl.closed ∨ (P.pl.conns.length : Int) > P.pl.lim from .inr (by rw [hlp]; exact hlen))]
          rw [e1]
          have hlen' : P.lim < (P.conns.length : Int) := hlen
          simp +contextual (disch := first | simp only [fq]; done | omega | simp only [Knx]; omega) only [wpyr, fW, reduceLE, reduceLT, reduceLeDiff, ↓reduceIte, reduceEqDiff, reduceAdd, reduceCtorEq, reduceToNat, Tryz.f27, Int.reduceEq]
          refine cond_no (p := False) rfl (fun q => q) ?_
          simp +contextual (disch := first | simp only [fq]; done | omega | simp only [Knx]; omega) only [wpyr, fW, reduceLE, reduceLT, reduceLeDiff, ↓reduceIte, reduceEqDiff, reduceAdd, reduceCtorEq, reduceToNat, Tryz.f27]
          refine draw_by [] (by kernel_rfl) ?_
          simp +contextual (disch := first | simp only [fq]; done | omega | simp only [Knx]; omega) only [wpyr, fW, reduceLE, reduceLT, reduceLeDiff, ↓reduceIte, reduceEqDiff, reduceAdd, reduceCtorEq, reduceToNat, Tryz.f27, hp, hcl]
          refine len_map (a := 3) (b := 68) (r := D.mb) (by kernel_rfl) rfl r.map ?_
          simp +contextual (disch := first | simp only [fq]; done | omega | simp only [Knx]; omega) only [fV, reduceLE, reduceLT, reduceLeDiff, ↓reduceIte, reduceEqDiff, reduceAdd, reduceCtorEq, reduceToNat, Tryz.f27, hp, hcl, hcl2, hlen']
          refine ⟨fun p hp => by (cases hp), ?_⟩
          refine callF_of (closes_spec hS r hc hml) (fun k q => by rw [fresh_def]; exact .inr q) ?_
          rintro v h1 ⟨D1, s1⟩
          have eb1 := s1.b
          simp +contextual (disch := first | simp only [fq]; done | omega | simp only [Knx]; omega) only [fV, reduceLE, reduceLT, reduceLeDiff, ↓reduceIte, reduceEqDiff, reduceAdd, reduceCtorEq, reduceToNat, Tryz.f27]
          rw [← eb1]
          refine callF_of (serve_spec hS s1.pr ((B.sub c.num).mov hm hw 6 c.num 0)) (fun k q => by rw [fresh_def]; exact (s1.own k q).elim .inr .inl) ?_
          rintro v h2 ⟨D2, P2, s2, B2, e2⟩
          have s12 := s1.trans s2
          have eb := s2.b
          simp +contextual (disch := first | simp only [fq]; done | omega | simp only [Knx]; omega) only [fV, reduceLE, reduceLT, reduceLeDiff, ↓reduceIte, reduceEqDiff, reduceAdd, reduceCtorEq, reduceToNat, Tryz.f27]
          rw [← eb]
          refine told_end hS s12 B2 (fun k q => by rw [fresh_def]; exact (s12.own k q).elim .inr .inl) ?_
          rintro v3 h3 mv rfl hR
          simp +contextual (disch := first | simp only [fq]; done | omega | simp only [Knx]; omega) only [fV, reduceLE, reduceLT, reduceLeDiff, ↓reduceIte, reduceEqDiff, reduceAdd, reduceCtorEq, reduceToNat, Tryz.f27]
          have e3 : (({ P with conns := delC P.conns c.num, moves := P.moves ++ [⟨6, c.num, 0⟩] } : PS)).pl = (P.pl.del n).mov 6 n 0 := by
            rw [← hcn, ← del_pl]
            rfl
          rw [e2, e3] at hR
          exact hR
        · have e1 : releaseF P.pl n = ((P.pl.set n ⟨n, 3, c.cl, c.since⟩).mov 5 n 0).done := by
            unfold releaseF
            rw [get_some hf]
            simp only [if_neg hst', if_neg (show ¬ (P.pl.closed ∨ (P.pl.conns.length : Int) > P.pl.lim) from fun q => q.elim hcl (fun q => hlen (by rw [hlp] at q; exact q)))]
            rfl
          rw [e1]
          have hlen' : ¬ P.lim < (P.conns.length : Int) := hlen
          simp +contextual (disch := first | simp only [fq]; done | omega | simp only [Knx]; omega) only [wpyr, fW, reduceLE, reduceLT, reduceLeDiff, ↓reduceIte, reduceEqDiff, reduceAdd, reduceCtorEq, reduceToNat, Tryz.f27, Int.reduceEq]
          refine cond_no (p := False) rfl (fun q => q) ?_
          simp +contextual (disch := first | simp only [fq]; done | omega | simp only [Knx]; omega) only [wpyr, fW, reduceLE, reduceLT, reduceLeDiff, ↓reduceIte, reduceEqDiff, reduceAdd, reduceCtorEq, reduceToNat, Tryz.f27]
          refine draw_by [] (by kernel_rfl) ?_
          simp +contextual (disch := first | simp only [fq]; done | omega | simp only [Knx]; omega) only [wpyr, fW, reduceLE, reduceLT, reduceLeDiff, ↓reduceIte, reduceEqDiff, reduceAdd, reduceCtorEq, reduceToNat, Tryz.f27, hp, hcl]
          refine len_map (a := 3) (b := 68) (r := D.mb) (by kernel_rfl) rfl r.map ?_
          have s1 := Stp.setc r hc ⟨c.num, 3, c.cl, c.since⟩ rfl
          simp +contextual (disch := first | simp only [fq]; done | omega | simp only [Knx]; omega) only [fV, reduceLE, reduceLT, reduceLeDiff, ↓reduceIte, reduceEqDiff, reduceAdd, reduceCtorEq, reduceToNat, Tryz.f27, hp, hcl, hcl2, hlen', g]
          refine ⟨fun p hp => by (cases hp), .inr (.inr (.inr (.inr (.inl ⟨c, hc, rfl⟩)))), ?_⟩
          refine callF_of (move_spec hS s1.pr 5 n 0 hml) (fun k q => by rw [fresh_def]; exact (s1.own k q).elim .inr .inl) ?_
          rintro v h2 ⟨mv, s2⟩
          have s12 := s1.trans s2
          simp +contextual (disch := first | simp only [fq]; done | omega | simp only [Knx]; omega) only [fV, reduceLE, reduceLT, reduceLeDiff, ↓reduceIte, reduceEqDiff, reduceAdd, reduceCtorEq, reduceToNat, Tryz.f27]
          refine told_end hS s12 ((B.set _ _).mov hm hw _ _ _) (fun k q => by rw [fresh_def]; exact (s12.own k q).elim .inr .inl) ?_
          rintro v3 h3 mv3 rfl hR
          simp +contextual (disch := first | simp only [fq]; done | omega | simp only [Knx]; omega) only [fV, reduceLE, reduceLT, reduceLeDiff, ↓reduceIte, reduceEqDiff, reduceAdd, reduceCtorEq, reduceToNat, Tryz.f27]
          have e2 := set_pl P c.num ⟨c.num, 3, c.cl, c.since⟩
          rw [hcn] at e2
          rw [mov_pl, hcn, e2] at hR
          exact hR
    · have e1 : releaseF P.pl n = (282, [], P.pl) := by
        unfold releaseF
        rw [get_some hf]
        simp only [if_pos (show c.pc.st ≠ 2 from hst)]
      rw [e1]
      refine callF_exact (find_bad hS r (st := 2) hf ⟨by decide, hst⟩) ?_
      simp +contextual (disch := first | simp only [fq]; done | omega | simp only [Knx]; omega) only [fV, reduceLE, reduceLT, reduceLeDiff, ↓reduceIte, reduceEqDiff, reduceAdd, reduceCtorEq, reduceToNat, Tryz.f27, Int.reduceEq]
      exact OpR.bad r hm B 282
end
noncomputable section
theorem setC_setC (l : List CN) (n : Int) (a b : PC) : setC (setC l n a) n b = setC l n b := by
  unfold setC
  rw [List.map_map]
  refine List.map_congr_left fun x _ => ?_
  by_cases e : x.num = n
  · simp only [Function.comp, if_pos e]
  · simp only [Function.comp, if_neg e]
theorem setC_in {l : List CN} {c : CN} (hc : c ∈ l) (c' : PC) : ({ c with st := c'.st, cl := c'.cl, since := c'.since } : CN) ∈ setC l c.num c' := List.mem_map.2 ⟨c, hc, if_pos rfl⟩
variable {S : Set0} (hS : StdP S)
include hS
theorem reset_spec {T : Int} {D : PD} {P : PS} {h : H} (r : PR D P h) (hm : P.moves = []) (B : Bds T P) (hw : P.wts.length ≤ 800000) (n : Int) (ok : Prop) : callW S.cfg (owns D P) 28 [.ptr D.b 0, .int .i64 n, bo ok] h (OpR T D P h (resetF P.pl n ok)) := by
  refine into Tryz.f28 _ Tryz.func28 (hS.ownP _ (by decide)) rfl rfl (by kernel_rfl) (by kernel_rfl) ?_
  simp +contextual (disch := first | simp only [fq]; done | omega | simp only [Knx]; omega) only [fV, reduceLE, reduceLT, reduceLeDiff, ↓reduceIte, reduceEqDiff, reduceAdd, reduceCtorEq, reduceToNat, Tryz.f28]
  cases hf : findC P n with
  | none =>
    have e1 : resetF P.pl n ok = (281, [], P.pl) := by unfold resetF; rw [get_none hf]
    rw [e1]
    refine callF_exact (find_gone hS r 3 hf) ?_
    simp +contextual (disch := first | simp only [fq]; done | omega | simp only [Knx]; omega) only [fV, reduceLE, reduceLT, reduceLeDiff, ↓reduceIte, reduceEqDiff, reduceAdd, reduceCtorEq, reduceToNat, Tryz.f28, Int.reduceEq]
    exact OpR.bad r hm B 281
  | some c =>
    obtain ⟨hc, hcn⟩ := findC_mem hf
    have hp := r.pool
    unfold pcells at hp
    have g := r.conn c hc
    unfold CN.cells at g
    by_cases hst : c.st = 3
    · refine callF_exact (find_ok hS r (st := 3) hf (fun q => q.2 hst)) ?_
      have hst' : ¬ c.pc.st ≠ 3 := fun q => q hst
      have hml : P.moves.length ≤ 1000000 := by rw [hm]; exact Nat.zero_le _
      have hcl2 : (centries P.conns).length = P.conns.length := List.length_map ..
      have hlp : P.pl.conns.length = P.conns.length := List.length_map ..
      by_cases hgo : ok ∧ ¬ P.closed ∧ (P.conns.length : Int) ≤ P.lim
      · obtain ⟨ho, hcl, hlen⟩ := hgo
        have e1 : resetF P.pl n ok = (serveF (P.pl.set n ⟨n, 4, c.cl, P.now⟩)).done := by
          unfold resetF
          rw [get_some hf]
          simp only [if_neg hst', if_pos (show ok ∧ ¬ P.pl.closed ∧ (P.pl.conns.length : Int) ≤ P.pl.lim from ⟨ho, hcl, by rw [hlp]; exact hlen⟩)]
          rfl
        rw [e1]
        have s1 := Stp.setc r hc ⟨c.num, 4, c.cl, c.since⟩ rfl
        have hc1 := setC_in hc ⟨c.num, 4, c.cl, c.since⟩
        have s2 := Stp.setc s1.pr hc1 ⟨c.num, 4, c.cl, P.now⟩ rfl
        have s12 := s1.trans s2
        simp +contextual (disch := first | simp only [fq]; done | omega | simp only [Knx]; omega) only [wpyr, fW, reduceLE, reduceLT, reduceLeDiff, ↓reduceIte, reduceEqDiff, reduceAdd, reduceCtorEq, reduceToNat, Tryz.f28, Int.reduceEq]
        refine cond_no (p := False) rfl (fun q => q) ?_
        simp +contextual (disch := first | simp only [fq]; done | omega | simp only [Knx]; omega) only [wpyr, fW, reduceLE, reduceLT, reduceLeDiff, ↓reduceIte, reduceEqDiff, reduceAdd, reduceCtorEq, reduceToNat, Tryz.f28]
        refine draw_by [] (by kernel_rfl) ?_
        simp +contextual (disch := first | simp only [fq]; done | omega | simp only [Knx]; omega) only [wpyr, fW, reduceLE, reduceLT, reduceLeDiff, ↓reduceIte, reduceEqDiff, reduceAdd, reduceCtorEq, reduceToNat, Tryz.f28, hp, hcl, ho]
        refine len_map (a := 3) (b := 68) (r := D.mb) (by kernel_rfl) rfl r.map ?_
        have hbc : ¬ D.b = c.blk := Ne.symm (r.cb c hc).1
        simp +contextual (disch := first | simp only [fq]; done | omega | simp only [Knx]; omega) only [fV, reduceLE, reduceLT, reduceLeDiff, ↓reduceIte, reduceEqDiff, reduceAdd, reduceCtorEq, reduceToNat, Tryz.f28, hp, hcl, ho, hcl2, hlen, g, hbc]
        refine ⟨fun p hp => by (cases hp), .inr (.inr (.inr (.inr (.inl ⟨c, hc, rfl⟩)))), .inr (.inr (.inr (.inr (.inl ⟨c, hc, rfl⟩)))), ?_⟩
        refine callF_of (serve_spec hS s12.pr ((B.set _ _).set _ _)) (fun k q => by rw [fresh_def]; exact (s12.own k q).elim .inr .inl) ?_
        rintro v h3 ⟨D3, P3, s3, B3, e3⟩
        have s13 := s12.trans s3
        have eb := s3.b
        simp +contextual (disch := first | simp only [fq]; done | omega | simp only [Knx]; omega) only [fV, reduceLE, reduceLT, reduceLeDiff, ↓reduceIte, reduceEqDiff, reduceAdd, reduceCtorEq, reduceToNat, Tryz.f28]
        rw [← eb]
        refine told_end hS s13 B3 (fun k q => by rw [fresh_def]; exact (s13.own k q).elim .inr .inl) ?_
        rintro v4 h4 mv rfl hR
        simp +contextual (disch := first | simp only [fq]; done | omega | simp only [Knx]; omega) only [fV, reduceLE, reduceLT, reduceLeDiff, ↓reduceIte, reduceEqDiff, reduceAdd, reduceCtorEq, reduceToNat, Tryz.f28]
        have e4 : (({ P with conns := setC (setC P.conns c.num ⟨c.num, 4, c.cl, c.since⟩) c.num ⟨c.num, 4, c.cl, P.now⟩ } : PS)).pl = P.pl.set n ⟨n, 4, c.cl, P.now⟩ := by
          rw [setC_setC, set_pl, hcn]
        rw [e3, show PS.pl _ = _ from e4] at hR
        exact hR
      · have e1 : resetF P.pl n ok = (serveF ((P.pl.del n).mov 6 n 0)).done := by
          unfold resetF
          rw [get_some hf]
          simp only [if_neg hst', if_neg (show ¬ (ok ∧ ¬ P.pl.closed ∧ (P.pl.conns.length : Int) ≤ P.pl.lim) from fun q => hgo ⟨q.1, q.2.1, by rw [← hlp]; exact q.2.2⟩)]
        rw [e1]
        have tail : ∀ (K : V → H → Fp → Prop), (∀ v h1 D1, Stp D P h D1 { P with conns := delC P.conns c.num, moves := P.moves ++ [⟨6, c.num, 0⟩] } h1 → K v h1 (.cl h.nx h1.nx (owns D P))) → callF S.cfg (fresh h.nx (owns D P)) 55 [.ptr D.b 0, .ptr c.blk 0] h K := fun K hK => callF_of (closes_spec hS r hc hml) (fun k q => by rw [fresh_def]; exact .inr q) fun v h1 ⟨D1, s1⟩ => hK v h1 D1 s1
        have e5 : (({ P with conns := delC P.conns c.num, moves := P.moves ++ [⟨6, c.num, 0⟩] } : PS)).pl = (P.pl.del n).mov 6 n 0 := by
          rw [← hcn, ← del_pl]
          rfl
        simp +contextual (disch := first | simp only [fq]; done | omega | simp only [Knx]; omega) only [wpyr, fW, reduceLE, reduceLT, reduceLeDiff, ↓reduceIte, reduceEqDiff, reduceAdd, reduceCtorEq, reduceToNat, Tryz.f28, Int.reduceEq]
        refine cond_no (p := False) rfl (fun q => q) ?_
        simp +contextual (disch := first | simp only [fq]; done | omega | simp only [Knx]; omega) only [wpyr, fW, reduceLE, reduceLT, reduceLeDiff, ↓reduceIte, reduceEqDiff, reduceAdd, reduceCtorEq, reduceToNat, Tryz.f28]
        refine draw_by [] (by kernel_rfl) ?_
        by_cases ho : ok
        · by_cases hcl : P.closed
          · simp +contextual (disch := first | simp only [fq]; done | omega | simp only [Knx]; omega) only [fV, reduceLE, reduceLT, reduceLeDiff, ↓reduceIte, reduceEqDiff, reduceAdd, reduceCtorEq, reduceToNat, Tryz.f28, hp, hcl, ho]
            refine ⟨fun p hp => by (cases hp), tail _ fun v h1 D1 s1 => ?_⟩
            have eb1 := s1.b
            simp +contextual (disch := first | simp only [fq]; done | omega | simp only [Knx]; omega) only [fV, reduceLE, reduceLT, reduceLeDiff, ↓reduceIte, reduceEqDiff, reduceAdd, reduceCtorEq, reduceToNat, Tryz.f28]
            rw [← eb1]
            refine callF_of (serve_spec hS s1.pr ((B.sub c.num).mov hm hw 6 c.num 0)) (fun k q => by rw [fresh_def]; exact (s1.own k q).elim .inr .inl) ?_
            rintro v h2 ⟨D2, P2, s2, B2, e2⟩
            have s12 := s1.trans s2
            have eb := s2.b
            simp +contextual (disch := first | simp only [fq]; done | omega | simp only [Knx]; omega) only [fV, reduceLE, reduceLT, reduceLeDiff, ↓reduceIte, reduceEqDiff, reduceAdd, reduceCtorEq, reduceToNat, Tryz.f28]
            rw [← eb]
            refine told_end hS s12 B2 (fun k q => by rw [fresh_def]; exact (s12.own k q).elim .inr .inl) ?_
            rintro v3 h3 mv rfl hR
            simp +contextual (disch := first | simp only [fq]; done | omega | simp only [Knx]; omega) only [fV, reduceLE, reduceLT, reduceLeDiff, ↓reduceIte, reduceEqDiff, reduceAdd, reduceCtorEq, reduceToNat, Tryz.f28]
            rw [e2, e5] at hR
            exact hR
          · have hlen : ¬ (P.conns.length : Int) ≤ P.lim := fun q => hgo ⟨ho, hcl, q⟩
            simp +contextual (disch := first | simp only [fq]; done | omega | simp only [Knx]; omega) only [wpyr, fW, reduceLE, reduceLT, reduceLeDiff, ↓reduceIte, reduceEqDiff, reduceAdd, reduceCtorEq, reduceToNat, Tryz.f28, hp, hcl, ho]
            refine len_map (a := 3) (b := 68) (r := D.mb) (by kernel_rfl) rfl r.map ?_
            simp +contextual (disch := first | simp only [fq]; done | omega | simp only [Knx]; omega) only [fV, reduceLE, reduceLT, reduceLeDiff, ↓reduceIte, reduceEqDiff, reduceAdd, reduceCtorEq, reduceToNat, Tryz.f28, hp, hcl, ho, hcl2, hlen]
            refine ⟨fun p hp => by (cases hp), tail _ fun v h1 D1 s1 => ?_⟩
            have eb1 := s1.b
            simp +contextual (disch := first | simp only [fq]; done | omega | simp only [Knx]; omega) only [fV, reduceLE, reduceLT, reduceLeDiff, ↓reduceIte, reduceEqDiff, reduceAdd, reduceCtorEq, reduceToNat, Tryz.f28]
            rw [← eb1]
            refine callF_of (serve_spec hS s1.pr ((B.sub c.num).mov hm hw 6 c.num 0)) (fun k q => by rw [fresh_def]; exact (s1.own k q).elim .inr .inl) ?_
            rintro v h2 ⟨D2, P2, s2, B2, e2⟩
            have s12 := s1.trans s2
            have eb := s2.b
            simp +contextual (disch := first | simp only [fq]; done | omega | simp only [Knx]; omega) only [fV, reduceLE, reduceLT, reduceLeDiff, ↓reduceIte, reduceEqDiff, reduceAdd, reduceCtorEq, reduceToNat, Tryz.f28]
            rw [← eb]
            refine told_end hS s12 B2 (fun k q => by rw [fresh_def]; exact (s12.own k q).elim .inr .inl) ?_
            rintro v3 h3 mv rfl hR
            simp +contextual (disch := first | simp only [fq]; done | omega | simp only [Knx]; omega) only [fV, reduceLE, reduceLT, reduceLeDiff, ↓reduceIte, reduceEqDiff, reduceAdd, reduceCtorEq, reduceToNat, Tryz.f28]
            rw [e2, e5] at hR
            exact hR
        · simp +contextual (disch := first | simp only [fq]; done | omega | simp only [Knx]; omega) only [fV, reduceLE, reduceLT, reduceLeDiff, ↓reduceIte, reduceEqDiff, reduceAdd, reduceCtorEq, reduceToNat, Tryz.f28, hp, ho]
          refine ⟨fun p hp => by (cases hp), tail _ fun v h1 D1 s1 => ?_⟩
          have eb1 := s1.b
          simp +contextual (disch := first | simp only [fq]; done | omega | simp only [Knx]; omega) only [fV, reduceLE, reduceLT, reduceLeDiff, ↓reduceIte, reduceEqDiff, reduceAdd, reduceCtorEq, reduceToNat, Tryz.f28]
          rw [← eb1]
          refine callF_of (serve_spec hS s1.pr ((B.sub c.num).mov hm hw 6 c.num 0)) (fun k q => by rw [fresh_def]; exact (s1.own k q).elim .inr .inl) ?_
          rintro v h2 ⟨D2, P2, s2, B2, e2⟩
          have s12 := s1.trans s2
          have eb := s2.b
          simp +contextual (disch := first | simp only [fq]; done | omega | simp only [Knx]; omega) only [fV, reduceLE, reduceLT, reduceLeDiff, ↓reduceIte, reduceEqDiff, reduceAdd, reduceCtorEq, reduceToNat, Tryz.f28]
          rw [← eb]
          refine told_end hS s12 B2 (fun k q => by rw [fresh_def]; exact (s12.own k q).elim .inr .inl) ?_
          rintro v3 h3 mv rfl hR
          simp +contextual (disch := first | simp only [fq]; done | omega | simp only [Knx]; omega) only [fV, reduceLE, reduceLT, reduceLeDiff, ↓reduceIte, reduceEqDiff, reduceAdd, reduceCtorEq, reduceToNat, Tryz.f28]
          rw [e2, e5] at hR
          exact hR
    · have e1 : resetF P.pl n ok = (282, [], P.pl) := by
        unfold resetF
        rw [get_some hf]
        simp only [if_pos (show c.pc.st ≠ 3 from hst)]
      rw [e1]
      refine callF_exact (find_bad hS r (st := 3) hf ⟨by decide, hst⟩) ?_
      simp +contextual (disch := first | simp only [fq]; done | omega | simp only [Knx]; omega) only [fV, reduceLE, reduceLT, reduceLeDiff, ↓reduceIte, reduceEqDiff, reduceAdd, reduceCtorEq, reduceToNat, Tryz.f28, Int.reduceEq]
      exact OpR.bad r hm B 282
theorem pause_spec {T : Int} {D : PD} {P : PS} {h : H} (r : PR D P h) (hm : P.moves = []) (B : Bds T P) (on : Prop) : callW S.cfg (owns D P) 32 [.ptr D.b 0, bo on] h (OpR T D P h (pauseF P.pl on)) := by
  refine into Tryz.f32 _ Tryz.func32 (hS.ownP _ (by decide)) rfl rfl (by kernel_rfl) (by kernel_rfl) ?_
  have hp := r.pool
  unfold pcells at hp
  simp +contextual (disch := first | simp only [fq]; done | omega | simp only [Knx]; omega) only [fV, reduceLE, reduceLT, reduceLeDiff, ↓reduceIte, reduceEqDiff, reduceAdd, reduceCtorEq, reduceToNat, Tryz.f32]
  refine callF_exact (none_spec hS r) ?_
  by_cases hcl : P.closed
  · have e1 : pauseF P.pl on = (9, [], P.pl) := if_pos hcl
    rw [e1]
    simp +contextual (disch := first | simp only [fq]; done | omega | simp only [Knx]; omega) only [fV, reduceLE, reduceLT, reduceLeDiff, ↓reduceIte, reduceEqDiff, reduceAdd, reduceCtorEq, reduceToNat, Tryz.f32, hp, hcl]
    exact OpR.bad r hm B 9
  · have e1 : pauseF P.pl on = (serveF { P.pl with paused := on }).done := if_neg hcl
    rw [e1]
    have hcell : pcells D { P with paused := on } = [bo True, .int .i64 P.lim, .int .i64 P.wait, .int .i64 P.keep, .int .i64 P.now, .int .i64 P.last, .map D.mb, D.wv, bo on, bo False, D.mv] := by
      unfold pcells
      rw [show bo P.closed = bo False from congrArg bo (eq_false hcl)]
    have s1 := Stp.set (h4 := h) (D' := D) (P' := { P with paused := on }) r (Nat.le_refl _) (fun _ _ _ => rfl) rfl rfl rfl rfl r.wts r.mvs r.wb (fun k o n m q => ⟨r.mvb k o n m q, .inl ⟨o, n, m, q⟩⟩)
    rw [hcell] at s1
    simp +contextual (disch := first | simp only [fq]; done | omega | simp only [Knx]; omega) only [fV, reduceLE, reduceLT, reduceLeDiff, ↓reduceIte, reduceEqDiff, reduceAdd, reduceCtorEq, reduceToNat, Tryz.f32, hp, hcl]
    refine ⟨.inr (.inr (.inl rfl)), ?_⟩
    refine callF_of (serve_spec hS s1.pr (T := T) ⟨B.lim, B.num, B.pos, B.top, B.tt, B.mvs⟩) (fun k q => by rw [fresh_def]; exact (s1.own k q).elim .inr .inl) ?_
    rintro v h2 ⟨D2, P2, s2, B2, e2⟩
    have s12 := s1.trans s2
    have eb := s2.b
    simp +contextual (disch := first | simp only [fq]; done | omega | simp only [Knx]; omega) only [fV, reduceLE, reduceLT, reduceLeDiff, ↓reduceIte, reduceEqDiff, reduceAdd, reduceCtorEq, reduceToNat, Tryz.f32]
    rw [← eb]
    refine told_end hS s12 B2 (fun k q => by rw [fresh_def]; exact (s12.own k q).elim .inr .inl) ?_
    rintro v3 h3 mv rfl hR
    simp +contextual (disch := first | simp only [fq]; done | omega | simp only [Knx]; omega) only [fV, reduceLE, reduceLT, reduceLeDiff, ↓reduceIte, reduceEqDiff, reduceAdd, reduceCtorEq, reduceToNat, Tryz.f32]
    rw [e2] at hR
    exact hR
end
noncomputable section
def wtcells (l : List WT) : List V := l.flatMap WT.cells
theorem wtcells_len (l : List WT) : (wtcells l).length = l.length * 2 := by
  induction l with
  | nil => rfl
  | cons w l ih =>
    show (WT.cells w ++ wtcells l).length = _
    rw [List.length_append, ih]
    show 2 + _ = (l.length + 1) * 2
    omega
theorem wtcells_drop : ∀ (ws : List WT) (i : Nat), (wtcells ws).drop (i * 2) = wtcells (ws.drop i)
  | ws, 0 => by simp
  | [], i + 1 => by simp [wtcells]
  | w :: l, i + 1 => by
    have ih := wtcells_drop l i
    rw [show (i + 1) * 2 = 2 + i * 2 by omega, List.drop_succ_cons, ← ih, show wtcells (w :: l) = w.cells ++ wtcells l from rfl, ← List.drop_drop]
    rfl
theorem wtcells_isCell (l : List WT) : (wtcells l).all V.isCell = true := by
  induction l with
  | nil => rfl
  | cons w l ih => show (w.cells ++ wtcells l).all V.isCell = true; rw [List.all_append, ih]; rfl
theorem Wts.of_lst {n0 : Nat} {h : H} {v : V} {ws : List WT} (hl : Lst n0 h v (wtcells ws) 70 2) : Wts h v ws := by
  have hn := wtcells_len ws
  rcases hl with (⟨rfl, hw⟩ | ⟨b, k, _, hb2, rfl, _, hg, hk⟩) | ⟨hw, b, _, hb2, rfl, hg⟩
  · refine .inl ⟨rfl, ?_⟩
    rw [hw] at hn
    exact List.eq_nil_of_length_eq_zero (by simp at hn; omega)
  · obtain rfl : k = ws.length := by omega
    refine .inr ⟨b, 0, ws.length, wtcells ws, true, rfl, hb2, hg, fun i hi => ?_, Nat.le_refl _, Nat.zero_le _⟩
    refine ⟨by omega, ?_⟩
    rw [Nat.zero_add, wtcells_drop, List.drop_eq_getElem_cons hi]
    rfl
  · rw [hw] at hn
    have hws : ws = [] := List.eq_nil_of_length_eq_zero (by simp at hn; omega)
    subst hws
    exact .inr ⟨b, 0, 0, [], false, rfl, hb2, hg, fun i hi => (Nat.not_lt_zero _ hi).elim, Nat.le_refl _, Nat.le_refl _⟩
theorem wts_take {c : List V} {o : Nat} : ∀ {ws : List WT}, (∀ i (hi : i < ws.length), o + i * 2 + 2 ≤ c.length ∧ (c.drop (o + i * 2)).take 2 = ws[i].cells) → o ≤ c.length → (c.drop o).take (ws.length * 2) = wtcells ws ∧ o + ws.length * 2 ≤ c.length
  | [], _, h => ⟨by simp [wtcells], by simpa using h⟩
  | w :: ws, hc, ho => by
    have h0 := hc 0 (Nat.succ_pos _)
    have ih := wts_take (c := c) (o := o + 2) (ws := ws) (fun i hi => by
      have := hc (i + 1) (by simp only [List.length_cons]; omega)
      rw [show o + 2 + i * 2 = o + (i + 1) * 2 by omega]
      exact this) (by have := h0.1; omega)
    refine ⟨?_, by have := ih.2; simp only [List.length_cons]; omega⟩
    show _ = w.cells ++ wtcells ws
    have e0 : (c.drop o).take 2 = w.cells := by have := h0.2; simpa using this
    rw [← ih.1, ← e0, List.length_cons, show (ws.length + 1) * 2 = 2 + ws.length * 2 by omega, List.take_add, List.drop_drop]
theorem Wts.src {h : H} {v : V} {ws : List WT} (hw : Wts h v ws) : Src h v (wtcells ws) 2 := by
  rcases hw with ⟨rfl, rfl⟩ | ⟨b, o, m, c, fl, rfl, hb, hg, hc, hm⟩
  · exact .inl ⟨rfl, rfl⟩
  · obtain ⟨e1, e2⟩ := wts_take hc hm.2
    refine .inr ⟨b, o, ws.length, m, rfl, hb, ?_, wtcells_len ws⟩
    rw [hg]
    show (bif Nat.ble (o + ws.length * 2) c.length then some (sub c o (ws.length * 2)) else none) = _
    rw [ble_iff.2 e2, cond_true]
    unfold sub
    rw [e1]
theorem nil_row {lv : V} (hv : lv = .nilslice ∨ ∃ b o n m, lv = .slice b o n m) : binV Tryz.prog .eql 44 (constO (.tmp 3) || constO (.const (Value.slice none 0 0))) lv .nilslice = some (bo (lv = .nilslice)) := by
  rcases hv with rfl | ⟨b, o, n, m, rfl⟩
  · have e : binV Tryz.prog .eql 44 (constO (.tmp 3) || constO (.const (Value.slice none 0 0))) .nilslice .nilslice = some (.bool true) := by kernel_rfl
    rw [e]; unfold bo; simp
  · have e : binV Tryz.prog .eql 44 (constO (.tmp 3) || constO (.const (Value.slice none 0 0))) (.slice b o n m) .nilslice = some (.bool false) := by kernel_rfl
    rw [e]; unfold bo; simp
theorem Wts.form {h : H} {v : V} {ws : List WT} (hw : Wts h v ws) : v = .nilslice ∨ ∃ b o n m, v = .slice b o n m := by
  rcases hw with ⟨rfl, _⟩ | ⟨b, o, m, c, fl, rfl, _⟩
  · exact .inl rfl
  · exact .inr ⟨_, _, _, _, rfl⟩
variable {S : Set0} (hS : StdP S)
include hS
theorem clone_spec {h : H} {lv : V} {ws : List WT} (hw : Wts h lv ws) (hl : ws.length ≤ 100000) : Pure S.cfg 48 [lv] h fun v h' => Lst h.nx h' v (wtcells ws) 70 2 := by
  refine into Tryz.f48 _ Tryz.func48 (hS.ownP _ (by decide)) rfl rfl (by kernel_rfl) (by kernel_rfl) ?_
  have hc := hw.cell
  have hn := nil_row hw.form
  by_cases h0 : lv = .nilslice
  · have hws : wtcells ws = [] := by
      rcases hw with ⟨_, rfl⟩ | ⟨b, o, m, c, fl, q, _⟩
      · rfl
      · rw [h0] at q; cases q
    subst h0
    simp +contextual (disch := first | simp only [fq]; done | omega | simp only [Knx]; omega) only [fV, reduceLE, reduceLT, reduceLeDiff, ↓reduceIte, reduceEqDiff, reduceAdd, reduceCtorEq, reduceToNat, Tryz.f48, hn]
    exact ⟨Ext.refl h, .inl (.inl ⟨rfl, hws⟩)⟩
  · simp +contextual (disch := first | simp only [fq]; done | omega | simp only [Knx]; omega) only [fV, reduceLE, reduceLT, reduceLeDiff, ↓reduceIte, reduceEqDiff, reduceAdd, reduceCtorEq, reduceToNat, Tryz.f48, hn, h0]
    obtain ⟨hA, hhA⟩ : ∃ hA, hA = h.push (Ob.cells [] 70 false) := ⟨_, rfl⟩
    rw [← hhA]
    have hxA : Ext h hA := by rw [hhA]; exact (Ext.refl h).push _
    have hgA : hA.get h.nx = some (.cells [] 70 false) := by rw [hhA]; exact push_eq rfl
    have hnA : hA.nx = h.nx + 1 := by rw [hhA]; rfl
    clear hhA
    refine append_lst (n0 := h.nx) (sv := .slice h.nx 0 0 0) (xv := lv) (cells := []) (new := wtcells ws) ?_ ?_ ap44 ⟨.slice 70, by kernel_rfl, rfl⟩ (.inr ⟨rfl, h.nx, Nat.le_refl _, by omega, rfl, hgA⟩) (hw.src.ext hxA) (wtcells_isCell _) ?_ (by decide) (fun k hk => by rw [fresh_def]; exact .inl hk) (by omega) ?_
    · simp +contextual (disch := first | simp only [fq]; done | omega | simp only [Knx]; omega) only [fV, reduceLE, reduceLT, reduceLeDiff, ↓reduceIte, reduceEqDiff, reduceAdd, reduceCtorEq, reduceToNat]
    · simp +contextual (disch := first | simp only [fq]; done | omega | simp only [Knx]; omega) only [fV, reduceLE, reduceLT, reduceLeDiff, ↓reduceIte, reduceEqDiff, reduceAdd, reduceCtorEq, reduceToNat]
    · rw [wtcells_len]; simp only [List.length_nil]; omega
    intro v h1 L hl1 hn1 hk1 hf1 hL1
    simp +contextual (disch := first | simp only [fq]; done | omega | simp only [Knx]; omega) only [fV, reduceLE, reduceLT, reduceLeDiff, ↓reduceIte, reduceEqDiff, reduceAdd, reduceCtorEq, reduceToNat, Tryz.f48]
    exact ⟨⟨by omega, fun k hk => by rw [hf1 k hk, hxA.2 k hk]⟩, hl1⟩
end
noncomputable section
def hasL (p : PL) (cl : Int) : Prop := ∃ c ∈ p.conns, c.cl = cl ∧ (c.st = 1 ∨ c.st = 2)
def waitsL (p : PL) (cl : Int) : Prop := ∃ w ∈ p.wts, w.cl = cl
def acquireF (p : PL) (cl : Int) : Res := if ¬ (1 ≤ cl ∧ cl ≤ 1073741824) then (2, [], p) else if p.closed then (9, [], p) else if hasL p cl ∨ waitsL p cl then (280, [], p) else if 256 ≤ p.wts.length then (283, [], p) else
  (if waitsL (serveF { p with wts := p.wts ++ [⟨cl, p.now + p.wait⟩] }) cl then (serveF { p with wts := p.wts ++ [⟨cl, p.now + p.wait⟩] }).mov 3 0 cl else serveF { p with wts := p.wts ++ [⟨cl, p.now + p.wait⟩] }).done
theorem has_pl (P : PS) (cl : Int) : hasF P cl ↔ hasL P.pl cl := by
  constructor
  · rintro ⟨c, hc, h⟩
    exact ⟨c.pc, List.mem_map_of_mem hc, h⟩
  · rintro ⟨x, hx, h⟩
    obtain ⟨c, hc, rfl⟩ := List.mem_map.1 hx
    exact ⟨c, hc, h⟩
theorem wtcells_snoc (l : List WT) (w : WT) : wtcells (l ++ [w]) = wtcells l ++ w.cells := by simp [wtcells]
variable {S : Set0} (hS : StdP S)
include hS
theorem acquire_spec {T : Int} {D : PD} {P : PS} {h : H} (r : PR D P h) (hm : P.moves = []) (B : Bds T P) (hT : T + 1 ≤ 1099511627776) (hw : P.wts.length ≤ 256) (cl : Int) (hnw : 0 ≤ P.now + P.wait ∧ P.now + P.wait < 4611686018427387904) : callW S.cfg (owns D P) 21 [.ptr D.b 0, .int .i64 cl] h (OpR (T + 1) D P h (acquireF P.pl cl)) := by
  have B' : Bds (T + 1) P := ⟨B.lim, B.num, B.pos, by have := B.top; omega, hT, B.mvs⟩
  refine into Tryz.f21 _ Tryz.func21 (hS.ownP _ (by decide)) rfl rfl (by kernel_rfl) (by kernel_rfl) ?_
  have hp := r.pool
  unfold pcells at hp
  simp +contextual (disch := first | simp only [fq]; done | omega | simp only [Knx]; omega) only [fV, reduceLE, reduceLT, reduceLeDiff, ↓reduceIte, reduceEqDiff, reduceAdd, reduceCtorEq, reduceToNat, Tryz.f21]
  refine callF_exact (none_spec hS r) ?_
  simp +contextual (disch := first | simp only [fq]; done | omega | simp only [Knx]; omega) only [fV, reduceLE, reduceLT, reduceLeDiff, ↓reduceIte, reduceEqDiff, reduceAdd, reduceCtorEq, reduceToNat, Tryz.f21]
  refine callF_exact (between_spec hS _ _ _ _) ?_
  by_cases hb : ¬ (1 ≤ cl ∧ cl ≤ 1073741824)
  · have e1 : acquireF P.pl cl = (2, [], P.pl) := if_pos hb
    rw [e1]
    simp +contextual (disch := first | simp only [fq]; done | omega | simp only [Knx]; omega) only [fV, reduceLE, reduceLT, reduceLeDiff, ↓reduceIte, reduceEqDiff, reduceAdd, reduceCtorEq, reduceToNat, Tryz.f21, hb]
    exact OpR.bad r hm B' 2
  rw [Classical.not_not] at hb
  have hb' : (1 ≤ cl ∧ cl ≤ 1073741824) = True := eq_true hb
  by_cases hcl : P.closed
  · have e1 : acquireF P.pl cl = (9, [], P.pl) := by unfold acquireF; rw [if_neg (fun q => q hb), if_pos (show P.pl.closed from hcl)]
    rw [e1]
    simp +contextual (disch := first | simp only [fq]; done | omega | simp only [Knx]; omega) only [fV, reduceLE, reduceLT, reduceLeDiff, ↓reduceIte, reduceEqDiff, reduceAdd, reduceCtorEq, reduceToNat, Tryz.f21, hb', hp, hcl]
    exact OpR.bad r hm B' 9
  simp +contextual (disch := first | simp only [fq]; done | omega | simp only [Knx]; omega) only [fV, reduceLE, reduceLT, reduceLeDiff, ↓reduceIte, reduceEqDiff, reduceAdd, reduceCtorEq, reduceToNat, Tryz.f21, hb', hp, hcl]
  refine callF_pure (has_spec hS r cl) ?_
  rintro v h1 hx1 rfl
  have r1 := r.ext hx1
  have st1 := Stp.ext r hx1
  have hp1 := r1.pool
  unfold pcells at hp1
  have hbad : ∀ {h2 : H}, Ext h h2 → ∀ e : Int, OpR (T + 1) D P h (e, [], P.pl) (.tuple [.nilslice, .int .i64 e]) h2 := fun hx e => ⟨D, P, .nilslice, rfl, Stp.ext r hx, rfl, hm, .inl (.inl ⟨rfl, rfl⟩), fun k o n m q => (by cases q), B'⟩
  by_cases hh : hasF P cl
  · have e1 : acquireF P.pl cl = (280, [], P.pl) := by unfold acquireF; rw [if_neg (fun q => q hb), if_neg (show ¬ P.pl.closed from hcl), if_pos (.inl ((has_pl P cl).1 hh))]
    rw [e1]
    simp +contextual (disch := first | simp only [fq]; done | omega | simp only [Knx]; omega) only [fV, reduceLE, reduceLT, reduceLeDiff, ↓reduceIte, reduceEqDiff, reduceAdd, reduceCtorEq, reduceToNat, Tryz.f21, hh]
    exact hbad hx1 280
  simp +contextual (disch := first | simp only [fq]; done | omega | simp only [Knx]; omega) only [fV, reduceLE, reduceLT, reduceLeDiff, ↓reduceIte, reduceEqDiff, reduceAdd, reduceCtorEq, reduceToNat, Tryz.f21, hh]
  refine callF_pure (waits_spec hS r1 cl (by omega)) ?_
  rintro v h2 hx2 rfl
  have hx02 := hx1.trans hx2
  have r2 := r.ext hx02
  by_cases hw2 : waitsF P cl
  · have e1 : acquireF P.pl cl = (280, [], P.pl) := by unfold acquireF; rw [if_neg (fun q => q hb), if_neg (show ¬ P.pl.closed from hcl), if_pos (.inr hw2)]
    rw [e1]
    simp +contextual (disch := first | simp only [fq]; done | omega | simp only [Knx]; omega) only [fV, reduceLE, reduceLT, reduceLeDiff, ↓reduceIte, reduceEqDiff, reduceAdd, reduceCtorEq, reduceToNat, Tryz.f21, hw2]
    exact hbad hx02 280
  have hp2 := r2.pool
  unfold pcells at hp2
  have hlen := r2.wts.len
  have hno : ¬ (hasL P.pl cl ∨ waitsL P.pl cl) := fun q => q.elim (fun q => hh ((has_pl P cl).2 q)) hw2
  by_cases hfl : 256 ≤ P.wts.length
  · have e1 : acquireF P.pl cl = (283, [], P.pl) := by unfold acquireF; rw [if_neg (fun q => q hb), if_neg (show ¬ P.pl.closed from hcl), if_neg hno, if_pos (show 256 ≤ P.pl.wts.length from hfl)]
    rw [e1]
    simp +contextual (disch := first | simp only [fq]; done | omega | simp only [Knx]; omega) only [fV, reduceLE, reduceLT, reduceLeDiff, ↓reduceIte, reduceEqDiff, reduceAdd, reduceCtorEq, reduceToNat, Tryz.f21, hw2, hp2, hlen, hfl]
    exact hbad hx02 283
  have e1 : acquireF P.pl cl = (if waitsL (serveF { P.pl with wts := P.wts ++ [⟨cl, P.now + P.wait⟩] }) cl then (serveF { P.pl with wts := P.wts ++ [⟨cl, P.now + P.wait⟩] }).mov 3 0 cl else serveF { P.pl with wts := P.wts ++ [⟨cl, P.now + P.wait⟩] }).done := by unfold acquireF; rw [if_neg (fun q => q hb), if_neg (show ¬ P.pl.closed from hcl), if_neg hno, if_neg (show ¬ 256 ≤ P.pl.wts.length from hfl)]; rfl
  rw [e1]
  simp +contextual (disch := first | simp only [fq]; done | omega | simp only [Knx]; omega) only [fV, reduceLE, reduceLT, reduceLeDiff, ↓reduceIte, reduceEqDiff, reduceAdd, reduceCtorEq, reduceToNat, Tryz.f21, hw2, hp2, hlen, hfl]
  refine draw_by [(4, 18), (5, 10), (5, 15), (5, 18)] (by kernel_rfl) ?_
  simp +contextual (disch := first | simp only [fq]; done | omega | simp only [Knx]; omega) only [wpyr, fW, reduceLE, reduceLT, reduceLeDiff, ↓reduceIte, reduceEqDiff, reduceAdd, reduceCtorEq, reduceToNat, Tryz.f21, hp2]
  refine callF_pure (clone_spec hS r2.wts (by omega)) ?_
  intro cv h3 hx3 hL3
  have hx03 := hx02.trans hx3
  have r3 := r2.ext hx3
  have hp3 := r3.pool
  unfold pcells at hp3
  have hwr : IntKind.i64.wrap (P.now + P.wait) = P.now + P.wait := i64_in _ (by omega)
  simp +contextual (disch := first | simp only [fq]; done | omega | simp only [Knx]; omega) only [wpyr, fW, reduceLE, reduceLT, reduceLeDiff, ↓reduceIte, reduceEqDiff, reduceAdd, reduceCtorEq, reduceToNat, Tryz.f21, hp3, hwr]
  obtain ⟨hA, hhA⟩ : ∃ hA, hA = h3.push (Ob.cells [V.int IntKind.i64 cl, V.int IntKind.i64 (P.now + P.wait)] 70 false) := ⟨_, rfl⟩
  rw [← hhA]
  have hxA : Ext h3 hA := by rw [hhA]; exact (Ext.refl h3).push _
  have hgA : hA.get h3.nx = some (.cells [V.int IntKind.i64 cl, V.int IntKind.i64 (P.now + P.wait)] 70 false) := by rw [hhA]; exact push_eq rfl
  have hnA : hA.nx = h3.nx + 1 := by rw [hhA]; rfl
  clear hhA
  have hn2 := hx02.1
  have hn3 := hx3.1
  have hcvb : ∀ k o n m, cv = .slice k o n m → h2.nx ≤ k := fun k o n m q => by
    rcases hL3 with (⟨q1, _⟩ | ⟨b1, n1, q1, _, q2, _⟩) | ⟨_, b1, q1, _, q2, _⟩
    · rw [q1] at q; cases q
    · rw [q2] at q; cases q; exact q1
    · rw [q2] at q; cases q; exact q1
  refine append_fresh (n0 := 0) (sv := cv) (cells := wtcells P.wts) (new := WT.cells ⟨cl, P.now + P.wait⟩) ?_ (b2 := h3.nx) (o2 := 0) (n := 1) (m := 1) ?_ ap44 ⟨.slice 70, by kernel_rfl, rfl⟩ (Lst.mono' (hL3.ext hxA) (Nat.zero_le _)) (by decide) (by rw [hgA]; exact rdC_all rfl) rfl rfl ?_ (by decide) (fun k ⟨o, n, m, q⟩ => by rw [fresh_def]; exact .inl (by have := hcvb k o n m q; omega)) (Nat.zero_le _) ?_
  · simp +contextual (disch := first | simp only [fq]; done | omega | simp only [Knx]; omega) only [fV, reduceLE, reduceLT, reduceLeDiff, ↓reduceIte, reduceEqDiff, reduceAdd, reduceCtorEq, reduceToNat]
  · simp +contextual (disch := first | simp only [fq]; done | omega | simp only [Knx]; omega) only [fV, reduceLE, reduceLT, reduceLeDiff, ↓reduceIte, reduceEqDiff, reduceAdd, reduceCtorEq, reduceToNat]
  · rw [wtcells_len]; show P.wts.length * 2 + 2 ≤ _; omega
  intro v4 h4 L ha hx4 hk4 hL4
  have hold : ∀ k, k < h2.nx → h4.get k = h2.get k := fun k hk => by
    rw [hk4 k (by omega) (fun o n m q => by have := hcvb k o n m q; omega), hxA.2 k (by omega), hx3.2 k hk]
  have hp4 : h4.get D.b = _ := (hold D.b r2.lt.1).trans hp2
  obtain ⟨c1, c2⟩ := ha.cell
  simp +contextual (disch := first | simp only [fq]; done | omega | simp only [Knx]; omega) only [fV, reduceLE, reduceLT, reduceLeDiff, ↓reduceIte, reduceEqDiff, reduceAdd, reduceCtorEq, reduceToNat, Tryz.f21, hp4, c1, c2]
  have hx24 : Ext h2 h4 := ⟨by omega, hold⟩
  have s5 := (Stp.ext r hx02).trans (Stp.set (h4 := h4) (D' := { D with wv := v4 }) (P' := { P with wts := P.wts ++ [⟨cl, P.now + P.wait⟩] }) r2 hx24.1 (fun k hk _ => hold k hk) rfl rfl rfl rfl (Wts.of_lst (n0 := 0) (.inl (by rw [wtcells_snoc]; exact ha.mono (Nat.zero_le _)))) (r2.mvs.ext hx24) (fun k o n m q => by
    have q1 := (ha.blk q).1
    have hlt := r2.lt
    refine ⟨by omega, by omega, fun c hc => by have := hlt.2.2 c hc; omega, fun o n m q2 => by have := Lst.lt r2.mvs q2; omega⟩) (fun k o n m q => ⟨r2.mvb k o n m q, .inl ⟨o, n, m, q⟩⟩) (fun k o n m q => .inr (by have q1 := (ha.blk q).1; omega)))
  have B5 : Bds (T + 1) { P with wts := P.wts ++ [⟨cl, P.now + P.wait⟩] } := ⟨B.lim, B.num, B.pos, by have := B.top; show P.last + ((P.wts ++ [_]).length : Int) ≤ _; rw [List.length_append]; simp only [List.length_cons, List.length_nil]; omega, hT, by rw [hm]; show 0 + (P.wts ++ [_]).length ≤ _; rw [List.length_append]; simp only [List.length_cons, List.length_nil]; omega⟩
  have hDb := r2.lt.1
  refine ⟨.inr (.inr (.inl rfl)), fun p hp => ?_, ?_⟩
  · have hp : p = (4, 18) ∨ p = (5, 10) ∨ p = (5, 15) ∨ p = (5, 18) := by simpa using hp
    rcases hp with rfl | rfl | rfl | rfl
    · exact pair_one rfl rfl (apart_blk fun x hx y hy => by
        rw [List.mem_singleton.1 (show x ∈ [_] from hx), List.mem_singleton.1 hy]
        show ¬ D.b = h3.nx
        omega)
    · exact pair_one rfl rfl (fun e he => by
        rw [List.mem_singleton.1 (show e ∈ [_] from he)]
        exact .inr ⟨rfl, hDb, fun w => w⟩)
    · exact pair_one rfl rfl (fun e he => by
        rw [List.mem_singleton.1 (show e ∈ [_] from he)]
        exact .inr ⟨rfl, hDb, fun w => w⟩)
    · exact pair_one rfl rfl (fun e he => by
        rw [List.mem_singleton.1 he]
        exact .inl (Nat.le_refl _))
  have hown : ∀ {D2 : PD} {P2 : PS} {h2 : H}, Stp D P h D2 P2 h2 → ∀ k, owns D2 P2 k → fresh h.nx (owns D P) k := fun s k q => by rw [fresh_def]; exact (s.own k q).elim .inr .inl
  refine callF_of (serve_spec hS (D := { D with wv := v4 }) (P := { P with wts := P.wts ++ [⟨cl, P.now + P.wait⟩] }) s5.pr B5) (hown s5) ?_
  rintro v h6 ⟨D6, P6, s6, B6, e6⟩
  have s56 := s5.trans s6
  have eb6 := s6.b
  simp +contextual (disch := first | simp only [fq]; done | omega | simp only [Knx]; omega) only [fV, reduceLE, reduceLT, reduceLeDiff, ↓reduceIte, reduceEqDiff, reduceAdd, reduceCtorEq, reduceToNat, Tryz.f21]
  have hm6 := B6.mvs
  rw [← show D6.b = D.b from eb6]
  refine callF_pure (waits_spec hS s56.pr cl (by omega)) ?_
  rintro v h7 hx7 rfl
  have s57 := s56.trans (Stp.ext s56.pr hx7)
  by_cases hw7 : waitsF P6 cl
  · have hwl : waitsL (serveF { P.pl with wts := P.wts ++ [⟨cl, P.now + P.wait⟩] }) cl := by
      have e := e6
      rw [show ({ P.pl with wts := P.wts ++ [⟨cl, P.now + P.wait⟩] } : PL) = ({ P with wts := P.wts ++ [⟨cl, P.now + P.wait⟩] } : PS).pl from rfl, ← e]
      exact hw7
    rw [if_pos hwl]
    simp +contextual (disch := first | simp only [fq]; done | omega | simp only [Knx]; omega) only [fV, reduceLE, reduceLT, reduceLeDiff, ↓reduceIte, reduceEqDiff, reduceAdd, reduceCtorEq, reduceToNat, Tryz.f21, hw7]
    refine callF_of (move_spec hS s57.pr 3 0 cl (by omega)) (hown s57) ?_
    rintro v h8 ⟨mv, s8⟩
    have s58 := s57.trans s8
    simp +contextual (disch := first | simp only [fq]; done | omega | simp only [Knx]; omega) only [fV, reduceLE, reduceLT, reduceLeDiff, ↓reduceIte, reduceEqDiff, reduceAdd, reduceCtorEq, reduceToNat, Tryz.f21]
    refine told_end2 hS s58 (T := T + 1) ⟨B6.lim, B6.num, B6.pos, B6.top, B6.tt, by show 0 + P6.wts.length ≤ _; omega⟩ (hown s58) ?_
    rintro v9 h9 mv9 rfl hR
    simp +contextual (disch := first | simp only [fq]; done | omega | simp only [Knx]; omega) only [fV, reduceLE, reduceLT, reduceLeDiff, ↓reduceIte, reduceEqDiff, reduceAdd, reduceCtorEq, reduceToNat, Tryz.f21]
    rw [mov_pl, e6] at hR
    exact hR
  · have hwl : ¬ waitsL (serveF { P.pl with wts := P.wts ++ [⟨cl, P.now + P.wait⟩] }) cl := by
      have e := e6
      rw [show ({ P.pl with wts := P.wts ++ [⟨cl, P.now + P.wait⟩] } : PL) = ({ P with wts := P.wts ++ [⟨cl, P.now + P.wait⟩] } : PS).pl from rfl, ← e]
      exact hw7
    rw [if_neg hwl]
    simp +contextual (disch := first | simp only [fq]; done | omega | simp only [Knx]; omega) only [fV, reduceLE, reduceLT, reduceLeDiff, ↓reduceIte, reduceEqDiff, reduceAdd, reduceCtorEq, reduceToNat, Tryz.f21, hw7]
    refine told_end hS s57 B6 (hown s57) ?_
    rintro v9 h9 mv9 rfl hR
    simp +contextual (disch := first | simp only [fq]; done | omega | simp only [Knx]; omega) only [fV, reduceLE, reduceLT, reduceLeDiff, ↓reduceIte, reduceEqDiff, reduceAdd, reduceCtorEq, reduceToNat, Tryz.f21]
    rw [e6] at hR
    exact hR
end
noncomputable section
def cncells (l : List CN) : List V := l.flatMap CN.cells
theorem cncells_len (l : List CN) : (cncells l).length = l.length * 4 := by
  induction l with
  | nil => rfl
  | cons w l ih =>
    show (CN.cells w ++ cncells l).length = _
    rw [List.length_append, ih]
    show 4 + _ = (l.length + 1) * 4
    omega
theorem cncells_snoc (l : List CN) (x : CN) : cncells (l ++ [x]) = cncells l ++ x.cells := by simp [cncells]
def CoI (D : PD) (P : PS) (h1 : H) (lv : V) (m : Nat) (env : Env) (h' : H) : Prop :=
  ∃ (j : Nat) (ov : V), m = P.conns.length - j ∧ j ≤ P.conns.length ∧ env 3 = ov ∧ env 9 = lv ∧ env 10 = .int .i64 P.conns.length ∧ env 11 = .int .i64 j ∧ Ext h1 h' ∧ Lst h1.nx h' ov (cncells (P.conns.take j)) 65 4
variable {S : Set0} (hS : StdP S)
include hS
theorem waiters_spec {D : PD} {P : PS} {h : H} (r : PR D P h) (hl : P.wts.length ≤ 100000) : Pure S.cfg 14 [.ptr D.b 0] h fun v h' => Lst h.nx h' v (wtcells P.wts) 70 2 := by
  refine into Tryz.f14 _ Tryz.func14 (hS.ownP _ (by decide)) rfl rfl (by kernel_rfl) (by kernel_rfl) ?_
  have hp := r.pool
  unfold pcells at hp
  simp +contextual (disch := first | simp only [fq]; done | omega | simp only [Knx]; omega) only [fV, reduceLE, reduceLT, reduceLeDiff, ↓reduceIte, reduceEqDiff, reduceAdd, reduceCtorEq, reduceToNat, Tryz.f14]
  refine callF_exact (none_spec hS r) ?_
  simp +contextual (disch := first | simp only [fq]; done | omega | simp only [Knx]; omega) only [fV, reduceLE, reduceLT, reduceLeDiff, ↓reduceIte, reduceEqDiff, reduceAdd, reduceCtorEq, reduceToNat, Tryz.f14, hp]
  refine callF_pure (clone_spec hS r.wts hl) ?_
  intro v h1 hx1 hL
  simp +contextual (disch := first | simp only [fq]; done | omega | simp only [Knx]; omega) only [fV, reduceLE, reduceLT, reduceLeDiff, ↓reduceIte, reduceEqDiff, reduceAdd, reduceCtorEq, reduceToNat, Tryz.f14]
  exact ⟨hx1, hL⟩
theorem now_spec {D : PD} {P : PS} {h : H} (r : PR D P h) : Exact S.cfg 16 [.ptr D.b 0] h (.int .i64 P.now) := by
  refine into Tryz.f16 _ Tryz.func16 (hS.ownP _ (by decide)) rfl rfl (by kernel_rfl) (by kernel_rfl) ?_
  have hp := r.pool
  unfold pcells at hp
  simp +contextual (disch := first | simp only [fq]; done | omega | simp only [Knx]; omega) only [fV, reduceLE, reduceLT, reduceLeDiff, ↓reduceIte, reduceEqDiff, reduceAdd, reduceCtorEq, reduceToNat, Tryz.f16]
  refine callF_exact (none_spec hS r) ?_
  simp +contextual (disch := first | simp only [fq]; done | omega | simp only [Knx]; omega) only [fV, reduceLE, reduceLT, reduceLeDiff, ↓reduceIte, reduceEqDiff, reduceAdd, reduceCtorEq, reduceToNat, Tryz.f16, hp]
theorem closed_spec {D : PD} {P : PS} {h : H} (r : PR D P h) : Exact S.cfg 18 [.ptr D.b 0] h (bo P.closed) := by
  refine into Tryz.f18 _ Tryz.func18 (hS.ownP _ (by decide)) rfl rfl (by kernel_rfl) (by kernel_rfl) ?_
  have hp := r.pool
  unfold pcells at hp
  simp +contextual (disch := first | simp only [fq]; done | omega | simp only [Knx]; omega) only [fV, reduceLE, reduceLT, reduceLeDiff, ↓reduceIte, reduceEqDiff, reduceAdd, reduceCtorEq, reduceToNat, Tryz.f18]
  refine callF_exact (none_spec hS r) ?_
  simp +contextual (disch := first | simp only [fq]; done | omega | simp only [Knx]; omega) only [fV, reduceLE, reduceLT, reduceLeDiff, ↓reduceIte, reduceEqDiff, reduceAdd, reduceCtorEq, reduceToNat, Tryz.f18, hp]
theorem conns_spec {D : PD} {P : PS} {h : H} (r : PR D P h) : Pure S.cfg 11 [.ptr D.b 0] h fun v h' => Lst h.nx h' v (cncells P.conns) 65 4 := by
  refine into Tryz.f11 _ Tryz.func11 (hS.ownP _ (by decide)) rfl rfl (by kernel_rfl) (by kernel_rfl) ?_
  simp +contextual (disch := first | simp only [fq]; done | omega | simp only [Knx]; omega) only [fV, reduceLE, reduceLT, reduceLeDiff, ↓reduceIte, reduceEqDiff, reduceAdd, reduceCtorEq, reduceToNat, Tryz.f11]
  refine callF_exact (none_spec hS r) ?_
  simp +contextual (disch := first | simp only [fq]; done | omega | simp only [Knx]; omega) only [fV, reduceLE, reduceLT, reduceLeDiff, ↓reduceIte, reduceEqDiff, reduceAdd, reduceCtorEq, reduceToNat, Tryz.f11]
  refine callF_pure (sorted_spec hS r) ?_
  intro lv h1 hx1 hL
  have hlen := lst_lenV (e := 68) hL
  have hf := r.few
  have r1 := r.ext hx1
  simp +contextual (disch := first | simp only [fq]; done | omega | simp only [Knx]; omega) only [fV, reduceLE, reduceLT, reduceLeDiff, ↓reduceIte, reduceEqDiff, reduceAdd, reduceCtorEq, reduceToNat, Tryz.f11, hlen]
  refine run_loop (CoI D P h1 lv) P.conns.length ⟨0, .nilslice, by simp +contextual (disch := first | simp only [fq]; done | omega | simp only [Knx]; omega) only [fV, reduceLE, reduceLT, reduceLeDiff, ↓reduceIte, reduceEqDiff, reduceAdd, reduceCtorEq, reduceToNat]; exact ⟨(Nat.sub_zero _).symm, Ext.refl _, .inl (.inl ⟨rfl, rfl⟩)⟩⟩ ?_
  rintro m env h3 ⟨j, ov, rfl, hj, e3, e9, e10, e11, hx3, hLo⟩
  by_cases hlt : j < P.conns.length
  · obtain ⟨kb, rfl, kb0, kb1, hkb⟩ := lst_rowV hL (by omega)
    have hkb' : h3.get kb = some (.cells (ptrs P.conns) 68 true) := by rw [hx3.2 _ kb1]; exact hkb
    have hmem : P.conns[j] ∈ P.conns := List.getElem_mem hlt
    have c1 : (ptrs P.conns)[j]? = some (.ptr P.conns[j].blk 0) := by unfold ptrs; rw [List.getElem?_map, List.getElem?_eq_getElem hlt]; rfl
    have g1 := (r1.ext hx3).conn _ hmem
    unfold CN.cells at g1
    have hwj : IntKind.i64.wrap ((j : Int) + 1) = ((j + 1 : Nat) : Int) := by rw [i64_in _ (by omega)]; omega
    simp +contextual (disch := first | simp only [fq]; done | omega | simp only [Knx]; omega) only [fV, reduceLE, reduceLT, reduceLeDiff, ↓reduceIte, reduceEqDiff, reduceAdd, reduceCtorEq, reduceToNat, Tryz.f11, e3, e9, e10, e11, hlt, hkb', c1, g1]
    obtain ⟨hA, hhA⟩ : ∃ hA, hA = h3.push (Ob.cells P.conns[j].cells 65 false) := ⟨_, rfl⟩
    rw [show h3.push (Ob.cells [V.int IntKind.i64 P.conns[j].num, V.int IntKind.i64 P.conns[j].st, V.int IntKind.i64 P.conns[j].cl, V.int IntKind.i64 P.conns[j].since] 65 false) = hA from hhA.symm]
    have hxA : Ext h3 hA := by rw [hhA]; exact (Ext.refl h3).push _
    have hgA : hA.get h3.nx = some (.cells P.conns[j].cells 65 false) := by rw [hhA]; exact push_eq rfl
    have hnA : hA.nx = h3.nx + 1 := by rw [hhA]; rfl
    clear hhA
    have hx3n := hx3.1
    refine append_lst (n0 := h1.nx) (sv := ov) (xv := .slice h3.nx 0 1 1) (cells := cncells (P.conns.take j)) (new := P.conns[j].cells) ?_ ?_ ap41 ⟨.slice 65, by kernel_rfl, rfl⟩ (hLo.ext hxA) (.inr ⟨h3.nx, 0, 1, 1, rfl, by omega, by rw [hgA]; exact rdC_all rfl, rfl⟩) rfl ?_ (by decide) (fun k hk => by rw [fresh_def]; exact .inl (by have := hx1.1; omega)) (by omega) ?_
    · simp +contextual (disch := first | simp only [fq]; done | omega | simp only [Knx]; omega) only [fV, reduceLE, reduceLT, reduceLeDiff, ↓reduceIte, reduceEqDiff, reduceAdd, reduceCtorEq, reduceToNat, e3]
    · simp +contextual (disch := first | simp only [fq]; done | omega | simp only [Knx]; omega) only [fV, reduceLE, reduceLT, reduceLeDiff, ↓reduceIte, reduceEqDiff, reduceAdd, reduceCtorEq, reduceToNat]
    · rw [cncells_len, List.length_take]; show min j P.conns.length * 4 + 4 ≤ _; omega
    intro v4 h4 L hl4 hn4 hk4 hf4 hL4
    simp +contextual (disch := first | simp only [fq]; done | omega | simp only [Knx]; omega) only [fV, reduceLE, reduceLT, reduceLeDiff, ↓reduceIte, reduceEqDiff, reduceAdd, reduceCtorEq, reduceToNat, Tryz.f11, e3, e9, e10, e11]
    refine ⟨P.conns.length - (j + 1), by omega, j + 1, v4, rfl, hlt, rfl, e9, e10, by simp +contextual (disch := first | simp only [fq]; done | omega | simp only [Knx]; omega) only [fV, reduceLE, reduceLT, reduceLeDiff, ↓reduceIte, reduceEqDiff, reduceAdd, reduceCtorEq, reduceToNat, e11, hwj], ⟨by omega, fun k hk => by rw [hf4 k hk, hxA.2 k (by omega), hx3.2 k hk]⟩, ?_⟩
    rw [List.take_succ_eq_append_getElem hlt, cncells_snoc]
    exact hl4
  · have hje : j = P.conns.length := by omega
    subst hje
    rw [List.take_length] at hLo
    simp +contextual (disch := first | simp only [fq]; done | omega | simp only [Knx]; omega) only [fV, reduceLE, reduceLT, reduceLeDiff, ↓reduceIte, reduceEqDiff, reduceAdd, reduceCtorEq, reduceToNat, Tryz.f11, e3, e9, e10, e11, hlt]
    exact ⟨hx1.trans hx3, Lst.mono' hLo hx1.1⟩
end
noncomputable section
def limR : Nat → PL → Int → PL
  | 0, p, _ => p
  | f + 1, p, n => match longC p.conns none with
    | some c => if (p.conns.length : Int) > n then limR f ((p.del c.num).mov 6 c.num 0) n else p
    | none => p
def limitF (p : PL) (n : Int) : Res := if ¬ (1 ≤ n ∧ n ≤ 64) then (2, [], p) else (serveF (limR (p.conns.length + 1) { p with lim := n } n)).done
theorem neq_cn2 (o : Option CN) : binV Tryz.prog .neq 68 (constO (.tmp 21) || constO (.const (Value.pointer none))) (cnV o) .nilptr = some (bo (o ≠ none)) := by
  cases o with
  | none =>
    have e : binV Tryz.prog .neq 68 (constO (.tmp 21) || constO (.const (Value.pointer none))) .nilptr .nilptr = some (.bool false) := by kernel_rfl
    show binV _ _ _ _ .nilptr _ = _
    rw [e]; unfold bo; simp
  | some c =>
    have e : binV Tryz.prog .neq 68 (constO (.tmp 21) || constO (.const (Value.pointer none))) (.ptr c.blk 0) .nilptr = some (.bool true) := by kernel_rfl
    show binV _ _ _ _ (.ptr c.blk 0) _ = _
    rw [e]; unfold bo; simp
theorem long_pl (P : PS) : (longF P).map CN.pc = longC P.pl.conns none := long_pc P.conns none
theorem longF_mem {P : PS} {c : CN} (h : longF P = some c) : c ∈ P.conns := (long_mem _ _ _ h).elim id (fun q => by cases q)
theorem delC_len {l : List CN} (h : (l.map CN.num).Pairwise (· < ·)) {c : CN} (hc : c ∈ l) : (delC l c.num).length + 1 = l.length := by
  obtain ⟨j, hj, rfl⟩ := List.mem_iff_getElem.1 hc
  rw [← erase_del h hj, List.length_eraseIdx, if_pos hj]
  omega
def LmI (T : Int) (D0 : PD) (P0 : PS) (h0 : H) (n : Int) (m : Nat) (env : Env) (h' : H) : Prop :=
  ∃ (D : PD) (P : PS), m = P.conns.length ∧ env 0 = .ptr D0.b 0 ∧ env 1 = .int .i64 n ∧ env 6 = cnV (longF P) ∧ Stp D0 P0 h0 D P h' ∧ Bds T { P with moves := [] } ∧ P.wts = P0.wts ∧ P.moves.length + P.conns.length ≤ 2000 ∧ limR (P.conns.length + 1) P.pl n = limR (P0.conns.length + 1) { P0.pl with lim := n } n
variable {S : Set0} (hS : StdP S)
include hS
theorem limit_spec {T : Int} {D : PD} {P : PS} {h : H} (r : PR D P h) (hm : P.moves = []) (B : Bds T P) (hw : P.wts.length ≤ 800000) (n : Int) : callW S.cfg (owns D P) 33 [.ptr D.b 0, .int .i64 n] h (OpR T D P h (limitF P.pl n)) := by
  refine into Tryz.f33 _ Tryz.func33 (hS.ownP _ (by decide)) rfl rfl (by kernel_rfl) (by kernel_rfl) ?_
  have hp := r.pool
  unfold pcells at hp
  simp +contextual (disch := first | simp only [fq]; done | omega | simp only [Knx]; omega) only [fV, reduceLE, reduceLT, reduceLeDiff, ↓reduceIte, reduceEqDiff, reduceAdd, reduceCtorEq, reduceToNat, Tryz.f33]
  refine callF_exact (none_spec hS r) ?_
  simp +contextual (disch := first | simp only [fq]; done | omega | simp only [Knx]; omega) only [fV, reduceLE, reduceLT, reduceLeDiff, ↓reduceIte, reduceEqDiff, reduceAdd, reduceCtorEq, reduceToNat, Tryz.f33]
  refine callF_exact (between_spec hS _ _ _ _) ?_
  by_cases hb : ¬ (1 ≤ n ∧ n ≤ 64)
  · have e1 : limitF P.pl n = (2, [], P.pl) := if_pos hb
    rw [e1]
    simp +contextual (disch := first | simp only [fq]; done | omega | simp only [Knx]; omega) only [fV, reduceLE, reduceLT, reduceLeDiff, ↓reduceIte, reduceEqDiff, reduceAdd, reduceCtorEq, reduceToNat, Tryz.f33, hb]
    exact OpR.bad r hm B 2
  rw [Classical.not_not] at hb
  have e1 : limitF P.pl n = (serveF (limR (P.conns.length + 1) { P.pl with lim := n } n)).done := by
    unfold limitF
    rw [if_neg (fun q => q hb), show P.pl.conns.length = P.conns.length from List.length_map ..]
  rw [e1]
  have hb' : (1 ≤ n ∧ n ≤ 64) = True := eq_true hb
  have s1 := Stp.set (h4 := h) (D' := D) (P' := { P with lim := n }) r (Nat.le_refl _) (fun _ _ _ => rfl) rfl rfl rfl rfl r.wts r.mvs r.wb (fun k o n m q => ⟨r.mvb k o n m q, .inl ⟨o, n, m, q⟩⟩)
  simp +contextual (disch := first | simp only [fq]; done | omega | simp only [Knx]; omega) only [fV, reduceLE, reduceLT, reduceLeDiff, ↓reduceIte, reduceEqDiff, reduceAdd, reduceCtorEq, reduceToNat, Tryz.f33, hb', hp]
  refine ⟨.inr (.inr (.inl rfl)), ?_⟩
  have hown : ∀ {D2 : PD} {P2 : PS} {h2 : H}, Stp D P h D2 P2 h2 → ∀ k, owns D2 P2 k → fresh h.nx (owns D P) k := fun s k q => by rw [fresh_def]; exact (s.own k q).elim .inr .inl
  refine callF_pure (longest_spec hS s1.pr) ?_
  rintro v h1 hx1 rfl
  have s2 := s1.trans (Stp.ext s1.pr hx1)
  simp +contextual (disch := first | simp only [fq]; done | omega | simp only [Knx]; omega) only [fV, reduceLE, reduceLT, reduceLeDiff, ↓reduceIte, reduceEqDiff, reduceAdd, reduceCtorEq, reduceToNat, Tryz.f33]
  refine run_loop (LmI T D P h n) P.conns.length ⟨D, { P with lim := n }, by simp +contextual (disch := first | simp only [fq]; done | omega | simp only [Knx]; omega) only [fV, reduceLE, reduceLT, reduceLeDiff, ↓reduceIte, reduceEqDiff, reduceAdd, reduceCtorEq, reduceToNat]; exact ⟨s2, ⟨hb.2, B.num, B.pos, B.top, B.tt, by have := B.mvs; show 0 + P.wts.length ≤ _; omega⟩, by have := r.few; rw [hm]; show 0 + P.conns.length ≤ _; omega, rfl⟩⟩ ?_
  rintro m env h3 ⟨D3, P3, rfl, e0, e1', e6, s3, B3, hwt, hmc, hlr⟩
  have r3 := s3.pr
  have eb := s3.b
  have hp3 := r3.pool
  unfold pcells at hp3
  have hlg := long_pl P3
  have hcl2 : (centries P3.conns).length = P3.conns.length := List.length_map ..
  have hlp : P3.pl.conns.length = P3.conns.length := List.length_map ..
  rw [eb] at hp3
  have hmb3 := r3.map
  have hnn : ((none : Option CN) ≠ none) = False := by simp
  cases hL : longF P3 with
  | none =>
    have hfin : P3.pl = limR (P.conns.length + 1) { P.pl with lim := n } n := by
      rw [hL] at hlg
      rw [← hlr, limR, ← hlg]
      rfl
    rw [hL] at e6
    simp +contextual (disch := first | simp only [fq]; done | omega | simp only [Knx]; omega) only [fV, reduceLE, reduceLT, reduceLeDiff, ↓reduceIte, reduceEqDiff, reduceAdd, reduceCtorEq, reduceToNat, Tryz.f33, e0, e1', e6, neq_cn2, hnn]
    rw [← eb]
    refine callF_of (serve_spec hS r3 (T := T) ⟨B3.lim, B3.num, B3.pos, B3.top, B3.tt, by rw [hwt]; omega⟩) (hown s3) ?_
    rintro v h6 ⟨D6, P6, s6, B6, e6'⟩
    have s36 := s3.trans s6
    have eb6 := s6.b
    simp +contextual (disch := first | simp only [fq]; done | omega | simp only [Knx]; omega) only [fV, reduceLE, reduceLT, reduceLeDiff, ↓reduceIte, reduceEqDiff, reduceAdd, reduceCtorEq, reduceToNat, Tryz.f33, e0]
    rw [← eb, ← eb6]
    refine told_end hS s36 B6 (hown s36) ?_
    rintro v9 h9 mv9 rfl hR
    simp +contextual (disch := first | simp only [fq]; done | omega | simp only [Knx]; omega) only [fV, reduceLE, reduceLT, reduceLeDiff, ↓reduceIte, reduceEqDiff, reduceAdd, reduceCtorEq, reduceToNat, Tryz.f33]
    rw [e6', hfin] at hR
    exact hR
  | some c =>
    have hcm := longF_mem hL
    rw [hL] at hlg e6
    have hsn : (some c ≠ (none : Option CN)) = True := by simp
    by_cases hlen : (P3.conns.length : Int) > n
    · have hlen' : n < (P3.conns.length : Int) := hlen
      simp +contextual (disch := first | simp only [fq]; done | omega | simp only [Knx]; omega) only [wpyr, fW, reduceLE, reduceLT, reduceLeDiff, ↓reduceIte, reduceEqDiff, reduceAdd, reduceCtorEq, reduceToNat, Tryz.f33, e0, e1', e6, neq_cn2, hsn, hp3]
      refine len_map (a := 3) (b := 68) (r := D3.mb) (by kernel_rfl) rfl r3.map ?_
      simp +contextual (disch := first | simp only [fq]; done | omega | simp only [Knx]; omega) only [fV, reduceLE, reduceLT, reduceLeDiff, ↓reduceIte, reduceEqDiff, reduceAdd, reduceCtorEq, reduceToNat, Tryz.f33, e0, e1', e6, hp3, hcl2, hlen', cnV_some]
      rw [← eb]
      refine callF_of (closes_spec hS r3 hcm (by omega)) (hown s3) ?_
      rintro v h4 ⟨D4, s4⟩
      have s34 := s3.trans s4
      have eb4 := s4.b
      simp +contextual (disch := first | simp only [fq]; done | omega | simp only [Knx]; omega) only [fV, reduceLE, reduceLT, reduceLeDiff, ↓reduceIte, reduceEqDiff, reduceAdd, reduceCtorEq, reduceToNat, Tryz.f33, e0, e1']
      rw [← eb, ← eb4]
      refine callF_pure (longest_spec hS s4.pr) ?_
      rintro v h5 hx5 rfl
      simp +contextual (disch := first | simp only [fq]; done | omega | simp only [Knx]; omega) only [fV, reduceLE, reduceLT, reduceLeDiff, ↓reduceIte, reduceEqDiff, reduceAdd, reduceCtorEq, reduceToNat, Tryz.f33, e0, e1']
      have hdl := delC_len r3.rise hcm
      refine ⟨(delC P3.conns c.num).length, by omega, D4, { P3 with conns := delC P3.conns c.num, moves := P3.moves ++ [⟨6, c.num, 0⟩] }, rfl, e0, e1', rfl, s34.trans (Stp.ext s4.pr hx5), ⟨B3.lim, fun x hx => B3.num x ((delC_sub _ _).subset hx), B3.pos, B3.top, B3.tt, B3.mvs⟩, hwt, ?_, ?_⟩
      · show (P3.moves ++ [_]).length + (delC P3.conns c.num).length ≤ _
        rw [List.length_append]
        simp only [List.length_cons, List.length_nil]
        omega
      · rw [← hlr]
        show limR ((delC P3.conns c.num).length + 1) _ n = _
        rw [hdl, limR.eq_2 P3.pl n P3.conns.length, ← hlg]
        simp only [Option.map_some, if_pos (show (P3.pl.conns.length : Int) > n from by rw [hlp]; exact hlen)]
        congr 1
        show PS.pl _ = ((P3.pl.del c.num).mov 6 c.num 0)
        rw [← del_pl]
        rfl
    · have hlen' : ¬ n < (P3.conns.length : Int) := hlen
      have hfin : P3.pl = limR (P.conns.length + 1) { P.pl with lim := n } n := by
        rw [← hlr, limR, ← hlg]
        simp only [Option.map_some, if_neg (show ¬ (P3.pl.conns.length : Int) > n from by rw [hlp]; exact hlen)]
      simp +contextual (disch := first | simp only [fq]; done | omega | simp only [Knx]; omega) only [wpyr, fW, reduceLE, reduceLT, reduceLeDiff, ↓reduceIte, reduceEqDiff, reduceAdd, reduceCtorEq, reduceToNat, Tryz.f33, e0, e1', e6, neq_cn2, hsn, hp3]
      refine len_map (a := 3) (b := 68) (r := D3.mb) (by kernel_rfl) rfl r3.map ?_
      simp +contextual (disch := first | simp only [fq]; done | omega | simp only [Knx]; omega) only [fV, reduceLE, reduceLT, reduceLeDiff, ↓reduceIte, reduceEqDiff, reduceAdd, reduceCtorEq, reduceToNat, Tryz.f33, e0, e1', e6, hp3, hcl2, hlen', cnV_some]
      rw [← eb]
      refine callF_of (serve_spec hS r3 (T := T) ⟨B3.lim, B3.num, B3.pos, B3.top, B3.tt, by rw [hwt]; omega⟩) (hown s3) ?_
      rintro v h6 ⟨D6, P6, s6, B6, e6'⟩
      have s36 := s3.trans s6
      have eb6 := s6.b
      simp +contextual (disch := first | simp only [fq]; done | omega | simp only [Knx]; omega) only [fV, reduceLE, reduceLT, reduceLeDiff, ↓reduceIte, reduceEqDiff, reduceAdd, reduceCtorEq, reduceToNat, Tryz.f33, e0]
      rw [← eb, ← eb6]
      refine told_end hS s36 B6 (hown s36) ?_
      rintro v9 h9 mv9 rfl hR
      simp +contextual (disch := first | simp only [fq]; done | omega | simp only [Knx]; omega) only [fV, reduceLE, reduceLT, reduceLeDiff, ↓reduceIte, reduceEqDiff, reduceAdd, reduceCtorEq, reduceToNat, Tryz.f33]
      rw [e6', hfin] at hR
      exact hR
end
noncomputable section
noncomputable def outM (q : WT → Prop) (l : List WT) : List MV := (l.filter fun w => decide (q w)).map fun w => ⟨4, 0, w.cl⟩
noncomputable def outW (q : WT → Prop) (l : List WT) : List WT := l.filter fun w => decide (¬ q w)
def OuI (q : WT → Prop) (fv : V) (D0 : PD) (P0 : PS) (h0 : H) (m : Nat) (env : Env) (h' : H) : Prop :=
  ∃ (j : Nat) (ov : V) (D : PD), m = P0.wts.length - j ∧ j ≤ P0.wts.length ∧ env 0 = .ptr D0.b 0 ∧ env 1 = fv ∧ env 4 = ov ∧ env 10 = D0.wv ∧ env 11 = .int .i64 P0.wts.length ∧ env 12 = .int .i64 j ∧ D.wv = D0.wv ∧ Stp D0 P0 h0 D { P0 with moves := P0.moves ++ outM q (P0.wts.take j) } h' ∧ Lst h0.nx h' ov (wtcells (outW q (P0.wts.take j))) 70 2 ∧ ∀ k o n m, ov = .slice k o n m → ¬ owns D { P0 with moves := P0.moves ++ outM q (P0.wts.take j) } k
theorem outM_snoc (q : WT → Prop) (l : List WT) (w : WT) : (q w → outM q (l ++ [w]) = outM q l ++ [⟨4, 0, w.cl⟩]) ∧ (¬ q w → outM q (l ++ [w]) = outM q l) := by
  unfold outM
  refine ⟨fun h => ?_, fun h => ?_⟩
  · rw [List.filter_append, List.map_append]
    simp [h]
  · rw [List.filter_append, List.map_append]
    simp [h]
theorem outW_snoc (q : WT → Prop) (l : List WT) (w : WT) : (q w → outW q (l ++ [w]) = outW q l) ∧ (¬ q w → outW q (l ++ [w]) = outW q l ++ [w]) := by
  unfold outW
  refine ⟨fun h => ?_, fun h => ?_⟩
  · rw [List.filter_append]
    simp [h]
  · rw [List.filter_append]
    simp [h]
theorem Lst.keep {n0 e sz : Nat} {h h' : H} {v : V} {cells : List V} (hl : Lst n0 h v cells e sz) (hn : h.nx ≤ h'.nx) (hk : ∀ k o n m, v = .slice k o n m → h'.get k = h.get k) : Lst n0 h' v cells e sz := by
  rcases hl with (ha | ⟨k, n, h1, h2, h3, h4, h5, h6⟩) | ⟨h1, k, h2, h3, h4, h5⟩
  · exact .inl (.inl ha)
  · exact .inl (.inr ⟨k, n, h1, Nat.lt_of_lt_of_le h2 hn, h3, h4, by rw [hk _ _ _ _ h3]; exact h5, h6⟩)
  · exact .inr ⟨h1, k, h2, Nat.lt_of_lt_of_le h3 hn, h4, by rw [hk _ _ _ _ h4]; exact h5⟩
theorem Lst.lo {n0 e sz : Nat} {h : H} {v : V} {cells : List V} (hl : Lst n0 h v cells e sz) {k o n m : Nat} (q : v = .slice k o n m) : n0 ≤ k := by
  rcases hl with (⟨h0, _⟩ | ⟨k', n', h1, h2, h3, _⟩) | ⟨_, k', h1, h3, h4, _⟩
  · rw [h0] at q; cases q
  · rw [h3] at q; cases q; exact h1
  · rw [h4] at q; cases q; exact h1
theorem PR.keep {D : PD} {P : PS} {h h' : H} (r : PR D P h) (hn : h.nx ≤ h'.nx) (ho : ∀ k, owns D P k → h'.get k = h.get k) (hw : ∀ k o n m, D.wv = .slice k o n m → h'.get k = h.get k) : PR D P h' where
  pool := by rw [ho _ (.inl rfl)]; exact r.pool
  map := by rw [ho _ (.inr (.inl rfl))]; exact r.map
  conn := fun c hc => by rw [ho _ (.inr (.inr (.inl ⟨c, hc, rfl⟩)))]; exact r.conn c hc
  wts := r.wts.ext hn hw
  mvs := Lst.keep r.mvs hn fun k o n m q => ho k (.inr (.inr (.inr ⟨o, n, m, q⟩)))
  bmb := r.bmb
  cb := r.cb
  cc := r.cc
  wb := r.wb
  mvb := r.mvb
  lt := ⟨Nat.lt_of_lt_of_le r.lt.1 hn, Nat.lt_of_lt_of_le r.lt.2.1 hn, fun c hc => Nat.lt_of_lt_of_le (r.lt.2.2 c hc) hn⟩
  stamps := r.stamps
  apart := r.apart
  rise := r.rise
  few := r.few
  wf := r.wf
theorem owns_lt {D : PD} {P : PS} {h : H} (r : PR D P h) {k : Nat} (q : owns D P k) : k < h.nx := by
  rcases q with rfl | rfl | ⟨c, hc, rfl⟩ | ⟨o, n, m, q⟩
  · exact r.lt.1
  · exact r.lt.2.1
  · exact r.lt.2.2 c hc
  · exact Lst.lt r.mvs q
variable {S : Set0} (hS : StdP S)
include hS
theorem out_spec {D : PD} {P : PS} {h : H} (r : PR D P h) (hm : P.moves = []) (hw : P.wts.length ≤ 1000) (q : WT → Prop) (f : FuncId) (caps : List V) (hf : ∀ w ∈ P.wts, ∀ D' P' h', Stp D P h D' P' h' → P'.now = P.now → Pure S.cfg f (.agg w.cells :: caps) h' fun v _ => v = bo (q w)) : callW S.cfg (owns D P) 58 [.ptr D.b 0, .func f [] caps] h fun _ h' => ∃ D', Stp D P h D' { P with wts := outW q P.wts, moves := outM q P.wts } h' := by
  refine into Tryz.f58 _ Tryz.func58 (hS.ownP _ (by decide)) rfl rfl (by kernel_rfl) (by kernel_rfl) ?_
  have hp := r.pool
  unfold pcells at hp
  have hlen := r.wts.len
  simp +contextual (disch := first | simp only [fq]; done | omega | simp only [Knx]; omega) only [fV, reduceLE, reduceLT, reduceLeDiff, ↓reduceIte, reduceEqDiff, reduceAdd, reduceCtorEq, reduceToNat, Tryz.f58, hp, hlen]
  refine run_loop (OuI q (.func f [] caps) D P h) P.wts.length ⟨0, .nilslice, D, by simp +contextual (disch := first | simp only [fq]; done | omega | simp only [Knx]; omega) only [fV, reduceLE, reduceLT, reduceLeDiff, ↓reduceIte, reduceEqDiff, reduceAdd, reduceCtorEq, reduceToNat]; exact ⟨(Nat.sub_zero _).symm, by simpa [outM] using Stp.refl r, .inl (.inl ⟨rfl, rfl⟩)⟩⟩ ?_
  rintro m env h1 ⟨j, ov, D1, rfl, hj, e0, e1, e4, e10, e11, e12, ew, s1, hL, hno⟩
  have r1 := s1.pr
  have eb := s1.b
  by_cases hlt : j < P.wts.length
  · have hwt := r1.wts
    rw [ew] at hwt
    obtain ⟨wb, wo, wm, wc, wfl, hwv, hwm, hwn, hwg, hwc⟩ := hwt.opened (show 0 < P.wts.length by omega)
    obtain ⟨x0, x1⟩ := hwc j hlt
    rw [hwv] at e10
    have hbn : ¬ wb = h1.nx := by omega
    have hwj : IntKind.i64.wrap ((j : Int) + 1) = ((j + 1 : Nat) : Int) := by rw [i64_in _ (by omega)]; omega
    simp +contextual (disch := first | simp only [fq]; done | omega | simp only [Knx]; omega) only [fV, reduceLE, reduceLT, reduceLeDiff, ↓reduceIte, reduceEqDiff, reduceAdd, reduceCtorEq, reduceToNat, Tryz.f58, e0, e1, e4, e10, e11, e12, hlt, hwg, x0, x1, WT.cells, hbn]
    refine ⟨.inr (.inl s1.nx), ?_⟩
    obtain ⟨hA, hhA⟩ : ∃ hA, hA = (h1.push (Ob.cells [V.int IntKind.i64 0, V.int IntKind.i64 0] 70 false)).put h1.nx (Ob.cells [V.int IntKind.i64 P.wts[j].cl, V.int IntKind.i64 P.wts[j].til] 70 false) := ⟨_, rfl⟩
    rw [← hhA]
    have hxA : Ext h1 hA := by rw [hhA]; exact Ext.new _ _ _
    have hgA : hA.get h1.nx = some (.cells [.int .i64 P.wts[j].cl, .int .i64 P.wts[j].til] 70 false) := by rw [hhA]; exact put_eq rfl
    have hnA : hA.nx = h1.nx + 1 := by rw [hhA]; rfl
    clear hhA
    have sA := s1.trans (Stp.ext r1 hxA)
    refine callF_pure (hf _ (List.getElem_mem hlt) _ _ _ sA rfl) ?_
    rintro v h3 hx3 rfl
    have s3 := sA.trans (Stp.ext sA.pr hx3)
    have hg3 : h3.get h1.nx = some (.cells [.int .i64 P.wts[j].cl, .int .i64 P.wts[j].til] 70 false) := by rw [hx3.2 _ (by omega)]; exact hgA
    have hn3 := hx3.1
    have h13 : ∀ k, k < h1.nx → h3.get k = h1.get k := fun k hk => by rw [hx3.2 k (by omega), hxA.2 k hk]
    have htk : P.wts.take (j + 1) = P.wts.take j ++ [P.wts[j]] := List.take_succ_eq_append_getElem hlt
    have hown : ∀ {D2 : PD} {P2 : PS} {h2 : H}, Stp D P h D2 P2 h2 → ∀ k, owns D2 P2 k → fresh h.nx (owns D P) k := fun s k q => by rw [fresh_def]; exact (s.own k q).elim .inr .inl
    have hml : (outM q (P.wts.take j)).length ≤ P.wts.length := by
      unfold outM
      rw [List.length_map]
      exact Nat.le_trans (List.length_filter_le _ _) (by rw [List.length_take]; omega)
    by_cases hq : q P.wts[j]
    · simp +contextual (disch := first | simp only [fq]; done | omega | simp only [Knx]; omega) only [fV, reduceLE, reduceLT, reduceLeDiff, ↓reduceIte, reduceEqDiff, reduceAdd, reduceCtorEq, reduceToNat, Tryz.f58, e0, hq, hg3]
      rw [← eb]
      refine callF_of (move_spec hS s3.pr 4 0 P.wts[j].cl (by show (P.moves ++ _).length ≤ _; rw [hm]; show (outM q (P.wts.take j)).length ≤ _; omega)) (hown s3) ?_
      rintro v h4 ⟨mv, s4⟩
      have s34 := s3.trans s4
      simp +contextual (disch := first | simp only [fq]; done | omega | simp only [Knx]; omega) only [fV, reduceLE, reduceLT, reduceLeDiff, ↓reduceIte, reduceEqDiff, reduceAdd, reduceCtorEq, reduceToNat, Tryz.f58, e0, e1, e4, e10, e11, e12]
      have hov : ∀ k o n m, ov = .slice k o n m → h4.get k = h1.get k := fun k o n m w => by
        have := Lst.lt hL w
        rw [s4.same k (by omega) (hno k o n m w), h13 k this]
      refine ⟨P.wts.length - (j + 1), by omega, j + 1, ov, { D1 with mv := mv }, rfl, hlt, e0, e1, e4, by simp +contextual (disch := first | simp only [fq]; done | omega | simp only [Knx]; omega) only [fV, reduceLE, reduceLT, reduceLeDiff, ↓reduceIte, reduceEqDiff, reduceAdd, reduceCtorEq, reduceToNat, e10, hwv], e11, by simp +contextual (disch := first | simp only [fq]; done | omega | simp only [Knx]; omega) only [fV, reduceLE, reduceLT, reduceLeDiff, ↓reduceIte, reduceEqDiff, reduceAdd, reduceCtorEq, reduceToNat, e12, hwj], ew, ?_, ?_, ?_⟩
      · rw [htk, (outM_snoc q _ _).1 hq, ← List.append_assoc]
        exact s34
      · rw [htk, (outW_snoc q _ _).1 hq]
        exact Lst.keep hL (by have := s4.nx; omega) hov
      · rw [htk, (outM_snoc q _ _).1 hq, ← List.append_assoc]
        intro k o n m w w2
        have := Lst.lt hL w
        exact (s4.own k w2).elim (hno k o n m w) (by omega)
    · simp +contextual (disch := first | simp only [fq]; done | omega | simp only [Knx]; omega) only [fV, reduceLE, reduceLT, reduceLeDiff, ↓reduceIte, reduceEqDiff, reduceAdd, reduceCtorEq, reduceToNat, Tryz.f58, e0, e4, hq, hg3]
      obtain ⟨hB, hhB⟩ : ∃ hB, hB = h3.push (Ob.cells [V.int IntKind.i64 P.wts[j].cl, V.int IntKind.i64 P.wts[j].til] 70 false) := ⟨_, rfl⟩
      rw [← hhB]
      have hxB : Ext h3 hB := by rw [hhB]; exact (Ext.refl h3).push _
      have hgB : hB.get h3.nx = some (.cells [V.int IntKind.i64 P.wts[j].cl, V.int IntKind.i64 P.wts[j].til] 70 false) := by rw [hhB]; exact push_eq rfl
      have hnB : hB.nx = h3.nx + 1 := by rw [hhB]; rfl
      clear hhB
      have s3B := s3.trans (Stp.ext s3.pr hxB)
      have hLB : Lst h.nx hB ov (wtcells (outW q (P.wts.take j))) 70 2 := Lst.keep hL (by omega) fun k o n m w => by
        have := Lst.lt hL w
        rw [hxB.2 k (by omega), h13 k this]
      have hnh := s1.nx
      have hol : (outW q (P.wts.take j)).length ≤ P.wts.length := by
        unfold outW
        exact Nat.le_trans (List.length_filter_le _ _) (by rw [List.length_take]; omega)
      refine append_fresh (n0 := h.nx) (sv := ov) (cells := wtcells (outW q (P.wts.take j))) (new := WT.cells P.wts[j]) ?_ (b2 := h3.nx) (o2 := 0) (n := 1) (m := 1) ?_ ap44 ⟨.slice 70, by kernel_rfl, rfl⟩ hLB (by decide) (by rw [hgB]; exact rdC_all rfl) rfl rfl ?_ (by decide) (fun k ⟨o, n, m, w⟩ => by rw [fresh_def]; exact .inl (Lst.lo hL w)) (by omega) ?_
      · simp +contextual (disch := first | simp only [fq]; done | omega | simp only [Knx]; omega) only [fV, reduceLE, reduceLT, reduceLeDiff, ↓reduceIte, reduceEqDiff, reduceAdd, reduceCtorEq, reduceToNat, e4]
      · simp +contextual (disch := first | simp only [fq]; done | omega | simp only [Knx]; omega) only [fV, reduceLE, reduceLT, reduceLeDiff, ↓reduceIte, reduceEqDiff, reduceAdd, reduceCtorEq, reduceToNat]
      · rw [wtcells_len]; show _ * 2 + 2 ≤ _; omega
      intro v4 h5 L ha hx5 hk5 hL5
      have hsame : ∀ k, k < hB.nx → (∀ o n m, ov ≠ .slice k o n m) → h5.get k = hB.get k := hk5
      have s5 : Stp D P h D1 { P with moves := P.moves ++ outM q (P.wts.take j) } h5 := {
        pr := PR.keep s3B.pr hx5 (fun k w => hsame k (owns_lt s3B.pr w) fun o n m w2 => hno k o n m w2 w) (fun k o n m w => hsame k (s3B.pr.wts.lt w) fun o' n' m' w2 => by
          rw [ew] at w
          have := r.wts.lt w
          have := Lst.lo hL w2
          omega)
        nx := by omega
        same := fun k hk w => by
          rw [hsame k (by omega) (fun o n m w2 => by have := Lst.lo hL w2; omega), s3B.same k hk w]
        own := s3B.own
        b := s3B.b
        wvk := s3B.wvk }
      simp +contextual (disch := first | simp only [fq]; done | omega | simp only [Knx]; omega) only [fV, reduceLE, reduceLT, reduceLeDiff, ↓reduceIte, reduceEqDiff, reduceAdd, reduceCtorEq, reduceToNat, Tryz.f58, e0, e1, e4, e10, e11, e12]
      refine ⟨P.wts.length - (j + 1), by omega, j + 1, v4, D1, rfl, hlt, e0, e1, rfl, by simp +contextual (disch := first | simp only [fq]; done | omega | simp only [Knx]; omega) only [fV, reduceLE, reduceLT, reduceLeDiff, ↓reduceIte, reduceEqDiff, reduceAdd, reduceCtorEq, reduceToNat, e10, hwv], e11, by simp +contextual (disch := first | simp only [fq]; done | omega | simp only [Knx]; omega) only [fV, reduceLE, reduceLT, reduceLeDiff, ↓reduceIte, reduceEqDiff, reduceAdd, reduceCtorEq, reduceToNat, e12, hwj], ew, ?_, ?_, ?_⟩
      · rw [htk, (outM_snoc q _ _).2 hq]
        exact s5
      · rw [htk, (outW_snoc q _ _).2 hq, wtcells_snoc]
        exact .inl (ha.mono (by omega))
      · rw [htk, (outM_snoc q _ _).2 hq]
        intro k o n m w w2
        have := (ha.blk w).1
        have := owns_lt s3B.pr w2
        omega
  · have hje : j = P.wts.length := by omega
    subst hje
    rw [List.take_length] at s1 hL hno
    have hp1 := s1.pr.pool
    unfold pcells at hp1
    rw [eb] at hp1
    obtain ⟨c1, c2⟩ := (Wts.of_lst hL).cell
    have s2 : Stp D P h _ _ _ := ⟨s1.toStpC.trans (StpC.set (h4 := h1) (D' := { D1 with wv := ov }) (P' := { P with wts := outW q P.wts, moves := P.moves ++ outM q P.wts }) s1.pr (Nat.le_refl _) (fun _ _ _ => rfl) rfl rfl rfl rfl (Wts.of_lst hL) s1.pr.mvs (fun k o n m w => by
      have hn := hno k o n m w
      refine ⟨fun e => hn (.inl e), fun e => hn (.inr (.inl e)), fun c hc e => hn (.inr (.inr (.inl ⟨c, hc, e⟩))), fun o n m e => hn (.inr (.inr (.inr ⟨o, n, m, e⟩)))⟩) (fun k o n m w => ⟨s1.pr.mvb k o n m w, .inl ⟨o, n, m, w⟩⟩)), fun k o n m w => .inr (Lst.lo hL w)⟩
    rw [hm, List.nil_append, eb] at s2
    unfold pcells at s2
    simp +contextual (disch := first | simp only [fq]; done | omega | simp only [Knx]; omega) only [fV, reduceLE, reduceLT, reduceLeDiff, ↓reduceIte, reduceEqDiff, reduceAdd, reduceCtorEq, reduceToNat, Tryz.f58, e0, e1, e4, e10, e11, e12, hlt, hp1, c1, c2]
    exact ⟨.inr (.inr (.inl rfl)), _, s2⟩
end
noncomputable section
variable {S : Set0} (hS : StdP S)
include hS
theorem close1_spec (w : WT) (h : H) : Pure S.cfg 61 [.agg w.cells] h fun v _ => v = bo True := by
  refine into Tryz.f61 _ Tryz.func61 (hS.ownP _ (by decide)) rfl rfl (by kernel_rfl) (by kernel_rfl) ?_
  unfold WT.cells
  simp +contextual (disch := first | simp only [fq]; done | omega | simp only [Knx]; omega) only [fV, reduceLE, reduceLT, reduceLeDiff, ↓reduceIte, reduceEqDiff, reduceAdd, reduceCtorEq, reduceToNat, Tryz.f61]
  exact (Ext.refl h).push _
theorem tick1_spec {D : PD} {P : PS} {h : H} (r : PR D P h) (w : WT) (k : Nat) (hk : h.get k = some (.cells [.ptr D.b 0] 26 false)) (hkn : k < h.nx) : Pure S.cfg 59 [.agg w.cells, .ptr k 0] h fun v _ => v = bo (w.til ≤ P.now) := by
  refine into Tryz.f59 _ Tryz.func59 (hS.ownP _ (by decide)) rfl rfl (by kernel_rfl) (by kernel_rfl) ?_
  unfold WT.cells
  have hp := r.pool
  unfold pcells at hp
  have h1 : ¬ k = h.nx := by omega
  have h2 : ¬ D.b = h.nx := by have := r.lt.1; omega
  simp +contextual (disch := first | simp only [fq]; done | omega | simp only [Knx]; omega) only [wpyr, fW, reduceLE, reduceLT, reduceLeDiff, ↓reduceIte, reduceEqDiff, reduceAdd, reduceCtorEq, reduceToNat, Tryz.f59, hk, hp, h1, h2]
  refine draw_by [] (by kernel_rfl) ?_
  simp +contextual (disch := first | simp only [fq]; done | omega | simp only [Knx]; omega) only [fV, reduceLE, reduceLT, reduceLeDiff, ↓reduceIte, reduceEqDiff, reduceAdd, reduceCtorEq, reduceToNat, Tryz.f59, hk, hp, h1, h2]
  exact ⟨fun p hp => by (cases hp), (Ext.refl h).push _⟩
end
noncomputable section
noncomputable def clR (t : PC → Prop) : List PC → PL → PL
  | [], p => p
  | c :: l, p => clR t l (if t c then (p.del c.num).mov 6 c.num 0 else p)
noncomputable def outL (q : WT → Prop) (p : PL) : PL := { p with wts := outW q p.wts, moves := outM q p.wts }
def idleP (c : PC) : Prop := c.st = 4
noncomputable def closeF (p : PL) : Res := if p.closed then (9, [], p) else (clR idleP p.conns (outL (fun _ => True) { p with closed := True })).done
def ClI (T : Int) (D : PD) (P : PS) (h : H) (L0 : List CN) (lv : V) (g : PL) (m : Nat) (env : Env) (h' : H) : Prop :=
  ∃ (j : Nat) (D1 : PD) (P1 : PS), m = L0.length - j ∧ j ≤ L0.length ∧ env 0 = .ptr D.b 0 ∧ env 20 = lv ∧ env 21 = .int .i64 L0.length ∧ env 22 = .int .i64 j ∧ Stp D P h D1 P1 h' ∧ (∀ c ∈ L0.drop j, c ∈ P1.conns) ∧ P1.moves.length ≤ 1000 + j ∧ Bds T { P1 with moves := [] } ∧ Lst 0 h' lv (ptrs L0) 68 1 ∧ (∀ k o n m, lv = .slice k o n m → ¬ owns D1 P1 k) ∧ clR idleP ((L0.drop j).map CN.pc) P1.pl = g
variable {S : Set0} (hS : StdP S)
include hS
theorem close_spec {T : Int} {D : PD} {P : PS} {h : H} (r : PR D P h) (hm : P.moves = []) (B : Bds T P) (hw : P.wts.length ≤ 256) : callW S.cfg (owns D P) 34 [.ptr D.b 0] h (OpR T D P h (closeF P.pl)) := by
  refine into Tryz.f34 _ Tryz.func34 (hS.ownP _ (by decide)) rfl rfl (by kernel_rfl) (by kernel_rfl) ?_
  have hp := r.pool
  unfold pcells at hp
  simp +contextual (disch := first | simp only [fq]; done | omega | simp only [Knx]; omega) only [fV, reduceLE, reduceLT, reduceLeDiff, ↓reduceIte, reduceEqDiff, reduceAdd, reduceCtorEq, reduceToNat, Tryz.f34]
  refine callF_exact (none_spec hS r) ?_
  by_cases hcl : P.closed
  · have e1 : closeF P.pl = (9, [], P.pl) := if_pos hcl
    rw [e1]
    simp +contextual (disch := first | simp only [fq]; done | omega | simp only [Knx]; omega) only [fV, reduceLE, reduceLT, reduceLeDiff, ↓reduceIte, reduceEqDiff, reduceAdd, reduceCtorEq, reduceToNat, Tryz.f34, hp, hcl]
    exact OpR.bad r hm B 9
  have e1 : closeF P.pl = (clR idleP P.pl.conns (outL (fun _ => True) { P.pl with closed := True })).done := if_neg hcl
  rw [e1]
  have s1 := Stp.set (h4 := h) (D' := D) (P' := { P with closed := True }) r (Nat.le_refl _) (fun _ _ _ => rfl) rfl rfl rfl rfl r.wts r.mvs r.wb (fun k o n m q => ⟨r.mvb k o n m q, .inl ⟨o, n, m, q⟩⟩)
  have hown : ∀ {D2 : PD} {P2 : PS} {h2 : H}, Stp D P h D2 P2 h2 → ∀ k, owns D2 P2 k → fresh h.nx (owns D P) k := fun s k q => by rw [fresh_def]; exact (s.own k q).elim .inr .inl
  simp +contextual (disch := first | simp only [fq]; done | omega | simp only [Knx]; omega) only [fV, reduceLE, reduceLT, reduceLeDiff, ↓reduceIte, reduceEqDiff, reduceAdd, reduceCtorEq, reduceToNat, Tryz.f34, hp, hcl]
  refine ⟨.inr (.inr (.inl rfl)), ?_⟩
  refine callF_of (out_spec hS s1.pr hm (by show P.wts.length ≤ _; omega) (fun _ => True) 61 [] (fun w _ D' P' h' _ _ => close1_spec hS w h')) (hown s1) ?_
  rintro v h2 ⟨D2, s2⟩
  have s12 := s1.trans s2
  have eb := s12.b
  have hoW : (outW (fun _ => True) P.wts).length ≤ P.wts.length := List.length_filter_le _ _
  have hoM : (outM (fun _ => True) P.wts).length ≤ P.wts.length := by unfold outM; rw [List.length_map]; exact List.length_filter_le _ _
  simp +contextual (disch := first | simp only [fq]; done | omega | simp only [Knx]; omega) only [fV, reduceLE, reduceLT, reduceLeDiff, ↓reduceIte, reduceEqDiff, reduceAdd, reduceCtorEq, reduceToNat, Tryz.f34]
  rw [← eb]
  refine callF_pure (sorted_spec hS s2.pr) ?_
  intro lv h3 hx3 hL
  have s3 := s12.trans (Stp.ext s12.pr hx3)
  have hlen := lst_lenV (e := 68) hL
  have hf := r.few
  simp +contextual (disch := first | simp only [fq]; done | omega | simp only [Knx]; omega) only [fV, reduceLE, reduceLT, reduceLeDiff, ↓reduceIte, reduceEqDiff, reduceAdd, reduceCtorEq, reduceToNat, Tryz.f34, hlen]
  refine run_loop (ClI T D P h P.conns lv (clR idleP P.pl.conns (outL (fun _ => True) { P.pl with closed := True }))) P.conns.length ⟨0, D2, _, by simp +contextual (disch := first | simp only [fq]; done | omega | simp only [Knx]; omega) only [fV, reduceLE, reduceLT, reduceLeDiff, ↓reduceIte, reduceEqDiff, reduceAdd, reduceCtorEq, reduceToNat, eb]; exact ⟨(Nat.sub_zero _).symm, s3, fun c hc => hc, by show (outM (fun _ => True) P.wts).length ≤ _; omega, ⟨B.lim, B.num, B.pos, by have := B.top; show P.last + ((outW (fun _ => True) P.wts).length : Int) ≤ _; omega, B.tt, by show 0 + (outW (fun _ => True) P.wts).length ≤ _; omega⟩, Lst.mono' hL (Nat.zero_le _), fun k o n m w w2 => by have := Lst.lo hL w; have := owns_lt s12.pr w2; omega, rfl⟩⟩ ?_
  rintro m env h4 ⟨j, D1, P1, rfl, hj, e0, e20, e21, e22, s4, hin, hml, B4, hL4, hno, hcr⟩
  have r4 := s4.pr
  have eb4 := s4.b
  by_cases hlt : j < P.conns.length
  · obtain ⟨kb, rfl, kb0, kb1, hkb⟩ := lst_rowV hL4 (by omega)
    have hd : P.conns.drop j = P.conns[j] :: P.conns.drop (j + 1) := List.drop_eq_getElem_cons hlt
    rw [hd] at hin hcr
    have hcm := hin _ (.head _)
    rw [List.map_cons, clR] at hcr
    have c1 : (ptrs P.conns)[j]? = some (.ptr P.conns[j].blk 0) := by unfold ptrs; rw [List.getElem?_map, List.getElem?_eq_getElem hlt]; rfl
    have hkb' : h4.get kb = some (.cells (ptrs P.conns) 68 true) := hkb
    have g1 := r4.conn _ hcm
    unfold CN.cells at g1
    have hwj : IntKind.i64.wrap ((j : Int) + 1) = ((j + 1 : Nat) : Int) := by rw [i64_in _ (by omega)]; omega
    by_cases hs : P.conns[j].st = 4
    · rw [if_pos (show idleP P.conns[j].pc from hs)] at hcr
      simp +contextual (disch := first | simp only [fq]; done | omega | simp only [Knx]; omega) only [fV, reduceLE, reduceLT, reduceLeDiff, ↓reduceIte, reduceEqDiff, reduceAdd, reduceCtorEq, reduceToNat, Tryz.f34, e0, e20, e21, e22, hlt, hkb', c1, g1, hs]
      rw [← eb4]
      refine callF_of (closes_spec hS r4 hcm (by omega)) (hown s4) ?_
      rintro v h5 ⟨D5, s5⟩
      have s45 := s4.trans s5
      simp +contextual (disch := first | simp only [fq]; done | omega | simp only [Knx]; omega) only [fV, reduceLE, reduceLT, reduceLeDiff, ↓reduceIte, reduceEqDiff, reduceAdd, reduceCtorEq, reduceToNat, Tryz.f34, e0, e20, e21, e22]
      refine ⟨P.conns.length - (j + 1), by omega, j + 1, D5, _, rfl, hlt, e0, e20, e21, by simp +contextual (disch := first | simp only [fq]; done | omega | simp only [Knx]; omega) only [fV, reduceLE, reduceLT, reduceLeDiff, ↓reduceIte, reduceEqDiff, reduceAdd, reduceCtorEq, reduceToNat, e22, hwj], s45, fun c hc => ?_, ?_, ⟨B4.lim, fun x hx => B4.num x ((delC_sub _ _).subset hx), B4.pos, B4.top, B4.tt, B4.mvs⟩, ?_, ?_, ?_⟩
      · refine List.mem_filter.2 ⟨hin c (.tail _ hc), ?_⟩
        have h0 := r.rise
        rw [← List.take_append_drop j P.conns, hd, List.map_append, List.map_cons, List.pairwise_append] at h0
        have := (List.pairwise_cons.1 h0.2.1).1 c.num (List.mem_map_of_mem hc)
        simp; omega
      · show (P1.moves ++ [_]).length ≤ _
        rw [List.length_append]
        simp only [List.length_cons, List.length_nil]
        omega
      · exact Lst.keep hL4 s5.nx fun k o n m w => by
          have := Lst.lt hL4 w
          exact s5.same k this (hno k o n m w)
      · intro k o n m w w2
        have := Lst.lt hL4 w
        exact (s5.own k w2).elim (hno k o n m w) (by omega)
      · rw [← hcr]
        congr 1
        show PS.pl _ = ((P1.pl.del P.conns[j].num).mov 6 P.conns[j].num 0)
        rw [← del_pl]
        rfl
    · rw [if_neg (show ¬ idleP P.conns[j].pc from hs)] at hcr
      simp +contextual (disch := first | simp only [fq]; done | omega | simp only [Knx]; omega) only [fV, reduceLE, reduceLT, reduceLeDiff, ↓reduceIte, reduceEqDiff, reduceAdd, reduceCtorEq, reduceToNat, Tryz.f34, e0, e20, e21, e22, hlt, hkb', c1, g1, hs]
      exact ⟨P.conns.length - (j + 1), by omega, j + 1, D1, P1, rfl, hlt, e0, e20, e21, by simp +contextual (disch := first | simp only [fq]; done | omega | simp only [Knx]; omega) only [fV, reduceLE, reduceLT, reduceLeDiff, ↓reduceIte, reduceEqDiff, reduceAdd, reduceCtorEq, reduceToNat, e22, hwj], s4, fun c hc => hin c (.tail _ hc), by omega, B4, hL4, hno, hcr⟩
  · have hje : j = P.conns.length := by omega
    subst hje
    rw [List.drop_length] at hcr
    simp +contextual (disch := first | simp only [fq]; done | omega | simp only [Knx]; omega) only [fV, reduceLE, reduceLT, reduceLeDiff, ↓reduceIte, reduceEqDiff, reduceAdd, reduceCtorEq, reduceToNat, Tryz.f34, e0, e20, e21, e22, hlt]
    rw [← eb4]
    refine told_end2 hS s4 B4 (hown s4) ?_
    rintro v9 h9 mv9 rfl hR
    simp +contextual (disch := first | simp only [fq]; done | omega | simp only [Knx]; omega) only [fV, reduceLE, reduceLT, reduceLeDiff, ↓reduceIte, reduceEqDiff, reduceAdd, reduceCtorEq, reduceToNat, Tryz.f34]
    rw [show P1.pl = _ from hcr] at hR
    exact hR
end
noncomputable section
def oldP (keep now : Int) (c : PC) : Prop := 0 < keep ∧ c.st = 4 ∧ keep ≤ now - c.since
noncomputable def tickF (p : PL) (n : Int) : Res := if ¬ (0 ≤ n ∧ n ≤ 1048576) then (2, [], p) else (serveF (clR (oldP p.keep (p.now + n)) p.conns (outL (fun w => w.til ≤ p.now + n) { p with now := p.now + n }))).done
def TkI (T : Int) (t : PC → Prop) (D : PD) (P : PS) (h : H) (k : Nat) (now : Int) (L0 : List CN) (lv : V) (g : PL) (m : Nat) (env : Env) (h' : H) : Prop :=
  ∃ (j : Nat) (D1 : PD) (P1 : PS), m = L0.length - j ∧ j ≤ L0.length ∧ env 2 = .ptr k 0 ∧ env 27 = lv ∧ env 28 = .int .i64 L0.length ∧ env 29 = .int .i64 j ∧ Stp D P h D1 P1 h' ∧ h'.get k = some (.cells [.ptr D.b 0] 26 false) ∧ P1.now = now ∧ P1.keep = P.keep ∧ (∀ c ∈ L0.drop j, c ∈ P1.conns) ∧ P1.moves.length ≤ 1000 + j ∧ Bds T { P1 with moves := [] } ∧ P1.wts.length ≤ 256 ∧ Lst 0 h' lv (ptrs L0) 68 1 ∧ (∀ k o n m, lv = .slice k o n m → ¬ owns D1 P1 k) ∧ clR t ((L0.drop j).map CN.pc) P1.pl = g
variable {S : Set0} (hS : StdP S)
include hS
theorem tick_spec {T : Int} {D : PD} {P : PS} {h : H} (r : PR D P h) (hm : P.moves = []) (B : Bds T P) (hw : P.wts.length ≤ 256) (n : Int) (hnow : 0 ≤ P.now ∧ P.now ≤ 2305843009213693952) (hsin : ∀ c ∈ P.conns, 0 ≤ c.since ∧ c.since ≤ P.now) : callW S.cfg (owns D P) 31 [.ptr D.b 0, .int .i64 n] h (OpR T D P h (tickF P.pl n)) := by
  refine into Tryz.f31 _ Tryz.func31 (hS.ownP _ (by decide)) rfl rfl (by kernel_rfl) (by kernel_rfl) ?_
  simp +contextual (disch := first | simp only [fq]; done | omega | simp only [Knx]; omega) only [fV, reduceLE, reduceLT, reduceLeDiff, ↓reduceIte, reduceEqDiff, reduceAdd, reduceCtorEq, reduceToNat, Tryz.f31]
  obtain ⟨h1, hh1⟩ : ∃ h1, h1 = h.push (Ob.cells [V.ptr D.b 0] 26 false) := ⟨_, rfl⟩
  rw [← hh1]
  have hx1 : Ext h h1 := by rw [hh1]; exact (Ext.refl h).push _
  have hg1 : h1.get h.nx = some (.cells [.ptr D.b 0] 26 false) := by rw [hh1]; exact push_eq rfl
  have hn1 : h1.nx = h.nx + 1 := by rw [hh1]; rfl
  clear hh1
  have r1 := r.ext hx1
  have sx := Stp.ext r hx1
  have hp := r1.pool
  unfold pcells at hp
  have hbad : ∀ e : Int, OpR T D P h (e, [], P.pl) (.tuple [.nilslice, .int .i64 e]) h1 := fun e => ⟨D, P, .nilslice, rfl, sx, rfl, hm, .inl (.inl ⟨rfl, rfl⟩), fun k o n m q => (by cases q), B⟩
  refine callF_exact (none_spec hS r1) ?_
  simp +contextual (disch := first | simp only [fq]; done | omega | simp only [Knx]; omega) only [fV, reduceLE, reduceLT, reduceLeDiff, ↓reduceIte, reduceEqDiff, reduceAdd, reduceCtorEq, reduceToNat, Tryz.f31]
  refine callF_exact (between_spec hS _ _ _ _) ?_
  by_cases hb : ¬ (0 ≤ n ∧ n ≤ 1048576)
  · have e1 : tickF P.pl n = (2, [], P.pl) := if_pos hb
    rw [e1]
    simp +contextual (disch := first | simp only [fq]; done | omega | simp only [Knx]; omega) only [fV, reduceLE, reduceLT, reduceLeDiff, ↓reduceIte, reduceEqDiff, reduceAdd, reduceCtorEq, reduceToNat, Tryz.f31, hb]
    exact hbad 2
  rw [Classical.not_not] at hb
  have e1 : tickF P.pl n = (serveF (clR (oldP P.keep (P.now + n)) P.pl.conns (outL (fun w => w.til ≤ P.now + n) { P.pl with now := P.now + n }))).done := if_neg (fun q => q hb)
  rw [e1]
  have hb' : (0 ≤ n ∧ n ≤ 1048576) = True := eq_true hb
  have hwr : IntKind.i64.wrap (P.now + n) = P.now + n := i64_in _ (by omega)
  have s1 := Stp.set (h4 := h1) (D' := D) (P' := { P with now := P.now + n }) r1 (Nat.le_refl _) (fun _ _ _ => rfl) rfl rfl rfl rfl r1.wts r1.mvs r1.wb (fun k o n m q => ⟨r1.mvb k o n m q, .inl ⟨o, n, m, q⟩⟩)
  have hown : ∀ {D2 : PD} {P2 : PS} {h2 : H}, Stp D P h1 D2 P2 h2 → ∀ k, owns D2 P2 k → fresh h.nx (owns D P) k := fun s k q => by rw [fresh_def]; exact (s.own k q).elim .inr (fun w => .inl (by omega))
  have hkno : ¬ owns D P h.nx := fun q => by have := owns_lt r q; omega
  have hkk : ∀ {D2 : PD} {P2 : PS} {h2 : H}, Stp D P h1 D2 P2 h2 → h2.get h.nx = some (.cells [.ptr D.b 0] 26 false) := fun s => by rw [s.same _ (by omega) hkno]; exact hg1
  have hDk : ¬ D.b = h.nx := by have := r.lt.1; omega
  simp +contextual (disch := first | simp only [fq]; done | omega | simp only [Knx]; omega) only [fV, reduceLE, reduceLT, reduceLeDiff, ↓reduceIte, reduceEqDiff, reduceAdd, reduceCtorEq, reduceToNat, Tryz.f31, hb', hg1, hp, hwr, hDk]
  refine ⟨.inr (.inr (.inl rfl)), ?_⟩
  refine callF_of (out_spec hS s1.pr hm (by show P.wts.length ≤ _; omega) (fun w => w.til ≤ P.now + n) 59 [.ptr h.nx 0] (fun w _ D' P' h' s e => by
    have q := tick1_spec hS s.pr w h.nx (by rw [s.b]; exact hkk (s1.trans s)) (by have := s.nx; have : h1.nx ≤ h'.nx := this; omega)
    rw [e] at q
    exact q)) (hown s1) ?_
  rintro v h2 ⟨D2, s2⟩
  have s12 := s1.trans s2
  have eb := s12.b
  have hk2 := hkk s12
  have hoW : (outW (fun w => w.til ≤ P.now + n) P.wts).length ≤ P.wts.length := List.length_filter_le _ _
  have hoM : (outM (fun w => w.til ≤ P.now + n) P.wts).length ≤ P.wts.length := by unfold outM; rw [List.length_map]; exact List.length_filter_le _ _
  simp +contextual (disch := first | simp only [fq]; done | omega | simp only [Knx]; omega) only [fV, reduceLE, reduceLT, reduceLeDiff, ↓reduceIte, reduceEqDiff, reduceAdd, reduceCtorEq, reduceToNat, Tryz.f31, hk2]
  rw [← eb]
  refine callF_pure (sorted_spec hS s2.pr) ?_
  intro lv h3 hx3 hL
  have s3 := s12.trans (Stp.ext s12.pr hx3)
  have hlen := lst_lenV (e := 68) hL
  have hf := r.few
  simp +contextual (disch := first | simp only [fq]; done | omega | simp only [Knx]; omega) only [fV, reduceLE, reduceLT, reduceLeDiff, ↓reduceIte, reduceEqDiff, reduceAdd, reduceCtorEq, reduceToNat, Tryz.f31, hlen]
  refine run_loop (TkI T (oldP P.keep (P.now + n)) D P h1 h.nx (P.now + n) P.conns lv (clR (oldP P.keep (P.now + n)) P.pl.conns (outL (fun w => w.til ≤ P.now + n) { P.pl with now := P.now + n }))) P.conns.length ⟨0, D2, _, by simp +contextual (disch := first | simp only [fq]; done | omega | simp only [Knx]; omega) only [fV, reduceLE, reduceLT, reduceLeDiff, ↓reduceIte, reduceEqDiff, reduceAdd, reduceCtorEq, reduceToNat, eb]; exact ⟨(Nat.sub_zero _).symm, s3, hkk s3, rfl, rfl, fun c hc => hc, by show (outM (fun w => w.til ≤ P.now + n) P.wts).length ≤ _; omega, ⟨B.lim, B.num, B.pos, by have := B.top; show P.last + ((outW (fun w => w.til ≤ P.now + n) P.wts).length : Int) ≤ _; omega, B.tt, by show 0 + (outW (fun w => w.til ≤ P.now + n) P.wts).length ≤ _; omega⟩, by show (outW (fun w => w.til ≤ P.now + n) P.wts).length ≤ _; omega, Lst.mono' hL (Nat.zero_le _), fun k o n m w w2 => by have := Lst.lo hL w; have := owns_lt s12.pr w2; omega, rfl⟩⟩ ?_
  rintro m env h4 ⟨j, D1, P1, rfl, hj, e2, e27, e28, e29, s4, hk4, hnw, hkp, hin, hml, B4, hw4, hL4, hno, hcr⟩
  have r4 := s4.pr
  have eb4 := s4.b
  have hp4 := r4.pool
  unfold pcells at hp4
  rw [eb4, hnw, hkp] at hp4
  by_cases hlt : j < P.conns.length
  · obtain ⟨kb, rfl, kb0, kb1, hkb⟩ := lst_rowV hL4 (by omega)
    have hd : P.conns.drop j = P.conns[j] :: P.conns.drop (j + 1) := List.drop_eq_getElem_cons hlt
    rw [hd] at hin hcr
    have hcm := hin _ (.head _)
    rw [List.map_cons, clR] at hcr
    have hsi := hsin _ (List.getElem_mem hlt)
    have c1 : (ptrs P.conns)[j]? = some (.ptr P.conns[j].blk 0) := by unfold ptrs; rw [List.getElem?_map, List.getElem?_eq_getElem hlt]; rfl
    have hkb' : h4.get kb = some (.cells (ptrs P.conns) 68 true) := hkb
    have g1 := r4.conn _ hcm
    unfold CN.cells at g1
    have hwj : IntKind.i64.wrap ((j : Int) + 1) = ((j + 1 : Nat) : Int) := by rw [i64_in _ (by omega)]; omega
    have hws : IntKind.i64.wrap (P.now + n - P.conns[j].since) = P.now + n - P.conns[j].since := i64_in _ (by omega)
    have nxt : ∀ env' : Env, ¬ oldP P.keep (P.now + n) P.conns[j].pc → env' 2 = .ptr h.nx 0 → env' 27 = .slice kb 0 P.conns.length P.conns.length → env' 28 = .int .i64 P.conns.length → env' 29 = .int .i64 (j + 1 : Nat) → ∃ m', m' < P.conns.length - j ∧ TkI T (oldP P.keep (P.now + n)) D P h1 h.nx (P.now + n) P.conns (.slice kb 0 P.conns.length P.conns.length) (clR (oldP P.keep (P.now + n)) P.pl.conns (outL (fun w => w.til ≤ P.now + n) { P.pl with now := P.now + n })) m' env' h4 := fun env' ho q2 q27 q28 q29 => by
      rw [if_neg ho] at hcr
      exact ⟨P.conns.length - (j + 1), by omega, j + 1, D1, P1, rfl, hlt, q2, q27, q28, q29, s4, hk4, hnw, hkp, fun c hc => hin c (.tail _ hc), by omega, B4, hw4, hL4, hno, hcr⟩
    by_cases h1' : 0 < P.keep
    · by_cases h2' : P.conns[j].st = 4
      · by_cases h3' : P.keep ≤ P.now + n - P.conns[j].since
        · rw [if_pos (show oldP P.keep (P.now + n) P.conns[j].pc from ⟨h1', h2', h3'⟩)] at hcr
          simp +contextual (disch := first | simp only [fq]; done | omega | simp only [Knx]; omega) only [fV, reduceLE, reduceLT, reduceLeDiff, ↓reduceIte, reduceEqDiff, reduceAdd, reduceCtorEq, reduceToNat, Tryz.f31, e2, e27, e28, e29, hlt, hkb', c1, g1, hk4, hp4, h1', h2', h3', hws]
          refine draw_by [] (by kernel_rfl) ?_
          simp +contextual (disch := first | simp only [fq]; done | omega | simp only [Knx]; omega) only [fV, reduceLE, reduceLT, reduceLeDiff, ↓reduceIte, reduceEqDiff, reduceAdd, reduceCtorEq, reduceToNat, Tryz.f31, e2, e27, e28, e29, hlt, hkb', c1, g1, hk4, hp4, h1', h2', h3', hws]
          refine ⟨fun p hp => by (cases hp), ?_⟩
          rw [← eb4]
          refine callF_of (closes_spec hS r4 hcm (by omega)) (hown s4) ?_
          rintro v h5 ⟨D5, s5⟩
          have s45 := s4.trans s5
          simp +contextual (disch := first | simp only [fq]; done | omega | simp only [Knx]; omega) only [fV, reduceLE, reduceLT, reduceLeDiff, ↓reduceIte, reduceEqDiff, reduceAdd, reduceCtorEq, reduceToNat, Tryz.f31, e2, e27, e28, e29]
          refine ⟨P.conns.length - (j + 1), by omega, j + 1, D5, _, rfl, hlt, e2, e27, e28, by simp +contextual (disch := first | simp only [fq]; done | omega | simp only [Knx]; omega) only [fV, reduceLE, reduceLT, reduceLeDiff, ↓reduceIte, reduceEqDiff, reduceAdd, reduceCtorEq, reduceToNat, e29, hwj], s45, hkk s45, hnw, hkp, fun c hc => ?_, ?_, ⟨B4.lim, fun x hx => B4.num x ((delC_sub _ _).subset hx), B4.pos, B4.top, B4.tt, B4.mvs⟩, hw4, ?_, ?_, ?_⟩
          · refine List.mem_filter.2 ⟨hin c (.tail _ hc), ?_⟩
            have h0 := r.rise
            rw [← List.take_append_drop j P.conns, hd, List.map_append, List.map_cons, List.pairwise_append] at h0
            have := (List.pairwise_cons.1 h0.2.1).1 c.num (List.mem_map_of_mem hc)
            simp; omega
          · show (P1.moves ++ [_]).length ≤ _
            rw [List.length_append]
            simp only [List.length_cons, List.length_nil]
            omega
          · exact Lst.keep hL4 s5.nx fun k o n m w => by
              have := Lst.lt hL4 w
              exact s5.same k this (hno k o n m w)
          · intro k o n m w w2
            have := Lst.lt hL4 w
            exact (s5.own k w2).elim (hno k o n m w) (by omega)
          · rw [← hcr]
            congr 1
            show PS.pl _ = ((P1.pl.del P.conns[j].num).mov 6 P.conns[j].num 0)
            rw [← del_pl]
            rfl
        · simp +contextual (disch := first | simp only [fq]; done | omega | simp only [Knx]; omega) only [fV, reduceLE, reduceLT, reduceLeDiff, ↓reduceIte, reduceEqDiff, reduceAdd, reduceCtorEq, reduceToNat, Tryz.f31, e2, e27, e28, e29, hlt, hkb', c1, g1, hk4, hp4, h1', h2', h3', hws]
          refine draw_by [] (by kernel_rfl) ?_
          simp +contextual (disch := first | simp only [fq]; done | omega | simp only [Knx]; omega) only [fV, reduceLE, reduceLT, reduceLeDiff, ↓reduceIte, reduceEqDiff, reduceAdd, reduceCtorEq, reduceToNat, Tryz.f31, e2, e27, e28, e29, hlt, hkb', c1, g1, hk4, hp4, h1', h2', h3', hws]
          exact ⟨fun p hp => by (cases hp), nxt _ (fun q => h3' q.2.2) (e2) (e27) (e28) (by simp +contextual (disch := first | simp only [fq]; done | omega | simp only [Knx]; omega) only [fV, reduceLE, reduceLT, reduceLeDiff, ↓reduceIte, reduceEqDiff, reduceAdd, reduceCtorEq, reduceToNat, e29, hwj])⟩
      · simp +contextual (disch := first | simp only [fq]; done | omega | simp only [Knx]; omega) only [fV, reduceLE, reduceLT, reduceLeDiff, ↓reduceIte, reduceEqDiff, reduceAdd, reduceCtorEq, reduceToNat, Tryz.f31, e2, e27, e28, e29, hlt, hkb', c1, g1, hk4, hp4, h1', h2']
        refine draw_by [] (by kernel_rfl) ?_
        simp +contextual (disch := first | simp only [fq]; done | omega | simp only [Knx]; omega) only [fV, reduceLE, reduceLT, reduceLeDiff, ↓reduceIte, reduceEqDiff, reduceAdd, reduceCtorEq, reduceToNat, Tryz.f31, e2, e27, e28, e29, hlt, hkb', c1, g1, hk4, hp4, h1', h2']
        exact ⟨fun p hp => by (cases hp), nxt _ (fun q => h2' q.2.1) (e2) (e27) (e28) (by simp +contextual (disch := first | simp only [fq]; done | omega | simp only [Knx]; omega) only [fV, reduceLE, reduceLT, reduceLeDiff, ↓reduceIte, reduceEqDiff, reduceAdd, reduceCtorEq, reduceToNat, e29, hwj])⟩
    · simp +contextual (disch := first | simp only [fq]; done | omega | simp only [Knx]; omega) only [fV, reduceLE, reduceLT, reduceLeDiff, ↓reduceIte, reduceEqDiff, reduceAdd, reduceCtorEq, reduceToNat, Tryz.f31, e2, e27, e28, e29, hlt, hkb', c1, g1, hk4, hp4, h1']
      refine draw_by [] (by kernel_rfl) ?_
      simp +contextual (disch := first | simp only [fq]; done | omega | simp only [Knx]; omega) only [fV, reduceLE, reduceLT, reduceLeDiff, ↓reduceIte, reduceEqDiff, reduceAdd, reduceCtorEq, reduceToNat, Tryz.f31, e2, e27, e28, e29, hlt, hkb', c1, g1, hk4, hp4, h1']
      exact ⟨fun p hp => by (cases hp), nxt _ (fun q => h1' q.1) (e2) (e27) (e28) (by simp +contextual (disch := first | simp only [fq]; done | omega | simp only [Knx]; omega) only [fV, reduceLE, reduceLT, reduceLeDiff, ↓reduceIte, reduceEqDiff, reduceAdd, reduceCtorEq, reduceToNat, e29, hwj])⟩
  · have hje : j = P.conns.length := by omega
    subst hje
    rw [List.drop_length] at hcr
    have hf2 := r.few
    simp +contextual (disch := first | simp only [fq]; done | omega | simp only [Knx]; omega) only [fV, reduceLE, reduceLT, reduceLeDiff, ↓reduceIte, reduceEqDiff, reduceAdd, reduceCtorEq, reduceToNat, Tryz.f31, e2, e27, e28, e29, hlt, hk4]
    rw [← eb4]
    refine callF_of (serve_spec hS r4 (T := T) ⟨B4.lim, B4.num, B4.pos, B4.top, B4.tt, by omega⟩) (hown s4) ?_
    rintro v h6 ⟨D6, P6, s6, B6, e6⟩
    have s46 := s4.trans s6
    have eb6 := s6.b
    have hk6 := hkk s46
    simp +contextual (disch := first | simp only [fq]; done | omega | simp only [Knx]; omega) only [fV, reduceLE, reduceLT, reduceLeDiff, ↓reduceIte, reduceEqDiff, reduceAdd, reduceCtorEq, reduceToNat, Tryz.f31, e2, hk6]
    rw [← eb4, ← eb6]
    refine told_end hS (sx.trans s46) B6 (hown s46) ?_
    rintro v9 h9 mv9 rfl hR
    simp +contextual (disch := first | simp only [fq]; done | omega | simp only [Knx]; omega) only [fV, reduceLE, reduceLT, reduceLeDiff, ↓reduceIte, reduceEqDiff, reduceAdd, reduceCtorEq, reduceToNat, Tryz.f31]
    rw [e6, show P1.pl = _ from hcr] at hR
    exact hR
end
noncomputable section
def leaveF (p : PL) (cl : Int) : Res := if ¬ waitsL p cl then (281, [], p) else ({ p with wts := p.wts.filter fun w => decide (w.cl ≠ cl) } : PL).done
def askF (p : PL) (k n : Int) (y : Prop) : Res := if k = 0 then acquireF p n else if k = 1 then openedF p n y else if k = 2 then releaseF p n else if k = 3 then resetF p n y else if k = 4 then lostF p n else if k = 5 then leaveF p n else if k = 6 then tickF p n else if k = 7 then pauseF p y else if k = 8 then limitF p n else closeF p
theorem longC_some : ∀ (l : List PC) (b : Option PC) (c : PC), longC l b = some c → (c ∈ l ∧ c.st = 4) ∨ b = some c
  | [], b, c, h => .inr h
  | x :: l, b, c, h => by
    rw [longC] at h
    rcases longC_some l _ c h with ⟨q1, q2⟩ | q
    · exact .inl ⟨.tail _ q1, q2⟩
    · by_cases hb : betterC x b
      · rw [if_pos hb] at q
        cases q
        refine .inl ⟨.head _, ?_⟩
        cases b with
        | none => exact hb
        | some b => exact hb.1
      · rw [if_neg hb] at q
        exact .inr q
theorem longC_none : ∀ (l : List PC) (b : Option PC), longC l b = none → b = none ∧ ∀ c ∈ l, c.st ≠ 4
  | [], b, h => ⟨h, fun c hc => by cases hc⟩
  | x :: l, b, h => by
    rw [longC] at h
    obtain ⟨q1, q2⟩ := longC_none l _ h
    by_cases hb : betterC x b
    · rw [if_pos hb] at q1; cases q1
    · rw [if_neg hb] at q1
      subst q1
      refine ⟨rfl, fun c hc => ?_⟩
      rcases List.mem_cons.1 hc with rfl | hc
      · exact hb
      · exact q2 c hc
theorem choseC_some (cl : Int) : ∀ (l : List PC) (c : PC), choseC cl l = some c → c ∈ l ∧ c.st = 4
  | x :: l, c, h => by
    rw [choseC] at h
    by_cases hx : x.st = 4 ∧ x.cl = cl
    · rw [if_pos hx] at h; cases h; exact ⟨.head _, hx.1⟩
    · rw [if_neg hx] at h
      have := choseC_some cl l c h
      exact ⟨.tail _ this.1, this.2⟩
theorem chosenC_some {l : List PC} {cl : Int} {c : PC} (h : chosenC l cl = some c) : c ∈ l ∧ c.st = 4 := by
  unfold chosenC at h
  cases hc : choseC cl l with
  | some x => rw [hc] at h; cases h; exact choseC_some cl l _ hc
  | none =>
    rw [hc] at h
    rcases longC_some _ _ _ h with q | q
    · exact q
    · cases q
theorem chosenC_none {l : List PC} {cl : Int} (h : chosenC l cl = none) : ∀ c ∈ l, c.st ≠ 4 := by
  unfold chosenC at h
  cases hc : choseC cl l with
  | some x => rw [hc] at h; cases h
  | none => rw [hc] at h; exact (longC_none _ _ h).2
theorem serve1_cases {p q : PL} (h : serve1 p = some q) : ∃ w ws, p.wts = w :: ws ∧ ((∃ c, c ∈ p.conns ∧ c.st = 4 ∧ q = { p with conns := p.conns.map (fun x => if x.num = c.num then ⟨c.num, 2, w.cl, 0⟩ else x), moves := p.moves ++ [⟨2, c.num, w.cl⟩], wts := ws }) ∨ ((∀ c ∈ p.conns, c.st ≠ 4) ∧ (p.conns.length : Int) < p.lim ∧ q = { p with last := p.last + 1, conns := p.conns ++ [⟨p.last + 1, 1, w.cl, 0⟩], moves := p.moves ++ [⟨1, p.last + 1, w.cl⟩], wts := ws })) := by
  unfold serve1 at h
  cases hw : p.wts with
  | nil => rw [hw] at h; cases h
  | cons w ws =>
    rw [hw] at h
    refine ⟨w, ws, rfl, ?_⟩
    simp only at h
    cases hc : chosenC p.conns w.cl with
    | some c =>
      rw [hc] at h
      simp only [Option.some.injEq] at h
      obtain ⟨c1, c2⟩ := chosenC_some hc
      exact .inl ⟨c, c1, c2, h.symm⟩
    | none =>
      rw [hc] at h
      simp only at h
      by_cases hl : (p.conns.length : Int) < p.lim
      · rw [if_pos hl] at h
        simp only [Option.some.injEq] at h
        exact .inr ⟨chosenC_none hc, hl, h.symm⟩
      · rw [if_neg hl] at h; cases h
theorem serve1_no {p : PL} (h : serve1 p = none) : p.wts = [] ∨ ((∀ c ∈ p.conns, c.st ≠ 4) ∧ ¬ (p.conns.length : Int) < p.lim) := by
  unfold serve1 at h
  cases hw : p.wts with
  | nil => exact .inl rfl
  | cons w ws =>
    rw [hw] at h
    simp only at h
    cases hc : chosenC p.conns w.cl with
    | some c => rw [hc] at h; cases h
    | none =>
      rw [hc] at h
      simp only at h
      by_cases hl : (p.conns.length : Int) < p.lim
      · rw [if_pos hl] at h; cases h
      · exact .inr ⟨chosenC_none hc, hl⟩
theorem serveR_keeps {I : PL → Prop} (h1 : ∀ p q, I p → serve1 p = some q → I q) : ∀ f p, I p → I (serveR f p)
  | 0, p, h => h
  | f + 1, p, h => by
    rw [serveR]
    cases hs : serve1 p with
    | none => exact h
    | some q => exact serveR_keeps h1 f q (h1 p q h hs)
theorem serveF_keeps {I : PL → Prop} (h1 : ∀ p q, I p → serve1 p = some q → I q) {p : PL} (h : I p) : I (serveF p) := by
  unfold serveF
  by_cases hp : p.paused ∨ p.closed
  · rw [if_pos hp]; exact h
  · rw [if_neg hp]; exact serveR_keeps h1 _ p h
theorem serveR_end : ∀ f p, p.wts.length ≤ f → serve1 (serveR f p) = none
  | 0, p, h => by
    have : p.wts = [] := List.eq_nil_of_length_eq_zero (by omega)
    show serve1 p = none
    unfold serve1
    rw [this]
  | f + 1, p, h => by
    rw [serveR]
    cases hs : serve1 p with
    | none => exact hs
    | some q =>
      refine serveR_end f q ?_
      obtain ⟨w, ws, hw, h1⟩ := serve1_cases hs
      rw [hw] at h
      simp only [List.length_cons] at h
      rcases h1 with ⟨c, _, _, rfl⟩ | ⟨_, _, rfl⟩
      · show ws.length ≤ f; omega
      · show ws.length ≤ f; omega
theorem clR_keeps {I : PL → Prop} {t : PC → Prop} (h1 : ∀ p n, I p → I ((p.del n).mov 6 n 0)) : ∀ l p, I p → I (clR t l p)
  | [], p, h => h
  | c :: l, p, h => by
    rw [clR]
    refine clR_keeps h1 l _ ?_
    by_cases hc : t c
    · rw [if_pos hc]; exact h1 p _ h
    · rw [if_neg hc]; exact h
theorem limR_keeps {I : PL → Prop} (h1 : ∀ p n, I p → I ((p.del n).mov 6 n 0)) (n : Int) : ∀ f p, I p → I (limR f p n)
  | 0, p, h => h
  | f + 1, p, h => by
    rw [limR]
    cases hl : longC p.conns none with
    | none => exact h
    | some c =>
      simp only
      by_cases hc : (p.conns.length : Int) > n
      · rw [if_pos hc]; exact limR_keeps h1 n f _ (h1 p _ h)
      · rw [if_neg hc]; exact h
structure Gw (N : Int) (p : PL) : Prop where
  wl : p.wts.length ≤ 256
  sin : ∀ c ∈ p.conns, 0 ≤ c.since ∧ c.since ≤ p.now
  nw : 0 ≤ p.now ∧ p.now ≤ N
  wt : 0 ≤ p.wait ∧ p.wait ≤ 1048576
theorem Gw.mono {N M : Int} {p : PL} (h : Gw N p) (hm : N ≤ M) : Gw M p := ⟨h.wl, h.sin, ⟨h.nw.1, by have := h.nw.2; omega⟩, h.wt⟩
theorem Gw.serve1 {N : Int} {p q : PL} (h : Gw N p) (hs : serve1 p = some q) : Gw N q := by
  obtain ⟨w, ws, hw, h1⟩ := serve1_cases hs
  have hl := h.wl
  rw [hw] at hl
  simp only [List.length_cons] at hl
  have hn := h.nw
  rcases h1 with ⟨c, _, _, rfl⟩ | ⟨_, _, rfl⟩
  · refine ⟨by show ws.length ≤ _; omega, fun x hx => ?_, hn, h.wt⟩
    obtain ⟨y, hy, rfl⟩ := List.mem_map.1 hx
    by_cases e : y.num = c.num
    · rw [if_pos e]; exact ⟨Int.le_refl _, hn.1⟩
    · rw [if_neg e]; exact h.sin y hy
  · refine ⟨by show ws.length ≤ _; omega, fun x hx => ?_, hn, h.wt⟩
    rcases List.mem_append.1 hx with hx | hx
    · exact h.sin x hx
    · rw [List.mem_singleton.1 hx]; exact ⟨Int.le_refl _, hn.1⟩
theorem Gw.serve {N : Int} {p : PL} (h : Gw N p) : Gw N (serveF p) := serveF_keeps (fun _ _ => Gw.serve1) h
theorem Gw.del {N : Int} {p : PL} (h : Gw N p) (n : Int) : Gw N (p.del n) := ⟨h.wl, fun c hc => h.sin c (List.mem_filter.1 hc).1, h.nw, h.wt⟩
theorem Gw.mov {N : Int} {p : PL} (h : Gw N p) (a b c : Int) : Gw N (p.mov a b c) := ⟨h.wl, h.sin, h.nw, h.wt⟩
theorem Gw.done {N : Int} {p : PL} (h : Gw N p) : Gw N p.done.2.2 := ⟨h.wl, h.sin, h.nw, h.wt⟩
theorem Gw.set {N : Int} {p : PL} (h : Gw N p) (n : Int) (c' : PC) (hc : 0 ≤ c'.since ∧ c'.since ≤ p.now) : Gw N (p.set n c') := ⟨h.wl, fun x hx => by
  obtain ⟨y, hy, rfl⟩ := List.mem_map.1 hx
  by_cases e : y.num = n
  · rw [if_pos e]; exact hc
  · rw [if_neg e]; exact h.sin y hy, h.nw, h.wt⟩
theorem get_mem {p : PL} {n : Int} {c : PC} (h : p.get n = some c) : c ∈ p.conns ∧ c.num = n := ⟨List.mem_of_find?_eq_some h, by have := List.find?_some h; simpa using this⟩
theorem Gw.ask {N : Int} {p : PL} (h : Gw N p) (k n : Int) (y : Prop) : Gw (N + 1048576) (askF p k n y).2.2 := by
  have hN : N ≤ N + 1048576 := by omega
  have h0 := h.mono hN
  unfold askF
  by_cases k0 : k = 0
  · rw [if_pos k0]
    unfold acquireF
    by_cases a1 : ¬ (1 ≤ n ∧ n ≤ 1073741824)
    · rw [if_pos a1]; exact h0
    rw [if_neg a1]
    by_cases a2 : p.closed
    · rw [if_pos a2]; exact h0
    rw [if_neg a2]
    by_cases a3 : hasL p n ∨ waitsL p n
    · rw [if_pos a3]; exact h0
    rw [if_neg a3]
    by_cases a4 : 256 ≤ p.wts.length
    · rw [if_pos a4]; exact h0
    rw [if_neg a4]
    have h1 : Gw N { p with wts := p.wts ++ [⟨n, p.now + p.wait⟩] } := ⟨by show (p.wts ++ [_]).length ≤ _; rw [List.length_append]; simp only [List.length_cons, List.length_nil]; omega, h.sin, h.nw, h.wt⟩
    by_cases a5 : waitsL (serveF { p with wts := p.wts ++ [⟨n, p.now + p.wait⟩] }) n
    · rw [if_pos a5]; exact ((h1.serve.mov _ _ _).done).mono hN
    · rw [if_neg a5]; exact (h1.serve.done).mono hN
  rw [if_neg k0]
  by_cases k1 : k = 1
  · rw [if_pos k1]
    unfold openedF
    cases hg : p.get n with
    | none => exact h0
    | some c =>
      simp only
      obtain ⟨hc, _⟩ := get_mem hg
      by_cases a1 : c.st ≠ 1
      · rw [if_pos a1]; exact h0
      rw [if_neg a1]
      by_cases a2 : y
      · rw [if_pos a2]; exact (((h.set n ⟨n, 2, c.cl, c.since⟩ (h.sin c hc)).mov _ _ _).done).mono hN
      · rw [if_neg a2]; exact ((h.del _).serve.done).mono hN
  rw [if_neg k1]
  by_cases k2 : k = 2
  · rw [if_pos k2]
    unfold releaseF
    cases hg : p.get n with
    | none => exact h0
    | some c =>
      simp only
      obtain ⟨hc, _⟩ := get_mem hg
      by_cases a1 : c.st ≠ 2
      · rw [if_pos a1]; exact h0
      rw [if_neg a1]
      by_cases a2 : p.closed ∨ (p.conns.length : Int) > p.lim
      · rw [if_pos a2]; exact (((h.del _).mov _ _ _).serve.done).mono hN
      · rw [if_neg a2]; exact (((h.set n ⟨n, 3, c.cl, c.since⟩ (h.sin c hc)).mov _ _ _).done).mono hN
  rw [if_neg k2]
  by_cases k3 : k = 3
  · rw [if_pos k3]
    unfold resetF
    cases hg : p.get n with
    | none => exact h0
    | some c =>
      simp only
      by_cases a1 : c.st ≠ 3
      · rw [if_pos a1]; exact h0
      rw [if_neg a1]
      by_cases a2 : y ∧ ¬ p.closed ∧ (p.conns.length : Int) ≤ p.lim
      · rw [if_pos a2]; exact ((h.set _ _ ⟨h.nw.1, Int.le_refl _⟩).serve.done).mono hN
      · rw [if_neg a2]; exact (((h.del _).mov _ _ _).serve.done).mono hN
  rw [if_neg k3]
  by_cases k4 : k = 4
  · rw [if_pos k4]
    unfold lostF
    cases hg : p.get n with
    | none => exact h0
    | some c => exact ((h.del _).serve.done).mono hN
  rw [if_neg k4]
  by_cases k5 : k = 5
  · rw [if_pos k5]
    unfold leaveF
    by_cases a1 : ¬ waitsL p n
    · rw [if_pos a1]; exact h0
    · rw [if_neg a1]
      exact ⟨Nat.le_trans (List.length_filter_le _ _) h.wl, h0.sin, h0.nw, h.wt⟩
  rw [if_neg k5]
  by_cases k6 : k = 6
  · rw [if_pos k6]
    unfold tickF
    by_cases a1 : ¬ (0 ≤ n ∧ n ≤ 1048576)
    · rw [if_pos a1]; exact h0
    · rw [if_neg a1]
      rw [Classical.not_not] at a1
      refine (Gw.serve ?_).done
      refine clR_keeps (fun p n h => (h.del n).mov _ _ _) _ _ ?_
      have := h.nw
      exact ⟨Nat.le_trans (List.length_filter_le _ _) h.wl, fun c hc => by have := h.sin c hc; exact ⟨this.1, by show c.since ≤ p.now + n; omega⟩, ⟨by show 0 ≤ p.now + n; omega, by show p.now + n ≤ _; omega⟩, h.wt⟩
  rw [if_neg k6]
  by_cases k7 : k = 7
  · rw [if_pos k7]
    unfold pauseF
    by_cases a1 : p.closed
    · rw [if_pos a1]; exact h0
    · rw [if_neg a1]; exact Gw.mono ((Gw.serve (N := N) (p := { p with paused := y }) ⟨h.wl, h.sin, h.nw, h.wt⟩).done) hN
  rw [if_neg k7]
  by_cases k8 : k = 8
  · rw [if_pos k8]
    unfold limitF
    by_cases a1 : ¬ (1 ≤ n ∧ n ≤ 64)
    · rw [if_pos a1]; exact h0
    · rw [if_neg a1]
      refine Gw.mono ((Gw.serve (N := N) ?_).done) hN
      exact limR_keeps (fun p n h => (h.del n).mov _ _ _) _ _ _ ⟨h.wl, h.sin, h.nw, h.wt⟩
  rw [if_neg k8]
  unfold closeF
  by_cases a1 : p.closed
  · rw [if_pos a1]; exact h0
  · rw [if_neg a1]
    refine Gw.mono (Gw.done (N := N) ?_) hN
    exact clR_keeps (fun p n h => (h.del n).mov _ _ _) _ _ ⟨Nat.le_trans (List.length_filter_le _ _) h.wl, h.sin, h.nw, h.wt⟩
end
end Go.Proofs.YtbebdlmldogcmaaGreat
namespace Go.Wx
open Go.Lx
noncomputable section
theorem rep_cells {z : List V} (hz : z.all V.isCell = true) : ∀ n, (Lx.rep z n).all V.isCell = true
  | 0 => rfl
  | n + 1 => by
    show (z ++ Lx.rep z n).all V.isCell = true
    rw [List.all_append, hz, rep_cells hz n]
    rfl
theorem clear_row {c : Cfg} {Ok : Nat → Prop} {env : Env} {h : H} {K : V → H → Fp → Prop} {x : Operand} {t e e' : TypeId} {z : V} {sz b o n m : Nat} {cs : List V} {fl : Bool} (hu : c.P.underlying t = some (.slice e)) (hz : zeroT c.P e = some z) (hs : szT c.P e = some sz) (hzl : z.cells.length = sz) (hzc : z.cells.all V.isCell = true) (hx : evalE env x = .slice b o n m) (hn : 0 < n) (hg : h.get b = some (.cells cs e' fl)) (hle : o + n * sz ≤ cs.length) (hOk : h.nx ≤ b ∨ Ok b)
    (hK : K undefV (h.put b (.cells (listPut cs o (Lx.rep z.cells n)) e' fl)) (.lg [.wr b o (n * sz)])) : opW c Ok (.call ⟨.builtin .clear, #[x], #[t]⟩) env h K := by
  rw [opW_builtin]
  have e1 : builtinM c.P .clear #[t] (List.map (evalE env) [x]) = clearM c.P t (evalE env x) := rfl
  show goL h.nx Ok (builtinM c.P .clear #[t] (List.map (evalE env) [x])) h [] K
  rw [e1, hx]
  unfold clearM
  have hb : (Nat.beq z.cells.length sz && !(Nat.beq n 0)) = true := by
    rw [Bool.and_eq_true]
    refine ⟨by rw [hzl]; exact Nat.beq_refl _, ?_⟩
    cases n with
    | zero => cases hn
    | succ n => rfl
  rw [hu]
  simp only [hz, hs, hb, cond_true]
  have hl : (Lx.rep z.cells n).length = n * sz := by rw [rep_length, hzl]
  rw [goL_stc]
  refine ⟨cs, e', fl, hg, by rw [hl]; exact hle, rep_cells hzc n, ?_⟩
  rw [goL_ret, hl]
  refine ⟨fun le hle hw => ?_, hK⟩
  rw [List.mem_singleton.1 hle]
  exact hOk
end
end Go.Wx
namespace Go.Proofs.YtbebdlmldogcmaaGreat
open Int (reduceLE reduceLT reduceToNat)
open Nat (reduceLeDiff reduceEqDiff reduceAdd)
open Go.Proofs Go.Lx Go.Wx Go.IntWalk
noncomputable section
theorem wtcells_app (a b : List WT) : wtcells (a ++ b) = wtcells a ++ wtcells b := by simp [wtcells]
theorem wtcells_put (w : WT) : ∀ (l : List WT) (i : Nat), i < l.length → listPut (wtcells l) (i * 2) w.cells = wtcells (l.set i w)
  | x :: l, 0, _ => by
    rw [Nat.zero_mul]
    show listPut (V.int .i64 x.cl :: V.int .i64 x.til :: wtcells l) 0 [V.int .i64 w.cl, V.int .i64 w.til] = _
    rw [listPut_zero]
    show V.int .i64 w.cl :: listPut (V.int .i64 x.til :: wtcells l) 0 [V.int .i64 w.til] = _
    rw [listPut_zero, listPut_nil]
    rfl
  | x :: l, i + 1, h => by
    have ih := wtcells_put w l i (by simpa using h)
    rw [show (i + 1) * 2 = i * 2 + 1 + 1 by omega]
    show listPut (V.int .i64 x.cl :: V.int .i64 x.til :: wtcells l) (i * 2 + 1 + 1) [V.int .i64 w.cl, V.int .i64 w.til] = _
    rw [listPut_succ, listPut_succ]
    show V.int .i64 x.cl :: V.int .i64 x.til :: listPut (wtcells l) (i * 2) w.cells = _
    rw [ih]
    rfl
theorem wtcells_take (l : List WT) (i : Nat) : wtcells (l.take i) = (wtcells l).take (i * 2) := by
  induction l generalizing i with
  | nil => simp [wtcells]
  | cons w l ih =>
    cases i with
    | zero => simp [wtcells]
    | succ i =>
      show w.cells ++ wtcells (l.take i) = (w.cells ++ wtcells l).take ((i + 1) * 2)
      rw [ih, show (i + 1) * 2 = w.cells.length + i * 2 by show _ = 2 + i * 2; omega, List.take_length_add_append]
theorem listPut_take {α : Type} : ∀ (l : List α) (o : Nat) (vs : List α), (listPut l o vs).take o = l.take o
  | l, 0, vs => by simp
  | [], o + 1, vs => by cases vs <;> rfl
  | x :: l, o + 1, [] => by rw [listPut_nil]
  | x :: l, o + 1, v :: vs => by
    rw [listPut_succ, List.take_succ_cons, List.take_succ_cons, listPut_take l o (v :: vs)]
theorem wtcells_at {l : List WT} {i : Nat} (hi : i < l.length) : ((wtcells l).drop (i * 2)).take 2 = l[i].cells := by
  rw [wtcells_drop, List.drop_eq_getElem_cons hi]
  rfl
def DfI (ws : List WT) (cl : Int) (b : Nat) (fv : V) (h0 : H) (m : Nat) (env : Env) (h' : H) : Prop :=
  ∃ (j : Nat) (l : List WT), m = ws.length - j ∧ j ≤ ws.length ∧ env 0 = .slice b 0 ws.length ws.length ∧ env 1 = fv ∧ env 5 = .int .i64 ((ws.take j).filter fun w => decide (w.cl ≠ cl)).length ∧ env 6 = .int .i64 j ∧ l.length = ws.length ∧ ((ws.take j).filter fun w => decide (w.cl ≠ cl)).length < j ∧ l.take ((ws.take j).filter fun w => decide (w.cl ≠ cl)).length = (ws.take j).filter (fun w => decide (w.cl ≠ cl)) ∧ l.drop j = ws.drop j ∧ h0.nx ≤ h'.nx ∧ (∀ k, k < h0.nx → k ≠ b → h'.get k = h0.get k) ∧ h'.get b = some (.cells (wtcells l) 70 true)
variable {S : Set0} (hS : StdP S)
include hS
theorem leave1_spec (w : WT) (k : Nat) (cl : Int) (h : H) (hk : h.get k = some (.cells [.int .i64 cl] 3 false)) (hkn : k < h.nx) : Pure S.cfg 57 [.agg w.cells, .ptr k 0] h fun v _ => v = bo (w.cl = cl) := by
  refine into Tryz.f57 _ Tryz.func57 (hS.ownP _ (by decide)) rfl rfl (by kernel_rfl) (by kernel_rfl) ?_
  have hkn' : ¬ k = h.nx := by omega
  unfold WT.cells
  simp +contextual (disch := first | simp only [fq]; done | omega | simp only [Knx]; omega) only [fV, reduceLE, reduceLT, reduceLeDiff, ↓reduceIte, reduceEqDiff, reduceAdd, reduceCtorEq, reduceToNat, Tryz.f57, hk, hkn']
  exact (Ext.refl h).push _
theorem delete_spec {n0 k : Nat} {h : H} {lv : V} {ws : List WT} {cl : Int} (hl : Lst n0 h lv (wtcells ws) 70 2) (hk : h.get k = some (.cells [.int .i64 cl] 3 false)) (hkn : k < h.nx) (hws : ws.length ≤ 100000) : callW S.cfg (fun b => ∃ o n m, lv = .slice b o n m) 56 [lv, .func 57 [] [.ptr k 0]] h fun v h' => Wts h' v (ws.filter fun w => decide (w.cl ≠ cl)) ∧ h.nx ≤ h'.nx ∧ (∀ j, j < h.nx → (∀ o n m, lv ≠ .slice j o n m) → h'.get j = h.get j) ∧ (∀ j o n m, v = .slice j o n m → n0 ≤ j) := by
  refine into Tryz.f56 _ Tryz.func56 (hS.ownP _ (by decide)) rfl rfl (by kernel_rfl) (by kernel_rfl) ?_
  have hlo := fun b o n m q => Lst.lo hl (k := b) (o := o) (n := n) (m := m) q
  simp +contextual (disch := first | simp only [fq]; done | omega | simp only [Knx]; omega) only [fV, reduceLE, reduceLT, reduceLeDiff, ↓reduceIte, reduceEqDiff, reduceAdd, reduceCtorEq, reduceToNat, Tryz.f56]
  refine callF_pure (idx2_spec hS (k := k) (f := 57) (q := fun w => w.cl = cl) (Wts.of_lst hl) (by omega) fun w hm h1 hx1 => leave1_spec hS w k cl h1 (by rw [hx1.2 _ hkn]; exact hk) (by have := hx1.1; omega)) ?_
  rintro v h1 hx1 ⟨i, rfl, hi⟩
  rcases hi with ⟨rfl, hno⟩ | ⟨j, hj, rfl, hq, hbe⟩
  · have e : ws.filter (fun w => decide (w.cl ≠ cl)) = ws := List.filter_eq_self.2 fun w hw => by simpa using hno w hw
    rw [e]
    simp +contextual (disch := first | simp only [fq]; done | omega | simp only [Knx]; omega) only [fV, reduceLE, reduceLT, reduceLeDiff, ↓reduceIte, reduceEqDiff, reduceAdd, reduceCtorEq, reduceToNat, Tryz.f56]
    exact ⟨Wts.of_lst (hl.ext hx1), hx1.1, fun j hj _ => hx1.2 j hj, hlo⟩
  · have hn1 : ¬ (j : Int) = -1 := by omega
    have hwj : IntKind.i64.wrap ((j : Int) + 1) = ((j + 1 : Nat) : Int) := by rw [i64_in _ (by omega)]; omega
    simp +contextual (disch := first | simp only [fq]; done | omega | simp only [Knx]; omega) only [fV, reduceLE, reduceLT, reduceLeDiff, ↓reduceIte, reduceEqDiff, reduceAdd, reduceCtorEq, reduceToNat, Tryz.f56, hn1, hwj]
    obtain ⟨b, rfl, hb0, hb1, hbg⟩ : ∃ b, lv = .slice b 0 ws.length ws.length ∧ n0 ≤ b ∧ b < h.nx ∧ h.get b = some (.cells (wtcells ws) 70 true) := by
      have hn := wtcells_len ws
      rcases hl with (⟨rfl, hw⟩ | ⟨b, n, h1, h2, rfl, h4, h5, h6⟩) | ⟨hw, b, _, _, rfl, _⟩
      · rw [hw] at hn; simp at hn; omega
      · obtain rfl : n = ws.length := by omega
        exact ⟨b, rfl, h1, h2, h5⟩
      · rw [hw] at hn; simp at hn; omega
    have hf0 : (ws.take j).filter (fun w => decide (w.cl ≠ cl)) = ws.take j := List.filter_eq_self.2 fun w hw => by
      obtain ⟨a, ha, e⟩ := List.mem_take_iff_getElem.1 hw
      have := hbe a (by omega) (by omega)
      rw [e] at this
      simpa using this
    have hf1 : (ws.take (j + 1)).filter (fun w => decide (w.cl ≠ cl)) = ws.take j := by
      rw [List.take_succ_eq_append_getElem hj, List.filter_append, hf0]
      simp [hq]
    refine run_loop (DfI ws cl b (.func 57 [] [.ptr k 0]) h1) (ws.length - (j + 1)) ⟨j + 1, ws, rfl, hj, rfl, rfl, by rw [hf1]; simp +contextual (disch := first | simp only [fq]; done | omega | simp only [Knx]; omega) only [fV, reduceLE, reduceLT, reduceLeDiff, ↓reduceIte, reduceEqDiff, reduceAdd, reduceCtorEq, reduceToNat, List.length_take, Nat.min_eq_left (Nat.le_of_lt hj)], rfl, rfl, by rw [hf1, List.length_take]; omega, by rw [hf1, List.length_take, Nat.min_eq_left (Nat.le_of_lt hj)], rfl, Nat.le_refl _, fun _ _ _ => rfl, by rw [hx1.2 _ hb1]; exact hbg⟩ ?_
    rintro m env h2 ⟨j, l, rfl, hj2, e0, e1, e5, e6, hll, hlt, htk, hdr, hn2, hk2, hg2⟩
    have hn1 := hx1.1
    obtain ⟨F, hF⟩ : ∃ F, F = (ws.take j).filter (fun w => decide (w.cl ≠ cl)) := ⟨_, rfl⟩
    rw [← hF] at e5 hlt htk
    have hbl : (wtcells l).length = ws.length * 2 := by rw [wtcells_len, hll]
    by_cases hjl : j < ws.length
    · have hjl' : j < l.length := by omega
      have elj : l[j] = ws[j] := by
        have h1 := List.drop_eq_getElem_cons hjl
        have h2 := List.drop_eq_getElem_cons hjl'
        rw [hdr, h1] at h2
        exact (List.cons.inj h2).1.symm
      have hdr2 : l.drop (j + 1) = ws.drop (j + 1) := by
        have h1 := List.drop_eq_getElem_cons hjl
        have h2 := List.drop_eq_getElem_cons hjl'
        rw [hdr, h1] at h2
        exact (List.cons.inj h2).2.symm
      have x0 : j * 2 + 2 ≤ (wtcells l).length := by omega
      have x1 : ((wtcells l).drop (j * 2)).take 2 = [.int .i64 ws[j].cl, .int .i64 ws[j].til] := by rw [wtcells_at hjl', elj]; rfl
      have hwj2 : IntKind.i64.wrap ((j : Int) + 1) = ((j + 1 : Nat) : Int) := by rw [i64_in _ (by omega)]; omega
      have hwf2 : IntKind.i64.wrap ((F.length : Int) + 1) = ((F.length + 1 : Nat) : Int) := by rw [i64_in _ (by omega)]; omega
      have hfl : F.length < ws.length := by omega
      simp +contextual (disch := first | simp only [fq]; done | omega | simp only [Knx]; omega) only [fV, reduceLE, reduceLT, reduceLeDiff, ↓reduceIte, reduceEqDiff, reduceAdd, reduceCtorEq, reduceToNat, Tryz.f56, e0, e1, e5, e6, hjl, hg2, x0, x1]
      refine ⟨.inr (.inl (by omega)), ?_⟩
      obtain ⟨hA, hhA⟩ : ∃ hA, hA = (h2.push (Ob.cells [V.int IntKind.i64 0, V.int IntKind.i64 0] 70 false)).put h2.nx (Ob.cells [V.int IntKind.i64 ws[j].cl, V.int IntKind.i64 ws[j].til] 70 false) := ⟨_, rfl⟩
      rw [← hhA]
      have hnA : hA.nx = h2.nx + 1 := by rw [hhA]; rfl
      have hxA : Ext h2 hA := by rw [hhA]; exact ((Ext.refl h2).push _).put (Nat.le_refl _) _
      have hgA : hA.get h2.nx = some (Ob.cells [V.int IntKind.i64 ws[j].cl, V.int IntKind.i64 ws[j].til] 70 false) := by rw [hhA]; exact put_eq rfl
      clear hhA
      have hkb : k ≠ b := fun e => by
        rw [e, hbg] at hk
        simp at hk
      refine callF_pure (leave1_spec hS ws[j] k cl hA (by rw [hxA.2 _ (by omega), hk2 _ (by omega) hkb, hx1.2 _ hkn]; exact hk) (by omega)) ?_
      rintro v h3 hx3 rfl
      have hn3 := hx3.1
      have hb3 : h3.get b = some (.cells (wtcells l) 70 true) := by rw [hx3.2 _ (by omega), hxA.2 _ (by omega)]; exact hg2
      have hg3 : h3.get h2.nx = some (Ob.cells [V.int IntKind.i64 ws[j].cl, V.int IntKind.i64 ws[j].til] 70 false) := by rw [hx3.2 _ (by omega)]; exact hgA
      have htj : ws.take (j + 1) = ws.take j ++ [ws[j]] := List.take_succ_eq_append_getElem hjl
      by_cases hq2 : ws[j].cl = cl
      · have hF2 : (ws.take (j + 1)).filter (fun w => decide (w.cl ≠ cl)) = F := by
          rw [htj, List.filter_append, ← hF]; simp [hq2]
        simp +contextual (disch := first | simp only [fq]; done | omega | simp only [Knx]; omega) only [fV, reduceLE, reduceLT, reduceLeDiff, ↓reduceIte, reduceEqDiff, reduceAdd, reduceCtorEq, reduceToNat, Tryz.f56, e0, e1, e5, e6, hjl, hq2]
        refine ⟨ws.length - (j + 1), by omega, j + 1, l, rfl, hjl, e0, e1, by rw [hF2]; simp +contextual (disch := first | simp only [fq]; done | omega | simp only [Knx]; omega) only [fV, reduceLE, reduceLT, reduceLeDiff, ↓reduceIte, reduceEqDiff, reduceAdd, reduceCtorEq, reduceToNat, e5], by simp +contextual (disch := first | simp only [fq]; done | omega | simp only [Knx]; omega) only [fV, reduceLE, reduceLT, reduceLeDiff, ↓reduceIte, reduceEqDiff, reduceAdd, reduceCtorEq, reduceToNat, e6, hwj2], hll, by rw [hF2]; omega, by rw [hF2]; exact htk, hdr2, by omega, fun k hk hkb => by rw [hx3.2 k (by omega), hxA.2 k (by omega)]; exact hk2 k hk hkb, hb3⟩
      · have hF2 : (ws.take (j + 1)).filter (fun w => decide (w.cl ≠ cl)) = F ++ [ws[j]] := by
          rw [htj, List.filter_append, ← hF]; simp [hq2]
        have y0 : F.length * 2 + 2 ≤ (wtcells l).length := by omega
        have y1 : listPut (wtcells l) (F.length * 2) [.int .i64 ws[j].cl, .int .i64 ws[j].til] = wtcells (l.set F.length ws[j]) := wtcells_put ws[j] l F.length (by omega)
        simp +contextual (disch := first | simp only [fq]; done | omega | simp only [Knx]; omega) only [fV, reduceLE, reduceLT, reduceLeDiff, ↓reduceIte, reduceEqDiff, reduceAdd, reduceCtorEq, reduceToNat, Tryz.f56, e0, e1, e5, e6, hjl, hq2, hfl, hb3, hg3, y0, y1]
        have hst : l.set F.length ws[j] = F ++ ws[j] :: l.drop (F.length + 1) := by
          rw [List.set_eq_take_append_cons_drop, if_pos (by omega), htk]
        refine ⟨.inr (.inr ⟨_, _, _, rfl⟩), ws.length - (j + 1), by omega, j + 1, l.set F.length ws[j], rfl, hjl, e0, e1, by rw [hF2]; simp +contextual (disch := first | simp only [fq]; done | omega | simp only [Knx]; omega) only [fV, reduceLE, reduceLT, reduceLeDiff, ↓reduceIte, reduceEqDiff, reduceAdd, reduceCtorEq, reduceToNat, List.length_append, List.length_cons, List.length_nil], by simp +contextual (disch := first | simp only [fq]; done | omega | simp only [Knx]; omega) only [fV, reduceLE, reduceLT, reduceLeDiff, ↓reduceIte, reduceEqDiff, reduceAdd, reduceCtorEq, reduceToNat, e6, hwj2], by rw [List.length_set, hll], by rw [hF2, List.length_append]; simp only [List.length_cons, List.length_nil]; omega, ?_, by rw [List.drop_set_of_lt (by omega)]; exact hdr2, by show _ ≤ h3.nx; omega, fun k hk hkb => by rw [put_ne hkb, hx3.2 k (by omega), hxA.2 k (by omega)]; exact hk2 k hk hkb, put_eq rfl⟩
        rw [hF2, hst, List.length_append]
        simp only [List.length_cons, List.length_nil]
        rw [List.take_length_add_append]
        rfl
    · have hje : j = ws.length := by omega
      subst hje
      rw [List.take_length] at hF
      simp +contextual (disch := first | simp only [fq]; done | omega | simp only [Knx]; omega) only [fV, reduceLE, reduceLT, reduceLeDiff, ↓reduceIte, reduceEqDiff, reduceAdd, reduceCtorEq, reduceToNat, Tryz.f56, e0, e1, e5, e6, hjl, hg2]
      have hfl : F.length ≤ ws.length := by omega
      refine slice_row (e := 70) (sz := 2) (b := b) (o := 0) (n := ws.length) (m := ws.length) (l := F.length) (hh := ws.length) (mm := ws.length) (by kernel_rfl) (by kernel_rfl) rfl (by rw [hg2]; rfl) (fun _ => rfl) (by simp +contextual (disch := first | simp only [fq]; done | omega | simp only [Knx]; omega) only [fV, reduceLE, reduceLT, reduceLeDiff, ↓reduceIte, reduceEqDiff, reduceAdd, reduceCtorEq, reduceToNat]; exact bounds_lo hfl (Nat.le_refl _)) (Nat.le_refl _) ?_
      simp +contextual (disch := first | simp only [fq]; done | omega | simp only [Knx]; omega) only [fV, reduceLE, reduceLT, reduceLeDiff, ↓reduceIte, reduceEqDiff, reduceAdd, reduceCtorEq, reduceToNat, Tryz.f56, e0, e1, e5, e6]
      refine clear_row (e := 70) (z := .agg [.int .i64 0, .int .i64 0]) (sz := 2) (b := b) (o := 0 + F.length * 2) (n := ws.length - F.length) (m := ws.length - F.length) (by kernel_rfl) (by kernel_rfl) (by kernel_rfl) rfl rfl (by simp +contextual (disch := first | simp only [fq]; done | omega | simp only [Knx]; omega) only [fV, reduceLE, reduceLT, reduceLeDiff, ↓reduceIte, reduceEqDiff, reduceAdd, reduceCtorEq, reduceToNat]) (by omega) hg2 (by omega) (.inr (by rw [fresh_def]; exact .inr ⟨_, _, _, rfl⟩)) ?_
      simp +contextual (disch := first | simp only [fq]; done | omega | simp only [Knx]; omega) only [fV, reduceLE, reduceLT, reduceLeDiff, ↓reduceIte, reduceEqDiff, reduceAdd, reduceCtorEq, reduceToNat, Tryz.f56, e0, e1, e5, e6]
      obtain ⟨X, hX⟩ : ∃ X, X = listPut (wtcells l) (F.length * 2) (Lx.rep [V.int IntKind.i64 0, V.int IntKind.i64 0] (ws.length - F.length)) := ⟨_, rfl⟩
      rw [← hX]
      have hrl : (Lx.rep [V.int IntKind.i64 0, V.int IntKind.i64 0] (ws.length - F.length)).length = (ws.length - F.length) * 2 := by rw [rep_length]; rfl
      have hXl : X.length = ws.length * 2 := by rw [hX, listPut_length, hbl]
      have hXt : X.take (F.length * 2) = (wtcells l).take (F.length * 2) := by rw [hX]; exact listPut_take _ _ _
      refine slice_row (e := 70) (sz := 2) (b := b) (o := 0) (n := ws.length) (m := ws.length) (l := 0) (hh := F.length) (mm := ws.length) (by kernel_rfl) (by kernel_rfl) rfl (by rw [put_eq rfl]; rfl) (fun _ => rfl) (by simp +contextual (disch := first | simp only [fq]; done | omega | simp only [Knx]; omega) only [fV, reduceLE, reduceLT, reduceLeDiff, ↓reduceIte, reduceEqDiff, reduceAdd, reduceCtorEq, reduceToNat]; exact bounds_hi hfl) hfl ?_
      simp +contextual (disch := first | simp only [fq]; done | omega | simp only [Knx]; omega) only [fV, reduceLE, reduceLT, reduceLeDiff, ↓reduceIte, reduceEqDiff, reduceAdd, reduceCtorEq, reduceToNat, Tryz.f56, e0, e1, e5, e6]
      rw [← hF]
      refine ⟨.inr ⟨b, 0, ws.length, X, true, by simp, by show b < h2.nx; omega, put_eq rfl, fun i hi => ⟨by omega, ?_⟩, hfl, Nat.zero_le _⟩, by show h.nx ≤ h2.nx; omega, fun k hk hne => ?_, fun k o n m q => by cases q; exact hb0⟩
      · have e1 : (X.drop (i * 2)).take 2 = ((X.take (F.length * 2)).drop (i * 2)).take 2 := by
          rw [List.drop_take, List.take_take, Nat.min_eq_left (by omega)]
        rw [Nat.zero_add, e1, hXt, ← wtcells_take, htk, wtcells_at hi]
      · rw [put_ne (fun e => hne 0 ws.length ws.length (by rw [e])), hk2 k (by omega) (fun e => hne 0 ws.length ws.length (by rw [e])), hx1.2 k hk]
theorem leave_spec {T : Int} {D : PD} {P : PS} {h : H} (r : PR D P h) (hm : P.moves = []) (B : Bds T P) (hw : P.wts.length ≤ 256) (cl : Int) : callW S.cfg (owns D P) 30 [.ptr D.b 0, .int .i64 cl] h (OpR T D P h (leaveF P.pl cl)) := by
  refine into Tryz.f30 _ Tryz.func30 (hS.ownP _ (by decide)) rfl rfl (by kernel_rfl) (by kernel_rfl) ?_
  simp +contextual (disch := first | simp only [fq]; done | omega | simp only [Knx]; omega) only [fV, reduceLE, reduceLT, reduceLeDiff, ↓reduceIte, reduceEqDiff, reduceAdd, reduceCtorEq, reduceToNat, Tryz.f30]
  obtain ⟨hA, hhA⟩ : ∃ hA, hA = h.push (Ob.cells [V.int IntKind.i64 cl] 3 false) := ⟨_, rfl⟩
  rw [← hhA]
  have hxA : Ext h hA := by rw [hhA]; exact (Ext.refl h).push _
  have hgA : hA.get h.nx = some (.cells [.int .i64 cl] 3 false) := by rw [hhA]; exact push_eq rfl
  have hnA : hA.nx = h.nx + 1 := by rw [hhA]; rfl
  clear hhA
  have rA := r.ext hxA
  refine callF_exact (none_spec hS rA) ?_
  simp +contextual (disch := first | simp only [fq]; done | omega | simp only [Knx]; omega) only [fV, reduceLE, reduceLT, reduceLeDiff, ↓reduceIte, reduceEqDiff, reduceAdd, reduceCtorEq, reduceToNat, Tryz.f30, hgA]
  refine callF_pure (waits_spec hS rA cl (by omega)) ?_
  rintro v h1 hx1 rfl
  have hx01 := hxA.trans hx1
  have r1 := rA.ext hx1
  by_cases hwt : waitsF P cl
  · have e1 : leaveF P.pl cl = ({ P.pl with wts := P.wts.filter fun w => decide (w.cl ≠ cl) } : PL).done := if_neg (fun q => q hwt)
    rw [e1]
    have hp1 := r1.pool
    unfold pcells at hp1
    simp +contextual (disch := first | simp only [fq]; done | omega | simp only [Knx]; omega) only [fV, reduceLE, reduceLT, reduceLeDiff, ↓reduceIte, reduceEqDiff, reduceAdd, reduceCtorEq, reduceToNat, Tryz.f30, hwt, hp1]
    refine callF_pure (clone_spec hS r1.wts (by omega)) ?_
    intro lv h2 hx2 hL2
    have hn1 := hx1.1
    have hn2 := hx2.1
    have hg2 : h2.get h.nx = some (.cells [.int .i64 cl] 3 false) := by rw [hx2.2 _ (by omega), hx1.2 _ (by omega)]; exact hgA
    simp +contextual (disch := first | simp only [fq]; done | omega | simp only [Knx]; omega) only [fV, reduceLE, reduceLT, reduceLeDiff, ↓reduceIte, reduceEqDiff, reduceAdd, reduceCtorEq, reduceToNat, Tryz.f30]
    refine callF_of (delete_spec hS hL2 hg2 (by omega) (by omega)) (fun k ⟨o, n, m, q⟩ => by rw [fresh_def]; have := Lst.lo hL2 q; exact .inl (by omega)) ?_
    rintro v h3 ⟨hW3, hn3, hk3, hv3⟩
    have hx13 : Ext h1 h3 := ⟨by omega, fun k hk => by rw [hk3 k (by omega) (fun o n m q => by have := Lst.lo hL2 q; omega), hx2.2 k hk]⟩
    have hp3 := (r1.ext hx13).pool
    unfold pcells at hp3
    have hvc : v.cells = [v] := hW3.cell.2
    have hvi : v.isCell = true := hW3.cell.1
    simp +contextual (disch := first | simp only [fq]; done | omega | simp only [Knx]; omega) only [fV, reduceLE, reduceLT, reduceLeDiff, ↓reduceIte, reduceEqDiff, reduceAdd, reduceCtorEq, reduceToNat, Tryz.f30, hp3, hvc, hvi]
    have r3 := r1.ext hx13
    have s4 : Stp D P h _ _ _ := ⟨(Stp.ext r (hx01.trans hx13)).toStpC.trans (StpC.set (h4 := h3) (D' := { D with wv := v }) (P' := { P with wts := P.wts.filter fun w => decide (w.cl ≠ cl) }) r3 (Nat.le_refl _) (fun k hk _ => rfl) rfl rfl rfl rfl hW3 r3.mvs (fun k o n m q => by
      have q1 := hv3 k o n m q
      have hlt := r1.lt
      refine ⟨by omega, by omega, fun c hc => by have := hlt.2.2 c hc; omega, fun o n m q2 => by have := Lst.lt r1.mvs q2; omega⟩) (fun k o n m q => ⟨r3.mvb k o n m q, .inl ⟨o, n, m, q⟩⟩)), fun k o n m q => .inr (by have := hv3 k o n m q; omega)⟩
    have hfl : (P.wts.filter fun w => decide (w.cl ≠ cl)).length ≤ P.wts.length := List.length_filter_le _ _
    have B4 : Bds T { P with wts := P.wts.filter fun w => decide (w.cl ≠ cl) } := ⟨B.lim, B.num, B.pos, by have := B.top; show P.last + ((P.wts.filter fun w => decide (w.cl ≠ cl)).length : Int) ≤ _; omega, B.tt, by have := B.mvs; show P.moves.length + (P.wts.filter fun w => decide (w.cl ≠ cl)).length ≤ _; omega⟩
    refine ⟨.inr (.inr (.inl rfl)), ?_⟩
    refine told_end hS s4 B4 (fun k q => by rw [fresh_def]; exact (s4.own k q).elim .inr .inl) ?_
    rintro v5 h5 mv5 rfl hR
    simp +contextual (disch := first | simp only [fq]; done | omega | simp only [Knx]; omega) only [fV, reduceLE, reduceLT, reduceLeDiff, ↓reduceIte, reduceEqDiff, reduceAdd, reduceCtorEq, reduceToNat, Tryz.f30]
    exact hR
  · have e1 : leaveF P.pl cl = (281, [], P.pl) := if_pos hwt
    rw [e1]
    simp +contextual (disch := first | simp only [fq]; done | omega | simp only [Knx]; omega) only [fV, reduceLE, reduceLT, reduceLeDiff, ↓reduceIte, reduceEqDiff, reduceAdd, reduceCtorEq, reduceToNat, Tryz.f30, hwt]
    exact ⟨D, P, .nilslice, rfl, Stp.ext r hx01, rfl, hm, .inl (.inl ⟨rfl, rfl⟩), fun k o n m q => (by cases q), B⟩
end
noncomputable section
def P0 (a b c : Int) : PS := ⟨a, b, c, 0, 0, [], [], False, False, []⟩
def setupOk (a b c : Int) : Prop := (1 ≤ a ∧ a ≤ 64) ∧ (1 ≤ b ∧ b ≤ 1048576) ∧ (0 ≤ c ∧ c ≤ 1048576)
theorem OpR.form {T : Int} {D : PD} {P : PS} {h h' : H} {r : Res} {v : V} (x : OpR T D P h r v h') : ∃ mv, v = .tuple [mv, .int .i64 r.1] := by
  obtain ⟨_, _, mv, h1, _⟩ := x
  exact ⟨mv, h1⟩
theorem OpR.mono {T : Int} {D : PD} {P : PS} {h h' : H} {r : Res} {v : V} (x : OpR T D P h r v h') (hT : T + 1 ≤ 1099511627776 := by assumption) : OpR (T + 1) D P h r v h' := by
  obtain ⟨D', P', mv, h1, h2, h3, h4, h5, h6, B⟩ := x
  exact ⟨D', P', mv, h1, h2, h3, h4, h5, h6, B.lim, B.num, B.pos, by have := B.top; omega, hT, B.mvs⟩
theorem OpR.lift {T : Int} {D : PD} {P : PS} {h hA h' : H} {r : Res} {v : V} (x : OpR T D P hA r v h') (w : PR D P h) (hx : Ext h hA) : OpR T D P h r v h' := by
  obtain ⟨D', P', mv, h1, h2, h3, h4, h5, h6, B⟩ := x
  exact ⟨D', P', mv, h1, (Stp.ext w hx).trans h2, h3, h4, h5, h6, B⟩
variable {S : Set0} (hS : StdP S)
include hS
theorem pick_spec (n : Int) (h : H) : Exact S.cfg 26 [.int .i64 n, .int .i64 10] h (.int .i64 (n % 10)) := by
  refine into Tryz.f26 _ Tryz.func26 (hS.ownP _ (by decide)) rfl rfl (by kernel_rfl) (by kernel_rfl) ?_
  have hz : ¬ (10 : Int) = 0 := by decide
  have ht := Int.tmod_eq_emod (a := n) (b := 10)
  have h0 : 0 ≤ n % 10 ∧ n % 10 < 10 := ⟨Int.emod_nonneg _ (by decide), Int.emod_lt_of_pos _ (by decide)⟩
  by_cases hn : 0 ≤ n ∨ (10 : Int) ∣ n
  · rw [if_pos hn] at ht
    have ht : n.tmod 10 = n % 10 := by rw [ht]; exact Int.sub_zero _
    have hl : ¬ n % 10 < 0 := by omega
    simp +contextual (disch := first | simp only [fq]; done | omega | simp only [Knx]; omega) only [fV, reduceLE, reduceLT, reduceLeDiff, ↓reduceIte, reduceEqDiff, reduceAdd, reduceCtorEq, reduceToNat, Tryz.f26, bin_rem, hz, ht, hl]
  · rw [if_neg hn] at ht
    have hl : n % 10 - 10 < 0 := by omega
    have ht' : n.tmod 10 = n % 10 - 10 := ht
    have hw : IntKind.i64.wrap (n % 10 - 10 + 10) = n % 10 := by rw [i64_in _ (by omega)]; omega
    simp +contextual (disch := first | simp only [fq]; done | omega | simp only [Knx]; omega) only [fV, reduceLE, reduceLT, reduceLeDiff, ↓reduceIte, reduceEqDiff, reduceAdd, reduceCtorEq, reduceToNat, Tryz.f26, bin_rem, hz, ht', hl, hw]
theorem new_spec (a b c : Int) (h : H) : Pure S.cfg 5 [.agg [.int .i64 a, .int .i64 b, .int .i64 c]] h fun v h' => (¬ setupOk a b c ∧ v = .tuple [.nilptr, .int .i64 2]) ∨ (setupOk a b c ∧ ∃ D, h.nx ≤ D.b ∧ v = .tuple [.ptr D.b 0, .int .i64 0] ∧ PR D (P0 a b c) h' ∧ ∀ k, owns D (P0 a b c) k → h.nx ≤ k) := by
  refine into Tryz.f5 _ Tryz.func5 (hS.ownP _ (by decide)) rfl rfl (by kernel_rfl) (by kernel_rfl) ?_
  simp +contextual (disch := first | simp only [fq]; done | omega | simp only [Knx]; omega) only [wpyr, fW, reduceLE, reduceLT, reduceLeDiff, ↓reduceIte, reduceEqDiff, reduceAdd, reduceCtorEq, reduceToNat, Tryz.f5]
  obtain ⟨hA, hhA⟩ : ∃ hA, hA = h.push (Ob.cells [V.int IntKind.i64 a, V.int IntKind.i64 b, V.int IntKind.i64 c] 23 false) := ⟨_, rfl⟩
  rw [← hhA]
  have hxA : Ext h hA := by rw [hhA]; exact (Ext.refl h).push _
  have hgA : hA.get h.nx = some (Ob.cells [V.int IntKind.i64 a, V.int IntKind.i64 b, V.int IntKind.i64 c] 23 false) := by rw [hhA]; exact push_eq rfl
  have hnA : hA.nx = h.nx + 1 := by rw [hhA]; rfl
  clear hhA
  refine callF_exact (between_spec hS _ _ _ _) ?_
  by_cases h1 : 1 ≤ a ∧ a ≤ 64
  · have h1' : (1 ≤ a ∧ a ≤ 64) = True := eq_true h1
    simp +contextual (disch := first | simp only [fq]; done | omega | simp only [Knx]; omega) only [fV, reduceLE, reduceLT, reduceLeDiff, ↓reduceIte, reduceEqDiff, reduceAdd, reduceCtorEq, reduceToNat, Tryz.f5, hgA, h1']
    refine callF_exact (between_spec hS _ _ _ _) ?_
    by_cases h2 : 1 ≤ b ∧ b ≤ 1048576
    · have h2' : (1 ≤ b ∧ b ≤ 1048576) = True := eq_true h2
      simp +contextual (disch := first | simp only [fq]; done | omega | simp only [Knx]; omega) only [fV, reduceLE, reduceLT, reduceLeDiff, ↓reduceIte, reduceEqDiff, reduceAdd, reduceCtorEq, reduceToNat, Tryz.f5, hgA, h1', h2']
      refine callF_exact (between_spec hS _ _ _ _) ?_
      by_cases h3 : 0 ≤ c ∧ c ≤ 1048576
      · have h3' : (0 ≤ c ∧ c ≤ 1048576) = True := eq_true h3
        simp +contextual (disch := first | simp only [fq]; done | omega | simp only [Knx]; omega) only [fV, reduceLE, reduceLT, reduceLeDiff, ↓reduceIte, reduceEqDiff, reduceAdd, reduceCtorEq, reduceToNat, Tryz.f5, hgA, h1', h2', h3']
        rw [opW_makeMap0]
        simp +contextual (disch := first | simp only [fq]; done | omega | simp only [Knx]; omega) only [fV, reduceLE, reduceLT, reduceLeDiff, ↓reduceIte, reduceEqDiff, reduceAdd, reduceCtorEq, reduceToNat, Tryz.f5, hgA, hnA]
        refine ⟨(hxA.push _).push _, .inr ⟨⟨h1, h2, h3⟩, ⟨h.nx + 1 + 1, h.nx + 1, 0, .nilslice, .nilslice⟩, by show h.nx ≤ h.nx + 1 + 1; omega, rfl, ?_, ?_⟩⟩
        · exact {
            pool := push_eq (by show h.nx + 1 + 1 = hA.nx + 1; omega)
            map := by rw [push_ne (by show ¬ h.nx + 1 = hA.nx + 1; omega)]; exact push_eq hnA.symm
            conn := fun c hc => by cases hc
            wts := .inl ⟨rfl, rfl⟩
            mvs := .inl (.inl ⟨rfl, rfl⟩)
            bmb := by show h.nx + 1 + 1 ≠ h.nx + 1; omega
            cb := fun c hc => by cases hc
            cc := List.nodup_nil
            wb := fun k o n m q => by cases q
            mvb := fun k o n m q => by cases q
            lt := ⟨by show h.nx + 1 + 1 < hA.nx + 1 + 1; omega, by show h.nx + 1 < hA.nx + 1 + 1; omega, fun c hc => by cases hc⟩
            stamps := fun c hc => by cases hc
            apart := List.nodup_nil
            rise := List.Pairwise.nil
            few := Nat.zero_le _
            wf := fun c hc => by cases hc }
        · rintro k (q | q | ⟨c, hc, _⟩ | ⟨o, n, m, q⟩)
          · have : k = h.nx + 1 + 1 := q
            omega
          · have : k = h.nx + 1 := q
            omega
          · cases hc
          · cases q
      · simp +contextual (disch := first | simp only [fq]; done | omega | simp only [Knx]; omega) only [fV, reduceLE, reduceLT, reduceLeDiff, ↓reduceIte, reduceEqDiff, reduceAdd, reduceCtorEq, reduceToNat, Tryz.f5, hgA, h1', h2', h3]
        exact ⟨hxA, .inl fun q => h3 q.2.2⟩
    · simp +contextual (disch := first | simp only [fq]; done | omega | simp only [Knx]; omega) only [fV, reduceLE, reduceLT, reduceLeDiff, ↓reduceIte, reduceEqDiff, reduceAdd, reduceCtorEq, reduceToNat, Tryz.f5, hgA, h1', h2]
      exact ⟨hxA, .inl fun q => h2 q.2.1⟩
  · simp +contextual (disch := first | simp only [fq]; done | omega | simp only [Knx]; omega) only [fV, reduceLE, reduceLT, reduceLeDiff, ↓reduceIte, reduceEqDiff, reduceAdd, reduceCtorEq, reduceToNat, Tryz.f5, hgA, h1]
    exact ⟨hxA, .inl fun q => h1 q.1⟩
theorem call_spec {T N : Int} {D : PD} {P : PS} {h : H} (r : PR D P h) (hm : P.moves = []) (B : Bds T P) (hT : T + 1 ≤ 1099511627776) (G : Gw N P.pl) (hN : N ≤ 1099511627776) (kd n : Int) (y : Prop) : callW S.cfg (owns D P) 7 [.ptr D.b 0, .agg [.int .i64 kd, .int .i64 n, bo y]] h (OpR (T + 1) D P h (askF P.pl (kd % 10) n y)) := by
  refine into Tryz.f7 _ Tryz.func7 (hS.ownP _ (by decide)) rfl rfl (by kernel_rfl) (by kernel_rfl) ?_
  simp +contextual (disch := first | simp only [fq]; done | omega | simp only [Knx]; omega) only [fV, reduceLE, reduceLT, reduceLeDiff, ↓reduceIte, reduceEqDiff, reduceAdd, reduceCtorEq, reduceToNat, Tryz.f7]
  obtain ⟨hA, hhA⟩ : ∃ hA, hA = h.push (Ob.cells [V.int IntKind.i64 kd, V.int IntKind.i64 n, bo y] 37 false) := ⟨_, rfl⟩
  rw [← hhA]
  have hxA : Ext h hA := by rw [hhA]; exact (Ext.refl h).push _
  have hgA : hA.get h.nx = some (Ob.cells [V.int IntKind.i64 kd, V.int IntKind.i64 n, bo y] 37 false) := by rw [hhA]; exact push_eq rfl
  have hnA : hA.nx = h.nx + 1 := by rw [hhA]; rfl
  clear hhA
  have rA := r.ext hxA
  have hw8 : P.wts.length ≤ 800000 := by have h1 : P.wts.length ≤ 256 := G.wl; omega
  have hO : ∀ k, owns D P k → fresh h.nx (owns D P) k := fun k q => by rw [fresh_def]; exact .inr q
  refine callF_exact (pick_spec hS kd hA) ?_
  obtain ⟨kk, hkk⟩ : ∃ kk, kk = kd % 10 := ⟨_, rfl⟩
  rw [← hkk]
  by_cases k0 : kk = 0
  · have e : askF P.pl kk n y = acquireF P.pl n := by unfold askF; rw [if_pos k0]
    rw [e]
    simp +contextual (disch := first | simp only [fq]; done | omega | simp only [Knx]; omega) only [fV, reduceLE, reduceLT, reduceLeDiff, ↓reduceIte, reduceEqDiff, reduceAdd, reduceCtorEq, reduceToNat, Tryz.f7, hgA, k0, Int.reduceEq]
    refine callF_of (acquire_spec hS rA hm B hT G.wl n ⟨by have := G.nw.1; have := G.wt.1; show 0 ≤ P.now + P.wait; exact Int.add_nonneg G.nw.1 G.wt.1, by have h1 := G.nw.2; have h2 := G.wt.2; have h1 : P.now ≤ N := h1; have h2 : P.wait ≤ 1048576 := h2; omega⟩) hO ?_
    rintro v h1 hR
    obtain ⟨mv, rfl⟩ := hR.form
    simp +contextual (disch := first | simp only [fq]; done | omega | simp only [Knx]; omega) only [fV, reduceLE, reduceLT, reduceLeDiff, ↓reduceIte, reduceEqDiff, reduceAdd, reduceCtorEq, reduceToNat, Tryz.f7, k0, Int.reduceEq]
    exact (hR.lift r hxA)
  by_cases k1 : kk = 1
  · have e : askF P.pl kk n y = openedF P.pl n y := by unfold askF; rw [if_neg k0, if_pos k1]
    rw [e]
    simp +contextual (disch := first | simp only [fq]; done | omega | simp only [Knx]; omega) only [fV, reduceLE, reduceLT, reduceLeDiff, ↓reduceIte, reduceEqDiff, reduceAdd, reduceCtorEq, reduceToNat, Tryz.f7, hgA, k1, Int.reduceEq]
    refine callF_of (opened_spec hS rA hm B hw8 n y) hO ?_
    rintro v h1 hR
    obtain ⟨mv, rfl⟩ := hR.form
    simp +contextual (disch := first | simp only [fq]; done | omega | simp only [Knx]; omega) only [fV, reduceLE, reduceLT, reduceLeDiff, ↓reduceIte, reduceEqDiff, reduceAdd, reduceCtorEq, reduceToNat, Tryz.f7, k1, Int.reduceEq]
    exact (hR.lift r hxA).mono
  by_cases k2 : kk = 2
  · have e : askF P.pl kk n y = releaseF P.pl n := by unfold askF; rw [if_neg k0, if_neg k1, if_pos k2]
    rw [e]
    simp +contextual (disch := first | simp only [fq]; done | omega | simp only [Knx]; omega) only [fV, reduceLE, reduceLT, reduceLeDiff, ↓reduceIte, reduceEqDiff, reduceAdd, reduceCtorEq, reduceToNat, Tryz.f7, hgA, k2, Int.reduceEq]
    refine callF_of (release_spec hS rA hm B hw8 n) hO ?_
    rintro v h1 hR
    obtain ⟨mv, rfl⟩ := hR.form
    simp +contextual (disch := first | simp only [fq]; done | omega | simp only [Knx]; omega) only [fV, reduceLE, reduceLT, reduceLeDiff, ↓reduceIte, reduceEqDiff, reduceAdd, reduceCtorEq, reduceToNat, Tryz.f7, k2, Int.reduceEq]
    exact (hR.lift r hxA).mono
  by_cases k3 : kk = 3
  · have e : askF P.pl kk n y = resetF P.pl n y := by unfold askF; rw [if_neg k0, if_neg k1, if_neg k2, if_pos k3]
    rw [e]
    simp +contextual (disch := first | simp only [fq]; done | omega | simp only [Knx]; omega) only [fV, reduceLE, reduceLT, reduceLeDiff, ↓reduceIte, reduceEqDiff, reduceAdd, reduceCtorEq, reduceToNat, Tryz.f7, hgA, k3, Int.reduceEq]
    refine callF_of (reset_spec hS rA hm B hw8 n y) hO ?_
    rintro v h1 hR
    obtain ⟨mv, rfl⟩ := hR.form
    simp +contextual (disch := first | simp only [fq]; done | omega | simp only [Knx]; omega) only [fV, reduceLE, reduceLT, reduceLeDiff, ↓reduceIte, reduceEqDiff, reduceAdd, reduceCtorEq, reduceToNat, Tryz.f7, k3, Int.reduceEq]
    exact (hR.lift r hxA).mono
  by_cases k4 : kk = 4
  · have e : askF P.pl kk n y = lostF P.pl n := by unfold askF; rw [if_neg k0, if_neg k1, if_neg k2, if_neg k3, if_pos k4]
    rw [e]
    simp +contextual (disch := first | simp only [fq]; done | omega | simp only [Knx]; omega) only [fV, reduceLE, reduceLT, reduceLeDiff, ↓reduceIte, reduceEqDiff, reduceAdd, reduceCtorEq, reduceToNat, Tryz.f7, hgA, k4, Int.reduceEq]
    refine callF_of (lost_spec hS rA hm B n) hO ?_
    rintro v h1 hR
    obtain ⟨mv, rfl⟩ := hR.form
    simp +contextual (disch := first | simp only [fq]; done | omega | simp only [Knx]; omega) only [fV, reduceLE, reduceLT, reduceLeDiff, ↓reduceIte, reduceEqDiff, reduceAdd, reduceCtorEq, reduceToNat, Tryz.f7, k4, Int.reduceEq]
    exact (hR.lift r hxA).mono
  by_cases k5 : kk = 5
  · have e : askF P.pl kk n y = leaveF P.pl n := by unfold askF; rw [if_neg k0, if_neg k1, if_neg k2, if_neg k3, if_neg k4, if_pos k5]
    rw [e]
    simp +contextual (disch := first | simp only [fq]; done | omega | simp only [Knx]; omega) only [fV, reduceLE, reduceLT, reduceLeDiff, ↓reduceIte, reduceEqDiff, reduceAdd, reduceCtorEq, reduceToNat, Tryz.f7, hgA, k5, Int.reduceEq]
    refine callF_of (leave_spec hS rA hm B G.wl n) hO ?_
    rintro v h1 hR
    obtain ⟨mv, rfl⟩ := hR.form
    simp +contextual (disch := first | simp only [fq]; done | omega | simp only [Knx]; omega) only [fV, reduceLE, reduceLT, reduceLeDiff, ↓reduceIte, reduceEqDiff, reduceAdd, reduceCtorEq, reduceToNat, Tryz.f7, k5, Int.reduceEq]
    exact (hR.lift r hxA).mono
  by_cases k6 : kk = 6
  · have e : askF P.pl kk n y = tickF P.pl n := by unfold askF; rw [if_neg k0, if_neg k1, if_neg k2, if_neg k3, if_neg k4, if_neg k5, if_pos k6]
    rw [e]
    simp +contextual (disch := first | simp only [fq]; done | omega | simp only [Knx]; omega) only [fV, reduceLE, reduceLT, reduceLeDiff, ↓reduceIte, reduceEqDiff, reduceAdd, reduceCtorEq, reduceToNat, Tryz.f7, hgA, k6, Int.reduceEq]
    refine callF_of (tick_spec hS rA hm B G.wl n ⟨G.nw.1, by have h1 : P.now ≤ N := G.nw.2; omega⟩ (fun c hc => G.sin c.pc (List.mem_map_of_mem hc))) hO ?_
    rintro v h1 hR
    obtain ⟨mv, rfl⟩ := hR.form
    simp +contextual (disch := first | simp only [fq]; done | omega | simp only [Knx]; omega) only [fV, reduceLE, reduceLT, reduceLeDiff, ↓reduceIte, reduceEqDiff, reduceAdd, reduceCtorEq, reduceToNat, Tryz.f7, k6, Int.reduceEq]
    exact (hR.lift r hxA).mono
  by_cases k7 : kk = 7
  · have e : askF P.pl kk n y = pauseF P.pl y := by unfold askF; rw [if_neg k0, if_neg k1, if_neg k2, if_neg k3, if_neg k4, if_neg k5, if_neg k6, if_pos k7]
    rw [e]
    simp +contextual (disch := first | simp only [fq]; done | omega | simp only [Knx]; omega) only [fV, reduceLE, reduceLT, reduceLeDiff, ↓reduceIte, reduceEqDiff, reduceAdd, reduceCtorEq, reduceToNat, Tryz.f7, hgA, k7, Int.reduceEq]
    refine callF_of (pause_spec hS rA hm B y) hO ?_
    rintro v h1 hR
    obtain ⟨mv, rfl⟩ := hR.form
    simp +contextual (disch := first | simp only [fq]; done | omega | simp only [Knx]; omega) only [fV, reduceLE, reduceLT, reduceLeDiff, ↓reduceIte, reduceEqDiff, reduceAdd, reduceCtorEq, reduceToNat, Tryz.f7, k7, Int.reduceEq]
    exact (hR.lift r hxA).mono
  by_cases k8 : kk = 8
  · have e : askF P.pl kk n y = limitF P.pl n := by unfold askF; rw [if_neg k0, if_neg k1, if_neg k2, if_neg k3, if_neg k4, if_neg k5, if_neg k6, if_neg k7, if_pos k8]
    rw [e]
    simp +contextual (disch := first | simp only [fq]; done | omega | simp only [Knx]; omega) only [fV, reduceLE, reduceLT, reduceLeDiff, ↓reduceIte, reduceEqDiff, reduceAdd, reduceCtorEq, reduceToNat, Tryz.f7, hgA, k8, Int.reduceEq]
    refine callF_of (limit_spec hS rA hm B hw8 n) hO ?_
    rintro v h1 hR
    obtain ⟨mv, rfl⟩ := hR.form
    simp +contextual (disch := first | simp only [fq]; done | omega | simp only [Knx]; omega) only [fV, reduceLE, reduceLT, reduceLeDiff, ↓reduceIte, reduceEqDiff, reduceAdd, reduceCtorEq, reduceToNat, Tryz.f7, k8, Int.reduceEq]
    exact (hR.lift r hxA).mono
  have e : askF P.pl kk n y = closeF P.pl := by unfold askF; rw [if_neg k0, if_neg k1, if_neg k2, if_neg k3, if_neg k4, if_neg k5, if_neg k6, if_neg k7, if_neg k8]
  rw [e]
  simp +contextual (disch := first | simp only [fq]; done | omega | simp only [Knx]; omega) only [fV, reduceLE, reduceLT, reduceLeDiff, ↓reduceIte, reduceEqDiff, reduceAdd, reduceCtorEq, reduceToNat, Tryz.f7, hgA, k0, k1, k2, k3, k4, k5, k6, k7, k8]
  refine callF_of (close_spec hS rA hm B G.wl) hO ?_
  rintro v h1 hR
  obtain ⟨mv, rfl⟩ := hR.form
  simp +contextual (disch := first | simp only [fq]; done | omega | simp only [Knx]; omega) only [fV, reduceLE, reduceLT, reduceLeDiff, ↓reduceIte, reduceEqDiff, reduceAdd, reduceCtorEq, reduceToNat, Tryz.f7, k0, k1, k2, k3, k4, k5, k6, k7, k8]
  exact (hR.lift r hxA).mono
end
end Go.Proofs.YtbebdlmldogcmaaGreat
