/-
  Growing lists: append with its log; lists of a block not before n0.
-/
import Derived.Test.YtkibhdbmamfjcaaDoorWxL
set_option linter.unusedSimpArgs false
set_option linter.unusedVariables false
namespace Go.Wx
open Go.Lx
noncomputable section
variable {c : Cfg} {Ok : Nat → Prop} {env : Env} {h : H} {K : V → H → Fp → Prop}

/-- append, and which blocks it touches -/
theorem append_accL {s x : Operand} {t tx : TypeId} {e sz bytes n0 n m b2 o2 : Nat} {cells new : List V} (hap : apI c.P t = some (e, sz, bytes)) (htx : ∃ d, c.P.underlying tx = some d ∧ isIntD d = false) (hs : Acc n0 h (evalE env s) cells e sz)
    (hx : evalE env x = .slice b2 o2 n m) (hn : 0 < n) (hnew : rdC (h.get b2) o2 (n * sz) = some new) (hnl : new.length = n * sz) (hc : new.all V.isCell = true) (hroom : cells.length + new.length ≤ 1073741824) (hsz : 0 < sz)
    (hOk : ∀ k, n0 ≤ k → Ok k) (hK : ∀ v h' L, Acc n0 h' v (cells ++ new) e sz → StaysBut (evalE env s) h h' → (∀ le ∈ L, blkOf le = b2 ∨ h.nx ≤ blkOf le ∨ ∃ n m, evalE env s = .slice (blkOf le) 0 n m) → K v h' (.lg L)) (hn0 : n0 ≤ h.nx) : opW c Ok (.call ⟨.builtin .append, #[s, x], #[t, tx]⟩) env h K := by
  obtain ⟨dx, htx, hdi⟩ := htx
  rw [opW_builtin]
  unfold apI at hap
  cases hu : c.P.underlying t with
  | none => rw [hu] at hap; cases hap
  | some d =>
    rw [hu] at hap
    cases d <;> try (cases hap; done)
    rename_i e'
    simp only at hap
    cases h1 : szT c.P e' with
    | none => rw [h1] at hap; cases hap
    | some sz' =>
      cases h2 : zeroT c.P e' with
      | none => rw [h1, h2] at hap; cases hap
      | some z =>
        cases h3 : (c.P.info? e').map (·.bytes) with
        | none => rw [h1, h2, h3] at hap; cases hap
        | some by' =>
          rw [h1, h2, h3] at hap
          simp only at hap
          cases hb : (Nat.beq z.cells.length sz' && Nat.ble by' 65536) with
          | false => rw [hb] at hap; cases hap
          | true =>
            rw [hb, cond_true] at hap
            simp only [Option.some.injEq, Prod.mk.injEq] at hap
            obtain ⟨rfl, rfl, rfl⟩ := hap
            simp only [Bool.and_eq_true] at hb
            have hlen : n ≤ 1073741824 := by
              have : n * 1 ≤ n * sz' := Nat.mul_le_mul_left n hsz
              omega
            have e1 : builtinM c.P .append #[t, tx] (List.map (evalE env) [s, x]) = bnd (takenM sz' (evalE env x)) fun p => appendCore e' sz' by' (evalE env s) p.1 p.2 := by
              show appendM c.P t tx (evalE env s) (evalE env x) = _
              unfold appendM
              rw [hu, htx]
              simp only [h1, h2, h3, hb.1, cond_true, hdi, cond_false]
            show goL h.nx Ok (builtinM c.P .append #[t, tx] (List.map (evalE env) [s, x])) h [] K
            rw [e1, hx]
            have e2 : (bnd (takenM sz' (V.slice b2 o2 n m)) fun p => appendCore e' sz' by' (evalE env s) p.1 p.2) = bnd (Lx.ld b2 o2 (n * sz')) fun cs => appendCore e' sz' by' (evalE env s) cs n := by
              funext st
              show Lx.bnd (Lx.bnd (Lx.ld b2 o2 (n * sz')) fun cs => Lx.ret (cs, n)) _ st = _
              unfold Lx.bnd
              cases Lx.ld b2 o2 (n * sz') st <;> rfl
            rw [e2, goL_ld]
            refine ⟨new, hnew, ?_⟩
            have hn' : Nat.beq n 0 = false := by
              cases hb : Nat.beq n 0 with
              | false => rfl
              | true => have := Nat.eq_of_beq_eq_true hb; omega
            rcases hs with ⟨hv, rfl⟩ | ⟨b, k, hb0, hb1, hv, hk, hg, hcl⟩
            · rw [hv]
              unfold appendCore
              simp only [hn', cond_false]
              have hr : roomy n by' = true := by
                unfold roomy
                simp only [Bool.and_eq_true]
                exact ⟨ble_iff.2 hlen, hb.2⟩
              rw [hr, cond_true, goL_alloc, goL_ret]
              refine ⟨?_, hK _ _ _ (.inr ⟨h.nx, n, hn0, Nat.lt_succ_self _, rfl, hn, by rw [push_get, if_pos rfl]; rfl, by simpa using hnl⟩) ⟨Nat.le_succ _, fun k hk _ => push_get_lt hk⟩ fun le hle => ?_⟩
              · rw [LogOk_cons_wrd, LogOk_cons_rd]
                exact ⟨.inl (Nat.le_refl _), LogOk_nil⟩
              · simp only [List.mem_cons, List.not_mem_nil, or_false] at hle
                rcases hle with rfl | rfl
                · exact .inr (.inl (Nat.le_refl _))
                · exact .inl rfl
            · rw [hv]
              unfold appendCore
              simp only [hn', cond_false]
              have hcap : Nat.ble (k + n) k = false := by
                cases hb : Nat.ble (k + n) k with
                | false => rfl
                | true => have := Nat.le_of_ble_eq_true hb; omega
              have hkn : k + n ≤ 1073741824 := by
                have h5 : k * 1 ≤ k * sz' := Nat.mul_le_mul_left k hsz
                have h6 : n * 1 ≤ n * sz' := Nat.mul_le_mul_left n hsz
                omega
              have hr : roomy (k + n) by' = true := by
                unfold roomy
                simp only [Bool.and_eq_true]
                exact ⟨ble_iff.2 hkn, hb.2⟩
              rw [hcap, cond_false, hr, cond_true]
              unfold growM
              rw [goL_blk]
              refine ⟨cells, e', true, hg, ?_⟩
              simp only
              rw [goL_ld]
              refine ⟨cells, ?_, ?_⟩
              · rw [hg]
                unfold rdC
                simp only [Nat.zero_add, hcl, Nat.ble_self_eq_true, cond_true]
                rw [sub_whole hcl]
              · have he : Nat.beq e' e' = true := Nat.beq_refl e'
                rw [he, hc]
                simp only [Bool.and_self, cond_true]
                rw [goL_kill]
                refine ⟨cells, e', true, hg, ?_⟩
                rw [goL_alloc, goL_ret]
                refine ⟨?_, hK _ _ _ (.inr ⟨h.nx, k + n, hn0, Nat.lt_succ_self _, rfl, by omega, ?_, ?_⟩) ⟨Nat.le_succ _, fun j hj hne => ?_⟩ fun le hle => ?_⟩
                · rw [LogOk_cons_wrd, LogOk_cons_wrd, LogOk_cons_rdd, LogOk_cons_rd, LogOk_cons_rdd, LogOk_cons_rd]
                  exact ⟨.inl (Nat.le_refl _), .inr (hOk b hb0), LogOk_nil⟩
                · show ((h.del b).push _).get (h.del b).nx = _
                  rw [push_get, if_pos rfl]
                · rw [List.length_append, hcl, hnl, Nat.add_mul]
                · show ((h.del b).push _).get j = _
                  rw [push_get_lt (by exact hj), del_get, if_neg (fun e => hne 0 k k (by rw [hv, e]))]
                · simp only [List.mem_cons, List.not_mem_nil, or_false] at hle
                  rcases hle with rfl | rfl | rfl | rfl | rfl | rfl
                  · exact .inr (.inl (Nat.le_refl _))
                  · exact .inr (.inr ⟨_, _, hv⟩)
                  · exact .inr (.inr ⟨_, _, hv⟩)
                  · exact .inr (.inr ⟨_, _, hv⟩)
                  · exact .inr (.inr ⟨_, _, hv⟩)
                  · exact .inl rfl

theorem append_accV {s x : Operand} {t tx : TypeId} {e sz bytes n0 n m b2 o2 : Nat} {cells new : List V} {sv : V} (hsv : evalE env s = sv) (hap : apI c.P t = some (e, sz, bytes)) (htx : ∃ d, c.P.underlying tx = some d ∧ isIntD d = false) (hs : Acc n0 h sv cells e sz)
    (hx : evalE env x = .slice b2 o2 n m) (hn : 0 < n) (hnew : rdC (h.get b2) o2 (n * sz) = some new) (hnl : new.length = n * sz) (hc : new.all V.isCell = true) (hroom : cells.length + new.length ≤ 1073741824) (hsz : 0 < sz)
    (hOk : ∀ k, n0 ≤ k → Ok k) (hK : ∀ v h' L, Acc n0 h' v (cells ++ new) e sz → StaysBut sv h h' → (∀ le ∈ L, blkOf le = b2 ∨ h.nx ≤ blkOf le ∨ ∃ n m, sv = .slice (blkOf le) 0 n m) → K v h' (.lg L)) (hn0 : n0 ≤ h.nx) : opW c Ok (.call ⟨.builtin .append, #[s, x], #[t, tx]⟩) env h K := by
  subst hsv
  exact append_accL hap htx hs hx hn hnew hnl hc hroom hsz hOk hK hn0
/-- append of a text's bytes -/
theorem append_strL {s x : Operand} {t tx : TypeId} {e bytes n0 : Nat} {cells : List V} {bs : List Nat} (hap : apI c.P t = some (e, 1, bytes)) (htx : ∃ d, c.P.underlying tx = some d ∧ isIntD d = false) (hs : Acc n0 h (evalE env s) cells e 1)
    (hx : evalE env x = .str bs) (hn : 0 < bs.length) (hroom : cells.length + bs.length ≤ 1073741824)
    (hOk : ∀ k, n0 ≤ k → Ok k) (hK : ∀ v h' L, Acc n0 h' v (cells ++ bytesV bs) e 1 → StaysBut (evalE env s) h h' → (∀ le ∈ L, h.nx ≤ blkOf le ∨ ∃ n m, evalE env s = .slice (blkOf le) 0 n m) → K v h' (.lg L)) (hn0 : n0 ≤ h.nx) : opW c Ok (.call ⟨.builtin .append, #[s, x], #[t, tx]⟩) env h K := by
  obtain ⟨dx, htx, hdi⟩ := htx
  obtain ⟨n, hnn⟩ : ∃ n, n = bs.length := ⟨_, rfl⟩
  obtain ⟨new, hnw⟩ : ∃ new, new = bytesV bs := ⟨_, rfl⟩
  have hnl : new.length = n * 1 := by rw [hnw, hnn, bytesV_length, Nat.mul_one]
  have hc : new.all V.isCell = true := by rw [hnw]; simp [bytesV, V.isCell]
  have hsz : 0 < 1 := Nat.one_pos
  rw [← hnn] at hn hroom
  rw [← hnw] at hK
  rw [opW_builtin]
  unfold apI at hap
  cases hu : c.P.underlying t with
  | none => rw [hu] at hap; cases hap
  | some d =>
    rw [hu] at hap
    cases d <;> try (cases hap; done)
    rename_i e'
    simp only at hap
    cases h1 : szT c.P e' with
    | none => rw [h1] at hap; cases hap
    | some sz' =>
      cases h2 : zeroT c.P e' with
      | none => rw [h1, h2] at hap; cases hap
      | some z =>
        cases h3 : (c.P.info? e').map (·.bytes) with
        | none => rw [h1, h2, h3] at hap; cases hap
        | some by' =>
          rw [h1, h2, h3] at hap
          simp only at hap
          cases hb : (Nat.beq z.cells.length sz' && Nat.ble by' 65536) with
          | false => rw [hb] at hap; cases hap
          | true =>
            rw [hb, cond_true] at hap
            simp only [Option.some.injEq, Prod.mk.injEq] at hap
            obtain ⟨rfl, rfl, rfl⟩ := hap
            simp only [Bool.and_eq_true] at hb
            have hlen : n ≤ 1073741824 := by omega
            have e1 : builtinM c.P .append #[t, tx] (List.map (evalE env) [s, x]) = bnd (takenM 1 (evalE env x)) fun p => appendCore e' 1 by' (evalE env s) p.1 p.2 := by
              show appendM c.P t tx (evalE env s) (evalE env x) = _
              unfold appendM
              rw [hu, htx]
              simp only [h1, h2, h3, hb.1, cond_true, hdi, cond_false]
            show goL h.nx Ok (builtinM c.P .append #[t, tx] (List.map (evalE env) [s, x])) h [] K
            rw [e1, hx]
            have e2 : (bnd (takenM 1 (V.str bs)) fun p => appendCore e' 1 by' (evalE env s) p.1 p.2) = appendCore e' 1 by' (evalE env s) new n := by
              rw [hnw, hnn]
              rfl
            rw [e2]
            have hn' : Nat.beq n 0 = false := by
              cases hb : Nat.beq n 0 with
              | false => rfl
              | true => have := Nat.eq_of_beq_eq_true hb; omega
            rcases hs with ⟨hv, rfl⟩ | ⟨b, k, hb0, hb1, hv, hk, hg, hcl⟩
            · rw [hv]
              unfold appendCore
              simp only [hn', cond_false]
              have hr : roomy n by' = true := by
                unfold roomy
                simp only [Bool.and_eq_true]
                exact ⟨ble_iff.2 hlen, hb.2⟩
              rw [hr, cond_true, goL_alloc, goL_ret]
              refine ⟨?_, hK _ _ _ (.inr ⟨h.nx, n, hn0, Nat.lt_succ_self _, rfl, hn, by rw [push_get, if_pos rfl]; rfl, by simpa using hnl⟩) ⟨Nat.le_succ _, fun k hk _ => push_get_lt hk⟩ fun le hle => ?_⟩
              · rw [LogOk_cons_wrd]
                exact ⟨.inl (Nat.le_refl _), LogOk_nil⟩
              · simp only [List.mem_cons, List.not_mem_nil, or_false] at hle
                subst hle
                exact .inl (Nat.le_refl _)
            · rw [hv]
              unfold appendCore
              simp only [hn', cond_false]
              have hcap : Nat.ble (k + n) k = false := by
                cases hb : Nat.ble (k + n) k with
                | false => rfl
                | true => have := Nat.le_of_ble_eq_true hb; omega
              have hkn : k + n ≤ 1073741824 := by
                have h5 : k * 1 ≤ k * 1 := Nat.mul_le_mul_left k hsz
                have h6 : n * 1 ≤ n * 1 := Nat.mul_le_mul_left n hsz
                omega
              have hr : roomy (k + n) by' = true := by
                unfold roomy
                simp only [Bool.and_eq_true]
                exact ⟨ble_iff.2 hkn, hb.2⟩
              rw [hcap, cond_false, hr, cond_true]
              unfold growM
              rw [goL_blk]
              refine ⟨cells, e', true, hg, ?_⟩
              simp only
              rw [goL_ld]
              refine ⟨cells, ?_, ?_⟩
              · rw [hg]
                unfold rdC
                simp only [Nat.zero_add, hcl, Nat.ble_self_eq_true, cond_true]
                rw [sub_whole hcl]
              · have he : Nat.beq e' e' = true := Nat.beq_refl e'
                rw [he, hc]
                simp only [Bool.and_self, cond_true]
                rw [goL_kill]
                refine ⟨cells, e', true, hg, ?_⟩
                rw [goL_alloc, goL_ret]
                refine ⟨?_, hK _ _ _ (.inr ⟨h.nx, k + n, hn0, Nat.lt_succ_self _, rfl, by omega, ?_, ?_⟩) ⟨Nat.le_succ _, fun j hj hne => ?_⟩ fun le hle => ?_⟩
                · rw [LogOk_cons_wrd, LogOk_cons_wrd, LogOk_cons_rdd, LogOk_cons_rd, LogOk_cons_rdd]
                  exact ⟨.inl (Nat.le_refl _), .inr (hOk b hb0), LogOk_nil⟩
                · show ((h.del b).push _).get (h.del b).nx = _
                  rw [push_get, if_pos rfl]
                · rw [List.length_append, hcl, hnl, Nat.add_mul]
                · show ((h.del b).push _).get j = _
                  rw [push_get_lt (by exact hj), del_get, if_neg (fun e => hne 0 k k (by rw [hv, e]))]
                · simp only [List.mem_cons, List.not_mem_nil, or_false] at hle
                  rcases hle with rfl | rfl | rfl | rfl | rfl
                  · exact .inl (Nat.le_refl _)
                  · exact .inr ⟨_, _, hv⟩
                  · exact .inr ⟨_, _, hv⟩
                  · exact .inr ⟨_, _, hv⟩
                  · exact .inr ⟨_, _, hv⟩
theorem append_strV {s x : Operand} {t tx : TypeId} {e bytes n0 : Nat} {cells : List V} {bs : List Nat} {sv : V} (hsv : evalE env s = sv) (hap : apI c.P t = some (e, 1, bytes)) (htx : ∃ d, c.P.underlying tx = some d ∧ isIntD d = false) (hs : Acc n0 h sv cells e 1)
    (hx : evalE env x = .str bs) (hn : 0 < bs.length) (hroom : cells.length + bs.length ≤ 1073741824)
    (hOk : ∀ k, n0 ≤ k → Ok k) (hK : ∀ v h' L, Acc n0 h' v (cells ++ bytesV bs) e 1 → StaysBut sv h h' → (∀ le ∈ L, h.nx ≤ blkOf le ∨ ∃ n m, sv = .slice (blkOf le) 0 n m) → K v h' (.lg L)) (hn0 : n0 ≤ h.nx) : opW c Ok (.call ⟨.builtin .append, #[s, x], #[t, tx]⟩) env h K := by
  subst hsv
  exact append_strL hap htx hs hx hn hroom hOk hK hn0
theorem apart_blk {a b : List LE} (h : ∀ x ∈ a, ∀ y ∈ b, blkOf x ≠ blkOf y) : fpApart (.lg a) (.lg b) :=
  ⟨hitsL_of_ne fun x hx y hy _ => h x hx y hy, hitsL_of_ne fun x hx y hy _ e => h y hy x hx e.symm⟩
theorem Acc.mono {n0 n1 e sz : Nat} {v : V} {cells : List V} (ha : Acc n1 h v cells e sz) (hn : n0 ≤ n1) : Acc n0 h v cells e sz := by
  rcases ha with ⟨a, b⟩ | ⟨b, n, h0, h1, e1, hn', hg, hl⟩
  · exact .inl ⟨a, b⟩
  · exact .inr ⟨b, n, Nat.le_trans hn h0, h1, e1, hn', hg, hl⟩
theorem Acc.blk {n0 e sz b o n m : Nat} {v : V} {cells : List V} (ha : Acc n0 h v cells e sz) (hv : v = .slice b o n m) : n0 ≤ b ∧ b < h.nx := by
  rcases ha with ⟨a, _⟩ | ⟨b', n', h0, h1, e1, hn', hg, hl⟩
  · rw [a] at hv; cases hv
  · rw [e1] at hv; cases hv; exact ⟨h0, h1⟩
end
end Go.Wx
