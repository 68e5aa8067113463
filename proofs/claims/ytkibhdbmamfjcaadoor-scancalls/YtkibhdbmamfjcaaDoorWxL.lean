/-
  append to a list that grows, pointers held against nil.
-/
import Derived.Test.YtkibhdbmamfjcaaDoorWxK
set_option linter.unusedSimpArgs false
set_option linter.unusedVariables false
set_option linter.defProp false
namespace Go.Wx
open Go.Lx
noncomputable section

def isPtrD : Option TypeDesc → Bool
  | some (.pointer _) => true
  | _ => false
theorem isPtrD_ok {d : Option TypeDesc} (h : isPtrD d = true) : ∃ e, d = some (.pointer e) := by
  unfold isPtrD at h
  split at h
  · exact ⟨_, rfl⟩
  · cases h
section
variable {P : Program} {t : TypeId} {c : Bool}
theorem ptr_eql_nn (h : isPtrD (P.underlying t) = true) : binV P .eql t c .nilptr .nilptr = some (bo True) := by
  obtain ⟨e, he⟩ := isPtrD_ok h
  simp [binV, eqOpV, eqT, he, isAggD, eqFlat, boolT]
theorem ptr_eql_pn (h : isPtrD (P.underlying t) = true) (k o : Nat) : binV P .eql t c (.ptr k o) .nilptr = some (bo False) := by
  obtain ⟨e, he⟩ := isPtrD_ok h
  simp [binV, eqOpV, eqT, he, isAggD, eqFlat, boolF]
theorem ptr_neq_nn (h : isPtrD (P.underlying t) = true) : binV P .neq t c .nilptr .nilptr = some (bo False) := by
  obtain ⟨e, he⟩ := isPtrD_ok h
  simp [binV, eqOpV, eqT, he, isAggD, eqFlat, boolF]
theorem ptr_neq_pn (h : isPtrD (P.underlying t) = true) (k o : Nat) : binV P .neq t c (.ptr k o) .nilptr = some (bo True) := by
  obtain ⟨e, he⟩ := isPtrD_ok h
  simp [binV, eqOpV, eqT, he, isAggD, eqFlat, boolT]
def ptrSz (P : Program) (t : TypeId) : Bool := match P.underlying t with
  | some (.pointer e) => (szT P e).isSome
  | _ => false
theorem ptr_eql_same (h : ptrSz P t = true) (k o : Nat) : binV P .eql t c (.ptr k o) (.ptr k o) = some (bo True) := by
  unfold ptrSz at h
  cases hu : P.underlying t with
  | none => rw [hu] at h; cases h
  | some d =>
    rw [hu] at h
    cases d <;> try (cases h; done)
    simp only at h
    simp [binV, eqOpV, eqT, hu, h, boolT, Nat.beq_eq_true_eq]
theorem ptr_neq_same (h : ptrSz P t = true) (k o : Nat) : binV P .neq t c (.ptr k o) (.ptr k o) = some (bo False) := by
  unfold ptrSz at h
  cases hu : P.underlying t with
  | none => rw [hu] at h; cases h
  | some d =>
    rw [hu] at h
    cases d <;> try (cases h; done)
    simp only at h
    simp [binV, eqOpV, eqT, hu, h, boolF, Nat.beq_eq_true_eq]
end

theorem nilCheckV_ptr (k o : Nat) : nilCheckV (.ptr k o) = some (.ptr k o) := rfl
theorem nilCheckV_gptr (k o : Nat) : nilCheckV (.gptr k o) = some (.gptr k o) := rfl
theorem evalE_nilIface (env : Env) : evalE env (.const .nilIface) = .nilIface := rfl
theorem cells_nilIface : V.nilIface.cells = [.nilIface] := rfl
theorem isCell_nilIface : V.nilIface.isCell = true := rfl
theorem oneOf_none : oneOf [] = .tuple [] := rfl

/-! ### operations that keep apart -/
theorem pairs_nil {Q : Nat × Nat → Prop} : (∀ p ∈ ([] : List (Nat × Nat)), Q p) = True := by simp
theorem pairs_cons {Q : Nat × Nat → Prop} {q : Nat × Nat} {l : List (Nat × Nat)} : (∀ p ∈ (q :: l), Q p) = (Q q ∧ ∀ p ∈ l, Q p) := by simp
theorem pair_one {l : List Fp} {i j : Nat} {f g : Fp} (hf : l[i]? = some f) (hg : l[j]? = some g) (h : fpApart f g) : ∀ a b : Fp, l[i]? = some a → l[j]? = some b → fpApart a b := by
  intro a b ha hb
  rw [hf] at ha; rw [hg] at hb
  cases ha; cases hb
  exact h
theorem apart_nil_l {l : List LE} : fpApart (.lg []) (.lg l) := ⟨rfl, hitsL_nil_right _⟩
theorem apart_nil_r {l : List LE} : fpApart (.lg l) (.lg []) := ⟨hitsL_nil_right _, rfl⟩

theorem wpOpsL_drop {c : Cfg} {Ok : Nat → Prop} {A : Array Oper} : ∀ {l : List Oper} {acc : List Fp} {env : Env} {h : H} {K : List Fp → Env → H → Prop} {K' : Env → H → Prop}, (∀ f e h', K f e h' → K' e h') → wpOpsL c Ok A l acc env h K → wpOps c Ok A l env h K'
  | [], acc, env, h, K, K', hk, hw => hk _ _ _ hw
  | o :: l, acc, env, h, K, K', hk, hw => stepW_mono (fun e h' fp q => wpOpsL_drop hk q) hw
theorem wpOpsL_add {c : Cfg} {Ok : Nat → Prop} {A : Array Oper} : ∀ {l : List Oper} {acc : List Fp} {env : Env} {h : H} {K : List Fp → Env → H → Prop} {K' : Env → H → Prop}, (∀ f e h', K' e h' → K f e h') → wpOps c Ok A l env h K' → wpOpsL c Ok A l acc env h K
  | [], acc, env, h, K, K', hk, hw => hk _ _ _ hw
  | o :: l, acc, env, h, K, K', hk, hw => stepW_mono (fun e h' fp q => wpOpsL_add hk q) hw
theorem dok {P : Program} {A : Array Oper} {l : List (Nat × Nat)} (h : drawOk P A l = true) : drawOk P A l = true := h
/-- a region whose order is open, where nothing is to be looked at -/
theorem draw_calm {c : Cfg} {Ok : Nat → Prop} {k : List Kt} {Q : Ex → Env → H → Prop} {l : List Oper} {env : Env} {h : H} (hd : drawOk c.P ⟨l⟩ [] = true) : runDraw c Ok k Q ⟨l⟩ env h = runOps c Ok k Q ⟨l⟩ l env h := by
  unfold runDraw runOps wpDraw
  refine propext ⟨fun ⟨pairs, h1, h2⟩ => wpOpsL_drop (fun f e h' q => q.2) h2, fun q => ⟨[], hd, wpOpsL_add (fun f e h' q => ⟨fun p hp => by simp at hp, q⟩) q⟩⟩
theorem draw_calmA {c : Cfg} {Ok : Nat → Prop} {k : List Kt} {Q : Ex → Env → H → Prop} {l : List Oper} {env : Env} {h : H} (hd : drawOk c.P ⟨l⟩ [] = true) : runDraw c Ok k Q l.toArray env h = runOps c Ok k Q ⟨l⟩ l env h := draw_calm hd

/-! ### a text made of bytes -/

def usdV (v : V) : Option V := match v with
  | .nilslice => some .nilptr
  | .slice b o _ (_ + 1) => some (.ptr b o)
  | _ => none
theorem usdV_nil : usdV .nilslice = some .nilptr := rfl
theorem usdV_slice (b o n m : Nat) : usdV (.slice b o n (m + 1)) = some (.ptr b o) := rfl
theorem opW_usd {c : Cfg} {Ok : Nat → Prop} {env : Env} {h : H} {K : V → H → Fp → Prop} (x : Operand) (t : TypeId) : opW c Ok (.call ⟨.builtin .unsafeSliceData, #[x], #[t]⟩) env h K = optP (okO (usdV (evalE env x))) (getO' (usdV (evalE env x))) [] h K := by
  refine opM_pure (nb _ _ _) (m := builtinM c.P .unsafeSliceData #[t] [evalE env x]) rfl fun s => ?_
  generalize evalE env x = v
  unfold builtinM usdV
  cases v <;> first | rfl | exact ⟨_, rfl⟩ | skip
  rename_i b o n m
  cases m
  · exact ⟨_, rfl⟩
  · rfl
def usW (c : Cfg) (Ok : Nat → Prop) (t : TypeId) (ts : Array TypeId) (p n : V) (h : H) (K : V → H → Fp → Prop) : Prop := goL h.nx Ok (builtinM c.P .unsafeString ts [p, n]) h [] K
theorem opW_us {c : Cfg} {Ok : Nat → Prop} {env : Env} {h : H} {K : V → H → Fp → Prop} (x y : Operand) (t t2 : TypeId) : opW c Ok (.call ⟨.builtin .unsafeString, #[x, y], #[t, t2]⟩) env h K = usW c Ok t #[t, t2] (evalE env x) (evalE env y) h K := opW_builtin _ _ _
theorem usW_nat {c : Cfg} {Ok : Nat → Prop} {h : H} {K : V → H → Fp → Prop} (p : V) (t t2 : TypeId) (kd : IntKind) (n : Nat) : usW c Ok t #[t, t2] p (.int kd (n : Int)) h K = goL h.nx Ok (unsafeStringM c.P t p n) h [] K := rfl

/-! ### append -/

/-- the element's type of a slice, its size and bytes -/
def apI (P : Program) (t : TypeId) : Option (TypeId × Nat × Nat) := match P.underlying t with
  | some (.slice e) => match szT P e, zeroT P e, (P.info? e).map (·.bytes) with
    | some size, some z, some bytes => bif Nat.beq z.cells.length size && Nat.ble bytes 65536 then some (e, size, bytes) else none
    | _, _, _ => none
  | _ => none

/-- a list that grows: nothing yet, or all of a block whose room is not known -/
def Acc (n0 : Nat) (h : H) (v : V) (cells : List V) (e sz : Nat) : Prop :=
  (v = .nilslice ∧ cells = []) ∨ ∃ b n, n0 ≤ b ∧ b < h.nx ∧ v = .slice b 0 n n ∧ 0 < n ∧ h.get b = some (.cells cells e true) ∧ cells.length = n * sz

/-- what stays at an append: all but the list's own block -/
def StaysBut (v : V) (h h' : H) : Prop := h.nx ≤ h'.nx ∧ ∀ k, k < h.nx → (∀ o n m, v ≠ .slice k o n m) → h'.get k = h.get k

theorem sub_whole {c : List V} {n : Nat} (h : c.length = n) : sub c 0 n = c := by
  unfold sub
  rw [List.drop_zero, ← h, List.take_length]

variable {c : Cfg} {Ok : Nat → Prop} {env : Env} {h : H} {K : V → H → Fp → Prop}

theorem append_acc {s x : Operand} {t tx : TypeId} {e sz bytes n0 n m b2 o2 : Nat} {cells new : List V} (hap : apI c.P t = some (e, sz, bytes)) (htx : ∃ d, c.P.underlying tx = some d ∧ isIntD d = false) (hs : Acc n0 h (evalE env s) cells e sz)
    (hx : evalE env x = .slice b2 o2 n m) (hn : 0 < n) (hnew : rdC (h.get b2) o2 (n * sz) = some new) (hnl : new.length = n * sz) (hc : new.all V.isCell = true) (hroom : cells.length + new.length ≤ 1073741824) (hsz : 0 < sz)
    (hOk : ∀ k, n0 ≤ k → Ok k) (hK : ∀ v h' fp, Acc n0 h' v (cells ++ new) e sz → StaysBut (evalE env s) h h' → K v h' fp) (hn0 : n0 ≤ h.nx) : opW c Ok (.call ⟨.builtin .append, #[s, x], #[t, tx]⟩) env h K := by
  obtain ⟨dx, htx, hdi⟩ := htx
  rw [opW_builtin]
  unfold apI at hap
  cases hu : c.P.underlying t with
  | none => rw [hu] at hap; cases hap
  | some d =>
    rw [hu] at hap
    cases d <;> try (cases hap; done)
    rename_i e'
    simp only at hap
    cases h1 : szT c.P e' with
    | none => rw [h1] at hap; cases hap
    | some sz' =>
      cases h2 : zeroT c.P e' with
      | none => rw [h1, h2] at hap; cases hap
      | some z =>
        cases h3 : (c.P.info? e').map (·.bytes) with
        | none => rw [h1, h2, h3] at hap; cases hap
        | some by' =>
          rw [h1, h2, h3] at hap
          simp only at hap
          cases hb : (Nat.beq z.cells.length sz' && Nat.ble by' 65536) with
          | false => rw [hb] at hap; cases hap
          | true =>
            rw [hb, cond_true] at hap
            simp only [Option.some.injEq, Prod.mk.injEq] at hap
            obtain ⟨rfl, rfl, rfl⟩ := hap
            simp only [Bool.and_eq_true] at hb
            have hlen : n ≤ 1073741824 := by
              have : n * 1 ≤ n * sz' := Nat.mul_le_mul_left n hsz
              omega
            have e1 : builtinM c.P .append #[t, tx] (List.map (evalE env) [s, x]) = bnd (takenM sz' (evalE env x)) fun p => appendCore e' sz' by' (evalE env s) p.1 p.2 := by
              show appendM c.P t tx (evalE env s) (evalE env x) = _
              unfold appendM
              rw [hu, htx]
              simp only [h1, h2, h3, hb.1, cond_true, hdi, cond_false]
            show goL h.nx Ok (builtinM c.P .append #[t, tx] (List.map (evalE env) [s, x])) h [] K
            rw [e1, hx]
            have e2 : (bnd (takenM sz' (V.slice b2 o2 n m)) fun p => appendCore e' sz' by' (evalE env s) p.1 p.2) = bnd (Lx.ld b2 o2 (n * sz')) fun cs => appendCore e' sz' by' (evalE env s) cs n := by
              funext st
              show Lx.bnd (Lx.bnd (Lx.ld b2 o2 (n * sz')) fun cs => Lx.ret (cs, n)) _ st = _
              unfold Lx.bnd
              cases Lx.ld b2 o2 (n * sz') st <;> rfl
            rw [e2, goL_ld]
            refine ⟨new, hnew, ?_⟩
            have hn' : Nat.beq n 0 = false := by
              cases hb : Nat.beq n 0 with
              | false => rfl
              | true => have := Nat.eq_of_beq_eq_true hb; omega
            rcases hs with ⟨hv, rfl⟩ | ⟨b, k, hb0, hb1, hv, hk, hg, hcl⟩
            · rw [hv]
              unfold appendCore
              simp only [hn', cond_false]
              have hr : roomy n by' = true := by
                unfold roomy
                simp only [Bool.and_eq_true]
                exact ⟨ble_iff.2 hlen, hb.2⟩
              rw [hr, cond_true, goL_alloc, goL_ret]
              refine ⟨?_, hK _ _ _ (.inr ⟨h.nx, n, hn0, Nat.lt_succ_self _, rfl, hn, by rw [push_get, if_pos rfl]; rfl, by simpa using hnl⟩) ⟨Nat.le_succ _, fun k hk _ => push_get_lt hk⟩⟩
              rw [LogOk_cons_wrd, LogOk_cons_rd]
              exact ⟨.inl (Nat.le_refl _), LogOk_nil⟩
            · rw [hv]
              unfold appendCore
              simp only [hn', cond_false]
              have hcap : Nat.ble (k + n) k = false := by
                cases hb : Nat.ble (k + n) k with
                | false => rfl
                | true => have := Nat.le_of_ble_eq_true hb; omega
              have hkn : k + n ≤ 1073741824 := by
                have h5 : k * 1 ≤ k * sz' := Nat.mul_le_mul_left k hsz
                have h6 : n * 1 ≤ n * sz' := Nat.mul_le_mul_left n hsz
                omega
              have hr : roomy (k + n) by' = true := by
                unfold roomy
                simp only [Bool.and_eq_true]
                exact ⟨ble_iff.2 hkn, hb.2⟩
              rw [hcap, cond_false, hr, cond_true]
              unfold growM
              rw [goL_blk]
              refine ⟨cells, e', true, hg, ?_⟩
              simp only
              rw [goL_ld]
              refine ⟨cells, ?_, ?_⟩
              · rw [hg]
                unfold rdC
                simp only [Nat.zero_add, hcl, Nat.ble_self_eq_true, cond_true]
                rw [sub_whole hcl]
              · have he : Nat.beq e' e' = true := Nat.beq_refl e'
                rw [he, hc]
                simp only [Bool.and_self, cond_true]
                rw [goL_kill]
                refine ⟨cells, e', true, hg, ?_⟩
                rw [goL_alloc, goL_ret]
                refine ⟨?_, hK _ _ _ (.inr ⟨h.nx, k + n, hn0, Nat.lt_succ_self _, rfl, by omega, ?_, ?_⟩) ⟨Nat.le_succ _, fun j hj hne => ?_⟩⟩
                · rw [LogOk_cons_wrd, LogOk_cons_wrd, LogOk_cons_rdd, LogOk_cons_rd, LogOk_cons_rdd, LogOk_cons_rd]
                  exact ⟨.inl (Nat.le_refl _), .inr (hOk b hb0), LogOk_nil⟩
                · show ((h.del b).push _).get (h.del b).nx = _
                  rw [push_get, if_pos rfl]
                · rw [List.length_append, hcl, hnl, Nat.add_mul]
                · show ((h.del b).push _).get j = _
                  rw [push_get_lt (by exact hj), del_get, if_neg (fun e => hne 0 k k (by rw [hv, e]))]

theorem Acc.put {n0 e sz k : Nat} {v : V} {cells : List V} {ob : Ob} (ha : Acc n0 h v cells e sz) (hk : k < n0) : Acc n0 (h.put k ob) v cells e sz := by
  rcases ha with ⟨a, b⟩ | ⟨b, n, h0, h1, e1, hn, hg, hl⟩
  · exact .inl ⟨a, b⟩
  · exact .inr ⟨b, n, h0, h1, e1, hn, by rw [put_get, if_neg (by omega)]; exact hg, hl⟩
theorem Acc.push {n0 e sz : Nat} {v : V} {cells : List V} {ob : Ob} (ha : Acc n0 h v cells e sz) : Acc n0 (h.push ob) v cells e sz := by
  rcases ha with ⟨a, b⟩ | ⟨b, n, h0, h1, e1, hn, hg, hl⟩
  · exact .inl ⟨a, b⟩
  · exact .inr ⟨b, n, h0, Nat.lt_succ_of_lt h1, e1, hn, by rw [push_get_lt h1]; exact hg, hl⟩
theorem Acc.stay {n0 e sz : Nat} {v : V} {cells : List V} {h' : H} (ha : Acc n0 h v cells e sz) (hn : h.nx ≤ h'.nx) (hs : ∀ k, n0 ≤ k → k < h.nx → h'.get k = h.get k) : Acc n0 h' v cells e sz := by
  rcases ha with ⟨a, b⟩ | ⟨b, n, h0, h1, e1, hn', hg, hl⟩
  · exact .inl ⟨a, b⟩
  · exact .inr ⟨b, n, h0, Nat.lt_of_lt_of_le h1 hn, e1, hn', by rw [hs b h0 h1]; exact hg, hl⟩
theorem Acc.ne {n0 e sz k o n m : Nat} {v : V} {cells : List V} (ha : Acc n0 h v cells e sz) (hk : k < n0) : v ≠ .slice k o n m := by
  rcases ha with ⟨a, b⟩ | ⟨b, n', h0, h1, e1, hn', hg, hl⟩
  · rw [a]; simp
  · rw [e1]; intro q; cases q; omega
theorem Acc.cell {n0 e sz : Nat} {v : V} {cells : List V} (ha : Acc n0 h v cells e sz) : v.cells = [v] ∧ v.isCell = true := by
  rcases ha with ⟨a, b⟩ | ⟨b, n', h0, h1, e1, hn', hg, hl⟩
  · rw [a]; exact ⟨rfl, rfl⟩
  · rw [e1]; exact ⟨rfl, rfl⟩
theorem rdC_all {cs : List V} {e : TypeId} {p : Bool} {n : Nat} (hl : cs.length = n) : rdC (some (.cells cs e p)) 0 n = some cs := by
  unfold rdC
  simp only [Nat.zero_add, hl, Nat.ble_self_eq_true, cond_true]
  rw [sub_whole hl]

theorem StaysBut.ext {v : V} {a h h' : H} {cells : List V} {e sz n0 : Nat} (hx : Ext a h) (hs : StaysBut v h h') (ha : Acc a.nx h v cells e sz) : Ext a h' := by
  refine ⟨Nat.le_trans hx.1 hs.1, fun k hk => ?_⟩
  rw [hs.2 k (Nat.lt_of_lt_of_le hk hx.1) (fun o n m hv => ?_), hx.2 k hk]
  rcases ha with ⟨e, _⟩ | ⟨b, n', h0, _, e, _⟩
  · rw [e] at hv; cases hv
  · rw [e] at hv; cases hv; omega

noncomputable def wpl := And.intro @ptr_eql_nn <| And.intro @ptr_eql_pn <| And.intro @ptr_neq_nn <| And.intro @ptr_neq_pn <| And.intro @ptr_eql_same <| And.intro @ptr_neq_same <| And.intro @nilCheckV_ptr <| And.intro @nilCheckV_gptr <| And.intro @evalE_nilIface <| And.intro @cells_nilIface <| And.intro @isCell_nilIface <| And.intro @usdV_nil <| And.intro @usdV_slice <| And.intro @opW_usd <| And.intro @opW_us <| And.intro @usW_nat <| @oneOf_none
end
end Go.Wx
