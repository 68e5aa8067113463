/-
  Ranges over texts, texts and bytes, append, in a form that rewriting works out.
-/
import Derived.Test.YtkibhdbmamfjcaaDoorWxJ
set_option linter.unusedSimpArgs false
set_option linter.unusedVariables false
set_option linter.defProp false
namespace Go.Wx
open Go.Lx
noncomputable section

section
variable {c : Cfg} {Ok : Nat → Prop} {env : Env} {h : H} {K : V → H → Fp → Prop}

theorem clsS_str {d : Option TypeDesc} (h : clsS d = 0) : d = some .string := by
  unfold clsS at h
  split at h
  · rfl
  · cases h

/-! ### Ranges over texts -/

def rngW (c : Cfg) (Ok : Nat → Prop) (t : TypeId) (x : V) (h : H) (K : V → H → Fp → Prop) : Prop := match x with
  | .str s => K (.ptr h.nx 0) (h.push (.siter s 0)) (.lg [.wrd h.nx])
  | x => goL h.nx Ok (rangeM c.P t x) h [] K
theorem rngW_str (t : TypeId) (s : List Nat) : rngW c Ok t (.str s) h K = K (.ptr h.nx 0) (h.push (.siter s 0)) (.lg [.wrd h.nx]) := rfl
theorem opW_range_str (t : TypeId) (x : Operand) (hc : clsS (c.P.underlying t) = 0) : opW c Ok (.range t x) env h K = rngW c Ok t (evalE env x) h K := by
  rw [opW_range]
  generalize evalE env x = v
  unfold rngW
  split
  · rename_i s
    unfold rangeM
    rw [clsS_str hc]
    simp only
    rw [goL_alloc, goL_ret, LogOk_cons_wrd]
    simp [LogOk_nil']
  · rfl

def nxtB (Ok : Nat → Prop) (ob : Option Ob) (r : Nat) (h : H) (K : V → H → Fp → Prop) : Prop := match ob with
  | some (.siter s pos) => (pos < s.length → (h.nx ≤ r ∨ Ok r) ∧ K (.tuple [bo True, .int .i64 pos, .int .i32 (dec (s.drop pos)).1]) (h.put r (.siter s (pos + (dec (s.drop pos)).2))) (.lg [.wrd r, .rdd r, .rdd r])) ∧ (¬ pos < s.length → K (.tuple [bo False]) h (.lg [.rdd r]))
  | _ => goL h.nx Ok (nextM (.ptr r 0) true) h [] K
def nxtW (Ok : Nat → Prop) (x : V) (h : H) (K : V → H → Fp → Prop) : Prop := match x with
  | .ptr r 0 => nxtB Ok (h.get r) r h K
  | x => goL h.nx Ok (nextM x true) h [] K
theorem nxtW_ptr (r : Nat) : nxtW Ok (.ptr r 0) h K = nxtB Ok (h.get r) r h K := rfl
theorem nxtB_siter (s : List Nat) (pos r : Nat) : nxtB Ok (some (.siter s pos)) r h K = ((pos < s.length → (h.nx ≤ r ∨ Ok r) ∧ K (.tuple [bo True, .int .i64 pos, .int .i32 (dec (s.drop pos)).1]) (h.put r (.siter s (pos + (dec (s.drop pos)).2))) (.lg [.wrd r, .rdd r, .rdd r])) ∧ (¬ pos < s.length → K (.tuple [bo False]) h (.lg [.rdd r]))) := rfl
theorem opW_next_str (x : Operand) : opW c Ok (.next x true) env h K = nxtW Ok (evalE env x) h K := by
  rw [opW_next]
  generalize evalE env x = v
  unfold nxtW
  split
  · rename_i r
    unfold nxtB
    split
    · rename_i s pos hg
      unfold nextM
      simp only
      rw [goL_getO]
      refine propext ⟨fun q => ?_, fun q => ?_⟩
      · obtain ⟨ob, h1, h2, h3⟩ := q
        rw [hg] at h1; cases h1
        simp only at h3
        rw [goL_cond] at h3
        refine ⟨fun hl => ?_, fun hl => ?_⟩
        · have h4 := h3.1 (by simpa [Nat.blt_eq] using hl)
          rw [goL_setO] at h4
          obtain ⟨ob, _, _, _, h5⟩ := h4
          rw [goL_ret, LogOk_cons_wrd] at h5
          rw [← boolT]
          exact ⟨h5.1.1, h5.2⟩
        · have h4 := h3.2 (by
            cases hb : Nat.blt pos s.length with
            | false => rfl
            | true => exact (hl (by simpa [Nat.blt_eq] using hb)).elim)
          rw [goL_ret] at h4
          rw [← boolF]
          exact h4.2
      · refine ⟨_, hg, rfl, ?_⟩
        simp only
        rw [goL_cond]
        refine ⟨fun hb => ?_, fun hb => ?_⟩
        · have hl : pos < s.length := by simpa [Nat.blt_eq] using hb
          have h5 := q.1 hl
          rw [goL_setO]
          refine ⟨_, hg, rfl, rfl, ?_⟩
          rw [goL_ret, LogOk_cons_wrd, LogOk_cons_rdd, LogOk_cons_rdd, LogOk_nil']
          rw [← boolT] at h5
          exact ⟨⟨h5.1, trivial⟩, h5.2⟩
        · have hl : ¬ pos < s.length := fun hl => by
            have : Nat.blt pos s.length = true := by simpa [Nat.blt_eq] using hl
            rw [this] at hb; cases hb
          have h5 := q.2 hl
          rw [← boolF] at h5
          rw [goL_ret, LogOk_cons_rdd, LogOk_nil']
          exact ⟨trivial, h5⟩
    · rfl
  · rfl

/-! ### Texts and bytes -/

/-- a slice of bytes -/
def byteS (P : Program) (t : TypeId) : Bool := match P.underlying t with
  | some (.slice e) => (match P.underlying e with
    | some (.int .u8) => szT P e == some 1
    | _ => false)
  | _ => false
def elemS (P : Program) (t : TypeId) : TypeId := match P.underlying t with
  | some (.slice e) => e
  | _ => 0
theorem byteS_ok {P : Program} {t : TypeId} (h : byteS P t = true) : ∃ e, P.underlying t = some (.slice e) ∧ elemS P t = e ∧ P.underlying e = some (.int .u8) ∧ szT P e = some 1 := by
  unfold byteS at h
  cases hu : P.underlying t with
  | none => rw [hu] at h; cases h
  | some d =>
    rw [hu] at h
    cases d <;> try (cases h; done)
    rename_i e
    simp only at h
    cases hv : P.underlying e with
    | none => rw [hv] at h; cases h
    | some d' =>
      rw [hv] at h
      cases d' <;> try (cases h; done)
      rename_i k
      cases k <;> try (cases h; done)
      refine ⟨e, rfl, by simp [elemS, hu], hv, ?_⟩
      simpa using h

def cvSB (c : Cfg) (Ok : Nat → Prop) (s t : TypeId) (x : V) (h : H) (K : V → H → Fp → Prop) : Prop := match x with
  | .str l => K (.slice h.nx 0 l.length l.length) (h.push (.cells (bytesV l) (elemS c.P t) true)) (.lg [.wrd h.nx])
  | x => goL h.nx Ok (convertM c.P s t x) h [] K
theorem cvSB_str (s t : TypeId) (l : List Nat) : cvSB c Ok s t (.str l) h K = K (.slice h.nx 0 l.length l.length) (h.push (.cells (bytesV l) (elemS c.P t) true)) (.lg [.wrd h.nx]) := rfl
theorem opW_conv_sb (s t : TypeId) (x : Operand) (hs : clsS (c.P.underlying s) = 0) (ht : byteS c.P t = true) : opW c Ok (.convert s t x) env h K = cvSB c Ok s t (evalE env x) h K := by
  rw [opW_convert]
  generalize evalE env x = v
  unfold cvSB
  split
  · rename_i l
    obtain ⟨e, h1, h2, h3, h4⟩ := byteS_ok ht
    unfold convertM
    rw [clsS_str hs, h1, h2]
    simp only [h3, h4, beq_self_eq_true, cond_true]
    rw [goL_alloc, goL_ret, LogOk_cons_wrd]
    simp [LogOk_nil']
  · rfl

def rdN (ob : Option Ob) (o n : Nat) : Option (List Nat) := (rdC ob o n).bind natsV
def cvBSb (r : Option (List Nat)) (b o n : Nat) (h : H) (K : V → H → Fp → Prop) : Prop := match r with
  | some l => K (.str l) h (.lg [.rd b o n])
  | none => False
def cvBS (c : Cfg) (Ok : Nat → Prop) (s t : TypeId) (x : V) (h : H) (K : V → H → Fp → Prop) : Prop := match x with
  | .nilslice => K (.str []) h (.lg [])
  | .slice b o n _ => cvBSb (rdN (h.get b) o n) b o n h K
  | x => goL h.nx Ok (convertM c.P s t x) h [] K
theorem cvBS_nil (s t : TypeId) : cvBS c Ok s t .nilslice h K = K (.str []) h (.lg []) := rfl
theorem cvBS_slice (s t : TypeId) (b o n m : Nat) : cvBS c Ok s t (.slice b o n m) h K = cvBSb (rdN (h.get b) o n) b o n h K := rfl
theorem cvBSb_some (l : List Nat) (b o n : Nat) : cvBSb (some l) b o n h K = K (.str l) h (.lg [.rd b o n]) := rfl
theorem opW_conv_bs (s t : TypeId) (x : Operand) (hs : byteS c.P s = true) (ht : clsS (c.P.underlying t) = 0) : opW c Ok (.convert s t x) env h K = cvBS c Ok s t (evalE env x) h K := by
  rw [opW_convert]
  obtain ⟨e, h1, h2, h3, h4⟩ := byteS_ok hs
  generalize evalE env x = v
  unfold cvBS
  split
  · unfold convertM
    rw [clsS_str ht, h1]
    simp only [h3]
    rw [goL_ret]
    simp [LogOk_nil']
  · rename_i b o n m
    unfold convertM
    rw [clsS_str ht, h1]
    simp only [h3]
    rw [goL_ld]
    unfold cvBSb rdN
    cases hr : rdC (h.get b) o n with
    | none => simp
    | some cs =>
      simp only [Option.some.injEq, exists_eq_left', Option.bind_some]
      cases hn : natsV cs with
      | none => simp [goL_err]
      | some l =>
        simp only
        rw [goL_ret, LogOk_cons_rd]
        simp [LogOk_nil']
  · rfl
theorem natsV_bytes : ∀ {l : List Nat}, (∀ b ∈ l, b < 256) → natsV (bytesV l) = some l
  | [], _ => rfl
  | b :: l, h => by
    have ih := natsV_bytes (l := l) fun x hx => h x (by simp [hx])
    have hb : Nat.blt b 256 = true := by simpa [Nat.blt_eq] using h b (by simp)
    show natsV (.int .u8 (Int.ofNat b) :: bytesV l) = _
    unfold natsV
    rw [ih]
    simp [hb]
theorem bytesV_length (l : List Nat) : (bytesV l).length = l.length := by simp [bytesV]
theorem bytesV_get (l : List Nat) (i : Nat) : (bytesV l)[i]? = (l[i]?).map fun (n : Nat) => V.int .u8 n := by simp [bytesV]
theorem sub_all (l : List V) : sub l 0 l.length = l := by simp [sub]
theorem rdN_bytes {l : List Nat} {e : TypeId} {p : Bool} (h : ∀ b ∈ l, b < 256) : rdN (some (.cells (bytesV l) e p)) 0 l.length = some l := by
  unfold rdN rdC
  simp only [Nat.zero_add, bytesV_length, Nat.ble_self_eq_true, cond_true, Option.bind_some]
  rw [show sub (bytesV l) 0 l.length = bytesV l by rw [← bytesV_length l]; exact sub_all _]
  exact natsV_bytes h
end

noncomputable def wpk := And.intro @rngW_str <| And.intro @opW_range_str <| And.intro @nxtW_ptr <| And.intro @nxtB_siter <| And.intro @opW_next_str <| And.intro @cvSB_str <| And.intro @opW_conv_sb <| And.intro @cvBS_nil <| And.intro @cvBS_slice <| And.intro @cvBSb_some <| And.intro @opW_conv_bs <| And.intro @bytesV_length <| @bytesV_get

end
end Go.Wx
