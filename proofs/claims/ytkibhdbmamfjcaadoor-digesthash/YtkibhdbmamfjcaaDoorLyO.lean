/-
  A function of a text that gives a value without an address, and a function of a row of bytes that gives a new row, stand in as what they answer, whatever they are given.
-/
import Derived.Test.YtkibhdbmamfjcaaDoorLyN
namespace Go.Lx
open Go.Proofs
set_option linter.unusedVariables false
set_option linter.unusedSimpArgs false
noncomputable section

def txtM (ok : List Nat → Bool) (F : List Nat → V) (vs : List V) : M V := match vs with
  | [.str s] => bif ok s then Lx.ret (F s) else err "txt"
  | _ => err "txt"
theorem local_txtM (ok : List Nat → Bool) (F : List Nat → V) (vs : List V) : Local (txtM ok F vs) := by
  unfold txtM
  repeat' (first | exact Local.ret _ | exact Local.err _ | refine Local.cond ?_ ?_ | split)
theorem extSum_txt {P : Program} {gl : T (List V)} (hm : P.follows .mixedOrders = true) {f : FuncId} (he : Enters P f) {ok : List Nat → Bool} {F : List Nat → V} (hfl : ∀ b : ByteArray, ok (toNats b) = true → flat (F (toNats b)) = true)
    (h1 : ∀ b : ByteArray, ok (toNats b) = true → RunsTo P gl f [.str (toNats b)] .leaf 0 (F (toNats b))) : ExtSum P gl f (txtM ok F) := by
  refine ⟨local_txtM ok F, fun vs v s s' w μ ν rs h hr hf hg ha => ?_⟩
  unfold txtM at h
  split at h
  · rename_i x
    cases hok : ok x with
    | false => rw [hok, cond_false] at h; exact (err_ok h).elim
    | true =>
    rw [hok, cond_true] at h
    obtain ⟨rfl, rfl⟩ := ret_ok h
    cases ha with
    | cons x1 x2 =>
    cases x2
    cases x1 with
    | str b =>
    obtain ⟨c, rfl, rfl, hs, hsu, n, s1, hrun⟩ := h1 b hok
    left
    refine ⟨he _ _, (calls_r c hm hs hrun hsu w (μ := fun _ => none) (ν := ν) rel_empty (fun _ _ => rfl) (fun k p hk => by cases hk) (.cons (.str b) .nil) ⟨hg.there, fun g c k p h1 h2 => by cases h2⟩).mono ?_⟩
    rintro e w' ⟨r', μ1, rfl, hv, hb⟩
    exact ⟨_, rfl, μ, flat_rel (hfl _ hok) hv, StepOk.below hr hb⟩
  · exact (err_ok h).elim

/-- bytes out of cells -/
def u8s : List V → Option (List Nat)
  | [] => some []
  | .int .u8 (.ofNat k) :: l => (u8s l).map (k :: ·)
  | _ => none
def u8c (bs : List Nat) : List V := bs.map fun b => V.int .u8 (b : Nat)
theorem u8s_map : ∀ {cs : List V} {bs : List Nat}, u8s cs = some bs → cs = u8c bs
  | [], bs, h => by cases h; rfl
  | v :: l, bs, h => by
    unfold u8s at h
    split at h
    · rename_i heq; cases heq
    · rename_i k l' heq
      cases heq
      cases hl : u8s l with
      | none => rw [hl] at h; cases h
      | some l' => rw [hl] at h; cases h; rw [u8s_map hl]; rfl
    · cases h
theorem u8s_of : ∀ (bs : List Nat), u8s (u8c bs) = some bs
  | [] => rfl
  | b :: bs => by
    show (u8s (u8c bs)).map (b :: ·) = _
    rw [u8s_of bs]
    rfl
theorem flat_u8c : ∀ (bs : List Nat), flatL (u8c bs) = true
  | [] => rfl
  | b :: bs => by
    show (flat (V.int .u8 b) && flatL (u8c bs)) = true
    rw [flat_u8c bs]
    rfl
def rowM (ok : List Nat → Bool) (F : List Nat → List Nat) (len : Nat) (e : TypeId) (vs : List V) : M V := match vs with
  | [.slice b o n _] => bnd (ld b o n) fun cs => (match u8s cs with
      | some bs => bif ok bs then bnd (alloc (.cells (u8c (F bs)) e true)) fun k => Lx.ret (.slice k 0 len len) else err "row"
      | none => err "row")
  | _ => err "row"
theorem local_rowM (ok : List Nat → Bool) (F : List Nat → List Nat) (len : Nat) (e : TypeId) (vs : List V) : Local (rowM ok F len e vs) := by
  unfold rowM
  repeat' (first | exact Local.ret _ | exact Local.err _ | exact Local.ld _ _ _ | exact Local.alloc _ | refine Local.cond ?_ ?_ | refine Local.bnd ?_ (fun _ => ?_) | split)

/-- a setting's run of a function out of a heap: a new row -/
def RunsRow (P : Program) (gl : T (List V)) (f : FuncId) (vs : List V) (h0 : T Ob) (n0 : Nat) (cells : List V) (e : TypeId) (len : Nat) : Prop := ∃ c : Cfg, c.P = P ∧ c.gl = gl ∧ SumOk c ∧ c.sum f = none ∧ ∃ n k s', callM c (n + 1) f vs ⟨h0, n0, []⟩ = .ok (.slice k 0 len len) s' ∧ s'.heap.get k = some (.cells cells e true)

theorem extSum_row {P : Program} {gl : T (List V)} (hm : P.follows .mixedOrders = true) {f : FuncId} (he : Enters P f) {ok : List Nat → Bool} {F : List Nat → List Nat} {len : Nat} {e : TypeId}
    (h2 : ∀ bs m, ok bs = true → bs.length ≤ m → RunsRow P gl f [.slice 0 0 bs.length m] (T.leaf.set 0 (some (.ro (u8c bs)))) 1 (u8c (F bs)) e len) : ExtSum P gl f (rowM ok F len e) := by
  refine ⟨local_rowM ok F len e, fun vs v s s' w μ ν rs h hr hf hg ha => ?_⟩
  unfold rowM at h
  split at h
  · rename_i b o n m
    obtain ⟨cs, s1, g1, g2⟩ := bnd_ok h
    obtain ⟨cells, hrow, hl, rfl, rfl⟩ := ld_ok g1
    cases hts : u8s (sub cells o n) with
    | none => simp only [hts] at g2; exact (err_ok g2).elim
    | some bs =>
    simp only [hts] at g2
    cases hok : ok bs with
    | false => rw [hok, cond_false] at g2; exact (err_ok g2).elim
    | true =>
    rw [hok, cond_true] at g2
    obtain ⟨k', s3, g3, g4⟩ := bnd_ok g2
    obtain ⟨rfl, rfl⟩ := ret_ok g4
    obtain ⟨rfl, rfl⟩ := alloc_ok g3
    have hmap := u8s_map hts
    have hlen : bs.length = n := by
      have := congrArg List.length hmap
      rw [sub_length hl, u8c, List.length_map] at this
      exact this.symm
    have hk' : μ s.next = none := hf _ (Nat.le_refl _) (Nat.lt_succ_self _)
    cases ha with
    | cons x1 x2 =>
    cases x2
    cases x1 with
    | slice hp hle hsl =>
    rename_i cap' p ad
    obtain ⟨rc, e2, frz, k1, k2⟩ := row_rel hr hrow hp
    have hmc : m ≤ cap' := by rcases hsl with ⟨q1, q2⟩ | ⟨_, q | ⟨_, q, _⟩⟩ <;> omega
    obtain ⟨c, rfl, rfl, hs, hsu, n', k, s2, hrun, hk⟩ := h2 bs cap' hok (by omega)
    rw [hlen] at hrun
    have hget0 : (T.leaf.set 0 (some (Ob.ro (u8c bs))) : T Ob).get 0 = some (Ob.ro (u8c bs)) := by rw [T.get_set, if_pos rfl]
    left
    refine ⟨he _ _, (callM_calls c hm hs hrun hsu (w := w) (μ := upd (fun _ => none) 0 ⟨p.blk, p.off + o, false, 0, 0⟩) (ν := ν) ⟨fun k ob hk => ?_, fun k k' ob ob' q q' hk hk' hne => ?_⟩ (fun k hk _ => upd_ne _ _ (by have : 1 ≤ k := hk; omega)) ⟨hg.there, fun g cg k q q1 q2 => ?_⟩ (.cons (.slice (upd_same _ _ _) (by omega) ?_) .nil)).mono ?_⟩
    · rw [T.get_set] at hk
      split at hk
      · rename_i e0
        subst e0
        cases hk
        refine ⟨_, upd_same _ _ _, rfl, rc, e2, frz, k1, fun i v hi => ?_⟩
        have hi' : (sub cells o n)[i]? = some v := by rw [hmap]; exact hi
        have hin : i < n := by
          have := (List.getElem?_eq_some_iff.1 hi').1
          rw [sub_length hl] at this
          exact this
        rw [sub_get hin] at hi'
        obtain ⟨r', q1, q2⟩ := k2 _ _ hi'
        exact ⟨r', by rw [← q1]; congr 1; show p.off + o + i = p.off + (o + i); omega, flat_rel (flatL_get (flat_u8c bs) hi) q2⟩
      · cases hk
    · rw [T.get_set] at hk hk'
      split at hk
      · split at hk'
        · omega
        · cases hk'
      · cases hk
    · by_cases h0 : k = 0
      · subst h0
        rw [upd_same] at q2
        cases q2
        exact hg.apart g cg _ p q1 hp
      · rw [upd_ne _ _ h0] at q2; cases q2
    · rcases hsl with ⟨q1, q2⟩ | ⟨q1, _⟩
      · exact .inl ⟨q2, q2⟩
      · exact .inr ⟨q1, .inl rfl⟩
    · rintro e' w' ⟨r, rfl, μ1, hv, st⟩
      have hro := st.ro 0 _ _ hget0 (upd_same _ _ _)
      have hblk : ∀ b, b < w.heap.size → w'.heap[b]? = w.heap[b]? := by
        intro b hb
        by_cases hx : p.blk = b
        · subst hx; exact hro.2
        · exact st.block b hb fun k q hq e => by
            by_cases h0 : k = 0
            · subst h0; rw [upd_same] at hq; cases hq; exact hx e
            · rw [upd_ne _ _ h0] at hq; cases hq
      obtain ⟨p', hp', hor⟩ := st.rel.ob k _ hk
      have hk0 : k ≠ 0 := fun e => by subst e; rw [hro.1] at hk; cases hk
      have hnew : w.heap.size ≤ p'.blk := by
        rcases st.newblk k p' hp' (upd_ne _ _ hk0) with h | ⟨j, q, hj, hq⟩
        · exact h
        · by_cases h0 : j = 0
          · subst h0
            exact absurd hq (st.rel.sep 0 k _ _ _ _ hro.1 hk (Ne.symm hk0) rfl (st.le _ _ hj) hp')
          · rw [upd_ne _ _ h0] at hj; cases hj
      obtain ⟨q1, q2, rc', frz', q3, q4, q5, q6, q7, q8⟩ := hor
      have hor' : ORel c.P (upd μ s.next p') ν p' w'.heap (.cells (u8c (F bs)) e true) := by
        refine ⟨q1, q2, rc', frz', q3, q4, q5, q6, q7, fun i v hi => ?_⟩
        obtain ⟨r, hr1, hr2⟩ := q8 i v hi
        exact ⟨r, hr1, flat_rel (flatL_get (flat_u8c _) hi) hr2⟩
      refine ⟨_, rfl, upd μ s.next p', ?_, upd_le _ hk', fun j hj => upd_ne _ _ (by intro e; exact hj (by rw [e]; exact ⟨Nat.le_refl _, Nat.lt_succ_self _⟩)), ⟨fun j o hj => ?_, fun i j o o' a b hi hj hne hro ha hb => ?_⟩, st.os, st.tape, st.output, st.size, fun b hb _ => hblk b hb, fun j q h1 h2 => ?_, fun j c0 q h1 h2 => ?_⟩
      · cases hv with
        | slice h3 h4 h5 =>
          rw [hp'] at h3; cases h3
          exact .slice (upd_same _ _ _) h4 h5
      · rw [T.get_set] at hj
        split at hj
        · rename_i e; subst e; injection hj with hj; subst hj; exact ⟨p', upd_same _ _ _, hor'⟩
        · rename_i e
          obtain ⟨q, hq, hor2⟩ := hr.ob j o hj
          exact ⟨q, by rw [upd_ne _ _ e]; exact hq, hor2.mono (upd_le _ hk') (hblk _ hor2.there)⟩
      · rw [T.get_set] at hi hj
        have old : ∀ x ob q, x ≠ s.next → s.heap.get x = some ob → upd μ s.next p' x = some q → q.blk < w.heap.size := by
          intro x ob q hx h1 h2
          rw [upd_ne _ _ hx] at h2
          obtain ⟨q', hq', hor2⟩ := hr.ob x ob h1
          rw [hq'] at h2; cases h2
          exact hor2.there
        by_cases ei : i = s.next
        · have ej : j ≠ s.next := fun e => hne (ei.trans e.symm)
          rw [if_neg ej] at hj
          subst ei
          rw [upd_same] at ha; cases ha
          have := old j o' b ej hj hb
          omega
        · rw [if_neg ei] at hi
          by_cases ej : j = s.next
          · subst ej
            rw [upd_same] at hb; cases hb
            have := old i o a ei hi ha
            omega
          · rw [if_neg ej] at hj
            rw [upd_ne _ _ ei] at ha; rw [upd_ne _ _ ej] at hb
            exact hr.sep i j o o' a b hi hj hne hro ha hb
      · by_cases e : j = s.next
        · subst e; rw [upd_same] at h1; cases h1; exact .inl hnew
        · rw [upd_ne _ _ e] at h1; rw [h1] at h2; cases h2
      · have hne : j ≠ s.next := fun e => by rw [e, hk'] at h2; cases h2
        obtain ⟨q', hq', ho⟩ := hr.ob j _ h1
        rw [h2] at hq'; cases hq'
        exact ⟨by rw [T.get_set, if_neg hne]; exact h1, hblk _ ho.there⟩
  · exact (err_ok h).elim
end
end Go.Lx
