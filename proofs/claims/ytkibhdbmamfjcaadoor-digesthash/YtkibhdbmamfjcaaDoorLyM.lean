/-
  A function of a struct of a number, a row of texts and a number, that writes nothing but what is its own, stands in as what it answers.
-/
import Derived.Test.YtkibhdbmamfjcaaDoorLyL
namespace Go.Lx
open Go.Proofs
set_option linter.unusedVariables false
set_option linter.unusedSimpArgs false
noncomputable section

/-- texts out of cells -/
def famTs : List V → Option (List (List Nat))
  | [] => some []
  | .str s :: l => (famTs l).map (s :: ·)
  | _ => none
theorem famTs_map : ∀ {cs : List V} {ts : List (List Nat)}, famTs cs = some ts → cs = ts.map V.str
  | [], ts, h => by cases h; rfl
  | v :: l, ts, h => by
    cases v <;> try (cases h; done)
    rename_i s
    unfold famTs at h
    cases hl : famTs l with
    | none => rw [hl] at h; cases h
    | some l' => rw [hl] at h; cases h; rw [famTs_map hl]; rfl

def famM (F : List (List Nat) → Int → Int) (vs : List V) : M V := match vs with
  | [.agg [.int .u64 _, .nilslice, .int .i64 r]] => Lx.ret (.int .i64 (F [] r))
  | [.agg [.int .u64 _, .slice b o n _, .int .i64 r]] => bif Nat.ble n 1000 then bnd (ld b o n) fun cs => (match famTs cs with
      | some ts => Lx.ret (.int .i64 (F ts r))
      | none => err "fam") else err "fam"
  | _ => err "fam"
theorem local_famM (F : List (List Nat) → Int → Int) (vs : List V) : Local (famM F vs) := by
  unfold famM
  repeat' (first | exact Local.ret _ | exact Local.err _ | exact Local.ld _ _ _ | refine Local.cond ?_ ?_ | refine Local.bnd ?_ (fun _ => ?_) | split)

/-- a setting's run of a function out of a heap -/
def RunsTo (P : Program) (gl : T (List V)) (f : FuncId) (vs : List V) (h0 : T Ob) (n0 : Nat) (v : V) : Prop := ∃ c : Cfg, c.P = P ∧ c.gl = gl ∧ SumOk c ∧ c.sum f = none ∧ ∃ n s', callM c (n + 1) f vs ⟨h0, n0, []⟩ = .ok v s'

theorem extSum_fam {P : Program} {gl : T (List V)} (hm : P.follows .mixedOrders = true) {f : FuncId} (he : Enters P f) {F : List (List Nat) → Int → Int}
    (h1 : ∀ a r, RunsTo P gl f [.agg [.int .u64 a, .nilslice, .int .i64 r]] .leaf 0 (.int .i64 (F [] r)))
    (h2 : ∀ a r (ts : List (List Nat)) m, ts.length ≤ 1000 → ts.length ≤ m → RunsTo P gl f [.agg [.int .u64 a, .slice 0 0 ts.length m, .int .i64 r]] (T.leaf.set 0 (some (.ro (ts.map V.str)))) 1 (.int .i64 (F ts r))) : ExtSum P gl f (famM F) := by
  refine ⟨local_famM F, fun vs v s s' w μ ν rs h hr hf hg ha => ?_⟩
  unfold famM at h
  split at h
  · rename_i a r
    obtain ⟨rfl, rfl⟩ := ret_ok h
    obtain ⟨c, rfl, rfl, hs, hsu, n, s1, hrun⟩ := h1 a r
    cases ha with
    | cons x1 x2 =>
    cases x2
    cases x1 with
    | agg x1 =>
    cases x1 with
    | cons y1 x1 =>
    cases x1 with
    | cons y2 x1 =>
    cases x1 with
    | cons y3 x1 =>
    cases x1
    cases y1
    cases y2
    cases y3
    left
    refine ⟨he _ _, (calls_r c hm hs hrun hsu w (μ := fun _ => none) (ν := ν) rel_empty (fun _ _ => rfl) (fun k p hk => by cases hk) (.cons (.agg (.cons (.int _ _) (.cons .nilslice (.cons (.int _ _) .nil)))) .nil) ⟨hg.there, fun g c k p h1 h2 => by cases h2⟩).mono ?_⟩
    rintro e w' ⟨r', μ1, rfl, hv, hb⟩
    cases hv
    exact ⟨_, rfl, μ, .int _ _, StepOk.below hr hb⟩
  · rename_i a b o n m r
    cases hn : Nat.ble n 1000
    · rw [hn, cond_false] at h; exact (err_ok h).elim
    rw [hn, cond_true] at h
    rw [ble_iff] at hn
    obtain ⟨cs, s1, g1, g2⟩ := bnd_ok h
    obtain ⟨cells, hrow, hl, rfl, rfl⟩ := ld_ok g1
    cases hts : famTs (sub cells o n) with
    | none => simp only [hts] at g2; exact (err_ok g2).elim
    | some ts =>
    simp only [hts] at g2
    obtain ⟨rfl, rfl⟩ := ret_ok g2
    have hmap := famTs_map hts
    have hlen : ts.length = n := by
      have := congrArg List.length hmap
      rw [sub_length hl, List.length_map] at this
      exact this.symm
    cases ha with
    | cons x1 x2 =>
    cases x2
    cases x1 with
    | agg x1 =>
    cases x1 with
    | cons y1 x1 =>
    cases x1 with
    | cons y2 x1 =>
    cases x1 with
    | cons y3 x1 =>
    cases x1
    cases y1
    cases y3
    cases y2 with
    | slice hp hle hsl =>
    rename_i cap' p ad
    obtain ⟨rc, e, frz, k1, k2⟩ := row_rel hr hrow hp
    have hmc : m ≤ cap' := by rcases hsl with ⟨q1, q2⟩ | ⟨_, q | ⟨_, q, _⟩⟩ <;> omega
    obtain ⟨c, rfl, rfl, hs, hsu, n', s1, hrun⟩ := h2 a r ts cap' (by omega) (by omega)
    rw [hlen] at hrun
    left
    refine ⟨he _ _, (calls_r c hm hs hrun hsu w (μ := upd (fun _ => none) 0 ⟨p.blk, p.off + o, false, 0, 0⟩) (ν := ν) ⟨fun k ob hk => ?_, fun k k' ob ob' q q' hk hk' hne => ?_⟩ (fun k hk => upd_ne _ _ (by omega)) (fun k q hk => ?_) (.cons (.agg (.cons (.int _ _) (.cons (.slice (upd_same _ _ _) (by omega) ?_) (.cons (.int _ _) .nil)))) .nil) ⟨hg.there, fun g cg k q q1 q2 => ?_⟩).mono ?_⟩
    · rw [T.get_set] at hk
      split at hk
      · rename_i e0
        subst e0
        cases hk
        refine ⟨_, upd_same _ _ _, rfl, rc, e, frz, k1, fun i v hi => ?_⟩
        have hi' : (sub cells o n)[i]? = some v := by rw [hmap]; exact hi
        have hin : i < n := by
          have := (List.getElem?_eq_some_iff.1 hi').1
          rw [sub_length hl] at this
          exact this
        rw [sub_get hin] at hi'
        obtain ⟨r', q1, q2⟩ := k2 _ _ hi'
        refine ⟨r', by rw [← q1]; congr 1; show p.off + o + i = p.off + (o + i); omega, ?_⟩
        rw [List.getElem?_map] at hi
        cases hti : ts[i]? with
        | none => rw [hti] at hi; cases hi
        | some t =>
          rw [hti] at hi
          cases hi
          cases q2
          exact .str _
      · cases hk
    · rw [T.get_set] at hk hk'
      split at hk
      · split at hk'
        · omega
        · cases hk'
      · cases hk
    · by_cases h0 : k = 0
      · subst h0; exact ⟨_, by rw [T.get_set, if_pos rfl]⟩
      · rw [upd_ne _ _ h0] at hk; cases hk
    · rcases hsl with ⟨q1, q2⟩ | ⟨q1, _⟩
      · exact .inl ⟨q2, q2⟩
      · exact .inr ⟨q1, .inl rfl⟩
    · by_cases h0 : k = 0
      · subst h0
        rw [upd_same] at q2
        cases q2
        exact hg.apart g cg _ p q1 hp
      · rw [upd_ne _ _ h0] at q2; cases q2
    · rintro e' w' ⟨r', μ1, rfl, hv, hb⟩
      cases hv
      exact ⟨_, rfl, μ, .int _ _, StepOk.below hr hb⟩
  · exact (err_ok h).elim
end
end Go.Lx
