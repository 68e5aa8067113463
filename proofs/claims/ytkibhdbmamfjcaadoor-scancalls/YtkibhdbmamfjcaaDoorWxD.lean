/-
  The machine does what the predicate says: regions whose order is open, code, calls.
-/
import Derived.Test.YtkibhdbmamfjcaaDoorWxC
set_option linter.unusedSimpArgs false
set_option linter.unusedVariables false
namespace Go.Wx
open Go.Lx

theorem bnd_eq {α β : Type} {x : M α} {f : α → M β} {s s1 : St} {a : α} (h : x s = .ok a s1) : Lx.bnd x f s = f a s1 := by
  unfold Lx.bnd; rw [h]

theorem hits_blk {x y : LE} (h : hits x y = true) : x.isW = true ∧ blkOf x = blkOf y := by
  cases x <;> cases y <;> simp [hits, LE.isW, blkOf] at h ⊢ <;> first | exact h.1 | exact h | skip

theorem anyL_of {α : Type} {f : α → Bool} : ∀ {l : List α}, anyL f l = true → ∃ a ∈ l, f a = true
  | [], h => by cases h
  | a :: l, h => by
    simp only [anyL, Bool.or_eq_true] at h
    rcases h with h | h
    · exact ⟨a, by simp, h⟩
    · obtain ⟨b, hb, hf⟩ := anyL_of h
      exact ⟨b, by simp [hb], hf⟩

theorem hitsL_of_ne {a b : List LE} (h : ∀ x ∈ a, ∀ y ∈ b, x.isW = true → blkOf x ≠ blkOf y) : hitsL a b = false := by
  cases hh : hitsL a b with
  | false => rfl
  | true =>
    obtain ⟨x, hx, h1⟩ := anyL_of hh
    simp only [Bool.and_eq_true] at h1
    obtain ⟨y, hy, h2⟩ := anyL_of h1.2
    exact (h x hx y hy h1.1 (hits_blk h2).2).elim

theorem hitsL_nil_right (a : List LE) : hitsL a [] = false := hitsL_of_ne fun x _ y hy => by simp at hy
theorem hitsL_nil_left (a : List LE) : hitsL [] a = false := rfl
theorem hitsL_reads {a b : List LE} (h : ∀ e ∈ a, e.isW = false) : hitsL a b = false := hitsL_of_ne fun x hx y _ hw => by rw [h x hx] at hw; cases hw

/-- logs as they are told keep apart -/
theorem apart_of {f g : Fp} {a b : List LE} (hf : FpIs f a) (hg : FpIs g b) (h : fpApart f g) : hitsL a b = false ∧ hitsL b a = false := by
  cases f with
  | lg la =>
    obtain rfl : a = la := hf
    cases g with
    | lg lb => obtain rfl : b = lb := hg; exact h
    | cl n0 n1 Ok =>
      refine ⟨hitsL_reads fun e he => (h e he).1, hitsL_of_ne fun x hx y hy hw hb => ?_⟩
      obtain ⟨h1, h2⟩ := hg x hx
      obtain ⟨_, h4, h5⟩ := h y hy
      rw [hb] at h1 h2
      rcases h2 hw with h2 | h2
      · omega
      · exact h5 h2
  | cl n0 n1 Ok =>
    cases g with
    | lg lb =>
      obtain rfl : b = lb := hg
      refine ⟨hitsL_of_ne fun x hx y hy hw hb => ?_, hitsL_of_ne fun x hx y hy hw hb => ?_⟩
      · obtain ⟨h1, h2⟩ := hf x hx
        rw [hb] at h1 h2
        rcases h y hy with h3 | ⟨_, h4, h5⟩
        · omega
        · rcases h2 hw with h2 | h2
          · omega
          · exact h5 h2
      · obtain ⟨h1, h2⟩ := hf y hy
        rw [← hb] at h1
        rcases h x hx with h3 | ⟨h3, _, _⟩
        · omega
        · rw [h3] at hw; cases hw
    | cl _ _ _ => exact h.elim

theorem fine_apart {P : Program} {q o : Op} {f g : Fp} {a b : List LE} (hf : FpIs f a) (hg : FpIs g b) (cf : FpCls P q f) (cg : FpCls P o g) (h : fine (cls P q) (cls P o) = true) : hitsL a b = false ∧ hitsL b a = false := by
  simp only [fine, Bool.or_eq_true, Bool.and_eq_true, Nat.beq_eq, Nat.ble_eq] at h
  rcases h with (h | h) | ⟨h1, h2⟩
  · rw [cf.1 h] at hf
    obtain rfl : a = [] := hf
    exact ⟨rfl, hitsL_nil_right _⟩
  · rw [cg.1 h] at hg
    obtain rfl : b = [] := hg
    exact ⟨hitsL_nil_right _, rfl⟩
  · obtain ⟨la, e1, w1⟩ := cf.2 h1
    obtain ⟨lb, e2, w2⟩ := cg.2 h2
    rw [e1] at hf; rw [e2] at hg
    obtain rfl : a = la := hf
    obtain rfl : b = lb := hg
    exact ⟨hitsL_reads w1, hitsL_reads w2⟩

theorem pairIn_mem {i j : Nat} : ∀ {l : List (Nat × Nat)}, pairIn i j l = true → (i, j) ∈ l
  | [], h => by cases h
  | p :: l, h => by
    simp only [pairIn, Bool.or_eq_true, Bool.and_eq_true, Nat.beq_eq] at h
    rcases h with ⟨h1, h2⟩ | h
    · obtain ⟨a, b⟩ := p
      simp only at h1 h2
      subst h1; subst h2
      simp
    · simp [pairIn_mem h]

/-- what is known of the steps of a region that was run -/
structure Told (P : Program) (l : List Oper) (fps : List Fp) (lgs : List (List LE)) : Prop where
  len : fps.length = l.length
  len' : lgs.length = l.length
  is : ∀ (i : Nat) f lg, fps[i]? = some f → lgs[i]? = some lg → FpIs f lg
  cls : ∀ (i : Nat) (o : Oper) f, l[i]? = some o → fps[i]? = some f → FpCls P o.op f

theorem apartFrom_intro {A : Array Oper} {m : Nat} {o : Oper} {lg : List LE} : ∀ {l : List (Oper × List LE)} {i : Nat}, (∀ (k : Nat) q lq, l[k]? = some (q, lq) → m.testBit (i + k) = true ∨ (tmpHits A q o = false ∧ hitsL lq lg = false ∧ hitsL lg lq = false)) → apartFrom A m o lg l i = true
  | [], i, _ => rfl
  | (q0, lq0) :: l, i, h => by
    simp only [apartFrom, Bool.and_eq_true, Bool.or_eq_true, Bool.not_eq_true']
    refine ⟨?_, apartFrom_intro fun k q lq hk => ?_⟩
    · rcases h 0 q0 lq0 rfl with h | ⟨h1, h2, h3⟩
      · exact .inl h
      · exact .inr ⟨⟨h1, h2⟩, h3⟩
    · have := h (k + 1) q lq hk
      rwa [show i + (k + 1) = i + 1 + k by omega] at this

theorem apartAll_intro {A : Array Oper} {b : Array Nat} : ∀ {l done : List (Oper × List LE)} {j : Nat}, done.length = j →
    (∀ (i k : Nat) q lq o lg, i < j + k → (done ++ l)[i]? = some (q, lq) → l[k]? = some (o, lg) → (b.getD (j + k) 0).testBit i = true ∨ (tmpHits A q o = false ∧ hitsL lq lg = false ∧ hitsL lg lq = false)) → apartAll A b done j l = true
  | [], done, j, _, _ => rfl
  | (o0, lg0) :: l, done, j, hd, h => by
    simp only [apartAll, Bool.and_eq_true]
    refine ⟨apartFrom_intro fun k q lq hk => ?_, apartAll_intro (by simp [hd]) fun i k q lq o lg hlt hi hk => ?_⟩
    · rw [Nat.zero_add]
      have hlt : k < done.length := by
        obtain ⟨hh, _⟩ := List.getElem?_eq_some_iff.1 hk
        exact hh
      have := h k 0 q lq o0 lg0 (by omega) (by rw [List.getElem?_append_left hlt]; exact hk) rfl
      exact this
    · have := h i (k + 1) q lq o lg (by omega) (by simpa using hi) (by simpa using hk)
      rwa [show j + (k + 1) = j + 1 + k by omega] at this

theorem drawFrom_spec {P : Program} {A : Array Oper} {m j : Nat} {o : Oper} {pairs : List (Nat × Nat)} : ∀ {l : List Oper} {i : Nat}, drawFrom P A m j o pairs l i = true → ∀ (k : Nat) q, l[k]? = some q →
    m.testBit (i + k) = true ∨ (tmpHits A q o = false ∧ (fine (cls P q.op) (cls P o.op) = true ∨ (i + k, j) ∈ pairs))
  | [], i, _, k, q, h => by simp at h
  | q0 :: l, i, ha, k, q, h => by
    simp only [drawFrom, Bool.and_eq_true, Bool.or_eq_true, Bool.not_eq_true'] at ha
    cases k with
    | zero =>
      simp at h
      subst h
      rcases ha.1 with h1 | ⟨h1, h2⟩
      · exact .inl h1
      · exact .inr ⟨h1, h2.imp id fun h => pairIn_mem h⟩
    | succ k =>
      have := drawFrom_spec ha.2 k q (by simpa using h)
      rwa [show i + 1 + k = i + (k + 1) by omega] at this

theorem drawAll_spec {P : Program} {A : Array Oper} {b : Array Nat} {pairs : List (Nat × Nat)} : ∀ {l done : List Oper} {j : Nat}, drawAll P A b pairs done j l = true → done.length = j →
    ∀ (i k : Nat) q o, i < j + k → (done ++ l)[i]? = some q → l[k]? = some o → (b.getD (j + k) 0).testBit i = true ∨ (tmpHits A q o = false ∧ (fine (cls P q.op) (cls P o.op) = true ∨ (i, j + k) ∈ pairs))
  | [], done, j, _, _, i, k, q, o, _, _, h => by simp at h
  | o0 :: l, done, j, ha, hd, i, k, q, o, hlt, hi, hk => by
    simp only [drawAll, Bool.and_eq_true] at ha
    cases k with
    | zero =>
      simp at hk
      subst hk
      rw [List.getElem?_append_left (by omega)] at hi
      have := drawFrom_spec ha.1 i q hi
      rwa [Nat.zero_add] at this
    | succ k =>
      have := drawAll_spec ha.2 (by simp [hd]) i k q o (by omega) (by simpa using hi) (by simpa using hk)
      rwa [show j + 1 + k = j + (k + 1) by omega] at this

/-- the machine's look at the order goes through -/
theorem apart_all {P : Program} {A : Array Oper} {pairs : List (Nat × Nat)} {fps : List Fp} {lgs : List (List LE)} (hd : drawOk P A pairs = true) (ht : Told P A.toList fps lgs)
    (hp : ∀ p ∈ pairs, ∀ a b, fps[p.1]? = some a → fps[p.2]? = some b → fpApart a b) : (edgesOk A.toList 0 && apartAll A (Region.before A) [] 0 (A.toList.zip lgs)) = true := by
  simp only [drawOk, Bool.and_eq_true] at hd
  rw [hd.1, Bool.true_and]
  refine apartAll_intro rfl fun i k q lq o lg hlt hi hk => ?_
  rw [Nat.zero_add] at hlt ⊢
  rw [List.nil_append] at hi
  rw [List.getElem?_zip_eq_some] at hi hk
  have := drawAll_spec hd.2 rfl i k q o (by omega) hi.1 hk.1
  rw [Nat.zero_add] at this
  rcases this with h | ⟨h1, h2⟩
  · exact .inl h
  · refine .inr ⟨h1, ?_⟩
    have gi : ∃ f, fps[i]? = some f := by
      obtain ⟨hh, _⟩ := List.getElem?_eq_some_iff.1 hi.1
      exact ⟨fps[i]'(by rw [ht.len]; exact hh), by simp⟩
    have gk : ∃ f, fps[k]? = some f := by
      obtain ⟨hh, _⟩ := List.getElem?_eq_some_iff.1 hk.1
      exact ⟨fps[k]'(by rw [ht.len]; exact hh), by simp⟩
    obtain ⟨f, hf⟩ := gi
    obtain ⟨g, hg⟩ := gk
    rcases h2 with h2 | h2
    · exact fine_apart (ht.is i f lq hf hi.2) (ht.is k g lg hg hk.2) (ht.cls i q f hi.1 hf) (ht.cls k o g hk.1 hg) h2
    · exact apart_of (ht.is i f lq hf hi.2) (ht.is k g lg hg hk.2) (hp (i, k) h2 f g hf hg)

theorem joinLogs_append : ∀ (ls : List (List LE)) (acc : List LE), joinLogs ls acc = joinLogs ls [] ++ acc
  | [], acc => rfl
  | l :: ls, acc => by
    show joinLogs ls (l ++ acc) = joinLogs ls (l ++ []) ++ acc
    rw [joinLogs_append ls (l ++ acc), joinLogs_append ls (l ++ [])]
    simp

def OpsRanL (c : Cfg) (Ok : Nat → Prop) (A : Array Oper) (nt : Nat) (l : List Oper) (env : Env) (h : H) (env' : Env) (h' : H) (fps : List Fp) : Prop :=
  WF h.heap h.nx → ∃ N, ∀ lf, N ≤ lf → ∀ n, N ≤ n → ∀ tm, tmGet tm = env → ∀ l0, ∃ tm' lgs l1, runL (c.at lf) (callM (c.at lf) n) A nt l tm ⟨h.heap, h.nx, l0⟩ = .ok (tm', lgs) ⟨h'.heap, h'.nx, l1⟩ ∧ tmGet tm' = env' ∧ Ran Ok h h' (joinLogs lgs []) ∧ Told c.P l fps lgs

theorem wpOpsL_ok {c : Cfg} {Ok : Nat → Prop} {A : Array Oper} {nt : Nat} : ∀ {l : List Oper} {acc : List Fp} {env : Env} {h : H} {K : List Fp → Env → H → Prop}, l.all (okOper nt) = true → wpOpsL c Ok A l acc env h K →
    ∃ fps env' h', K (acc ++ fps) env' h' ∧ OpsRanL c Ok A nt l env h env' h' fps
  | [], acc, env, h, K, _, hw => ⟨[], env, h, by rw [List.append_nil]; exact hw, fun _ => ⟨0, fun lf _ n _ tm htm l0 => ⟨tm, [], l0, rfl, htm, Ran.refl, ⟨rfl, rfl, fun i f lg h => by simp at h, fun i o f h => by simp at h⟩⟩⟩⟩
  | o :: l, acc, env, h, K, hok, hw => by
    simp only [List.all_cons, Bool.and_eq_true] at hok
    obtain ⟨env1, h1, fp, hK, hs, hcl⟩ := stepW_ok hok.1 hw
    obtain ⟨fps, env2, h2, hK2, hr⟩ := wpOpsL_ok hok.2 hK
    refine ⟨fp :: fps, env2, h2, by rw [List.append_assoc] at hK2; exact hK2, fun hwf => ?_⟩
    obtain ⟨N1, hN1⟩ := hs hwf
    by_cases htm0 : ∃ tm : T V, tmGet tm = env
    · obtain ⟨tm0, htm0⟩ := htm0
      obtain ⟨N2, hN2⟩ := hr (step_wf hs hwf tm0 htm0)
      refine ⟨max N1 N2, fun lf hlf n hn tm htm l0 => ?_⟩
      obtain ⟨tm1, l1, e1, t1, r1, f1⟩ := hN1 lf (by omega) n (by omega) tm htm []
      rw [List.append_nil] at e1
      obtain ⟨tm2, lgs, l2, e2, t2, r2, T2⟩ := hN2 lf (by omega) n (by omega) tm1 t1 l1
      refine ⟨tm2, l1 :: lgs, l2, ?_, t2, ?_, ?_⟩
      · simp only [runL, e1, e2]
      · show Ran Ok h h2 (joinLogs lgs (l1 ++ []))
        rw [List.append_nil, joinLogs_append]
        exact r1.trans r2
      · refine ⟨by simp [T2.len], by simp [T2.len'], fun i f lg hf hl => ?_, fun i q f hq hf => ?_⟩
        · cases i with
          | zero => simp at hf hl; subst hf; subst hl; exact f1
          | succ i => exact T2.is i f lg (by simpa using hf) (by simpa using hl)
        · cases i with
          | zero => simp at hf hq; subst hf; subst hq; exact hcl
          | succ i => exact T2.cls i q f (by simpa using hq) (by simpa using hf)
    · exact ⟨0, fun lf _ n _ tm htm => (htm0 ⟨tm, htm⟩).elim⟩

/-! ### Code -/

def CodeRan (F : Nat → Nat → T V → M (Ex × T V)) (Ok : Nat → Prop) (env : Env) (h : H) (ex : Ex) (env' : Env) (h' : H) : Prop :=
  WF h.heap h.nx → ∃ N, ∀ lf, N ≤ lf → ∀ n, N ≤ n → ∀ tm, tmGet tm = env → ∀ l0, ∃ tm' l, F lf n tm ⟨h.heap, h.nx, l0⟩ = .ok (ex, tm') ⟨h'.heap, h'.nx, l ++ l0⟩ ∧ tmGet tm' = env' ∧ Ran Ok h h' l

theorem okOps_all {nt : Nat} {A : Array Oper} (h : okOps nt A = true) : A.toList.all (okOper nt) = true := h

theorem CodeRan.wf {F : Nat → Nat → T V → M (Ex × T V)} {Ok : Nat → Prop} {env : Env} {h : H} {ex : Ex} {env' : Env} {h' : H} (hr : CodeRan F Ok env h ex env' h') (hwf : WF h.heap h.nx) (tm : T V) (htm : tmGet tm = env) : WF h'.heap h'.nx := by
  obtain ⟨N, hN⟩ := hr hwf
  obtain ⟨_, _, _, _, r⟩ := hN N (Nat.le_refl _) N (Nat.le_refl _) tm htm []
  exact (r.wf hwf).1

/-- one after the other -/
theorem CodeRan.seq {F : Nat → Nat → T V → M (Ex × T V)} {G : Nat → Nat → T V → M (Ex × T V)} {Ok : Nat → Prop} {env : Env} {h : H} {env1 : Env} {h1 : H} {ex : Ex} {env' : Env} {h' : H}
    (a : CodeRan F Ok env h .normal env1 h1) (b : CodeRan G Ok env1 h1 ex env' h') : CodeRan (fun lf n tm => andThen (F lf n tm) (G lf n)) Ok env h ex env' h' := by
  intro hwf
  by_cases htm0 : ∃ tm : T V, tmGet tm = env
  · obtain ⟨tm0, htm0⟩ := htm0
    obtain ⟨N1, hN1⟩ := a hwf
    obtain ⟨N2, hN2⟩ := b (a.wf hwf tm0 htm0)
    refine ⟨max N1 N2, fun lf hlf n hn tm htm l0 => ?_⟩
    obtain ⟨tm1, l1, e1, t1, r1⟩ := hN1 lf (by omega) n (by omega) tm htm l0
    obtain ⟨tm2, l2, e2, t2, r2⟩ := hN2 lf (by omega) n (by omega) tm1 t1 (l1 ++ l0)
    refine ⟨tm2, l2 ++ l1, ?_, t2, r1.trans r2⟩
    show Lx.bnd (F lf n tm) _ _ = _
    rw [bnd_eq e1, List.append_assoc]
    exact e2
  · exact ⟨0, fun lf _ n _ tm htm => (htm0 ⟨tm, htm⟩).elim⟩

theorem CodeRan.cut {F : Nat → Nat → T V → M (Ex × T V)} {G : Nat → Nat → T V → M (Ex × T V)} {Ok : Nat → Prop} {env : Env} {h : H} {ex : Ex} {env' : Env} {h' : H}
    (a : CodeRan F Ok env h ex env' h') (hx : ex ≠ .normal) : CodeRan (fun lf n tm => andThen (F lf n tm) (G lf n)) Ok env h ex env' h' := by
  intro hwf
  obtain ⟨N1, hN1⟩ := a hwf
  refine ⟨N1, fun lf hlf n hn tm htm l0 => ?_⟩
  obtain ⟨tm1, l1, e1, t1, r1⟩ := hN1 lf hlf n hn tm htm l0
  refine ⟨tm1, l1, ?_, t1, r1⟩
  show Lx.bnd (F lf n tm) _ _ = _
  rw [bnd_eq e1]
  cases ex with
  | normal => exact (hx rfl).elim
  | exit i => rfl
  | ret => rfl
  | goto l => rfl

theorem wpC_ok {c : Cfg} {Ok : Nat → Prop} {nt : Nat} : ∀ {code : Code} {env : Env} {h : H} {Q : Ex → Env → H → Prop}, okCode nt code = true → wpC c Ok code env h Q →
    ∃ ex env' h', Q ex env' h' ∧ CodeRan (fun lf n => (codeB (c.at lf) (callM (c.at lf) n) nt code).1) Ok env h ex env' h'
  | .skip, env, h, Q, _, hw => ⟨_, _, _, hw, fun _ => ⟨0, fun lf _ n _ tm htm l0 => ⟨tm, [], rfl, htm, Ran.refl⟩⟩⟩
  | .label _, env, h, Q, _, hw => ⟨_, _, _, hw, fun _ => ⟨0, fun lf _ n _ tm htm l0 => ⟨tm, [], rfl, htm, Ran.refl⟩⟩⟩
  | .exit i, env, h, Q, _, hw => ⟨_, _, _, hw, fun _ => ⟨0, fun lf _ n _ tm htm l0 => ⟨tm, [], rfl, htm, Ran.refl⟩⟩⟩
  | .ret, env, h, Q, _, hw => ⟨_, _, _, hw, fun _ => ⟨0, fun lf _ n _ tm htm l0 => ⟨tm, [], rfl, htm, Ran.refl⟩⟩⟩
  | .region id A true, env, h, Q, hok, hw => by
    obtain ⟨pairs, hd, hw⟩ : wpDraw c Ok A env h fun env' h' => Q .normal env' h' := hw
    obtain ⟨fps, env', h', ⟨hp, hQ⟩, hr⟩ := wpOpsL_ok (okOps_all hok) hw
    rw [List.nil_append] at hp
    refine ⟨.normal, env', h', hQ, fun hwf => ?_⟩
    obtain ⟨N, hN⟩ := hr hwf
    refine ⟨N, fun lf hlf n hn tm htm l0 => ?_⟩
    obtain ⟨tm', lgs, l1, e1, t1, r1, T1⟩ := hN lf hlf n hn tm htm l0
    refine ⟨tm', joinLogs lgs [], ?_, t1, r1⟩
    show Lx.bnd (bif true then drawM (c.at lf) (callM (c.at lf) n) A nt tm else _) _ _ = _
    simp only [cond_true]
    rw [bnd_eq (show drawM (c.at lf) (callM (c.at lf) n) A nt tm ⟨h.heap, h.nx, l0⟩ = .ok tm' ⟨h'.heap, h'.nx, joinLogs lgs [] ++ l0⟩ by
      unfold drawM
      rw [e1]
      simp only [apart_all hd T1 hp, cond_true]
      rw [joinLogs_append lgs l0])]
    rfl
  | .region id A false, env, h, Q, hok, hw => by
    obtain ⟨env', h', hQ, hr⟩ := wpOps_ok (okOps_all hok) (show wpOps c Ok A A.toList env h fun env' h' => Q .normal env' h' from hw)
    refine ⟨.normal, env', h', hQ, fun hwf => ?_⟩
    obtain ⟨N, hN⟩ := hr hwf
    refine ⟨N, fun lf hlf n hn tm htm l0 => ?_⟩
    obtain ⟨tm', l, e1, t1, r1⟩ := hN lf hlf n hn tm htm l0
    refine ⟨tm', l, ?_, t1, r1⟩
    show Lx.bnd (bif false then _ else runM (c.at lf) (callM (c.at lf) n) A nt A.toList tm) _ _ = _
    simp only [cond_false]
    rw [bnd_eq e1]
    rfl
  | .seq a b, env, h, Q, hok, hw => by
    simp only [okCode, Bool.and_eq_true] at hok
    obtain ⟨ex, env1, h1, hQ, hr⟩ := wpC_ok hok.1 (show wpC c Ok a env h _ from hw)
    cases ex with
    | normal =>
      obtain ⟨ex2, env2, h2, hQ2, hr2⟩ := wpC_ok hok.2 hQ
      exact ⟨ex2, env2, h2, hQ2, hr.seq hr2⟩
    | exit i => exact ⟨_, _, _, hQ, hr.cut (by simp)⟩
    | ret => exact ⟨_, _, _, hQ, hr.cut (by simp)⟩
    | goto l => exact ⟨_, _, _, hQ, hr.cut (by simp)⟩
  | .cond x a b, env, h, Q, hok, hw => by
    simp only [okCode, Bool.and_eq_true] at hok
    obtain ⟨t, ht, ha, hb⟩ := hw
    cases t with
    | true =>
      obtain ⟨ex, env1, h1, hQ, hr⟩ := wpC_ok hok.1.2 (ha rfl)
      refine ⟨ex, env1, h1, hQ, fun hwf => ?_⟩
      obtain ⟨N, hN⟩ := hr hwf
      refine ⟨N, fun lf hlf n hn tm htm l0 => ?_⟩
      obtain ⟨tm', l, e1, t1, r1⟩ := hN lf hlf n hn tm htm l0
      refine ⟨tm', l, ?_, t1, r1⟩
      show (bif operandOk x then (match evalO tm x with
        | .bool t => bif t then (codeB (c.at lf) (callM (c.at lf) n) nt a).1 tm else (codeB (c.at lf) (callM (c.at lf) n) nt b).1 tm
        | _ => err "cond") else err "cond") _ = _
      rw [hok.1.1, evalO_eq, htm, ht]
      exact e1
    | false =>
      obtain ⟨ex, env1, h1, hQ, hr⟩ := wpC_ok hok.2 (hb rfl)
      refine ⟨ex, env1, h1, hQ, fun hwf => ?_⟩
      obtain ⟨N, hN⟩ := hr hwf
      refine ⟨N, fun lf hlf n hn tm htm l0 => ?_⟩
      obtain ⟨tm', l, e1, t1, r1⟩ := hN lf hlf n hn tm htm l0
      refine ⟨tm', l, ?_, t1, r1⟩
      show (bif operandOk x then (match evalO tm x with
        | .bool t => bif t then (codeB (c.at lf) (callM (c.at lf) n) nt a).1 tm else (codeB (c.at lf) (callM (c.at lf) n) nt b).1 tm
        | _ => err "cond") else err "cond") _ = _
      rw [hok.1.1, evalO_eq, htm, ht]
      exact e1
  | .block id a, env, h, Q, hok, hw => by
    obtain ⟨ex, env1, h1, hQ, hr⟩ := wpC_ok (show okCode nt a = true from hok) (show wpC c Ok a env h _ from hw)
    have key : ∀ ex', (match ex with | .exit i => (bif Nat.beq i id then Ex.normal else .exit i) | e => e) = ex' → CodeRan (fun lf n => (codeB (c.at lf) (callM (c.at lf) n) nt (.block id a)).1) Ok env h ex' env1 h1 := by
      intro ex' hex hwf
      obtain ⟨N, hN⟩ := hr hwf
      refine ⟨N, fun lf hlf n hn tm htm l0 => ?_⟩
      obtain ⟨tm', l, e1, t1, r1⟩ := hN lf hlf n hn tm htm l0
      refine ⟨tm', l, ?_, t1, r1⟩
      show Lx.bnd ((codeB (c.at lf) (callM (c.at lf) n) nt a).1 tm) _ _ = _
      rw [bnd_eq e1, ← hex]
      cases ex <;> rfl
    cases ex with
    | normal => exact ⟨_, _, _, hQ, key _ rfl⟩
    | exit i => exact ⟨_, _, _, hQ, key _ rfl⟩
    | ret => exact ⟨_, _, _, hQ, key _ rfl⟩
    | goto l => exact ⟨_, _, _, hQ, key _ rfl⟩
  | .loop a, env, h, Q, hok, hw => by
    obtain ⟨I, ⟨m, hI⟩, hstep⟩ := hw
    have key : ∀ (m : Nat) (env : Env) (h : H), I m env h → ∃ ex env' h', Q ex env' h' ∧ (WF h.heap h.nx → ∃ N, ∀ lf, N ≤ lf → ∀ n, N ≤ n → ∀ j, N ≤ j → ∀ tm, tmGet tm = env → ∀ l0, ∃ tm' l, iter (codeB (c.at lf) (callM (c.at lf) n) nt a).1 j tm ⟨h.heap, h.nx, l0⟩ = .ok (ex, tm') ⟨h'.heap, h'.nx, l ++ l0⟩ ∧ tmGet tm' = env' ∧ Ran Ok h h' l) := by
      intro m
      induction m using Nat.strongRecOn with
      | ind m ih =>
        intro env h hI
        obtain ⟨ex, env1, h1, hQ, hr⟩ := wpC_ok (show okCode nt a = true from hok) (hstep m env h hI)
        have stop : ∀ ex, ex ≠ .normal → CodeRan (fun lf n => (codeB (c.at lf) (callM (c.at lf) n) nt a).1) Ok env h ex env1 h1 → (WF h.heap h.nx → ∃ N, ∀ lf, N ≤ lf → ∀ n, N ≤ n → ∀ j, N ≤ j → ∀ tm, tmGet tm = env → ∀ l0, ∃ tm' l, iter (codeB (c.at lf) (callM (c.at lf) n) nt a).1 j tm ⟨h.heap, h.nx, l0⟩ = .ok (ex, tm') ⟨h1.heap, h1.nx, l ++ l0⟩ ∧ tmGet tm' = env1 ∧ Ran Ok h h1 l) := by
          intro ex hx hr hwf
          obtain ⟨N, hN⟩ := hr hwf
          refine ⟨N + 1, fun lf hlf n hn j hj tm htm l0 => ?_⟩
          obtain ⟨tm', l, e1, t1, r1⟩ := hN lf (by omega) n (by omega) tm htm l0
          refine ⟨tm', l, ?_, t1, r1⟩
          obtain ⟨j', rfl⟩ : ∃ j', j = j' + 1 := ⟨j - 1, by omega⟩
          show Lx.bnd _ _ _ = _
          rw [bnd_eq e1]
          cases ex with
          | normal => exact (hx rfl).elim
          | exit i => rfl
          | ret => rfl
          | goto l => rfl
        cases ex with
        | normal =>
          obtain ⟨m', hm', hI'⟩ := hQ
          obtain ⟨ex2, env2, h2, hQ2, hr2⟩ := ih m' hm' env1 h1 hI'
          refine ⟨ex2, env2, h2, hQ2, fun hwf => ?_⟩
          by_cases htm0 : ∃ tm : T V, tmGet tm = env
          · obtain ⟨tm0, htm0⟩ := htm0
            obtain ⟨N1, hN1⟩ := hr hwf
            obtain ⟨N2, hN2⟩ := hr2 (hr.wf hwf tm0 htm0)
            refine ⟨max N1 N2 + 1, fun lf hlf n hn j hj tm htm l0 => ?_⟩
            obtain ⟨tm1, l1, e1, t1, r1⟩ := hN1 lf (by omega) n (by omega) tm htm l0
            obtain ⟨j', rfl⟩ : ∃ j', j = j' + 1 := ⟨j - 1, by omega⟩
            obtain ⟨tm2, l2, e2, t2, r2⟩ := hN2 lf (by omega) n (by omega) j' (by omega) tm1 t1 (l1 ++ l0)
            refine ⟨tm2, l2 ++ l1, ?_, t2, r1.trans r2⟩
            show Lx.bnd _ _ _ = _
            rw [bnd_eq e1, List.append_assoc]
            exact e2
          · exact ⟨0, fun lf _ n _ j _ tm htm => (htm0 ⟨tm, htm⟩).elim⟩
        | exit i => exact ⟨_, _, _, hQ, stop _ (by simp) hr⟩
        | ret => exact ⟨_, _, _, hQ, stop _ (by simp) hr⟩
        | goto l => exact ⟨_, _, _, hQ, stop _ (by simp) hr⟩
    obtain ⟨ex, env', h', hQ, hr⟩ := key m env h hI
    refine ⟨ex, env', h', hQ, fun hwf => ?_⟩
    obtain ⟨N, hN⟩ := hr hwf
    exact ⟨N, fun lf hlf n hn tm htm l0 => hN lf hlf n hn lf hlf tm htm l0⟩
  | .rangeFunc .., _, _, _, _, hw => hw.elim
  | .scope _, _, _, _, _, hw => hw.elim
  | .goto _, _, _, _, _, hw => hw.elim
  | .refuse _, _, _, _, _, hw => hw.elim

end Go.Wx
