/-
  Several texts, joined.
-/
import Derived.Test.YthhdkonpejmgcaaGreatDoorUA
import Derived.Test.YthhdkonpejmgcaaGreatDoorLy2
import Derived.Test.YthhdkonpejmgcaaGreatDoorChecked
import Derived.Test.YthhdkonpejmgcaaGreatDoorWx1
import Derived.SevenTiedAt
import Derived.Stop.Joined
/-
  The first packet of a door, whole: by the program, by the document.
-/
set_option linter.unusedSimpArgs false
set_option linter.unusedVariables false
set_option linter.unusedSectionVars false
set_option linter.defProp false
set_option maxRecDepth 20000
set_option maxHeartbeats 4000000
namespace Go.Proofs.YthhdkonpejmgcaaGreatDoor
open Go.Proofs Go.Lx Go.Wx Go.IntWalk
noncomputable section

theorem lb_lt {l m : List Nat} (h : ∀ b ∈ l, b < 256) (h2 : ∀ b ∈ m, b < 256) : ∀ b ∈ l ++ m, b < 256 := fun b hb => by
  rcases List.mem_append.1 hb with q | q
  · exact h b q
  · exact h2 b q
section
variable {c : Cfg} {Ok : Nat → Prop} {env : Env} {h1 : H} {K : V → H → Fp → Prop}
theorem lst_blk {n0 b o n m : Nat} {h : H} {v : V} {l : List Nat} (a : LB n0 h v l) (hv : v = .slice b o n m) : n0 ≤ b ∧ b < h.nx := by
  rcases a with (⟨rfl, _⟩ | ⟨b', n', q1, q2, rfl, _⟩) | ⟨_, b', q1, q2, rfl, _⟩ <;> cases hv
  · exact ⟨q1, q2⟩
  · exact ⟨q1, q2⟩
theorem ap_bs {s x : Operand} {n0 : Nat} {l m : List Nat} {sv xv : V} {t tx : TypeId} (hap : apI c.P t = some (5, 1, 1)) (htx : ∃ d, c.P.underlying tx = some d ∧ isIntD d = false) (hsv : evalE env s = sv) (hxv : evalE env x = xv) (hs : LB n0 h1 sv l) (hx : Src h1 xv (bytesV m) 1) (hl : l.length + m.length ≤ 1073741824) (hOk : ∀ k, n0 ≤ k → Ok k) (hn0 : n0 ≤ h1.nx)
    (hK : ∀ v h' L, LB n0 h' v (l ++ m) → h1.nx ≤ h'.nx → (∀ k, k < n0 → h'.get k = h1.get k) → (∀ le ∈ L, ((∃ o n m, xv = .slice (blkOf le) o n m) ∧ le.isW = false) ∨ (n0 ≤ blkOf le ∧ blkOf le < h'.nx)) → K v h' (.lg L)) : opW c Ok (.call ⟨.builtin .append, #[s, x], #[t, tx]⟩) env h1 K := by
  refine append_lst (n0 := n0) (sv := sv) (xv := xv) (cells := bytesV l) (new := bytesV m) hsv hxv hap htx hs hx (bytesV_all _) (by rw [bytesV_length, bytesV_length]; exact hl) (by decide) hOk hn0 ?_
  intro v h' L hl' hn' _ hk' hL
  rw [← bytesV_app] at hl'
  refine hK v h' L hl' hn' hk' fun le hle => ?_
  rcases hL le hle with q | q | ⟨o, n, m, q⟩
  · exact .inl q
  · exact .inr ⟨Nat.le_trans hn0 q.1, q.2⟩
  · have := lst_blk hs q
    exact .inr ⟨this.1, Nat.lt_of_lt_of_le this.2 hn'⟩
theorem ap_one {s x : Operand} {n0 cc : Nat} {l : List Nat} {sv : V} {ob : Ob} {t tx : TypeId} (hap : apI c.P t = some (5, 1, 1)) (htx : ∃ d, c.P.underlying tx = some d ∧ isIntD d = false) (hsv : evalE env s = sv) (hxv : evalE env x = .slice h1.nx 0 1 1) (hob : ob = .cells [.int .u8 (cc : Int)] 5 false) (hs : LB n0 h1 sv l) (hl : l.length < 2 ^ 29)
    (hOk : ∀ k, n0 ≤ k → Ok k) (hn0 : n0 ≤ h1.nx)
    (hK : ∀ v h' L, LB n0 h' v (l ++ [cc]) → h1.nx + 1 ≤ h'.nx → (∀ k, k < n0 → h'.get k = h1.get k) → (∀ le ∈ L, n0 ≤ blkOf le ∧ blkOf le < h'.nx) → K v h' (.lg L)) : opW c Ok (.call ⟨.builtin .append, #[s, x], #[t, tx]⟩) env (h1.push ob) K := by
  subst hob
  refine ap_bs (n0 := n0) (m := [cc]) hap htx hsv hxv (hs.ext ((Ext.refl h1).push _)) (.inr ⟨h1.nx, 0, 1, 1, rfl, Nat.lt_succ_self _, by rw [push_eq rfl]; rfl, rfl⟩) (by simp only [List.length_singleton]; omega) hOk (Nat.le_succ_of_le hn0) ?_
  intro v h' L hl' hn' hk' hL
  refine hK v h' L hl' hn' (fun k hk => by rw [hk' k hk, push_ne (by omega)]) fun le hle => ?_
  rcases hL le hle with ⟨⟨o, n, m, q⟩, _⟩ | q
  · injection q with q1
    exact ⟨by omega, by have : h1.nx + 1 ≤ h'.nx := hn'; omega⟩
  · exact q
end
theorem far {L M : List LE} {a : Nat} (h1 : ∀ x ∈ L, blkOf x < a) (h2 : ∀ y ∈ M, a ≤ blkOf y) : fpApart (.lg L) (.lg M) := apart_blk fun x hx y hy => by have := h1 x hx; have := h2 y hy; omega
theorem raf {L M : List LE} {a : Nat} (h1 : ∀ x ∈ L, a ≤ blkOf x) (h2 : ∀ y ∈ M, blkOf y < a) : fpApart (.lg L) (.lg M) := apart_blk fun x hx y hy => by have := h1 x hx; have := h2 y hy; omega
theorem one_lt {e : LE} {a : Nat} (h : blkOf e < a) : ∀ y ∈ [e], blkOf y < a := fun y hy => by rw [List.mem_singleton.1 hy]; exact h
theorem one_le {e : LE} {a : Nat} (h : a ≤ blkOf e) : ∀ y ∈ [e], a ≤ blkOf y := fun y hy => by rw [List.mem_singleton.1 hy]; exact h
theorem cl_src {n0 n1 : Nat} {L : List LE} (h : ∀ e ∈ L, e.isW = false ∧ blkOf e < n0) : fpApart (.cl n0 n1 nil1) (.lg L) := fun e he => .inr ⟨(h e he).1, (h e he).2, fun q => q.elim⟩
theorem and_lo (c : Int) : 0 ≤ iAnd .u32 c 65535 ∧ iAnd .u32 c 65535 < 65536 := by
  have e : (BitVec.ofInt 32 c &&& BitVec.ofInt 32 65535).toNat ≤ 65535 := by rw [BitVec.toNat_and]; exact Nat.le_trans Nat.and_le_right (by decide)
  have e2 : iAnd .u32 c 65535 = IntKind.u32.wrap ((BitVec.ofInt 32 c &&& BitVec.ofInt 32 65535).toNat) := rfl
  rw [e2, IntKind.wrap_u32]
  omega
theorem shr_hi {c : Int} (hc : 0 ≤ c ∧ c < 4294967296) : 0 ≤ iShr .u32 c 16 ∧ iShr .u32 c 16 < 65536 := by
  have e : iShr .u32 c 16 = c.fdiv 65536 := rfl
  rw [e, Int.fdiv_eq_ediv_of_nonneg _ (by decide)]
  omega
theorem natT_lt : ∀ b ∈ natT ++ [0], b < 256 := by decide
def OB (n0 : Nat) (h : H) (v : V) (m : Nat) : Prop := ∃ l, LB n0 h v l ∧ l ≠ [] ∧ l.length ≤ m ∧ ∀ b ∈ l, b < 256
theorem OB.of {n0 m : Nat} {h : H} {v : V} {l : List Nat} (a : LB n0 h v l) (hn : l ≠ []) (hm : l.length ≤ m) (hb : ∀ b ∈ l, b < 256) : OB n0 h v m := ⟨l, a, hn, hm, hb⟩
section
variable {c : Cfg} {Ok : Nat → Prop} {env : Env} {h1 : H} {K : V → H → Fp → Prop}
theorem ob_one {s x : Operand} {n0 cc m : Nat} {sv : V} {ob : Ob} {t tx : TypeId} (hap : apI c.P t = some (5, 1, 1)) (htx : ∃ d, c.P.underlying tx = some d ∧ isIntD d = false) (hsv : evalE env s = sv) (hxv : evalE env x = .slice h1.nx 0 1 1) (hob : ob = .cells [.int .u8 (cc : Int)] 5 false) (hs : OB n0 h1 sv m) (hm : m < 2 ^ 20) (hcc : cc < 256)
    (hOk : ∀ k, n0 ≤ k → Ok k) (hn0 : n0 ≤ h1.nx)
    (hK : ∀ v h' L, OB n0 h' v (m + 1) → h1.nx + 1 ≤ h'.nx → (∀ k, k < n0 → h'.get k = h1.get k) → (∀ le ∈ L, n0 ≤ blkOf le ∧ blkOf le < h'.nx) → K v h' (.lg L)) : opW c Ok (.call ⟨.builtin .append, #[s, x], #[t, tx]⟩) env (h1.push ob) K := by
  obtain ⟨l, a, b1, b2, b3⟩ := hs
  exact ap_one hap htx hsv hxv hob a (by omega) hOk hn0 fun v h' L q => hK v h' L (.of q (by simp) (by rw [List.length_append]; exact Nat.add_le_add_right b2 1) (lb_lt b3 (by simpa using hcc)))
theorem ob_bs {s x : Operand} {n0 m n : Nat} {l : List Nat} {sv xv : V} {t tx : TypeId} (hap : apI c.P t = some (5, 1, 1)) (htx : ∃ d, c.P.underlying tx = some d ∧ isIntD d = false) (hsv : evalE env s = sv) (hxv : evalE env x = xv) (hs : OB n0 h1 sv m) (hx : Src h1 xv (bytesV l) 1) (hl : l.length ≤ n) (hm : m + n ≤ 1073741824) (hb : ∀ b ∈ l, b < 256) (hOk : ∀ k, n0 ≤ k → Ok k) (hn0 : n0 ≤ h1.nx)
    (hK : ∀ v h' L, OB n0 h' v (m + n) → h1.nx ≤ h'.nx → (∀ k, k < n0 → h'.get k = h1.get k) → (∀ le ∈ L, ((∃ o n m, xv = .slice (blkOf le) o n m) ∧ le.isW = false) ∨ (n0 ≤ blkOf le ∧ blkOf le < h'.nx)) → K v h' (.lg L)) : opW c Ok (.call ⟨.builtin .append, #[s, x], #[t, tx]⟩) env h1 K := by
  obtain ⟨l1, a, b1, b2, b3⟩ := hs
  exact ap_bs hap htx hsv hxv a hx (by omega) hOk hn0 fun v h' L q => hK v h' L (.of q (by simp [b1]) (by rw [List.length_append]; exact Nat.add_le_add b2 hl) (lb_lt b3 hb))
theorem ob_made {s x : Operand} {n0 m : Nat} {sv : V} (hP : c.P = Tryz.prog) (hsv : evalE env s = sv) (hxv : evalE env x = .int .i64 10) (hs : OB n0 h1 sv m) (hm : m < 60000) (hOk : ∀ k, n0 ≤ k → Ok k) (hn0 : n0 ≤ h1.nx)
    (hK : ∀ v h' L, OB n0 h' v (m + 10) → h1.nx ≤ h'.nx → (∀ k, k < n0 → h'.get k = h1.get k) → K v h' (.lg L)) : opW c Ok (.call ⟨.builtin .append, #[s, x], #[27, 3]⟩) env h1 K := by
  obtain ⟨l, a, b1, b2, b3⟩ := hs
  have ha := a.acc b1
  refine append_made (n := 10) hsv (by rw [hP]; exact ap27) (by rw [hP]; exact zer27) (by rw [hP]; exact tx3) ha (by simpa [bytesV] using b1) hxv (by decide) (by rw [bytesV_length]; omega) hOk hn0 fun v h' L q1 q2 q3 => ?_
  rw [bytesV_zeros, ← bytesV_app] at q1
  exact hK v h' L (.of (.inl q1) (by simp) (by rw [List.length_append]; exact Nat.add_le_add b2 (by decide)) (lb_lt b3 (by decide))) q2.1 fun k hk => q2.2 k (by omega) fun o n m q => ha.ne hk q
end
variable {S : Set0} (hS : StdU S)
include hS
theorem ob_fixed {v : V} {m n0 : Nat} {h : H} (a : OB n0 h v m) (hm : m < 2 ^ 20) (h0 : n0 ≤ h.nx) (x : Int) (n : Nat) (hn : 1 ≤ n ∧ n ≤ 8) (hx : 0 ≤ x ∧ x < 256 ^ n) : Pure S.cfg 185 [v, .int .u64 x, .int .i64 n] h fun w h' => OB n0 h' w (m + n) := by
  obtain ⟨l, a, b1, b2, b3⟩ := a
  refine callW_mono (fixed_spec hS (a.bs b3) (by omega) x n hn hx) (fun k q => q) fun w h' q => ⟨q.1, .of (LB.mono q.2 h0) (by simp [b1]) (by rw [List.length_append, leB_len]; omega) (lb_lt b3 (leB_ok x n))⟩
theorem ob_rfixed {v : V} {m n0 : Nat} {h : H} (a : OB n0 h v m) (hm : m < 2 ^ 20) (h0 : n0 ≤ h.nx) (x : Int) (n : Nat) (hn : 1 ≤ n ∧ n ≤ 4) (hx : 0 ≤ x ∧ x < 256 ^ n) : Pure S.cfg 198 [v, .int .u64 x, .int .i64 n] h fun w h' => OB n0 h' w (m + n) := by
  obtain ⟨l, a, b1, b2, b3⟩ := a
  refine callW_mono (rfixed_spec hS (a.bs b3) (by omega) x n hn hx) (fun k q => q) fun w h' q => ⟨q.1, .of (LB.mono q.2 h0) (by simp [b1]) (by rw [List.length_append, leB_len]; omega) (lb_lt b3 (leB_ok x n))⟩
theorem ob_ended {v : V} {m n0 : Nat} {h : H} (a : OB n0 h v m) (hm : m < 2 ^ 19) (h0 : n0 ≤ h.nx) : Pure S.cfg 183 [v, .str natT] h fun w h' => OB n0 h' w (m + 22) := by
  obtain ⟨l, a, b1, b2, b3⟩ := a
  refine callW_mono (ended_spec hS (a.bs b3) (by omega) b1 natT (by decide) (by decide)) (fun k q => q) fun w h' q => ⟨q.1, .of (LB.mono q.2 h0) (by simp [b1]) (by rw [List.append_assoc, List.length_append]; exact Nat.add_le_add b2 (by decide)) (by rw [List.append_assoc]; exact lb_lt b3 natT_lt)⟩
theorem ob_rended {v : V} {m n0 : Nat} {h : H} (a : OB n0 h v m) (hm : m < 2 ^ 19) (h0 : n0 ≤ h.nx) : Pure S.cfg 197 [v, .str natT] h fun w h' => OB n0 h' w (m + 22) := by
  obtain ⟨l, a, b1, b2, b3⟩ := a
  refine callW_mono (rended_spec hS (a.bs b3) (by omega) b1 natT (by decide) (by decide)) (fun k q => q) fun w h' q => ⟨q.1, .of (LB.mono q.2 h0) (by simp [b1]) (by rw [List.append_assoc, List.length_append]; exact Nat.add_le_add b2 (by decide)) (by rw [List.append_assoc]; exact lb_lt b3 natT_lt)⟩
theorem greet_spec {ver : List Nat} {nv : V} {nl : List Nat} {c : Int} {h : H} (a : BS 5 h nv nl) (hn : NonceOk nl) (hc : CapsOk c) (hv : ver.length ≤ 3000) (hb : ∀ x ∈ ver, x < 256) : Pure S.cfg 117 [.nilslice, .agg (greetC ver nv c)] h fun w h' => (0 ∈ ver → w = .tuple [.nilslice, .int .i64 2]) ∧ (0 ∉ ver → ∃ lv, w = .tuple [lv, .int .i64 0] ∧ lv.cells = [lv] ∧ lv.isCell = true) := by
  refine into Tryz.f117 _ Tryz.func117 (hS.own _ (by decide)) rfl rfl (by kernel_rfl) (by kernel_rfl) ?_
  obtain ⟨x1, x2⟩ := a.cell
  have fs := fun h (a : BS 5 h nv nl) => fine_spec hS (ver := ver) a hn hc
  unfold greetC at fs ⊢
  simp +contextual (disch := first | (simp only [facts, clsL, clsS, clsC, isPtrD]; done) | omega | (simp only [push_nx, put_nx, del_nx]; omega) | (refine Nat.le_antisymm ?_ ?_ <;> simp only [push_nx, put_nx, del_nx] <;> omega) | fail) only [wpy, facts, wpb, cst, wpk, wpl, forall_const, implies_true, false_implies, Int.reduceLE, Int.reduceLT, Nat.reduceLeDiff, UInt8.reduceToNat, ↓reduceIte, Nat.reduceEqDiff, Nat.reduceAdd, reduceCtorEq, Int.reduceToNat, clsL, clsS, clsC, Tryz.f117, x1, x2]
  generalize hhA : H.push h _ = hA
  have hxA : Ext h hA := by rw [← hhA]; exact (Ext.refl h).push _
  have gA : hA.get h.nx = some (.cells (greetC ver nv c) 141 false) := by rw [← hhA]; exact push_eq rfl
  have nA : hA.nx = h.nx + 1 := by rw [← hhA]; rfl
  clear hhA
  unfold greetC at gA
  refine callF_pure (fs _ (a.ext hxA)) ?_
  rintro _ h1 hx1 rfl
  have n1 := hx1.1
  have g1 := (hx1.2 h.nx (by omega)).trans gA
  have hxh1 := hxA.trans hx1
  by_cases hz : 0 ∈ ver
  · rw [eq_false fun q : 0 ∉ ver => q hz]
    simp +contextual (disch := first | (simp only [facts, clsL, clsS, clsC, isPtrD]; done) | omega | (simp only [push_nx, put_nx, del_nx]; omega) | (refine Nat.le_antisymm ?_ ?_ <;> simp only [push_nx, put_nx, del_nx] <;> omega) | fail) only [wpy, facts, wpb, cst, wpk, wpl, forall_const, implies_true, false_implies, Int.reduceLE, Int.reduceLT, Nat.reduceLeDiff, UInt8.reduceToNat, ↓reduceIte, Nat.reduceEqDiff, Nat.reduceAdd, reduceCtorEq, Int.reduceToNat, clsL, clsS, clsC, Tryz.f117]
    exact ⟨hxh1.1, hxh1.2⟩
  rw [eq_true hz]
  simp +contextual (disch := first | (simp only [facts, clsL, clsS, clsC, isPtrD]; done) | omega | (simp only [push_nx, put_nx, del_nx]; omega) | (refine Nat.le_antisymm ?_ ?_ <;> simp only [push_nx, put_nx, del_nx] <;> omega) | fail) only [wpy, facts, wpb, cst, wpk, wpl, forall_const, implies_true, false_implies, Int.reduceLE, Int.reduceLT, Nat.reduceLeDiff, UInt8.reduceToNat, ↓reduceIte, Nat.reduceEqDiff, Nat.reduceAdd, reduceCtorEq, Int.reduceToNat, clsL, clsS, clsC, Tryz.f117, g1]
  -- the version
  refine draw_by [(1, 2), (1, 5), (2, 5), (3, 5)] (by kernel_rfl) ?_
  simp +contextual (disch := first | (simp only [facts, clsL, clsS, clsC, isPtrD]; done) | omega | (simp only [push_nx, put_nx, del_nx]; omega) | (refine Nat.le_antisymm ?_ ?_ <;> simp only [push_nx, put_nx, del_nx] <;> omega) | fail) only [wpy, facts, wpb, cst, wpk, wpl, forall_const, implies_true, false_implies, Int.reduceLE, Int.reduceLT, Nat.reduceLeDiff, UInt8.reduceToNat, ↓reduceIte, Nat.reduceEqDiff, Nat.reduceAdd, reduceCtorEq, Int.reduceToNat, clsL, clsS, clsC, Tryz.f117, g1]
  refine callF_pure (bclone_spec hS (BS.nil 5 _) (by decide)) ?_
  intro w2 h2 hx2 hw2
  have n2 := hx2.1
  have g2 := (hx2.2 h.nx (by omega)).trans g1
  simp +contextual (disch := first | (simp only [facts, clsL, clsS, clsC, isPtrD]; done) | omega | (simp only [push_nx, put_nx, del_nx]; omega) | (refine Nat.le_antisymm ?_ ?_ <;> simp only [push_nx, put_nx, del_nx] <;> omega) | fail) only [wpy, facts, wpb, cst, wpk, wpl, forall_const, implies_true, false_implies, Int.reduceLE, Int.reduceLT, Nat.reduceLeDiff, UInt8.reduceToNat, ↓reduceIte, Nat.reduceEqDiff, Nat.reduceAdd, reduceCtorEq, Int.reduceToNat, clsL, clsS, clsC, Tryz.f117, g2]
  refine ap_one (n0 := h1.nx) (cc := 10) ap27 tx27 (by simp +contextual (disch := first | (simp only [facts, clsL, clsS, clsC, isPtrD]; done) | omega | (simp only [push_nx, put_nx, del_nx]; omega) | (refine Nat.le_antisymm ?_ ?_ <;> simp only [push_nx, put_nx, del_nx] <;> omega) | fail) only [wpy, facts, wpb, cst, wpk, wpl, forall_const, implies_true, false_implies, Int.reduceLE, Int.reduceLT, Nat.reduceLeDiff, UInt8.reduceToNat, ↓reduceIte, Nat.reduceEqDiff, Nat.reduceAdd, reduceCtorEq, Int.reduceToNat, clsL, clsS, clsC]) (by simp +contextual (disch := first | (simp only [facts, clsL, clsS, clsC, isPtrD]; done) | omega | (simp only [push_nx, put_nx, del_nx]; omega) | (refine Nat.le_antisymm ?_ ?_ <;> simp only [push_nx, put_nx, del_nx] <;> omega) | fail) only [wpy, facts, wpb, cst, wpk, wpl, forall_const, implies_true, false_implies, Int.reduceLE, Int.reduceLT, Nat.reduceLeDiff, UInt8.reduceToNat, ↓reduceIte, Nat.reduceEqDiff, Nat.reduceAdd, reduceCtorEq, Int.reduceToNat, clsL, clsS, clsC]) rfl hw2 (by decide) (fun k hk => by rw [fresh_def]; exact .inl (by omega)) (by omega) ?_
  intro v3 h3 L3 hl3 hn3 hk3 hL3
  have g3 := (hk3 h.nx (by omega)).trans g2
  simp +contextual (disch := first | (simp only [facts, clsL, clsS, clsC, isPtrD]; done) | omega | (simp only [push_nx, put_nx, del_nx]; omega) | (refine Nat.le_antisymm ?_ ?_ <;> simp only [push_nx, put_nx, del_nx] <;> omega) | fail) only [wpy, facts, wpb, cst, wpk, wpl, forall_const, implies_true, false_implies, Int.reduceLE, Int.reduceLT, Nat.reduceLeDiff, UInt8.reduceToNat, ↓reduceIte, Nat.reduceEqDiff, Nat.reduceAdd, reduceCtorEq, Int.reduceToNat, clsL, clsS, clsC, Tryz.f117, g3]
  refine callF_pure (ended_spec hS (hl3.bs (by decide)) (by decide) (by simp) ver (by omega) hz) ?_
  intro v4 h4 hx4 hl4
  have n4 := hx4.1
  have g4 := (hx4.2 h.nx (by omega)).trans g3
  simp +contextual (disch := first | (simp only [facts, clsL, clsS, clsC, isPtrD]; done) | omega | (simp only [push_nx, put_nx, del_nx]; omega) | (refine Nat.le_antisymm ?_ ?_ <;> simp only [push_nx, put_nx, del_nx] <;> omega) | fail) only [wpy, facts, wpb, cst, wpk, wpl, forall_const, implies_true, false_implies, Int.reduceLE, Int.reduceLT, Nat.reduceLeDiff, UInt8.reduceToNat, ↓reduceIte, Nat.reduceEqDiff, Nat.reduceAdd, reduceCtorEq, Int.reduceToNat, clsL, clsS, clsC, Tryz.f117, g4]
  refine ⟨fun p hp => ?_, ?_⟩
  · have hld : ldL (some (1, false)) (V.ptr h.nx 0) = [.rd h.nx 0 1] := rfl
    rw [hld]
    simp only [List.mem_cons, List.not_mem_nil, or_false] at hp
    rcases hp with rfl | rfl | rfl | rfl
    · exact pair_one rfl rfl (cl_wrd0 (Nat.le_refl _))
    · exact pair_one rfl rfl (cl_rd0 (by omega))
    · exact pair_one rfl rfl (raf (a := h1.nx) (one_le (by show h1.nx ≤ h2.nx; omega)) (one_lt (by show h.nx < h1.nx; omega)))
    · exact pair_one rfl rfl (raf (a := h1.nx) (fun x hx => (hL3 x hx).1) (one_lt (by show h.nx < h1.nx; omega)))
  have hl4 := LB.mono hl4 (show h1.nx ≤ h3.nx by omega)
  have b4 : ∀ b ∈ [] ++ [10] ++ ver ++ [0], b < 256 := lb_lt (lb_lt (by decide) hb) (by decide)
  -- the thread, the nonce's first part
  refine draw_by [(4, 6), (4, 7)] (by kernel_rfl) ?_
  have w1 : IntKind.u64.wrap 1 = 1 := u64_in _ (by decide)
  simp +contextual (disch := first | (simp only [facts, clsL, clsS, clsC, isPtrD]; done) | omega | (simp only [push_nx, put_nx, del_nx]; omega) | (refine Nat.le_antisymm ?_ ?_ <;> simp only [push_nx, put_nx, del_nx] <;> omega) | fail) only [wpy, facts, wpb, cst, wpk, wpl, forall_const, implies_true, false_implies, Int.reduceLE, Int.reduceLT, Nat.reduceLeDiff, UInt8.reduceToNat, ↓reduceIte, Nat.reduceEqDiff, Nat.reduceAdd, reduceCtorEq, Int.reduceToNat, clsL, clsS, clsC, Tryz.f117, g4, w1]
  have e4 : ([] ++ [10] ++ ver ++ [0] : List Nat).length = ver.length + 2 := by simp
  refine callF_pure (fixed_spec hS (hl4.bs b4) (by rw [e4]; omega) 1 4 (by decide) (by decide)) ?_
  intro v5 h5 hx5 hl5
  have n5 := hx5.1
  have g5 := (hx5.2 h.nx (by omega)).trans g4
  simp +contextual (disch := first | (simp only [facts, clsL, clsS, clsC, isPtrD]; done) | omega | (simp only [push_nx, put_nx, del_nx]; omega) | (refine Nat.le_antisymm ?_ ?_ <;> simp only [push_nx, put_nx, del_nx] <;> omega) | fail) only [wpy, facts, wpb, cst, wpk, wpl, forall_const, implies_true, false_implies, Int.reduceLE, Int.reduceLT, Nat.reduceLeDiff, UInt8.reduceToNat, ↓reduceIte, Nat.reduceEqDiff, Nat.reduceAdd, reduceCtorEq, Int.reduceToNat, clsL, clsS, clsC, Tryz.f117, g5]
  have a5 : BS 5 h5 nv nl := a.keep (by omega) fun k hk _ => (hx5.2 k (by omega)).trans ((hx4.2 k (by omega)).trans ((hk3 k (by omega)).trans ((hx2.2 k (by omega)).trans (hxh1.2 k hk))))
  rcases a5.form with ⟨q1, q2⟩ | ⟨b0, o0, m0, q1⟩
  · exact absurd hn.1 (by rw [q2]; decide)
  have hl20 : nl.length = 20 := hn.1
  rw [hl20] at q1
  have hm0 : 20 ≤ m0 := by
    rcases a5.2 with ⟨z1, _⟩ | ⟨b1, o1, m1, z1, z2, z3, z4, z5⟩
    · rw [q1] at z1; cases z1
    · rw [q1, hl20] at z1; cases z1; omega
  obtain ⟨kc, e', fl, z6, z7⟩ : ∃ kc e' fl, blkSO (h5.get b0) = some (kc, e', fl) ∧ (fl = true → e' = 5) := by
    rcases a5.2 with ⟨z1, _⟩ | ⟨b1, o1, m1, z1, z2, z3, z4, z5⟩
    · rw [q1] at z1; cases z1
    · rw [q1, hl20] at z1; cases z1
      have hy : ∃ y, blkSO (h5.get b0) = some y := by
        cases hg : h5.get b0 with
        | none => rw [hg] at z4; cases z4
        | some ob => rw [hg] at z4; cases ob <;> first | exact ⟨_, rfl⟩ | cases z4
      obtain ⟨⟨kc, e', fl⟩, hy⟩ := hy
      exact ⟨kc, e', fl, hy, z5 kc e' fl hy⟩
  have z8 := a5.sub_ok (i := 0) (j := 8) (by omega) (by omega) q1 (mm := m0) (by omega)
  refine slice_row (e := 5) (sz := 1) (b := b0) (o := o0) (n := 20) (m := m0) (l := 0) (hh := 8) (mm := m0) (by kernel_rfl) (by kernel_rfl) (by simp +contextual (disch := first | (simp only [facts, clsL, clsS, clsC, isPtrD]; done) | omega | (simp only [push_nx, put_nx, del_nx]; omega) | (refine Nat.le_antisymm ?_ ?_ <;> simp only [push_nx, put_nx, del_nx] <;> omega) | fail) only [wpy, facts, wpb, cst, wpk, wpl, forall_const, implies_true, false_implies, Int.reduceLE, Int.reduceLT, Nat.reduceLeDiff, UInt8.reduceToNat, ↓reduceIte, Nat.reduceEqDiff, Nat.reduceAdd, reduceCtorEq, Int.reduceToNat, clsL, clsS, clsC]; exact q1) z6 z7 (by simp +contextual (disch := first | (simp only [facts, clsL, clsS, clsC, isPtrD]; done) | omega | (simp only [push_nx, put_nx, del_nx]; omega) | (refine Nat.le_antisymm ?_ ?_ <;> simp only [push_nx, put_nx, del_nx] <;> omega) | fail) only [wpy, facts, wpb, cst, wpk, wpl, forall_const, implies_true, false_implies, Int.reduceLE, Int.reduceLT, Nat.reduceLeDiff, UInt8.reduceToNat, ↓reduceIte, Nat.reduceEqDiff, Nat.reduceAdd, reduceCtorEq, Int.reduceToNat, clsL, clsS, clsC]; exact bounds_hi (b := 8) (len := 20) (cap := m0) (show 8 ≤ m0 by omega)) (by omega) ?_
  simp +contextual (disch := first | (simp only [facts, clsL, clsS, clsC, isPtrD]; done) | omega | (simp only [push_nx, put_nx, del_nx]; omega) | (refine Nat.le_antisymm ?_ ?_ <;> simp only [push_nx, put_nx, del_nx] <;> omega) | fail) only [wpy, facts, wpb, cst, wpk, wpl, forall_const, implies_true, false_implies, Int.reduceLE, Int.reduceLT, Nat.reduceLeDiff, UInt8.reduceToNat, ↓reduceIte, Nat.reduceEqDiff, Nat.reduceAdd, reduceCtorEq, Int.reduceToNat, clsL, clsS, clsC, Tryz.f117, g5]
  have hl5 := LB.mono hl5 (show h1.nx ≤ h4.nx by omega)
  have e5 : ([] ++ [10] ++ ver ++ [0] ++ leB 1 4 : List Nat).length = ver.length + 6 := by rw [List.length_append, e4]; rfl
  refine ap_bs (n0 := h1.nx) (l := [] ++ [10] ++ ver ++ [0] ++ leB 1 4) (m := (nl.take 8).drop 0) ap27 tx27 (by simp +contextual (disch := first | (simp only [facts, clsL, clsS, clsC, isPtrD]; done) | omega | (simp only [push_nx, put_nx, del_nx]; omega) | (refine Nat.le_antisymm ?_ ?_ <;> simp only [push_nx, put_nx, del_nx] <;> omega) | fail) only [wpy, facts, wpb, cst, wpk, wpl, forall_const, implies_true, false_implies, Int.reduceLE, Int.reduceLT, Nat.reduceLeDiff, UInt8.reduceToNat, ↓reduceIte, Nat.reduceEqDiff, Nat.reduceAdd, reduceCtorEq, Int.reduceToNat, clsL, clsS, clsC]) (by simp +contextual (disch := first | (simp only [facts, clsL, clsS, clsC, isPtrD]; done) | omega | (simp only [push_nx, put_nx, del_nx]; omega) | (refine Nat.le_antisymm ?_ ?_ <;> simp only [push_nx, put_nx, del_nx] <;> omega) | fail) only [wpy, facts, wpb, cst, wpk, wpl, forall_const, implies_true, false_implies, Int.reduceLE, Int.reduceLT, Nat.reduceLeDiff, UInt8.reduceToNat, ↓reduceIte, Nat.reduceEqDiff, Nat.reduceAdd, reduceCtorEq, Int.reduceToNat, clsL, clsS, clsC]; rfl) hl5 z8.src (by rw [e5, List.length_drop, List.length_take, hl20]; omega) (fun k hk => by rw [fresh_def]; exact .inl (by omega)) (by omega) ?_
  intro v6 h6 L6 hl6 hn6 hk6 hL6
  have g6 := (hk6 h.nx (by omega)).trans g5
  simp +contextual (disch := first | (simp only [facts, clsL, clsS, clsC, isPtrD]; done) | omega | (simp only [push_nx, put_nx, del_nx]; omega) | (refine Nat.le_antisymm ?_ ?_ <;> simp only [push_nx, put_nx, del_nx] <;> omega) | fail) only [wpy, facts, wpb, cst, wpk, wpl, forall_const, implies_true, false_implies, Int.reduceLE, Int.reduceLT, Nat.reduceLeDiff, UInt8.reduceToNat, ↓reduceIte, Nat.reduceEqDiff, Nat.reduceAdd, reduceCtorEq, Int.reduceToNat, clsL, clsS, clsC, Tryz.f117, g6]
  have hb0 : b0 < h.nx := a.blk q1
  refine ⟨fun p hp => ?_, ?_⟩
  · have hld : ldL (some (1, false)) (V.ptr h.nx 2) = [.rd h.nx 2 1] := rfl
    rw [hld]
    simp only [List.mem_cons, List.not_mem_nil, or_false] at hp
    rcases hp with rfl | rfl
    · exact pair_one rfl rfl (cl_rd0 (by omega))
    · exact pair_one rfl rfl (cl_src fun e he => by rw [List.mem_singleton.1 he]; exact ⟨rfl, by show b0 < h4.nx; omega⟩)
  -- zero, the low capabilities, the charset, the status, the high capabilities
  refine draw_by [(1, 4), (2, 4), (1, 9), (2, 9), (7, 9), (1, 10), (2, 10), (4, 10), (7, 10)] (by kernel_rfl) ?_
  simp +contextual (disch := first | (simp only [facts, clsL, clsS, clsC, isPtrD]; done) | omega | (simp only [push_nx, put_nx, del_nx]; omega) | (refine Nat.le_antisymm ?_ ?_ <;> simp only [push_nx, put_nx, del_nx] <;> omega) | fail) only [wpy, facts, wpb, cst, wpk, wpl, forall_const, implies_true, false_implies, Int.reduceLE, Int.reduceLT, Nat.reduceLeDiff, UInt8.reduceToNat, ↓reduceIte, Nat.reduceEqDiff, Nat.reduceAdd, reduceCtorEq, Int.reduceToNat, clsL, clsS, clsC, Tryz.f117, g6]
  have e6 : ([] ++ [10] ++ ver ++ [0] ++ leB 1 4 ++ (nl.take 8).drop 0 : List Nat).length = ver.length + 14 := by rw [List.length_append, e5, List.length_drop, List.length_take, hl20]; omega
  have b6 : ∀ b ∈ [] ++ [10] ++ ver ++ [0] ++ leB 1 4 ++ (nl.take 8).drop 0, b < 256 := lb_lt (lb_lt b4 (leB_ok 1 4)) fun b q => (hn.2 b (List.mem_of_mem_take (List.mem_of_mem_drop q))).2.1
  have o6 : OB h1.nx h6 v6 3014 := .of hl6 (by simp) (by rw [e6]; omega) b6
  refine ob_one (n0 := h1.nx) (cc := 0) ap27 tx27 (by simp +contextual (disch := first | (simp only [facts, clsL, clsS, clsC, isPtrD]; done) | omega | (simp only [push_nx, put_nx, del_nx]; omega) | (refine Nat.le_antisymm ?_ ?_ <;> simp only [push_nx, put_nx, del_nx] <;> omega) | fail) only [wpy, facts, wpb, cst, wpk, wpl, forall_const, implies_true, false_implies, Int.reduceLE, Int.reduceLT, Nat.reduceLeDiff, UInt8.reduceToNat, ↓reduceIte, Nat.reduceEqDiff, Nat.reduceAdd, reduceCtorEq, Int.reduceToNat, clsL, clsS, clsC]) (by simp +contextual (disch := first | (simp only [facts, clsL, clsS, clsC, isPtrD]; done) | omega | (simp only [push_nx, put_nx, del_nx]; omega) | (refine Nat.le_antisymm ?_ ?_ <;> simp only [push_nx, put_nx, del_nx] <;> omega) | fail) only [wpy, facts, wpb, cst, wpk, wpl, forall_const, implies_true, false_implies, Int.reduceLE, Int.reduceLT, Nat.reduceLeDiff, UInt8.reduceToNat, ↓reduceIte, Nat.reduceEqDiff, Nat.reduceAdd, reduceCtorEq, Int.reduceToNat, clsL, clsS, clsC]) rfl o6 (by decide) (by decide) (fun k hk => by rw [fresh_def]; exact .inl (by omega)) (by omega) ?_
  intro v7 h7 L7 o7 hn7 hk7 hL7
  have g7 := (hk7 h.nx (by omega)).trans g6
  have l7 := and_lo c
  have w7 : IntKind.u64.wrap (iAnd .u32 c 65535) = iAnd .u32 c 65535 := u64_in _ (by omega)
  simp +contextual (disch := first | (simp only [facts, clsL, clsS, clsC, isPtrD]; done) | omega | (simp only [push_nx, put_nx, del_nx]; omega) | (refine Nat.le_antisymm ?_ ?_ <;> simp only [push_nx, put_nx, del_nx] <;> omega) | fail) only [wpy, facts, wpb, cst, wpk, wpl, forall_const, implies_true, false_implies, Int.reduceLE, Int.reduceLT, Nat.reduceLeDiff, UInt8.reduceToNat, ↓reduceIte, Nat.reduceEqDiff, Nat.reduceAdd, reduceCtorEq, Int.reduceToNat, clsL, clsS, clsC, Tryz.f117, g7, w7]
  refine callF_pure (ob_fixed hS o7 (by decide) (by omega) _ 2 (by decide) ⟨l7.1, l7.2⟩) ?_
  intro v8 h8 hx8 o8
  have n8 := hx8.1
  have g8 := (hx8.2 h.nx (by omega)).trans g7
  simp +contextual (disch := first | (simp only [facts, clsL, clsS, clsC, isPtrD]; done) | omega | (simp only [push_nx, put_nx, del_nx]; omega) | (refine Nat.le_antisymm ?_ ?_ <;> simp only [push_nx, put_nx, del_nx] <;> omega) | fail) only [wpy, facts, wpb, cst, wpk, wpl, forall_const, implies_true, false_implies, Int.reduceLE, Int.reduceLT, Nat.reduceLeDiff, UInt8.reduceToNat, ↓reduceIte, Nat.reduceEqDiff, Nat.reduceAdd, reduceCtorEq, Int.reduceToNat, clsL, clsS, clsC, Tryz.f117, g8]
  refine ob_one (n0 := h1.nx) (cc := 45) ap27 tx27 (by simp +contextual (disch := first | (simp only [facts, clsL, clsS, clsC, isPtrD]; done) | omega | (simp only [push_nx, put_nx, del_nx]; omega) | (refine Nat.le_antisymm ?_ ?_ <;> simp only [push_nx, put_nx, del_nx] <;> omega) | fail) only [wpy, facts, wpb, cst, wpk, wpl, forall_const, implies_true, false_implies, Int.reduceLE, Int.reduceLT, Nat.reduceLeDiff, UInt8.reduceToNat, ↓reduceIte, Nat.reduceEqDiff, Nat.reduceAdd, reduceCtorEq, Int.reduceToNat, clsL, clsS, clsC]) (by simp +contextual (disch := first | (simp only [facts, clsL, clsS, clsC, isPtrD]; done) | omega | (simp only [push_nx, put_nx, del_nx]; omega) | (refine Nat.le_antisymm ?_ ?_ <;> simp only [push_nx, put_nx, del_nx] <;> omega) | fail) only [wpy, facts, wpb, cst, wpk, wpl, forall_const, implies_true, false_implies, Int.reduceLE, Int.reduceLT, Nat.reduceLeDiff, UInt8.reduceToNat, ↓reduceIte, Nat.reduceEqDiff, Nat.reduceAdd, reduceCtorEq, Int.reduceToNat, clsL, clsS, clsC]) rfl o8 (by decide) (by decide) (fun k hk => by rw [fresh_def]; exact .inl (by omega)) (by omega) ?_
  intro v9 h9 L9 o9 hn9 hk9 hL9
  have g9 := (hk9 h.nx (by omega)).trans g8
  simp +contextual (disch := first | (simp only [facts, clsL, clsS, clsC, isPtrD]; done) | omega | (simp only [push_nx, put_nx, del_nx]; omega) | (refine Nat.le_antisymm ?_ ?_ <;> simp only [push_nx, put_nx, del_nx] <;> omega) | fail) only [wpy, facts, wpb, cst, wpk, wpl, forall_const, implies_true, false_implies, Int.reduceLE, Int.reduceLT, Nat.reduceLeDiff, UInt8.reduceToNat, ↓reduceIte, Nat.reduceEqDiff, Nat.reduceAdd, reduceCtorEq, Int.reduceToNat, clsL, clsS, clsC, Tryz.f117, g9]
  refine ⟨fun p hp => ?_, ?_⟩
  · have hl3 : ldL (some (1, false)) (V.ptr h.nx 3) = [.rd h.nx 3 1] := rfl
    have hl4 : ldL (some (1, false)) (V.ptr h.nx 4) = [.rd h.nx 4 1] := rfl
    rw [hl3, hl4]
    simp only [List.mem_cons, List.not_mem_nil, or_false] at hp
    rcases hp with rfl | rfl | rfl | rfl | rfl | rfl | rfl | rfl | rfl
    · exact pair_one rfl rfl (raf (a := h1.nx) (one_le (by show h1.nx ≤ h6.nx; omega)) (one_lt (by show h.nx < h1.nx; omega)))
    · exact pair_one rfl rfl (raf (a := h1.nx) (fun x hx => (hL7 x hx).1) (one_lt (by show h.nx < h1.nx; omega)))
    · exact pair_one rfl rfl (raf (a := h1.nx) (one_le (by show h1.nx ≤ h6.nx; omega)) (one_lt (by show h.nx < h1.nx; omega)))
    · exact pair_one rfl rfl (raf (a := h1.nx) (fun x hx => (hL7 x hx).1) (one_lt (by show h.nx < h1.nx; omega)))
    · exact pair_one rfl rfl (cl_rd0 (by omega))
    · exact pair_one rfl rfl (far (a := h8.nx) (one_lt (by show h6.nx < h8.nx; omega)) (one_le (Nat.le_refl _)))
    · exact pair_one rfl rfl (far (a := h8.nx) (fun x hx => by have := (hL7 x hx).2; omega) (one_le (Nat.le_refl _)))
    · exact pair_one rfl rfl (far (a := h8.nx) (one_lt (by show h.nx < h8.nx; omega)) (one_le (Nat.le_refl _)))
    · exact pair_one rfl rfl (cl_wrd0 (Nat.le_refl _))
  refine draw_by [(4, 6)] (by kernel_rfl) ?_
  have w2 : IntKind.u64.wrap 2 = 2 := u64_in _ (by decide)
  simp +contextual (disch := first | (simp only [facts, clsL, clsS, clsC, isPtrD]; done) | omega | (simp only [push_nx, put_nx, del_nx]; omega) | (refine Nat.le_antisymm ?_ ?_ <;> simp only [push_nx, put_nx, del_nx] <;> omega) | fail) only [wpy, facts, wpb, cst, wpk, wpl, forall_const, implies_true, false_implies, Int.reduceLE, Int.reduceLT, Nat.reduceLeDiff, UInt8.reduceToNat, ↓reduceIte, Nat.reduceEqDiff, Nat.reduceAdd, reduceCtorEq, Int.reduceToNat, clsL, clsS, clsC, Tryz.f117, g9, w2]
  refine callF_pure (ob_fixed hS o9 (by decide) (by omega) 2 2 (by decide) (by decide)) ?_
  intro v10 h10 hx10 o10
  have n10 := hx10.1
  have g10 := (hx10.2 h.nx (by omega)).trans g9
  have l10 := shr_hi hc.lo
  have w10 : IntKind.u64.wrap (iShr .u32 c 16) = iShr .u32 c 16 := u64_in _ (by omega)
  simp +contextual (disch := first | (simp only [facts, clsL, clsS, clsC, isPtrD]; done) | omega | (simp only [push_nx, put_nx, del_nx]; omega) | (refine Nat.le_antisymm ?_ ?_ <;> simp only [push_nx, put_nx, del_nx] <;> omega) | fail) only [wpy, facts, wpb, cst, wpk, wpl, forall_const, implies_true, false_implies, Int.reduceLE, Int.reduceLT, Nat.reduceLeDiff, UInt8.reduceToNat, ↓reduceIte, Nat.reduceEqDiff, Nat.reduceAdd, reduceCtorEq, Int.reduceToNat, clsL, clsS, clsC, Tryz.f117, g10, w10]
  refine callF_pure (ob_fixed hS o10 (by decide) (by omega) _ 2 (by decide) ⟨l10.1, l10.2⟩) ?_
  intro v11 h11 hx11 o11
  have n11 := hx11.1
  have g11 := (hx11.2 h.nx (by omega)).trans g10
  simp +contextual (disch := first | (simp only [facts, clsL, clsS, clsC, isPtrD]; done) | omega | (simp only [push_nx, put_nx, del_nx]; omega) | (refine Nat.le_antisymm ?_ ?_ <;> simp only [push_nx, put_nx, del_nx] <;> omega) | fail) only [wpy, facts, wpb, cst, wpk, wpl, forall_const, implies_true, false_implies, Int.reduceLE, Int.reduceLT, Nat.reduceLeDiff, UInt8.reduceToNat, ↓reduceIte, Nat.reduceEqDiff, Nat.reduceAdd, reduceCtorEq, Int.reduceToNat, clsL, clsS, clsC, Tryz.f117, g11]
  refine ⟨fun p hp => ?_, ?_⟩
  · have hl3 : ldL (some (1, false)) (V.ptr h.nx 3) = [.rd h.nx 3 1] := rfl
    rw [hl3]
    simp only [List.mem_cons, List.not_mem_nil, or_false] at hp
    rcases hp with rfl
    exact pair_one rfl rfl (cl_rd0 (by omega))
  refine callF_exact (has_spec hS _ _ _) ?_
  have q2 := eq_true hc.d
  simp +contextual (disch := first | (simp only [facts, clsL, clsS, clsC, isPtrD]; done) | omega | (simp only [push_nx, put_nx, del_nx]; omega) | (refine Nat.le_antisymm ?_ ?_ <;> simp only [push_nx, put_nx, del_nx] <;> omega) | fail) only [wpy, facts, wpb, cst, wpk, wpl, forall_const, implies_true, false_implies, Int.reduceLE, Int.reduceLT, Nat.reduceLeDiff, UInt8.reduceToNat, ↓reduceIte, Nat.reduceEqDiff, Nat.reduceAdd, reduceCtorEq, Int.reduceToNat, clsL, clsS, clsC, Tryz.f117, g11, q2]
  refine ob_one (n0 := h1.nx) (cc := 21) ap27 tx27 (by simp +contextual (disch := first | (simp only [facts, clsL, clsS, clsC, isPtrD]; done) | omega | (simp only [push_nx, put_nx, del_nx]; omega) | (refine Nat.le_antisymm ?_ ?_ <;> simp only [push_nx, put_nx, del_nx] <;> omega) | fail) only [wpy, facts, wpb, cst, wpk, wpl, forall_const, implies_true, false_implies, Int.reduceLE, Int.reduceLT, Nat.reduceLeDiff, UInt8.reduceToNat, ↓reduceIte, Nat.reduceEqDiff, Nat.reduceAdd, reduceCtorEq, Int.reduceToNat, clsL, clsS, clsC]) (by simp +contextual (disch := first | (simp only [facts, clsL, clsS, clsC, isPtrD]; done) | omega | (simp only [push_nx, put_nx, del_nx]; omega) | (refine Nat.le_antisymm ?_ ?_ <;> simp only [push_nx, put_nx, del_nx] <;> omega) | fail) only [wpy, facts, wpb, cst, wpk, wpl, forall_const, implies_true, false_implies, Int.reduceLE, Int.reduceLT, Nat.reduceLeDiff, UInt8.reduceToNat, ↓reduceIte, Nat.reduceEqDiff, Nat.reduceAdd, reduceCtorEq, Int.reduceToNat, clsL, clsS, clsC]) rfl o11 (by decide) (by decide) (fun k hk => by rw [fresh_def]; exact .inl (by omega)) (by omega) ?_
  intro v12 h12 L12 o12 hn12 hk12 hL12
  have g12 := (hk12 h.nx (by omega)).trans g11
  simp +contextual (disch := first | (simp only [facts, clsL, clsS, clsC, isPtrD]; done) | omega | (simp only [push_nx, put_nx, del_nx]; omega) | (refine Nat.le_antisymm ?_ ?_ <;> simp only [push_nx, put_nx, del_nx] <;> omega) | fail) only [wpy, facts, wpb, cst, wpk, wpl, forall_const, implies_true, false_implies, Int.reduceLE, Int.reduceLT, Nat.reduceLeDiff, UInt8.reduceToNat, ↓reduceIte, Nat.reduceEqDiff, Nat.reduceAdd, reduceCtorEq, Int.reduceToNat, clsL, clsS, clsC, Tryz.f117, g12]
  refine ob_made (n0 := h1.nx) rfl (by simp +contextual (disch := first | (simp only [facts, clsL, clsS, clsC, isPtrD]; done) | omega | (simp only [push_nx, put_nx, del_nx]; omega) | (refine Nat.le_antisymm ?_ ?_ <;> simp only [push_nx, put_nx, del_nx] <;> omega) | fail) only [wpy, facts, wpb, cst, wpk, wpl, forall_const, implies_true, false_implies, Int.reduceLE, Int.reduceLT, Nat.reduceLeDiff, UInt8.reduceToNat, ↓reduceIte, Nat.reduceEqDiff, Nat.reduceAdd, reduceCtorEq, Int.reduceToNat, clsL, clsS, clsC]) (by simp +contextual (disch := first | (simp only [facts, clsL, clsS, clsC, isPtrD]; done) | omega | (simp only [push_nx, put_nx, del_nx]; omega) | (refine Nat.le_antisymm ?_ ?_ <;> simp only [push_nx, put_nx, del_nx] <;> omega) | fail) only [wpy, facts, wpb, cst, wpk, wpl, forall_const, implies_true, false_implies, Int.reduceLE, Int.reduceLT, Nat.reduceLeDiff, UInt8.reduceToNat, ↓reduceIte, Nat.reduceEqDiff, Nat.reduceAdd, reduceCtorEq, Int.reduceToNat, clsL, clsS, clsC]) o12 (by decide) (fun k hk => by rw [fresh_def]; exact .inl (by omega)) (by omega) ?_
  intro v13 h13 L13 o13 hn13 hk13
  have g13 := (hk13 h.nx (by omega)).trans g12
  simp +contextual (disch := first | (simp only [facts, clsL, clsS, clsC, isPtrD]; done) | omega | (simp only [push_nx, put_nx, del_nx]; omega) | (refine Nat.le_antisymm ?_ ?_ <;> simp only [push_nx, put_nx, del_nx] <;> omega) | fail) only [wpy, facts, wpb, cst, wpk, wpl, forall_const, implies_true, false_implies, Int.reduceLE, Int.reduceLT, Nat.reduceLeDiff, UInt8.reduceToNat, ↓reduceIte, Nat.reduceEqDiff, Nat.reduceAdd, reduceCtorEq, Int.reduceToNat, clsL, clsS, clsC, Tryz.f117, g13]
  have z9 := a5.sub_ok (i := 8) (j := 20) (by omega) (by omega) q1 (mm := m0 - 8) (by omega)
  have kk : ∀ k, k < h.nx → h13.get k = h5.get k := fun k hk => by rw [hk13 k (by omega), hk12 k (by omega), hx11.2 k (by omega), hx10.2 k (by omega), hk9 k (by omega), hx8.2 k (by omega), hk7 k (by omega), hk6 k (by omega)]
  refine slice_row (e := 5) (sz := 1) (b := b0) (o := o0) (n := 20) (m := m0) (l := 8) (hh := 20) (mm := m0) (by kernel_rfl) (by kernel_rfl) (by simp +contextual (disch := first | (simp only [facts, clsL, clsS, clsC, isPtrD]; done) | omega | (simp only [push_nx, put_nx, del_nx]; omega) | (refine Nat.le_antisymm ?_ ?_ <;> simp only [push_nx, put_nx, del_nx] <;> omega) | fail) only [wpy, facts, wpb, cst, wpk, wpl, forall_const, implies_true, false_implies, Int.reduceLE, Int.reduceLT, Nat.reduceLeDiff, UInt8.reduceToNat, ↓reduceIte, Nat.reduceEqDiff, Nat.reduceAdd, reduceCtorEq, Int.reduceToNat, clsL, clsS, clsC]; exact q1) (by rw [kk b0 hb0]; exact z6) z7 (by simp +contextual (disch := first | (simp only [facts, clsL, clsS, clsC, isPtrD]; done) | omega | (simp only [push_nx, put_nx, del_nx]; omega) | (refine Nat.le_antisymm ?_ ?_ <;> simp only [push_nx, put_nx, del_nx] <;> omega) | fail) only [wpy, facts, wpb, cst, wpk, wpl, forall_const, implies_true, false_implies, Int.reduceLE, Int.reduceLT, Nat.reduceLeDiff, UInt8.reduceToNat, ↓reduceIte, Nat.reduceEqDiff, Nat.reduceAdd, reduceCtorEq, Int.reduceToNat, clsL, clsS, clsC]; exact bounds_lo (by decide) hm0) (by omega) ?_
  simp +contextual (disch := first | (simp only [facts, clsL, clsS, clsC, isPtrD]; done) | omega | (simp only [push_nx, put_nx, del_nx]; omega) | (refine Nat.le_antisymm ?_ ?_ <;> simp only [push_nx, put_nx, del_nx] <;> omega) | fail) only [wpy, facts, wpb, cst, wpk, wpl, forall_const, implies_true, false_implies, Int.reduceLE, Int.reduceLT, Nat.reduceLeDiff, UInt8.reduceToNat, ↓reduceIte, Nat.reduceEqDiff, Nat.reduceAdd, reduceCtorEq, Int.reduceToNat, clsL, clsS, clsC, Tryz.f117, g13]
  have z10 : BS 5 h13 _ _ := z9.keep (by omega) fun k _ hk => by obtain ⟨_, _, _, q⟩ := hk; cases q; exact kk b0 hb0
  refine ob_bs (n0 := h1.nx) (n := 12) ap27 tx27 (by simp +contextual (disch := first | (simp only [facts, clsL, clsS, clsC, isPtrD]; done) | omega | (simp only [push_nx, put_nx, del_nx]; omega) | (refine Nat.le_antisymm ?_ ?_ <;> simp only [push_nx, put_nx, del_nx] <;> omega) | fail) only [wpy, facts, wpb, cst, wpk, wpl, forall_const, implies_true, false_implies, Int.reduceLE, Int.reduceLT, Nat.reduceLeDiff, UInt8.reduceToNat, ↓reduceIte, Nat.reduceEqDiff, Nat.reduceAdd, reduceCtorEq, Int.reduceToNat, clsL, clsS, clsC]) (by simp +contextual (disch := first | (simp only [facts, clsL, clsS, clsC, isPtrD]; done) | omega | (simp only [push_nx, put_nx, del_nx]; omega) | (refine Nat.le_antisymm ?_ ?_ <;> simp only [push_nx, put_nx, del_nx] <;> omega) | fail) only [wpy, facts, wpb, cst, wpk, wpl, forall_const, implies_true, false_implies, Int.reduceLE, Int.reduceLT, Nat.reduceLeDiff, UInt8.reduceToNat, ↓reduceIte, Nat.reduceEqDiff, Nat.reduceAdd, reduceCtorEq, Int.reduceToNat, clsL, clsS, clsC]) o13 z10.src (by rw [List.length_drop, List.length_take, hl20]; decide) (by decide) (fun b q => (hn.2 b (List.mem_of_mem_take (List.mem_of_mem_drop q))).2.1) (fun k hk => by rw [fresh_def]; exact .inl (by omega)) (by omega) ?_
  intro v14 h14 L14 o14 hn14 hk14 hL14
  have g14 := (hk14 h.nx (by omega)).trans g13
  simp +contextual (disch := first | (simp only [facts, clsL, clsS, clsC, isPtrD]; done) | omega | (simp only [push_nx, put_nx, del_nx]; omega) | (refine Nat.le_antisymm ?_ ?_ <;> simp only [push_nx, put_nx, del_nx] <;> omega) | fail) only [wpy, facts, wpb, cst, wpk, wpl, forall_const, implies_true, false_implies, Int.reduceLE, Int.reduceLT, Nat.reduceLeDiff, UInt8.reduceToNat, ↓reduceIte, Nat.reduceEqDiff, Nat.reduceAdd, reduceCtorEq, Int.reduceToNat, clsL, clsS, clsC, Tryz.f117, g14]
  refine ob_one (n0 := h1.nx) (cc := 0) ap27 tx27 (by simp +contextual (disch := first | (simp only [facts, clsL, clsS, clsC, isPtrD]; done) | omega | (simp only [push_nx, put_nx, del_nx]; omega) | (refine Nat.le_antisymm ?_ ?_ <;> simp only [push_nx, put_nx, del_nx] <;> omega) | fail) only [wpy, facts, wpb, cst, wpk, wpl, forall_const, implies_true, false_implies, Int.reduceLE, Int.reduceLT, Nat.reduceLeDiff, UInt8.reduceToNat, ↓reduceIte, Nat.reduceEqDiff, Nat.reduceAdd, reduceCtorEq, Int.reduceToNat, clsL, clsS, clsC]) (by simp +contextual (disch := first | (simp only [facts, clsL, clsS, clsC, isPtrD]; done) | omega | (simp only [push_nx, put_nx, del_nx]; omega) | (refine Nat.le_antisymm ?_ ?_ <;> simp only [push_nx, put_nx, del_nx] <;> omega) | fail) only [wpy, facts, wpb, cst, wpk, wpl, forall_const, implies_true, false_implies, Int.reduceLE, Int.reduceLT, Nat.reduceLeDiff, UInt8.reduceToNat, ↓reduceIte, Nat.reduceEqDiff, Nat.reduceAdd, reduceCtorEq, Int.reduceToNat, clsL, clsS, clsC]) rfl o14 (by decide) (by decide) (fun k hk => by rw [fresh_def]; exact .inl (by omega)) (by omega) ?_
  intro v15 h15 L15 o15 hn15 hk15 hL15
  have g15 := (hk15 h.nx (by omega)).trans g14
  simp +contextual (disch := first | (simp only [facts, clsL, clsS, clsC, isPtrD]; done) | omega | (simp only [push_nx, put_nx, del_nx]; omega) | (refine Nat.le_antisymm ?_ ?_ <;> simp only [push_nx, put_nx, del_nx] <;> omega) | fail) only [wpy, facts, wpb, cst, wpk, wpl, forall_const, implies_true, false_implies, Int.reduceLE, Int.reduceLT, Nat.reduceLeDiff, UInt8.reduceToNat, ↓reduceIte, Nat.reduceEqDiff, Nat.reduceAdd, reduceCtorEq, Int.reduceToNat, clsL, clsS, clsC, Tryz.f117, g15]
  refine callF_exact (has_spec hS _ _ _) ?_
  simp +contextual (disch := first | (simp only [facts, clsL, clsS, clsC, isPtrD]; done) | omega | (simp only [push_nx, put_nx, del_nx]; omega) | (refine Nat.le_antisymm ?_ ?_ <;> simp only [push_nx, put_nx, del_nx] <;> omega) | fail) only [wpy, facts, wpb, cst, wpk, wpl, forall_const, implies_true, false_implies, Int.reduceLE, Int.reduceLT, Nat.reduceLeDiff, UInt8.reduceToNat, ↓reduceIte, Nat.reduceEqDiff, Nat.reduceAdd, reduceCtorEq, Int.reduceToNat, clsL, clsS, clsC, Tryz.f117, g15, q2]
  refine callF_pure (ob_ended hS o15 (by decide) (by omega)) ?_
  intro v16 h16 hx16 o16
  have n16 := hx16.1
  simp +contextual (disch := first | (simp only [facts, clsL, clsS, clsC, isPtrD]; done) | omega | (simp only [push_nx, put_nx, del_nx]; omega) | (refine Nat.le_antisymm ?_ ?_ <;> simp only [push_nx, put_nx, del_nx] <;> omega) | fail) only [wpy, facts, wpb, cst, wpk, wpl, forall_const, implies_true, false_implies, Int.reduceLE, Int.reduceLT, Nat.reduceLeDiff, UInt8.reduceToNat, ↓reduceIte, Nat.reduceEqDiff, Nat.reduceAdd, reduceCtorEq, Int.reduceToNat, clsL, clsS, clsC, Tryz.f117]
  refine ⟨⟨by omega, fun k hk => by rw [hx16.2 k (by omega), hk15 k (by omega), hk14 k (by omega), kk k hk, hx5.2 k (by omega), hx4.2 k (by omega), hk3 k (by omega), hx2.2 k (by omega), hxh1.2 k hk]⟩, fun q => absurd q hz, v16, rfl, ?_⟩
  obtain ⟨l, a, b1, _⟩ := o16
  have a' := a.acc b1
  rcases a' with ⟨q, _⟩ | ⟨b, n, _, _, q, _⟩ <;> rw [q] <;> exact ⟨rfl, rfl⟩
theorem rgreet_spec {ver : List Nat} {nv : V} {nl : List Nat} {c : Int} {h : H} (a : BS 5 h nv nl) (hn : NonceOk nl) (hc : CapsOk c) (hv : ver.length ≤ 3000) (hb : ∀ x ∈ ver, x < 256) : Pure S.cfg 124 [.nilslice, .agg (greetC ver nv c)] h fun w h' => (0 ∈ ver → w = .tuple [.nilslice, .int .i64 2]) ∧ (0 ∉ ver → ∃ lv, w = .tuple [lv, .int .i64 0] ∧ lv.cells = [lv] ∧ lv.isCell = true) := by
  refine into Tryz.f124 _ Tryz.func124 (hS.own _ (by decide)) rfl rfl (by kernel_rfl) (by kernel_rfl) ?_
  obtain ⟨x1, x2⟩ := a.cell
  have fs := fun h (a : BS 5 h nv nl) => rfine_spec hS (ver := ver) a hn hc (by omega)
  unfold greetC at fs ⊢
  simp +contextual (disch := first | (simp only [facts, clsL, clsS, clsC, isPtrD]; done) | omega | (simp only [push_nx, put_nx, del_nx]; omega) | (refine Nat.le_antisymm ?_ ?_ <;> simp only [push_nx, put_nx, del_nx] <;> omega) | fail) only [wpy, facts, wpb, cst, wpk, wpl, forall_const, implies_true, false_implies, Int.reduceLE, Int.reduceLT, Nat.reduceLeDiff, UInt8.reduceToNat, ↓reduceIte, Nat.reduceEqDiff, Nat.reduceAdd, reduceCtorEq, Int.reduceToNat, clsL, clsS, clsC, Tryz.f124, x1, x2]
  generalize hhA : H.push h _ = hA
  have hxA : Ext h hA := by rw [← hhA]; exact (Ext.refl h).push _
  have gA : hA.get h.nx = some (.cells (greetC ver nv c) 141 false) := by rw [← hhA]; exact push_eq rfl
  have nA : hA.nx = h.nx + 1 := by rw [← hhA]; rfl
  clear hhA
  unfold greetC at gA
  refine callF_pure (fs _ (a.ext hxA)) ?_
  rintro _ h1 hx1 rfl
  have n1 := hx1.1
  have g1 := (hx1.2 h.nx (by omega)).trans gA
  have hxh1 := hxA.trans hx1
  by_cases hz : 0 ∈ ver
  · rw [eq_false fun q : 0 ∉ ver => q hz]
    simp +contextual (disch := first | (simp only [facts, clsL, clsS, clsC, isPtrD]; done) | omega | (simp only [push_nx, put_nx, del_nx]; omega) | (refine Nat.le_antisymm ?_ ?_ <;> simp only [push_nx, put_nx, del_nx] <;> omega) | fail) only [wpy, facts, wpb, cst, wpk, wpl, forall_const, implies_true, false_implies, Int.reduceLE, Int.reduceLT, Nat.reduceLeDiff, UInt8.reduceToNat, ↓reduceIte, Nat.reduceEqDiff, Nat.reduceAdd, reduceCtorEq, Int.reduceToNat, clsL, clsS, clsC, Tryz.f124]
    exact ⟨hxh1.1, hxh1.2⟩
  rw [eq_true hz]
  simp +contextual (disch := first | (simp only [facts, clsL, clsS, clsC, isPtrD]; done) | omega | (simp only [push_nx, put_nx, del_nx]; omega) | (refine Nat.le_antisymm ?_ ?_ <;> simp only [push_nx, put_nx, del_nx] <;> omega) | fail) only [wpy, facts, wpb, cst, wpk, wpl, forall_const, implies_true, false_implies, Int.reduceLE, Int.reduceLT, Nat.reduceLeDiff, UInt8.reduceToNat, ↓reduceIte, Nat.reduceEqDiff, Nat.reduceAdd, reduceCtorEq, Int.reduceToNat, clsL, clsS, clsC, Tryz.f124, g1]
  refine draw_by [(0, 3), (2, 3), (0, 6), (2, 6), (3, 6), (4, 6)] (by kernel_rfl) ?_
  simp +contextual (disch := first | (simp only [facts, clsL, clsS, clsC, isPtrD]; done) | omega | (simp only [push_nx, put_nx, del_nx]; omega) | (refine Nat.le_antisymm ?_ ?_ <;> simp only [push_nx, put_nx, del_nx] <;> omega) | fail) only [wpy, facts, wpb, cst, wpk, wpl, forall_const, implies_true, false_implies, Int.reduceLE, Int.reduceLT, Nat.reduceLeDiff, UInt8.reduceToNat, ↓reduceIte, Nat.reduceEqDiff, Nat.reduceAdd, reduceCtorEq, Int.reduceToNat, clsL, clsS, clsC, Tryz.f124, g1]
  generalize hhB : H.push h1 _ = hB
  have hxB : Ext h1 hB := by rw [← hhB]; exact (Ext.refl h1).push _
  have gB : hB.get h1.nx = some (.cells [] 5 false) := by rw [← hhB]; exact push_eq rfl
  have nB : hB.nx = h1.nx + 1 := by rw [← hhB]; rfl
  clear hhB
  have lB : LB h1.nx hB (.slice h1.nx 0 0 0) [] := .inr ⟨rfl, h1.nx, Nat.le_refl _, by omega, rfl, gB⟩
  refine ap_bs (n0 := h1.nx) (l := []) (m := []) ap27 tx27 (by simp +contextual (disch := first | (simp only [facts, clsL, clsS, clsC, isPtrD]; done) | omega | (simp only [push_nx, put_nx, del_nx]; omega) | (refine Nat.le_antisymm ?_ ?_ <;> simp only [push_nx, put_nx, del_nx] <;> omega) | fail) only [wpy, facts, wpb, cst, wpk, wpl, forall_const, implies_true, false_implies, Int.reduceLE, Int.reduceLT, Nat.reduceLeDiff, UInt8.reduceToNat, ↓reduceIte, Nat.reduceEqDiff, Nat.reduceAdd, reduceCtorEq, Int.reduceToNat, clsL, clsS, clsC]) (by simp +contextual (disch := first | (simp only [facts, clsL, clsS, clsC, isPtrD]; done) | omega | (simp only [push_nx, put_nx, del_nx]; omega) | (refine Nat.le_antisymm ?_ ?_ <;> simp only [push_nx, put_nx, del_nx] <;> omega) | fail) only [wpy, facts, wpb, cst, wpk, wpl, forall_const, implies_true, false_implies, Int.reduceLE, Int.reduceLT, Nat.reduceLeDiff, UInt8.reduceToNat, ↓reduceIte, Nat.reduceEqDiff, Nat.reduceAdd, reduceCtorEq, Int.reduceToNat, clsL, clsS, clsC]) lB (BS.nil 5 _).src (by decide) (fun k hk => by rw [fresh_def]; exact .inl (by omega)) (by omega) ?_
  intro v2 h2 L2 l2 n2 k2 hL2
  have g2 := (k2 h.nx (by omega)).trans ((hxB.2 h.nx (by omega)).trans g1)
  have hL2' : ∀ x ∈ L2, h1.nx ≤ blkOf x ∧ blkOf x < h2.nx := fun x hx => by
    rcases hL2 x hx with ⟨⟨o, n, m, q⟩, _⟩ | q
    · cases q
    · exact q
  have w1 : IntKind.u64.wrap 1 = 1 := u64_in _ (by decide)
  simp +contextual (disch := first | (simp only [facts, clsL, clsS, clsC, isPtrD]; done) | omega | (simp only [push_nx, put_nx, del_nx]; omega) | (refine Nat.le_antisymm ?_ ?_ <;> simp only [push_nx, put_nx, del_nx] <;> omega) | fail) only [wpy, facts, wpb, cst, wpk, wpl, forall_const, implies_true, false_implies, Int.reduceLE, Int.reduceLT, Nat.reduceLeDiff, UInt8.reduceToNat, ↓reduceIte, Nat.reduceEqDiff, Nat.reduceAdd, reduceCtorEq, Int.reduceToNat, clsL, clsS, clsC, Tryz.f124, g2]
  refine ap_one (n0 := h1.nx) (cc := 10) ap27 tx27 (by simp +contextual (disch := first | (simp only [facts, clsL, clsS, clsC, isPtrD]; done) | omega | (simp only [push_nx, put_nx, del_nx]; omega) | (refine Nat.le_antisymm ?_ ?_ <;> simp only [push_nx, put_nx, del_nx] <;> omega) | fail) only [wpy, facts, wpb, cst, wpk, wpl, forall_const, implies_true, false_implies, Int.reduceLE, Int.reduceLT, Nat.reduceLeDiff, UInt8.reduceToNat, ↓reduceIte, Nat.reduceEqDiff, Nat.reduceAdd, reduceCtorEq, Int.reduceToNat, clsL, clsS, clsC]) (by simp +contextual (disch := first | (simp only [facts, clsL, clsS, clsC, isPtrD]; done) | omega | (simp only [push_nx, put_nx, del_nx]; omega) | (refine Nat.le_antisymm ?_ ?_ <;> simp only [push_nx, put_nx, del_nx] <;> omega) | fail) only [wpy, facts, wpb, cst, wpk, wpl, forall_const, implies_true, false_implies, Int.reduceLE, Int.reduceLT, Nat.reduceLeDiff, UInt8.reduceToNat, ↓reduceIte, Nat.reduceEqDiff, Nat.reduceAdd, reduceCtorEq, Int.reduceToNat, clsL, clsS, clsC]) rfl l2 (by decide) (fun k hk => by rw [fresh_def]; exact .inl (by omega)) (by omega) ?_
  intro v3 h3 L3 hl3 hn3 hk3 hL3
  have g3 := (hk3 h.nx (by omega)).trans g2
  simp +contextual (disch := first | (simp only [facts, clsL, clsS, clsC, isPtrD]; done) | omega | (simp only [push_nx, put_nx, del_nx]; omega) | (refine Nat.le_antisymm ?_ ?_ <;> simp only [push_nx, put_nx, del_nx] <;> omega) | fail) only [wpy, facts, wpb, cst, wpk, wpl, forall_const, implies_true, false_implies, Int.reduceLE, Int.reduceLT, Nat.reduceLeDiff, UInt8.reduceToNat, ↓reduceIte, Nat.reduceEqDiff, Nat.reduceAdd, reduceCtorEq, Int.reduceToNat, clsL, clsS, clsC, Tryz.f124, g3]
  refine callF_pure (rended_spec hS (hl3.bs (by decide)) (by decide) (by simp) ver (by omega) hz) ?_
  intro v4 h4 hx4 hl4
  have n4 := hx4.1
  have g4 := (hx4.2 h.nx (by omega)).trans g3
  simp +contextual (disch := first | (simp only [facts, clsL, clsS, clsC, isPtrD]; done) | omega | (simp only [push_nx, put_nx, del_nx]; omega) | (refine Nat.le_antisymm ?_ ?_ <;> simp only [push_nx, put_nx, del_nx] <;> omega) | fail) only [wpy, facts, wpb, cst, wpk, wpl, forall_const, implies_true, false_implies, Int.reduceLE, Int.reduceLT, Nat.reduceLeDiff, UInt8.reduceToNat, ↓reduceIte, Nat.reduceEqDiff, Nat.reduceAdd, reduceCtorEq, Int.reduceToNat, clsL, clsS, clsC, Tryz.f124, g4, w1]
  refine ⟨fun p hp => ?_, ?_⟩
  · have hl0 : ldL (some (1, false)) (V.ptr h.nx 0) = [.rd h.nx 0 1] := rfl
    rw [hl0]
    simp only [List.mem_cons, List.not_mem_nil, or_false] at hp
    rcases hp with rfl | rfl | rfl | rfl | rfl | rfl
    · exact pair_one rfl rfl (far (a := h2.nx) (one_lt (by show h1.nx < h2.nx; omega)) (one_le (Nat.le_refl _)))
    · exact pair_one rfl rfl (far (a := h2.nx) (fun x hx => (hL2' x hx).2) (one_le (Nat.le_refl _)))
    · exact pair_one rfl rfl (raf (a := h1.nx) (one_le (Nat.le_refl _)) (one_lt (by show h.nx < h1.nx; omega)))
    · exact pair_one rfl rfl (raf (a := h1.nx) (fun x hx => (hL2' x hx).1) (one_lt (by show h.nx < h1.nx; omega)))
    · exact pair_one rfl rfl (raf (a := h1.nx) (one_le (by show h1.nx ≤ h2.nx; omega)) (one_lt (by show h.nx < h1.nx; omega)))
    · exact pair_one rfl rfl (raf (a := h1.nx) (fun x hx => (hL3 x hx).1) (one_lt (by show h.nx < h1.nx; omega)))
  have hl4 := LB.mono hl4 (show h1.nx ≤ h3.nx by omega)
  have o4 : OB h1.nx h4 v4 3003 := .of hl4 (by simp) (by simp; omega) (lb_lt (lb_lt (by decide) hb) (by decide))
  refine callF_pure (ob_rfixed hS o4 (by decide) (by omega) 1 4 (by decide) (by decide)) ?_
  intro v5 h5 hx5 o5
  have n5 := hx5.1
  have g5 := (hx5.2 h.nx (by omega)).trans g4
  simp +contextual (disch := first | (simp only [facts, clsL, clsS, clsC, isPtrD]; done) | omega | (simp only [push_nx, put_nx, del_nx]; omega) | (refine Nat.le_antisymm ?_ ?_ <;> simp only [push_nx, put_nx, del_nx] <;> omega) | fail) only [wpy, facts, wpb, cst, wpk, wpl, forall_const, implies_true, false_implies, Int.reduceLE, Int.reduceLT, Nat.reduceLeDiff, UInt8.reduceToNat, ↓reduceIte, Nat.reduceEqDiff, Nat.reduceAdd, reduceCtorEq, Int.reduceToNat, clsL, clsS, clsC, Tryz.f124, g5]
  have a5 : BS 5 h5 nv nl := a.keep (by omega) fun k hk _ => (hx5.2 k (by omega)).trans ((hx4.2 k (by omega)).trans ((hk3 k (by omega)).trans ((k2 k (by omega)).trans ((hxB.2 k (by omega)).trans (hxh1.2 k hk)))))
  rcases a5.form with ⟨q1, q2⟩ | ⟨b0, o0, m0, q1⟩
  · exact absurd hn.1 (by rw [q2]; decide)
  have hl20 : nl.length = 20 := hn.1
  rw [hl20] at q1
  have hm0 : 20 ≤ m0 := by
    rcases a5.2 with ⟨z1, _⟩ | ⟨b1, o1, m1, z1, z2, z3, z4, z5⟩
    · rw [q1] at z1; cases z1
    · rw [q1, hl20] at z1; cases z1; omega
  obtain ⟨kc, e', fl, z6, z7⟩ : ∃ kc e' fl, blkSO (h5.get b0) = some (kc, e', fl) ∧ (fl = true → e' = 5) := by
    rcases a5.2 with ⟨z1, _⟩ | ⟨b1, o1, m1, z1, z2, z3, z4, z5⟩
    · rw [q1] at z1; cases z1
    · rw [q1, hl20] at z1; cases z1
      have hy : ∃ y, blkSO (h5.get b0) = some y := by
        cases hg : h5.get b0 with
        | none => rw [hg] at z4; cases z4
        | some ob => rw [hg] at z4; cases ob <;> first | exact ⟨_, rfl⟩ | cases z4
      obtain ⟨⟨kc, e', fl⟩, hy⟩ := hy
      exact ⟨kc, e', fl, hy, z5 kc e' fl hy⟩
  have z8 := a5.sub_ok (i := 0) (j := 8) (by omega) (by omega) q1 (mm := m0) (by omega)
  have hb0 : b0 < h.nx := a.blk q1
  refine slice_row (e := 5) (sz := 1) (b := b0) (o := o0) (n := 20) (m := m0) (l := 0) (hh := 8) (mm := m0) (by kernel_rfl) (by kernel_rfl) (by simp +contextual (disch := first | (simp only [facts, clsL, clsS, clsC, isPtrD]; done) | omega | (simp only [push_nx, put_nx, del_nx]; omega) | (refine Nat.le_antisymm ?_ ?_ <;> simp only [push_nx, put_nx, del_nx] <;> omega) | fail) only [wpy, facts, wpb, cst, wpk, wpl, forall_const, implies_true, false_implies, Int.reduceLE, Int.reduceLT, Nat.reduceLeDiff, UInt8.reduceToNat, ↓reduceIte, Nat.reduceEqDiff, Nat.reduceAdd, reduceCtorEq, Int.reduceToNat, clsL, clsS, clsC]; exact q1) z6 z7 (by simp +contextual (disch := first | (simp only [facts, clsL, clsS, clsC, isPtrD]; done) | omega | (simp only [push_nx, put_nx, del_nx]; omega) | (refine Nat.le_antisymm ?_ ?_ <;> simp only [push_nx, put_nx, del_nx] <;> omega) | fail) only [wpy, facts, wpb, cst, wpk, wpl, forall_const, implies_true, false_implies, Int.reduceLE, Int.reduceLT, Nat.reduceLeDiff, UInt8.reduceToNat, ↓reduceIte, Nat.reduceEqDiff, Nat.reduceAdd, reduceCtorEq, Int.reduceToNat, clsL, clsS, clsC]; exact bounds_hi (b := 8) (len := 20) (cap := m0) (show 8 ≤ m0 by omega)) (by omega) ?_
  simp +contextual (disch := first | (simp only [facts, clsL, clsS, clsC, isPtrD]; done) | omega | (simp only [push_nx, put_nx, del_nx]; omega) | (refine Nat.le_antisymm ?_ ?_ <;> simp only [push_nx, put_nx, del_nx] <;> omega) | fail) only [wpy, facts, wpb, cst, wpk, wpl, forall_const, implies_true, false_implies, Int.reduceLE, Int.reduceLT, Nat.reduceLeDiff, UInt8.reduceToNat, ↓reduceIte, Nat.reduceEqDiff, Nat.reduceAdd, reduceCtorEq, Int.reduceToNat, clsL, clsS, clsC, Tryz.f124, g5]
  refine ob_bs (n0 := h1.nx) (n := 8) ap27 tx27 (by simp +contextual (disch := first | (simp only [facts, clsL, clsS, clsC, isPtrD]; done) | omega | (simp only [push_nx, put_nx, del_nx]; omega) | (refine Nat.le_antisymm ?_ ?_ <;> simp only [push_nx, put_nx, del_nx] <;> omega) | fail) only [wpy, facts, wpb, cst, wpk, wpl, forall_const, implies_true, false_implies, Int.reduceLE, Int.reduceLT, Nat.reduceLeDiff, UInt8.reduceToNat, ↓reduceIte, Nat.reduceEqDiff, Nat.reduceAdd, reduceCtorEq, Int.reduceToNat, clsL, clsS, clsC]) (by simp +contextual (disch := first | (simp only [facts, clsL, clsS, clsC, isPtrD]; done) | omega | (simp only [push_nx, put_nx, del_nx]; omega) | (refine Nat.le_antisymm ?_ ?_ <;> simp only [push_nx, put_nx, del_nx] <;> omega) | fail) only [wpy, facts, wpb, cst, wpk, wpl, forall_const, implies_true, false_implies, Int.reduceLE, Int.reduceLT, Nat.reduceLeDiff, UInt8.reduceToNat, ↓reduceIte, Nat.reduceEqDiff, Nat.reduceAdd, reduceCtorEq, Int.reduceToNat, clsL, clsS, clsC]; rfl) o5 z8.src (by rw [List.length_drop, List.length_take, hl20]; decide) (by decide) (fun b q => (hn.2 b (List.mem_of_mem_take (List.mem_of_mem_drop q))).2.1) (fun k hk => by rw [fresh_def]; exact .inl (by omega)) (by omega) ?_
  intro v6 h6 L6 o6 hn6 hk6 hL6
  have g6 := (hk6 h.nx (by omega)).trans g5
  simp +contextual (disch := first | (simp only [facts, clsL, clsS, clsC, isPtrD]; done) | omega | (simp only [push_nx, put_nx, del_nx]; omega) | (refine Nat.le_antisymm ?_ ?_ <;> simp only [push_nx, put_nx, del_nx] <;> omega) | fail) only [wpy, facts, wpb, cst, wpk, wpl, forall_const, implies_true, false_implies, Int.reduceLE, Int.reduceLT, Nat.reduceLeDiff, UInt8.reduceToNat, ↓reduceIte, Nat.reduceEqDiff, Nat.reduceAdd, reduceCtorEq, Int.reduceToNat, clsL, clsS, clsC, Tryz.f124, g6]
  refine ob_one (n0 := h1.nx) (cc := 0) ap27 tx27 (by simp +contextual (disch := first | (simp only [facts, clsL, clsS, clsC, isPtrD]; done) | omega | (simp only [push_nx, put_nx, del_nx]; omega) | (refine Nat.le_antisymm ?_ ?_ <;> simp only [push_nx, put_nx, del_nx] <;> omega) | fail) only [wpy, facts, wpb, cst, wpk, wpl, forall_const, implies_true, false_implies, Int.reduceLE, Int.reduceLT, Nat.reduceLeDiff, UInt8.reduceToNat, ↓reduceIte, Nat.reduceEqDiff, Nat.reduceAdd, reduceCtorEq, Int.reduceToNat, clsL, clsS, clsC]) (by simp +contextual (disch := first | (simp only [facts, clsL, clsS, clsC, isPtrD]; done) | omega | (simp only [push_nx, put_nx, del_nx]; omega) | (refine Nat.le_antisymm ?_ ?_ <;> simp only [push_nx, put_nx, del_nx] <;> omega) | fail) only [wpy, facts, wpb, cst, wpk, wpl, forall_const, implies_true, false_implies, Int.reduceLE, Int.reduceLT, Nat.reduceLeDiff, UInt8.reduceToNat, ↓reduceIte, Nat.reduceEqDiff, Nat.reduceAdd, reduceCtorEq, Int.reduceToNat, clsL, clsS, clsC]) rfl o6 (by decide) (by decide) (fun k hk => by rw [fresh_def]; exact .inl (by omega)) (by omega) ?_
  intro v7 h7 L7 o7 hn7 hk7 hL7
  have g7 := (hk7 h.nx (by omega)).trans g6
  simp +contextual (disch := first | (simp only [facts, clsL, clsS, clsC, isPtrD]; done) | omega | (simp only [push_nx, put_nx, del_nx]; omega) | (refine Nat.le_antisymm ?_ ?_ <;> simp only [push_nx, put_nx, del_nx] <;> omega) | fail) only [wpy, facts, wpb, cst, wpk, wpl, forall_const, implies_true, false_implies, Int.reduceLE, Int.reduceLT, Nat.reduceLeDiff, UInt8.reduceToNat, ↓reduceIte, Nat.reduceEqDiff, Nat.reduceAdd, reduceCtorEq, Int.reduceToNat, clsL, clsS, clsC, Tryz.f124, g7]
  refine draw_by [(5, 7), (2, 8), (5, 8)] (by kernel_rfl) ?_
  have wc : IntKind.u64.wrap c = c := u64_in _ (by have := hc.lo; omega)
  have w7 : c.tmod 65536 = c % 65536 := Int.tmod_eq_emod_of_nonneg hc.lo.1
  have zz : ∀ (a b : Option V), (if (65536 : Int) = 0 then a else b) = b := fun a b => if_neg (by decide)
  have l7 : 0 ≤ c % 65536 ∧ c % 65536 < 65536 := by omega
  simp +contextual (disch := first | (simp only [facts, clsL, clsS, clsC, isPtrD]; done) | omega | (simp only [push_nx, put_nx, del_nx]; omega) | (refine Nat.le_antisymm ?_ ?_ <;> simp only [push_nx, put_nx, del_nx] <;> omega) | fail) only [wpy, facts, wpb, cst, wpk, wpl, forall_const, implies_true, false_implies, Int.reduceLE, Int.reduceLT, Nat.reduceLeDiff, UInt8.reduceToNat, ↓reduceIte, Nat.reduceEqDiff, Nat.reduceAdd, reduceCtorEq, Int.reduceToNat, clsL, clsS, clsC, Tryz.f124, g7, wc, w7, zz]
  refine callF_pure (ob_rfixed hS o7 (by decide) (by omega) _ 2 (by decide) ⟨l7.1, l7.2⟩) ?_
  intro v8 h8 hx8 o8
  have n8 := hx8.1
  have g8 := (hx8.2 h.nx (by omega)).trans g7
  simp +contextual (disch := first | (simp only [facts, clsL, clsS, clsC, isPtrD]; done) | omega | (simp only [push_nx, put_nx, del_nx]; omega) | (refine Nat.le_antisymm ?_ ?_ <;> simp only [push_nx, put_nx, del_nx] <;> omega) | fail) only [wpy, facts, wpb, cst, wpk, wpl, forall_const, implies_true, false_implies, Int.reduceLE, Int.reduceLT, Nat.reduceLeDiff, UInt8.reduceToNat, ↓reduceIte, Nat.reduceEqDiff, Nat.reduceAdd, reduceCtorEq, Int.reduceToNat, clsL, clsS, clsC, Tryz.f124, g8]
  refine ob_one (n0 := h1.nx) (cc := 45) ap27 tx27 (by simp +contextual (disch := first | (simp only [facts, clsL, clsS, clsC, isPtrD]; done) | omega | (simp only [push_nx, put_nx, del_nx]; omega) | (refine Nat.le_antisymm ?_ ?_ <;> simp only [push_nx, put_nx, del_nx] <;> omega) | fail) only [wpy, facts, wpb, cst, wpk, wpl, forall_const, implies_true, false_implies, Int.reduceLE, Int.reduceLT, Nat.reduceLeDiff, UInt8.reduceToNat, ↓reduceIte, Nat.reduceEqDiff, Nat.reduceAdd, reduceCtorEq, Int.reduceToNat, clsL, clsS, clsC]) (by simp +contextual (disch := first | (simp only [facts, clsL, clsS, clsC, isPtrD]; done) | omega | (simp only [push_nx, put_nx, del_nx]; omega) | (refine Nat.le_antisymm ?_ ?_ <;> simp only [push_nx, put_nx, del_nx] <;> omega) | fail) only [wpy, facts, wpb, cst, wpk, wpl, forall_const, implies_true, false_implies, Int.reduceLE, Int.reduceLT, Nat.reduceLeDiff, UInt8.reduceToNat, ↓reduceIte, Nat.reduceEqDiff, Nat.reduceAdd, reduceCtorEq, Int.reduceToNat, clsL, clsS, clsC]) rfl o8 (by decide) (by decide) (fun k hk => by rw [fresh_def]; exact .inl (by omega)) (by omega) ?_
  intro v9 h9 L9 o9 hn9 hk9 hL9
  have g9 := (hk9 h.nx (by omega)).trans g8
  simp +contextual (disch := first | (simp only [facts, clsL, clsS, clsC, isPtrD]; done) | omega | (simp only [push_nx, put_nx, del_nx]; omega) | (refine Nat.le_antisymm ?_ ?_ <;> simp only [push_nx, put_nx, del_nx] <;> omega) | fail) only [wpy, facts, wpb, cst, wpk, wpl, forall_const, implies_true, false_implies, Int.reduceLE, Int.reduceLT, Nat.reduceLeDiff, UInt8.reduceToNat, ↓reduceIte, Nat.reduceEqDiff, Nat.reduceAdd, reduceCtorEq, Int.reduceToNat, clsL, clsS, clsC, Tryz.f124, g9]
  refine ⟨fun p hp => ?_, ?_⟩
  · have hl3 : ldL (some (1, false)) (V.ptr h.nx 3) = [.rd h.nx 3 1] := rfl
    have hl4 : ldL (some (1, false)) (V.ptr h.nx 4) = [.rd h.nx 4 1] := rfl
    rw [hl3, hl4]
    simp only [List.mem_cons, List.not_mem_nil, or_false] at hp
    rcases hp with rfl | rfl | rfl
    · exact pair_one rfl rfl (cl_rd0 (by omega))
    · exact pair_one rfl rfl (far (a := h8.nx) (one_lt (by show h.nx < h8.nx; omega)) (one_le (Nat.le_refl _)))
    · exact pair_one rfl rfl (cl_wrd0 (Nat.le_refl _))
  refine draw_by [(4, 6)] (by kernel_rfl) ?_
  have w2 : IntKind.u64.wrap 2 = 2 := u64_in _ (by decide)
  simp +contextual (disch := first | (simp only [facts, clsL, clsS, clsC, isPtrD]; done) | omega | (simp only [push_nx, put_nx, del_nx]; omega) | (refine Nat.le_antisymm ?_ ?_ <;> simp only [push_nx, put_nx, del_nx] <;> omega) | fail) only [wpy, facts, wpb, cst, wpk, wpl, forall_const, implies_true, false_implies, Int.reduceLE, Int.reduceLT, Nat.reduceLeDiff, UInt8.reduceToNat, ↓reduceIte, Nat.reduceEqDiff, Nat.reduceAdd, reduceCtorEq, Int.reduceToNat, clsL, clsS, clsC, Tryz.f124, g9, w2]
  refine callF_pure (ob_rfixed hS o9 (by decide) (by omega) 2 2 (by decide) (by decide)) ?_
  intro v10 h10 hx10 o10
  have n10 := hx10.1
  have g10 := (hx10.2 h.nx (by omega)).trans g9
  have t10 : c.tdiv 65536 = c / 65536 := Int.tdiv_eq_ediv_of_nonneg hc.lo.1
  have l10 : 0 ≤ c / 65536 ∧ c / 65536 < 65536 := by have := hc.lo; omega
  have w10 : IntKind.u64.wrap (c / 65536) = c / 65536 := u64_in _ (by omega)
  simp +contextual (disch := first | (simp only [facts, clsL, clsS, clsC, isPtrD]; done) | omega | (simp only [push_nx, put_nx, del_nx]; omega) | (refine Nat.le_antisymm ?_ ?_ <;> simp only [push_nx, put_nx, del_nx] <;> omega) | fail) only [wpy, facts, wpb, cst, wpk, wpl, forall_const, implies_true, false_implies, Int.reduceLE, Int.reduceLT, Nat.reduceLeDiff, UInt8.reduceToNat, ↓reduceIte, Nat.reduceEqDiff, Nat.reduceAdd, reduceCtorEq, Int.reduceToNat, clsL, clsS, clsC, Tryz.f124, g10, wc, t10, w10, zz]
  refine callF_pure (ob_rfixed hS o10 (by decide) (by omega) _ 2 (by decide) ⟨l10.1, l10.2⟩) ?_
  intro v11 h11 hx11 o11
  have n11 := hx11.1
  have g11 := (hx11.2 h.nx (by omega)).trans g10
  simp +contextual (disch := first | (simp only [facts, clsL, clsS, clsC, isPtrD]; done) | omega | (simp only [push_nx, put_nx, del_nx]; omega) | (refine Nat.le_antisymm ?_ ?_ <;> simp only [push_nx, put_nx, del_nx] <;> omega) | fail) only [wpy, facts, wpb, cst, wpk, wpl, forall_const, implies_true, false_implies, Int.reduceLE, Int.reduceLT, Nat.reduceLeDiff, UInt8.reduceToNat, ↓reduceIte, Nat.reduceEqDiff, Nat.reduceAdd, reduceCtorEq, Int.reduceToNat, clsL, clsS, clsC, Tryz.f124, g11]
  refine ⟨fun p hp => ?_, ?_⟩
  · have hl3 : ldL (some (1, false)) (V.ptr h.nx 3) = [.rd h.nx 3 1] := rfl
    rw [hl3]
    simp only [List.mem_cons, List.not_mem_nil, or_false] at hp
    rcases hp with rfl
    exact pair_one rfl rfl (cl_rd0 (by omega))
  refine callF_exact (rhas_spec hS _ _ _) ?_
  have q2 : ¬ iAnd .u32 c 524288 = 0 := by rw [hc.d]; decide
  simp +contextual (disch := first | (simp only [facts, clsL, clsS, clsC, isPtrD]; done) | omega | (simp only [push_nx, put_nx, del_nx]; omega) | (refine Nat.le_antisymm ?_ ?_ <;> simp only [push_nx, put_nx, del_nx] <;> omega) | fail) only [wpy, facts, wpb, cst, wpk, wpl, forall_const, implies_true, false_implies, Int.reduceLE, Int.reduceLT, Nat.reduceLeDiff, UInt8.reduceToNat, ↓reduceIte, Nat.reduceEqDiff, Nat.reduceAdd, reduceCtorEq, Int.reduceToNat, clsL, clsS, clsC, Tryz.f124, g11, q2]
  refine ob_one (n0 := h1.nx) (cc := 21) ap27 tx27 (by simp +contextual (disch := first | (simp only [facts, clsL, clsS, clsC, isPtrD]; done) | omega | (simp only [push_nx, put_nx, del_nx]; omega) | (refine Nat.le_antisymm ?_ ?_ <;> simp only [push_nx, put_nx, del_nx] <;> omega) | fail) only [wpy, facts, wpb, cst, wpk, wpl, forall_const, implies_true, false_implies, Int.reduceLE, Int.reduceLT, Nat.reduceLeDiff, UInt8.reduceToNat, ↓reduceIte, Nat.reduceEqDiff, Nat.reduceAdd, reduceCtorEq, Int.reduceToNat, clsL, clsS, clsC]) (by simp +contextual (disch := first | (simp only [facts, clsL, clsS, clsC, isPtrD]; done) | omega | (simp only [push_nx, put_nx, del_nx]; omega) | (refine Nat.le_antisymm ?_ ?_ <;> simp only [push_nx, put_nx, del_nx] <;> omega) | fail) only [wpy, facts, wpb, cst, wpk, wpl, forall_const, implies_true, false_implies, Int.reduceLE, Int.reduceLT, Nat.reduceLeDiff, UInt8.reduceToNat, ↓reduceIte, Nat.reduceEqDiff, Nat.reduceAdd, reduceCtorEq, Int.reduceToNat, clsL, clsS, clsC]) rfl o11 (by decide) (by decide) (fun k hk => by rw [fresh_def]; exact .inl (by omega)) (by omega) ?_
  intro v12 h12 L12 o12 hn12 hk12 hL12
  have g12 := (hk12 h.nx (by omega)).trans g11
  simp +contextual (disch := first | (simp only [facts, clsL, clsS, clsC, isPtrD]; done) | omega | (simp only [push_nx, put_nx, del_nx]; omega) | (refine Nat.le_antisymm ?_ ?_ <;> simp only [push_nx, put_nx, del_nx] <;> omega) | fail) only [wpy, facts, wpb, cst, wpk, wpl, forall_const, implies_true, false_implies, Int.reduceLE, Int.reduceLT, Nat.reduceLeDiff, UInt8.reduceToNat, ↓reduceIte, Nat.reduceEqDiff, Nat.reduceAdd, reduceCtorEq, Int.reduceToNat, clsL, clsS, clsC, Tryz.f124, g12]
  refine ob_made (n0 := h1.nx) rfl (by simp +contextual (disch := first | (simp only [facts, clsL, clsS, clsC, isPtrD]; done) | omega | (simp only [push_nx, put_nx, del_nx]; omega) | (refine Nat.le_antisymm ?_ ?_ <;> simp only [push_nx, put_nx, del_nx] <;> omega) | fail) only [wpy, facts, wpb, cst, wpk, wpl, forall_const, implies_true, false_implies, Int.reduceLE, Int.reduceLT, Nat.reduceLeDiff, UInt8.reduceToNat, ↓reduceIte, Nat.reduceEqDiff, Nat.reduceAdd, reduceCtorEq, Int.reduceToNat, clsL, clsS, clsC]) (by simp +contextual (disch := first | (simp only [facts, clsL, clsS, clsC, isPtrD]; done) | omega | (simp only [push_nx, put_nx, del_nx]; omega) | (refine Nat.le_antisymm ?_ ?_ <;> simp only [push_nx, put_nx, del_nx] <;> omega) | fail) only [wpy, facts, wpb, cst, wpk, wpl, forall_const, implies_true, false_implies, Int.reduceLE, Int.reduceLT, Nat.reduceLeDiff, UInt8.reduceToNat, ↓reduceIte, Nat.reduceEqDiff, Nat.reduceAdd, reduceCtorEq, Int.reduceToNat, clsL, clsS, clsC]) o12 (by decide) (fun k hk => by rw [fresh_def]; exact .inl (by omega)) (by omega) ?_
  intro v13 h13 L13 o13 hn13 hk13
  have g13 := (hk13 h.nx (by omega)).trans g12
  simp +contextual (disch := first | (simp only [facts, clsL, clsS, clsC, isPtrD]; done) | omega | (simp only [push_nx, put_nx, del_nx]; omega) | (refine Nat.le_antisymm ?_ ?_ <;> simp only [push_nx, put_nx, del_nx] <;> omega) | fail) only [wpy, facts, wpb, cst, wpk, wpl, forall_const, implies_true, false_implies, Int.reduceLE, Int.reduceLT, Nat.reduceLeDiff, UInt8.reduceToNat, ↓reduceIte, Nat.reduceEqDiff, Nat.reduceAdd, reduceCtorEq, Int.reduceToNat, clsL, clsS, clsC, Tryz.f124, g13]
  have z9 := a5.sub_ok (i := 8) (j := 20) (by omega) (by omega) q1 (mm := m0 - 8) (by omega)
  have kk : ∀ k, k < h.nx → h13.get k = h5.get k := fun k hk => by rw [hk13 k (by omega), hk12 k (by omega), hx11.2 k (by omega), hx10.2 k (by omega), hk9 k (by omega), hx8.2 k (by omega), hk7 k (by omega), hk6 k (by omega)]
  refine slice_row (e := 5) (sz := 1) (b := b0) (o := o0) (n := 20) (m := m0) (l := 8) (hh := 20) (mm := m0) (by kernel_rfl) (by kernel_rfl) (by simp +contextual (disch := first | (simp only [facts, clsL, clsS, clsC, isPtrD]; done) | omega | (simp only [push_nx, put_nx, del_nx]; omega) | (refine Nat.le_antisymm ?_ ?_ <;> simp only [push_nx, put_nx, del_nx] <;> omega) | fail) only [wpy, facts, wpb, cst, wpk, wpl, forall_const, implies_true, false_implies, Int.reduceLE, Int.reduceLT, Nat.reduceLeDiff, UInt8.reduceToNat, ↓reduceIte, Nat.reduceEqDiff, Nat.reduceAdd, reduceCtorEq, Int.reduceToNat, clsL, clsS, clsC]; exact q1) (by rw [kk b0 hb0]; exact z6) z7 (by simp +contextual (disch := first | (simp only [facts, clsL, clsS, clsC, isPtrD]; done) | omega | (simp only [push_nx, put_nx, del_nx]; omega) | (refine Nat.le_antisymm ?_ ?_ <;> simp only [push_nx, put_nx, del_nx] <;> omega) | fail) only [wpy, facts, wpb, cst, wpk, wpl, forall_const, implies_true, false_implies, Int.reduceLE, Int.reduceLT, Nat.reduceLeDiff, UInt8.reduceToNat, ↓reduceIte, Nat.reduceEqDiff, Nat.reduceAdd, reduceCtorEq, Int.reduceToNat, clsL, clsS, clsC]; exact bounds_lo (by decide) hm0) (by omega) ?_
  simp +contextual (disch := first | (simp only [facts, clsL, clsS, clsC, isPtrD]; done) | omega | (simp only [push_nx, put_nx, del_nx]; omega) | (refine Nat.le_antisymm ?_ ?_ <;> simp only [push_nx, put_nx, del_nx] <;> omega) | fail) only [wpy, facts, wpb, cst, wpk, wpl, forall_const, implies_true, false_implies, Int.reduceLE, Int.reduceLT, Nat.reduceLeDiff, UInt8.reduceToNat, ↓reduceIte, Nat.reduceEqDiff, Nat.reduceAdd, reduceCtorEq, Int.reduceToNat, clsL, clsS, clsC, Tryz.f124, g13]
  have z10 : BS 5 h13 _ _ := z9.keep (by omega) fun k _ hk => by obtain ⟨_, _, _, q⟩ := hk; cases q; exact kk b0 hb0
  refine ob_bs (n0 := h1.nx) (n := 12) ap27 tx27 (by simp +contextual (disch := first | (simp only [facts, clsL, clsS, clsC, isPtrD]; done) | omega | (simp only [push_nx, put_nx, del_nx]; omega) | (refine Nat.le_antisymm ?_ ?_ <;> simp only [push_nx, put_nx, del_nx] <;> omega) | fail) only [wpy, facts, wpb, cst, wpk, wpl, forall_const, implies_true, false_implies, Int.reduceLE, Int.reduceLT, Nat.reduceLeDiff, UInt8.reduceToNat, ↓reduceIte, Nat.reduceEqDiff, Nat.reduceAdd, reduceCtorEq, Int.reduceToNat, clsL, clsS, clsC]) (by simp +contextual (disch := first | (simp only [facts, clsL, clsS, clsC, isPtrD]; done) | omega | (simp only [push_nx, put_nx, del_nx]; omega) | (refine Nat.le_antisymm ?_ ?_ <;> simp only [push_nx, put_nx, del_nx] <;> omega) | fail) only [wpy, facts, wpb, cst, wpk, wpl, forall_const, implies_true, false_implies, Int.reduceLE, Int.reduceLT, Nat.reduceLeDiff, UInt8.reduceToNat, ↓reduceIte, Nat.reduceEqDiff, Nat.reduceAdd, reduceCtorEq, Int.reduceToNat, clsL, clsS, clsC]) o13 z10.src (by rw [List.length_drop, List.length_take, hl20]; decide) (by decide) (fun b q => (hn.2 b (List.mem_of_mem_take (List.mem_of_mem_drop q))).2.1) (fun k hk => by rw [fresh_def]; exact .inl (by omega)) (by omega) ?_
  intro v14 h14 L14 o14 hn14 hk14 hL14
  have g14 := (hk14 h.nx (by omega)).trans g13
  simp +contextual (disch := first | (simp only [facts, clsL, clsS, clsC, isPtrD]; done) | omega | (simp only [push_nx, put_nx, del_nx]; omega) | (refine Nat.le_antisymm ?_ ?_ <;> simp only [push_nx, put_nx, del_nx] <;> omega) | fail) only [wpy, facts, wpb, cst, wpk, wpl, forall_const, implies_true, false_implies, Int.reduceLE, Int.reduceLT, Nat.reduceLeDiff, UInt8.reduceToNat, ↓reduceIte, Nat.reduceEqDiff, Nat.reduceAdd, reduceCtorEq, Int.reduceToNat, clsL, clsS, clsC, Tryz.f124, g14]
  refine ob_one (n0 := h1.nx) (cc := 0) ap27 tx27 (by simp +contextual (disch := first | (simp only [facts, clsL, clsS, clsC, isPtrD]; done) | omega | (simp only [push_nx, put_nx, del_nx]; omega) | (refine Nat.le_antisymm ?_ ?_ <;> simp only [push_nx, put_nx, del_nx] <;> omega) | fail) only [wpy, facts, wpb, cst, wpk, wpl, forall_const, implies_true, false_implies, Int.reduceLE, Int.reduceLT, Nat.reduceLeDiff, UInt8.reduceToNat, ↓reduceIte, Nat.reduceEqDiff, Nat.reduceAdd, reduceCtorEq, Int.reduceToNat, clsL, clsS, clsC]) (by simp +contextual (disch := first | (simp only [facts, clsL, clsS, clsC, isPtrD]; done) | omega | (simp only [push_nx, put_nx, del_nx]; omega) | (refine Nat.le_antisymm ?_ ?_ <;> simp only [push_nx, put_nx, del_nx] <;> omega) | fail) only [wpy, facts, wpb, cst, wpk, wpl, forall_const, implies_true, false_implies, Int.reduceLE, Int.reduceLT, Nat.reduceLeDiff, UInt8.reduceToNat, ↓reduceIte, Nat.reduceEqDiff, Nat.reduceAdd, reduceCtorEq, Int.reduceToNat, clsL, clsS, clsC]) rfl o14 (by decide) (by decide) (fun k hk => by rw [fresh_def]; exact .inl (by omega)) (by omega) ?_
  intro v15 h15 L15 o15 hn15 hk15 hL15
  have g15 := (hk15 h.nx (by omega)).trans g14
  simp +contextual (disch := first | (simp only [facts, clsL, clsS, clsC, isPtrD]; done) | omega | (simp only [push_nx, put_nx, del_nx]; omega) | (refine Nat.le_antisymm ?_ ?_ <;> simp only [push_nx, put_nx, del_nx] <;> omega) | fail) only [wpy, facts, wpb, cst, wpk, wpl, forall_const, implies_true, false_implies, Int.reduceLE, Int.reduceLT, Nat.reduceLeDiff, UInt8.reduceToNat, ↓reduceIte, Nat.reduceEqDiff, Nat.reduceAdd, reduceCtorEq, Int.reduceToNat, clsL, clsS, clsC, Tryz.f124, g15]
  refine callF_pure (ob_rended hS o15 (by decide) (by omega)) ?_
  intro v16 h16 hx16 o16
  have n16 := hx16.1
  simp +contextual (disch := first | (simp only [facts, clsL, clsS, clsC, isPtrD]; done) | omega | (simp only [push_nx, put_nx, del_nx]; omega) | (refine Nat.le_antisymm ?_ ?_ <;> simp only [push_nx, put_nx, del_nx] <;> omega) | fail) only [wpy, facts, wpb, cst, wpk, wpl, forall_const, implies_true, false_implies, Int.reduceLE, Int.reduceLT, Nat.reduceLeDiff, UInt8.reduceToNat, ↓reduceIte, Nat.reduceEqDiff, Nat.reduceAdd, reduceCtorEq, Int.reduceToNat, clsL, clsS, clsC, Tryz.f124]
  refine ⟨⟨by omega, fun k hk => by rw [hx16.2 k (by omega), hk15 k (by omega), hk14 k (by omega), kk k hk, hx5.2 k (by omega), hx4.2 k (by omega), hk3 k (by omega), k2 k (by omega), hxB.2 k (by omega), hxh1.2 k hk]⟩, fun q => absurd q hz, v16, rfl, ?_⟩
  obtain ⟨l, a, b1, _⟩ := o16
  have a' := a.acc b1
  rcases a' with ⟨q, _⟩ | ⟨b, n, _, _, q, _⟩ <;> rw [q] <;> exact ⟨rfl, rfl⟩
end
end Go.Proofs.YthhdkonpejmgcaaGreatDoor

/-
  Families checked, by the program and by the document's answer, whatever they are.
-/
set_option linter.unusedSimpArgs false
set_option linter.unusedVariables false
set_option linter.defProp false
set_option linter.unusedSectionVars false
set_option maxRecDepth 10000
namespace Go.Proofs.YthhdkonpejmgcaaGreatDoor
open Go.Proofs Go.Lx Go.Wx Go.IntWalk
noncomputable section
def goodS (ts : List (List Nat)) (i : Nat) : Prop := ∃ h : i < ts.length, ts[i] ≠ [] ∧ ts[i].length ≤ 64 ∧ 0 ∉ ts[i] ∧ ts[i] ∉ ts.take i
def headS (ts : List (List Nat)) (r : Int) : Prop := 1 ≤ ts.length ∧ ts.length ≤ 16 ∧ 0 ≤ r ∧ r ≤ 8
def okS (ts : List (List Nat)) (r : Int) : Prop := headS ts r ∧ ∀ i, i < ts.length → goodS ts i
noncomputable def famF (ts : List (List Nat)) (r : Int) : Int := @ite Int (okS ts r) (Classical.propDecidable _) 0 2
def Fam (h : H) (lv : V) (ts : List (List Nat)) : Prop := (lv = .nilslice ∧ ts = []) ∨ ∃ b m, lv = .slice b 0 ts.length m ∧ ts.length ≤ m ∧ b < h.nx ∧ h.get b = some (.ro (ts.map V.str))
theorem Fam.len {h : H} {lv : V} {ts : List (List Nat)} (hf : Fam h lv ts) : lenO (some (.slice 9)) lv = some (.int .i64 ts.length) := by
  rcases hf with ⟨rfl, rfl⟩ | ⟨b, m, rfl, _⟩ <;> rfl
theorem Fam.cell {h : H} {lv : V} {ts : List (List Nat)} (hf : Fam h lv ts) : lv.isCell = true ∧ lv.cells = [lv] := by
  rcases hf with ⟨rfl, _⟩ | ⟨b, m, rfl, _⟩ <;> exact ⟨rfl, rfl⟩
theorem Fam.ext {h h' : H} {lv : V} {ts : List (List Nat)} (hf : Fam h lv ts) (hx : Ext h h') : Fam h' lv ts := by
  rcases hf with h1 | ⟨b, m, h1, h2, h3, h4⟩
  · exact .inl h1
  · exact .inr ⟨b, m, h1, h2, Nat.lt_of_lt_of_le h3 hx.1, by rw [hx.2 b h3]; exact h4⟩
theorem Fam.at {h : H} {lv : V} {ts : List (List Nat)} (hf : Fam h lv ts) {i : Nat} (hi : i < ts.length) : ∃ b m, lv = .slice b 0 ts.length m ∧ ts.length ≤ m ∧ b < h.nx ∧ h.get b = some (.ro (ts.map V.str)) ∧ (ts.map V.str)[i]? = some (.str ts[i]) := by
  rcases hf with ⟨_, rfl⟩ | ⟨b, m, h1, h2, h3, h4⟩
  · cases hi
  · exact ⟨b, m, h1, h2, h3, h4, by rw [List.getElem?_map, List.getElem?_eq_getElem hi]; rfl⟩


theorem famF_yes {ts : List (List Nat)} {r : Int} (h : okS ts r) : famF ts r = 0 := by unfold famF; rw [if_pos h]
theorem famF_no {ts : List (List Nat)} {r : Int} (h : ¬ okS ts r) : famF ts r = 2 := by unfold famF; rw [if_neg h]
def upS (ts : List (List Nat)) (r : Int) (i : Nat) : Prop := headS ts r ∧ ∀ j, j < i → goodS ts j
theorem upS_zero {ts : List (List Nat)} {r : Int} : upS ts r 0 ↔ headS ts r := ⟨fun h => h.1, fun h => ⟨h, fun j hj => absurd hj (by omega)⟩⟩
theorem upS_succ {ts : List (List Nat)} {r : Int} {i : Nat} : upS ts r (i + 1) ↔ upS ts r i ∧ goodS ts i := by
  constructor
  · intro h
    exact ⟨⟨h.1, fun j hj => h.2 j (by omega)⟩, h.2 i (by omega)⟩
  · rintro ⟨h1, h2⟩
    refine ⟨h1.1, fun j hj => ?_⟩
    by_cases e : j = i
    · rw [e]; exact h2
    · exact h1.2 j (by omega)
theorem upS_all {ts : List (List Nat)} {r : Int} : upS ts r ts.length ↔ okS ts r := Iff.rfl

variable {S : Set0} (hS : StdU S)
include hS
set_option maxHeartbeats 1000000 in
theorem mcheck_spec (a r : Int) (lv : V) (ts : List (List Nat)) (h : H) (hf : Fam h lv ts) (hl : ts.length ≤ 1000) : Pure S.cfg 66 [.agg [.int .u64 a, lv, .int .i64 r]] h fun v _ => v = .int .i64 (famF ts r) := by
  refine into Tryz.f66 _ Tryz.func66 (hS.own _ (by decide)) rfl rfl (by kernel_rfl) (by kernel_rfl) ?_
  have a1 := hf.len
  obtain ⟨c1, c2⟩ := hf.cell
  simp +contextual (disch := first | (simp only [facts, clsL, clsS, clsC, isPtrD]; done) | omega | (simp only [push_nx, put_nx, del_nx]; omega) | (refine Nat.le_antisymm ?_ ?_ <;> simp only [push_nx, put_nx, del_nx] <;> omega) | fail) only [wpy, facts, wpb, cst, wpk, wpl, forall_const, implies_true, false_implies, Int.reduceLE, Int.reduceLT, Nat.reduceLeDiff, UInt8.reduceToNat, ↓reduceIte, Nat.reduceEqDiff, Nat.reduceAdd, reduceCtorEq, Int.reduceToNat, clsL, clsS, clsC, Tryz.f66, a1, c1, c2]
  refine run_loop (fun k env h' => ∃ i : Nat, k = ts.length - i ∧ i ≤ ts.length ∧ env 1 = .ptr h.nx 0 ∧ env 3 = bo (upS ts r i) ∧ env 27 = lv ∧ env 28 = .int .i64 ts.length ∧ env 29 = .int .i64 i ∧ Ext h h' ∧ h.nx + 1 ≤ h'.nx ∧ h'.get h.nx = some (.cells [.int .u64 a, lv, .int .i64 r] 38 false)) ts.length ⟨0, ?_⟩ ?_
  · simp +contextual (disch := first | (simp only [facts, clsL, clsS, clsC, isPtrD]; done) | omega | (simp only [push_nx, put_nx, del_nx]; omega) | (refine Nat.le_antisymm ?_ ?_ <;> simp only [push_nx, put_nx, del_nx] <;> omega) | fail) only [wpy, facts, wpb, cst, wpk, wpl, forall_const, implies_true, false_implies, Int.reduceLE, Int.reduceLT, Nat.reduceLeDiff, UInt8.reduceToNat, ↓reduceIte, Nat.reduceEqDiff, Nat.reduceAdd, reduceCtorEq, Int.reduceToNat, clsL, clsS, clsC]
    refine ⟨by simp, ?_, (Ext.refl h).push _⟩
    congr 1
    rw [eq_iff_iff, upS_zero]
    unfold headS
    omega
  rintro k env h' ⟨i, rfl, hi, e1, e3, e27, e28, e29, hx, hn, hg⟩
  have hnb : ¬ h.nx = h'.nx := by omega
  by_cases hi2 : i < ts.length
  · obtain ⟨b, m, rfl, hm, hb, hgb, hgi⟩ := hf.at hi2
    have hgb' : h'.get b = some (.ro (ts.map V.str)) := by rw [hx.2 b hb]; exact hgb
    have hbn : ¬ b = h'.nx := by have := hx.1; omega
    have hbn' : ¬ b = h.nx := by omega
    by_cases hP : upS ts r i
    · rw [eq_true hP] at e3
      by_cases hq0 : ts[i] = []
      · have hng : ¬ upS ts r (i + 1) := fun q => (upS_succ.1 q).2.2.1 hq0
        simp +contextual (disch := first | (simp only [facts, clsL, clsS, clsC, isPtrD]; done) | omega | (simp only [push_nx, put_nx, del_nx]; omega) | (refine Nat.le_antisymm ?_ ?_ <;> simp only [push_nx, put_nx, del_nx] <;> omega) | fail) only [wpy, facts, wpb, cst, wpk, wpl, forall_const, implies_true, false_implies, Int.reduceLE, Int.reduceLT, Nat.reduceLeDiff, UInt8.reduceToNat, ↓reduceIte, Nat.reduceEqDiff, Nat.reduceAdd, reduceCtorEq, Int.reduceToNat, clsL, clsS, clsC, Tryz.f66, e1, e3, e27, e28, e29, hg, hgb', hgi, hi2, hnb, hq0]
        refine ⟨_, ?_, i + 1, rfl, by omega, ?_, rfl, hx, hn⟩
        · omega
        · rw [eq_false hng]
      · by_cases hq1 : ts[i].length ≤ 64
        · simp +contextual (disch := first | (simp only [facts, clsL, clsS, clsC, isPtrD]; done) | omega | (simp only [push_nx, put_nx, del_nx]; omega) | (refine Nat.le_antisymm ?_ ?_ <;> simp only [push_nx, put_nx, del_nx] <;> omega) | fail) only [wpy, facts, wpb, cst, wpk, wpl, forall_const, implies_true, false_implies, Int.reduceLE, Int.reduceLT, Nat.reduceLeDiff, UInt8.reduceToNat, ↓reduceIte, Nat.reduceEqDiff, Nat.reduceAdd, reduceCtorEq, Int.reduceToNat, clsL, clsS, clsC, Tryz.f66, e1, e3, e27, e28, e29, hg, hgb', hgi, hi2, hnb, hq0, hq1]
          refine callF_exact (conB_spec hS ts[i] _ _ _ _ _ _ rfl (by omega) (push_eq rfl)) ?_
          by_cases hq2 : 0 ∈ ts[i]
          · have hng : ¬ upS ts r (i + 1) := fun q => (upS_succ.1 q).2.2.2.2.1 hq2
            simp +contextual (disch := first | (simp only [facts, clsL, clsS, clsC, isPtrD]; done) | omega | (simp only [push_nx, put_nx, del_nx]; omega) | (refine Nat.le_antisymm ?_ ?_ <;> simp only [push_nx, put_nx, del_nx] <;> omega) | fail) only [wpy, facts, wpb, cst, wpk, wpl, forall_const, implies_true, false_implies, Int.reduceLE, Int.reduceLT, Nat.reduceLeDiff, UInt8.reduceToNat, ↓reduceIte, Nat.reduceEqDiff, Nat.reduceAdd, reduceCtorEq, Int.reduceToNat, clsL, clsS, clsC, Tryz.f66, e1, e3, e27, e28, e29, hg, hgb', hgi, hi2, hnb, hq0, hq1, hq2]
            refine ⟨_, ?_, i + 1, rfl, by omega, ?_, rfl, hx.push _, by omega⟩
            · omega
            · rw [eq_false hng]
          · simp +contextual (disch := first | (simp only [facts, clsL, clsS, clsC, isPtrD]; done) | omega | (simp only [push_nx, put_nx, del_nx]; omega) | (refine Nat.le_antisymm ?_ ?_ <;> simp only [push_nx, put_nx, del_nx] <;> omega) | fail) only [wpy, facts, wpb, cst, wpk, wpl, forall_const, implies_true, false_implies, Int.reduceLE, Int.reduceLT, Nat.reduceLeDiff, UInt8.reduceToNat, ↓reduceIte, Nat.reduceEqDiff, Nat.reduceAdd, reduceCtorEq, Int.reduceToNat, clsL, clsS, clsC, Tryz.f66, e1, e3, e27, e28, e29, hg, hgb', hgi, hi2, hnb, hbn, hq0, hq1, hq2]
            refine slice_row (e := 9) (kc := ts.length) (e' := 0) (fl := false) (sz := 1) (b := b) (o := 0) (n := ts.length) (m := m) (l := 0) (hh := i) (mm := m) (by kernel_rfl) (by kernel_rfl) ?_ ?_ (fun q => by cases q) ?_ (by omega) ?_
            · simp +contextual (disch := first | (simp only [facts, clsL, clsS, clsC, isPtrD]; done) | omega | (simp only [push_nx, put_nx, del_nx]; omega) | (refine Nat.le_antisymm ?_ ?_ <;> simp only [push_nx, put_nx, del_nx] <;> omega) | fail) only [wpy, facts, wpb, cst, wpk, wpl, forall_const, implies_true, false_implies, Int.reduceLE, Int.reduceLT, Nat.reduceLeDiff, UInt8.reduceToNat, ↓reduceIte, Nat.reduceEqDiff, Nat.reduceAdd, reduceCtorEq, Int.reduceToNat, clsL, clsS, clsC, e1, e27, hg]
            · rw [push_ne hbn, hgb']
              first | rfl | simp [blkSO, blkS]
            · simp +contextual (disch := first | (simp only [facts, clsL, clsS, clsC, isPtrD]; done) | omega | (simp only [push_nx, put_nx, del_nx]; omega) | (refine Nat.le_antisymm ?_ ?_ <;> simp only [push_nx, put_nx, del_nx] <;> omega) | fail) only [wpy, facts, wpb, cst, wpk, wpl, forall_const, implies_true, false_implies, Int.reduceLE, Int.reduceLT, Nat.reduceLeDiff, UInt8.reduceToNat, ↓reduceIte, Nat.reduceEqDiff, Nat.reduceAdd, reduceCtorEq, Int.reduceToNat, clsL, clsS, clsC, e29]
              exact bounds_hi (by omega)
            simp +contextual (disch := first | (simp only [facts, clsL, clsS, clsC, isPtrD]; done) | omega | (simp only [push_nx, put_nx, del_nx]; omega) | (refine Nat.le_antisymm ?_ ?_ <;> simp only [push_nx, put_nx, del_nx] <;> omega) | fail) only [wpy, facts, wpb, cst, wpk, wpl, forall_const, implies_true, false_implies, Int.reduceLE, Int.reduceLT, Nat.reduceLeDiff, UInt8.reduceToNat, ↓reduceIte, Nat.reduceEqDiff, Nat.reduceAdd, reduceCtorEq, Int.reduceToNat, clsL, clsS, clsC, Tryz.f66, e1, e3, e27, e28, e29, hg, hgb', hgi, hi2, hnb, hbn, hq0, hq1, hq2]
            refine callF_exact (conS_spec hS ts ts[i] b i m _ (by omega) (by omega) ?_) ?_
            · rw [push_ne hbn]; exact hgb'
            simp +contextual (disch := first | (simp only [facts, clsL, clsS, clsC, isPtrD]; done) | omega | (simp only [push_nx, put_nx, del_nx]; omega) | (refine Nat.le_antisymm ?_ ?_ <;> simp only [push_nx, put_nx, del_nx] <;> omega) | fail) only [wpy, facts, wpb, cst, wpk, wpl, forall_const, implies_true, false_implies, Int.reduceLE, Int.reduceLT, Nat.reduceLeDiff, UInt8.reduceToNat, ↓reduceIte, Nat.reduceEqDiff, Nat.reduceAdd, reduceCtorEq, Int.reduceToNat, clsL, clsS, clsC, Tryz.f66, e1, e3, e27, e28, e29, hg, hgb', hgi, hi2, hnb, hbn, hq0, hq1, hq2]
            refine ⟨_, ?_, i + 1, rfl, by omega, ?_, rfl, hx.push _, by omega⟩
            · omega
            · have : upS ts r (i + 1) ↔ ts[i] ∉ ts.take i := by
                rw [upS_succ]
                exact ⟨fun q => q.2.2.2.2.2, fun q => ⟨hP, hi2, hq0, hq1, hq2, q⟩⟩
              rw [propext this]
        · have hng : ¬ upS ts r (i + 1) := fun q => hq1 (upS_succ.1 q).2.2.2.1
          simp +contextual (disch := first | (simp only [facts, clsL, clsS, clsC, isPtrD]; done) | omega | (simp only [push_nx, put_nx, del_nx]; omega) | (refine Nat.le_antisymm ?_ ?_ <;> simp only [push_nx, put_nx, del_nx] <;> omega) | fail) only [wpy, facts, wpb, cst, wpk, wpl, forall_const, implies_true, false_implies, Int.reduceLE, Int.reduceLT, Nat.reduceLeDiff, UInt8.reduceToNat, ↓reduceIte, Nat.reduceEqDiff, Nat.reduceAdd, reduceCtorEq, Int.reduceToNat, clsL, clsS, clsC, Tryz.f66, e1, e3, e27, e28, e29, hg, hgb', hgi, hi2, hnb, hq0, hq1]
          refine ⟨_, ?_, i + 1, rfl, by omega, ?_, rfl, hx, hn⟩
          · omega
          · rw [eq_false hng]
    · have hng : ¬ upS ts r (i + 1) := fun q => hP (upS_succ.1 q).1
      rw [eq_false hP] at e3
      simp +contextual (disch := first | (simp only [facts, clsL, clsS, clsC, isPtrD]; done) | omega | (simp only [push_nx, put_nx, del_nx]; omega) | (refine Nat.le_antisymm ?_ ?_ <;> simp only [push_nx, put_nx, del_nx] <;> omega) | fail) only [wpy, facts, wpb, cst, wpk, wpl, forall_const, implies_true, false_implies, Int.reduceLE, Int.reduceLT, Nat.reduceLeDiff, UInt8.reduceToNat, ↓reduceIte, Nat.reduceEqDiff, Nat.reduceAdd, reduceCtorEq, Int.reduceToNat, clsL, clsS, clsC, Tryz.f66, e1, e3, e27, e28, e29, hg, hgb', hgi, hi2, hnb]
      refine ⟨_, ?_, i + 1, rfl, by omega, ?_, rfl, hx, hn⟩
      · omega
      · rw [eq_false hng]
  · obtain rfl : i = ts.length := by omega
    by_cases hP : upS ts r ts.length
    · rw [eq_true hP] at e3
      simp +contextual (disch := first | (simp only [facts, clsL, clsS, clsC, isPtrD]; done) | omega | (simp only [push_nx, put_nx, del_nx]; omega) | (refine Nat.le_antisymm ?_ ?_ <;> simp only [push_nx, put_nx, del_nx] <;> omega) | fail) only [wpy, facts, wpb, cst, wpk, wpl, forall_const, implies_true, false_implies, Int.reduceLE, Int.reduceLT, Nat.reduceLeDiff, UInt8.reduceToNat, ↓reduceIte, Nat.reduceEqDiff, Nat.reduceAdd, reduceCtorEq, Int.reduceToNat, clsL, clsS, clsC, Tryz.f66, e1, e3, e27, e28, e29, hi2]
      rw [famF_yes (upS_all.1 hP)]
      exact ⟨hx, rfl⟩
    · rw [eq_false hP] at e3
      simp +contextual (disch := first | (simp only [facts, clsL, clsS, clsC, isPtrD]; done) | omega | (simp only [push_nx, put_nx, del_nx]; omega) | (refine Nat.le_antisymm ?_ ?_ <;> simp only [push_nx, put_nx, del_nx] <;> omega) | fail) only [wpy, facts, wpb, cst, wpk, wpl, forall_const, implies_true, false_implies, Int.reduceLE, Int.reduceLT, Nat.reduceLeDiff, UInt8.reduceToNat, ↓reduceIte, Nat.reduceEqDiff, Nat.reduceAdd, reduceCtorEq, Int.reduceToNat, clsL, clsS, clsC, Tryz.f66, e1, e3, e27, e28, e29, hi2]
      rw [famF_no fun q => hP (upS_all.2 q)]
      exact ⟨hx, rfl⟩
set_option maxHeartbeats 1000000 in
theorem rmcheck_spec (a r : Int) (lv : V) (ts : List (List Nat)) (h : H) (hf : Fam h lv ts) (hl : ts.length ≤ 1000) : Pure S.cfg 71 [.agg [.int .u64 a, lv, .int .i64 r]] h fun v _ => v = .int .i64 (famF ts r) := by
  refine into Tryz.f71 _ Tryz.func71 (hS.own _ (by decide)) rfl rfl (by kernel_rfl) (by kernel_rfl) ?_
  have a1 := hf.len
  obtain ⟨c1, c2⟩ := hf.cell
  simp +contextual (disch := first | (simp only [facts, clsL, clsS, clsC, isPtrD]; done) | omega | (simp only [push_nx, put_nx, del_nx]; omega) | (refine Nat.le_antisymm ?_ ?_ <;> simp only [push_nx, put_nx, del_nx] <;> omega) | fail) only [wpy, facts, wpb, cst, wpk, wpl, forall_const, implies_true, false_implies, Int.reduceLE, Int.reduceLT, Nat.reduceLeDiff, UInt8.reduceToNat, ↓reduceIte, Nat.reduceEqDiff, Nat.reduceAdd, reduceCtorEq, Int.reduceToNat, clsL, clsS, clsC, Tryz.f71, a1, c1, c2]
  refine ⟨fun q => ?_, fun q => ?_⟩
  · rw [famF_no]
    · exact ⟨(Ext.refl h).push _, rfl⟩
    · intro w
      have := w.1
      unfold headS at this
      omega
  have hhd : headS ts r := by unfold headS; omega
  have hgx : (h.push (Ob.cells [.int .u64 a, lv, .int .i64 r] 38 false)).get h.nx = some (Ob.cells [.int .u64 a, lv, .int .i64 r] 38 false) := push_eq rfl
  refine run_loop (fun k env h' => ∃ i : Nat, k = ts.length - i ∧ i ≤ ts.length ∧ env 1 = .ptr h.nx 0 ∧ env 3 = .int .i64 i ∧ h' = h.push (.cells [.int .u64 a, lv, .int .i64 r] 38 false) ∧ ∀ j, j < i → goodS ts j) ts.length ⟨0, ?_⟩ ?_
  · simp +contextual (disch := first | (simp only [facts, clsL, clsS, clsC, isPtrD]; done) | omega | (simp only [push_nx, put_nx, del_nx]; omega) | (refine Nat.le_antisymm ?_ ?_ <;> simp only [push_nx, put_nx, del_nx] <;> omega) | fail) only [wpy, facts, wpb, cst, wpk, wpl, forall_const, implies_true, false_implies, Int.reduceLE, Int.reduceLT, Nat.reduceLeDiff, UInt8.reduceToNat, ↓reduceIte, Nat.reduceEqDiff, Nat.reduceAdd, reduceCtorEq, Int.reduceToNat, clsL, clsS, clsC]
    exact ⟨by simp, fun j hj => absurd hj (by omega)⟩
  rintro k env h' ⟨i, rfl, hi, e1, e3, rfl, hgood⟩
  by_cases hi2 : i < ts.length
  · obtain ⟨b, m, rfl, hm, hb, hgb, hgi⟩ := hf.at hi2
    have hbn : ¬ b = h.nx := by omega
    have hgb' : (h.push (Ob.cells [.int .u64 a, .slice b 0 ts.length m, .int .i64 r] 38 false)).get b = some (.ro (ts.map V.str)) := by rw [push_ne hbn]; exact hgb
    by_cases hq : ts[i] = [] ∨ 64 < ts[i].length
    · have hng : ¬ okS ts r := fun q => by
        obtain ⟨_, g1, g2, _⟩ := q.2 i hi2
        rcases hq with hq | hq
        · exact g1 hq
        · omega
      rw [famF_no hng]
      simp +contextual (disch := first | (simp only [facts, clsL, clsS, clsC, isPtrD]; done) | omega | (simp only [push_nx, put_nx, del_nx]; omega) | (refine Nat.le_antisymm ?_ ?_ <;> simp only [push_nx, put_nx, del_nx] <;> omega) | fail) only [wpy, facts, wpb, cst, wpk, wpl, forall_const, implies_true, false_implies, Int.reduceLE, Int.reduceLT, Nat.reduceLeDiff, UInt8.reduceToNat, ↓reduceIte, Nat.reduceEqDiff, Nat.reduceAdd, reduceCtorEq, Int.reduceToNat, clsL, clsS, clsC, Tryz.f71, e1, e3, hgb', hgx, hgi, hi2, hbn]
      exact ⟨fun _ => (Ext.refl _).push _, fun w => absurd hq w⟩
    · have hq0 : ¬ ts[i] = [] := fun q => hq (.inl q)
      have hq1 : ts[i].length ≤ 64 := by omega
      have hq1' : ¬ 64 < ts[i].length := by omega
      simp +contextual (disch := first | (simp only [facts, clsL, clsS, clsC, isPtrD]; done) | omega | (simp only [push_nx, put_nx, del_nx]; omega) | (refine Nat.le_antisymm ?_ ?_ <;> simp only [push_nx, put_nx, del_nx] <;> omega) | fail) only [wpy, facts, wpb, cst, wpk, wpl, forall_const, implies_true, false_implies, Int.reduceLE, Int.reduceLT, Nat.reduceLeDiff, UInt8.reduceToNat, ↓reduceIte, Nat.reduceEqDiff, Nat.reduceAdd, reduceCtorEq, Int.reduceToNat, clsL, clsS, clsC, Tryz.f71, e1, e3, hgb', hgx, hgi, hi2, hbn, hq0, hq1, hq1']
      refine run_loop (fun k env h' => ∃ j : Nat, k = ts[i].length - j ∧ j ≤ ts[i].length ∧ env 1 = .ptr h.nx 0 ∧ env 3 = .int .i64 i ∧ env 4 = .str ts[i] ∧ env 5 = .int .i64 j ∧ h' = h.push (.cells [.int .u64 a, .slice b 0 ts.length m, .int .i64 r] 38 false) ∧ 0 ∉ ts[i].take j) ts[i].length ⟨0, ?_⟩ ?_
      · simp +contextual (disch := first | (simp only [facts, clsL, clsS, clsC, isPtrD]; done) | omega | (simp only [push_nx, put_nx, del_nx]; omega) | (refine Nat.le_antisymm ?_ ?_ <;> simp only [push_nx, put_nx, del_nx] <;> omega) | fail) only [wpy, facts, wpb, cst, wpk, wpl, forall_const, implies_true, false_implies, Int.reduceLE, Int.reduceLT, Nat.reduceLeDiff, UInt8.reduceToNat, ↓reduceIte, Nat.reduceEqDiff, Nat.reduceAdd, reduceCtorEq, Int.reduceToNat, clsL, clsS, clsC]
        exact ⟨by simp, e1, e3, by simp⟩
      rintro k env h' ⟨j, rfl, hj, e1, e3, e4, e5, rfl, hno⟩
      by_cases hj2 : j < ts[i].length
      · have hgj : ts[i][j]? = some ts[i][j] := List.getElem?_eq_getElem hj2
        by_cases hz : ts[i][j] = 0
        · have hng : ¬ okS ts r := fun q => by
            obtain ⟨_, _, _, g3, _⟩ := q.2 i hi2
            exact g3 (hz ▸ List.getElem_mem hj2)
          rw [famF_no hng]
          simp +contextual (disch := first | (simp only [facts, clsL, clsS, clsC, isPtrD]; done) | omega | (simp only [push_nx, put_nx, del_nx]; omega) | (refine Nat.le_antisymm ?_ ?_ <;> simp only [push_nx, put_nx, del_nx] <;> omega) | fail) only [wpy, facts, wpb, cst, wpk, wpl, forall_const, implies_true, false_implies, Int.reduceLE, Int.reduceLT, Nat.reduceLeDiff, UInt8.reduceToNat, ↓reduceIte, Nat.reduceEqDiff, Nat.reduceAdd, reduceCtorEq, Int.reduceToNat, clsL, clsS, clsC, Tryz.f71, e1, e3, e4, e5, hgb', hgx, hgj, hj2, hz]
          exact ⟨fun _ => (Ext.refl _).push _, fun w => absurd (by rw [getD_at hj2]; exact hz) w⟩
        · simp +contextual (disch := first | (simp only [facts, clsL, clsS, clsC, isPtrD]; done) | omega | (simp only [push_nx, put_nx, del_nx]; omega) | (refine Nat.le_antisymm ?_ ?_ <;> simp only [push_nx, put_nx, del_nx] <;> omega) | fail) only [wpy, facts, wpb, cst, wpk, wpl, forall_const, implies_true, false_implies, Int.reduceLE, Int.reduceLT, Nat.reduceLeDiff, UInt8.reduceToNat, ↓reduceIte, Nat.reduceEqDiff, Nat.reduceAdd, reduceCtorEq, Int.reduceToNat, clsL, clsS, clsC, Tryz.f71, e1, e3, e4, e5, hgb', hgx, hgj, hj2, hz]
          refine ⟨fun w => absurd (by rw [← getD_at hj2]; exact w) hz, fun _ => ⟨_, ?_, j + 1, rfl, by omega, rfl, ?_⟩⟩
          · omega
          rw [List.take_succ_eq_append_getElem hj2, List.mem_append]
          rintro (q | q)
          · exact hno q
          · rw [List.mem_singleton] at q
            exact hz q.symm
      · rw [List.take_of_length_le (by omega)] at hno
        simp +contextual (disch := first | (simp only [facts, clsL, clsS, clsC, isPtrD]; done) | omega | (simp only [push_nx, put_nx, del_nx]; omega) | (refine Nat.le_antisymm ?_ ?_ <;> simp only [push_nx, put_nx, del_nx] <;> omega) | fail) only [wpy, facts, wpb, cst, wpk, wpl, forall_const, implies_true, false_implies, Int.reduceLE, Int.reduceLT, Nat.reduceLeDiff, UInt8.reduceToNat, ↓reduceIte, Nat.reduceEqDiff, Nat.reduceAdd, reduceCtorEq, Int.reduceToNat, clsL, clsS, clsC, Tryz.f71, e1, e3, e4, e5, hgb', hgx, hj2]
        refine run_loop (fun k env h' => ∃ j : Nat, k = i - j ∧ j ≤ i ∧ env 1 = .ptr h.nx 0 ∧ env 3 = .int .i64 i ∧ env 4 = .str ts[i] ∧ env 6 = .int .i64 j ∧ h' = h.push (.cells [.int .u64 a, .slice b 0 ts.length m, .int .i64 r] 38 false) ∧ ts[i] ∉ ts.take j) i ⟨0, ?_⟩ ?_
        · simp +contextual (disch := first | (simp only [facts, clsL, clsS, clsC, isPtrD]; done) | omega | (simp only [push_nx, put_nx, del_nx]; omega) | (refine Nat.le_antisymm ?_ ?_ <;> simp only [push_nx, put_nx, del_nx] <;> omega) | fail) only [wpy, facts, wpb, cst, wpk, wpl, forall_const, implies_true, false_implies, Int.reduceLE, Int.reduceLT, Nat.reduceLeDiff, UInt8.reduceToNat, ↓reduceIte, Nat.reduceEqDiff, Nat.reduceAdd, reduceCtorEq, Int.reduceToNat, clsL, clsS, clsC]
          exact ⟨by simp, e1, e3, e4, by simp⟩
        rintro k env h' ⟨j, rfl, hj, e1, e3, e4, e6, rfl, hno2⟩
        by_cases hj2 : j < i
        · have hj3 : j < ts.length := by omega
          have hgj : (ts.map V.str)[j]? = some (.str ts[j]) := by rw [List.getElem?_map, List.getElem?_eq_getElem hj3]; rfl
          by_cases hz : ts[j] = ts[i]
          · have hng : ¬ okS ts r := fun q => by
              obtain ⟨_, _, _, _, g4⟩ := q.2 i hi2
              exact g4 (List.mem_take_iff_getElem.2 ⟨j, by omega, hz⟩)
            rw [famF_no hng]
            simp +contextual (disch := first | (simp only [facts, clsL, clsS, clsC, isPtrD]; done) | omega | (simp only [push_nx, put_nx, del_nx]; omega) | (refine Nat.le_antisymm ?_ ?_ <;> simp only [push_nx, put_nx, del_nx] <;> omega) | fail) only [wpy, facts, wpb, cst, wpk, wpl, forall_const, implies_true, false_implies, Int.reduceLE, Int.reduceLT, Nat.reduceLeDiff, UInt8.reduceToNat, ↓reduceIte, Nat.reduceEqDiff, Nat.reduceAdd, reduceCtorEq, Int.reduceToNat, clsL, clsS, clsC, Tryz.f71, e1, e3, e4, e6, hgb', hgx, hgj, hj2, hj3, hz]
            exact (Ext.refl _).push _
          · simp +contextual (disch := first | (simp only [facts, clsL, clsS, clsC, isPtrD]; done) | omega | (simp only [push_nx, put_nx, del_nx]; omega) | (refine Nat.le_antisymm ?_ ?_ <;> simp only [push_nx, put_nx, del_nx] <;> omega) | fail) only [wpy, facts, wpb, cst, wpk, wpl, forall_const, implies_true, false_implies, Int.reduceLE, Int.reduceLT, Nat.reduceLeDiff, UInt8.reduceToNat, ↓reduceIte, Nat.reduceEqDiff, Nat.reduceAdd, reduceCtorEq, Int.reduceToNat, clsL, clsS, clsC, Tryz.f71, e1, e3, e4, e6, hgb', hgx, hgj, hj2, hj3, hz]
            refine ⟨_, ?_, j + 1, rfl, by omega, rfl, ?_⟩
            · omega
            rw [List.take_succ_eq_append_getElem hj3, List.mem_append]
            rintro (q | q)
            · exact hno2 q
            · rw [List.mem_singleton] at q
              exact hz q.symm
        · obtain rfl : j = i := by omega
          simp +contextual (disch := first | (simp only [facts, clsL, clsS, clsC, isPtrD]; done) | omega | (simp only [push_nx, put_nx, del_nx]; omega) | (refine Nat.le_antisymm ?_ ?_ <;> simp only [push_nx, put_nx, del_nx] <;> omega) | fail) only [wpy, facts, wpb, cst, wpk, wpl, forall_const, implies_true, false_implies, Int.reduceLE, Int.reduceLT, Nat.reduceLeDiff, UInt8.reduceToNat, ↓reduceIte, Nat.reduceEqDiff, Nat.reduceAdd, reduceCtorEq, Int.reduceToNat, clsL, clsS, clsC, Tryz.f71, e1, e3, e4, e6, hgb', hgx, hj2]
          refine ⟨_, ?_, j + 1, rfl, by omega, rfl, fun k hk => ?_⟩
          · omega
          by_cases hkj : k < j
          · exact hgood k hkj
          · obtain rfl : k = j := by omega
            exact ⟨hi2, hq0, hq1, hno, hno2⟩
  · obtain rfl : i = ts.length := by omega
    simp +contextual (disch := first | (simp only [facts, clsL, clsS, clsC, isPtrD]; done) | omega | (simp only [push_nx, put_nx, del_nx]; omega) | (refine Nat.le_antisymm ?_ ?_ <;> simp only [push_nx, put_nx, del_nx] <;> omega) | fail) only [wpy, facts, wpb, cst, wpk, wpl, forall_const, implies_true, false_implies, Int.reduceLE, Int.reduceLT, Nat.reduceLeDiff, UInt8.reduceToNat, ↓reduceIte, Nat.reduceEqDiff, Nat.reduceAdd, reduceCtorEq, Int.reduceToNat, clsL, clsS, clsC, Tryz.f71, e1, e3, a1, hgx, hi2]
    rw [famF_yes ⟨hhd, hgood⟩]
    exact ⟨(Ext.refl _).push _, rfl⟩
end
end Go.Proofs.YthhdkonpejmgcaaGreatDoor

/-
  Doors made, by the program and by the document: which may be.
-/
set_option linter.unusedSimpArgs false
set_option linter.unusedVariables false
set_option linter.unusedSectionVars false
set_option linter.defProp false
set_option maxRecDepth 20000
set_option maxHeartbeats 2000000
namespace Go.Proofs.YthhdkonpejmgcaaGreatDoor
open Go.Proofs Go.Lx Go.Wx Go.IntWalk
noncomputable section

def usC (us : List UR) : List V := us.flatMap UR.cells
theorem usC_len : ∀ us : List UR, (usC us).length = us.length * 5
  | [] => rfl
  | u :: us => by
    show (u.cells ++ usC us).length = _
    rw [List.length_append, usC_len us, List.length_cons]
    show 5 + us.length * 5 = _
    omega
theorem usC_at : ∀ (us : List UR) (i : Nat) (hi : i < us.length), ((usC us).drop (i * 5)).take 5 = us[i].cells
  | u :: us, 0, _ => rfl
  | u :: us, i + 1, hi => by
    have e : usC (u :: us) = u.cells ++ usC us := rfl
    rw [e, show (i + 1) * 5 = 5 + i * 5 by omega, ← List.drop_drop]
    exact usC_at us i (by simpa using hi)
theorem usC_name : ∀ (us : List UR) (i : Nat) (hi : i < us.length) (h : i * 5 < (usC us).length), (usC us)[i * 5] = .str us[i].n
  | u :: us, 0, _, _ => rfl
  | u :: us, i + 1, hi, h => by
    have e : (usC (u :: us))[(i + 1) * 5]? = (usC us)[i * 5]? := by
      show (u.cells ++ usC us)[(i + 1) * 5]? = _
      rw [List.getElem?_append_right (by show 5 ≤ (i + 1) * 5; omega)]
      show (usC us)[(i + 1) * 5 - 5]? = _
      rw [show (i + 1) * 5 - 5 = i * 5 by omega]
    have hi' : i < us.length := by simpa using hi
    have hl : i * 5 < (usC us).length := by rw [usC_len]; omega
    rw [List.getElem?_eq_getElem h, List.getElem?_eq_getElem hl, usC_name us i hi' hl] at e
    exact Option.some.inj e
def userM (b : Nat) : List UR → List ME
  | [] => []
  | u :: l => ⟨.str u.n, .agg u.cells, b⟩ :: userM (b + 1) l
theorem userM_snoc (u : UR) : ∀ (l : List UR) (b : Nat), userM b (l ++ [u]) = userM b l ++ [⟨.str u.n, .agg u.cells, b + l.length⟩]
  | [], b => by simp [userM]
  | x :: l, b => by simp [userM, userM_snoc u l (b + 1)]; omega
theorem findV_user (s : List Nat) : ∀ (l : List UR) (b i : Nat), (s ∈ l.map UR.n → ∃ j u, findV .string (.str s) (userM b l) i = some (some (j, .agg (UR.cells u)))) ∧ (s ∉ l.map UR.n → findV .string (.str s) (userM b l) i = some none)
  | [], b, i => ⟨fun h => (by cases h), fun _ => rfl⟩
  | x :: l, b, i => by
    obtain ⟨h1, h2⟩ := findV_user s l (b + 1) (i + 1)
    have e : findV .string (.str s) (userM b (x :: l)) i = (match some (eqNats s x.n) with
      | some true => some (some (i, V.agg x.cells))
      | some false => findV .string (.str s) (userM (b + 1) l) (i + 1)
      | none => none) := rfl
    rw [e]
    by_cases hx : s = x.n
    · have : eqNats s x.n = true := Wx.eqNats_iff.2 hx
      rw [this]
      refine ⟨fun _ => ⟨i, x, rfl⟩, fun h => ?_⟩
      exact absurd (by rw [hx]; simp) h
    · have : eqNats s x.n = false := by
        cases hq : eqNats s x.n with
        | false => rfl
        | true => exact absurd (Wx.eqNats_iff.1 hq) hx
      rw [this]
      simp only
      refine ⟨fun h => h1 ?_, fun h => h2 ?_⟩
      · rw [List.map_cons] at h
        rcases List.mem_cons.1 h with rfl | h
        · exact absurd rfl hx
        · exact h
      · exact fun q => h (by rw [List.map_cons]; exact .tail _ q)
def usersP (us : List UR) : Prop := ∀ i, (h : i < us.length) → userP us[i] ∧ us[i].n ∉ (us.take i).map UR.n
def doorP (us : List UR) (ver : List Nat) : Prop := us.length ≤ 64 ∧ usersP us ∧ 0 ∉ ver
noncomputable def doorE (us : List UR) (ver : List Nat) : Int := @ite Int (doorP us ver) (Classical.propDecidable _) 0 2
theorem doorE_yes {us : List UR} {ver : List Nat} (h : doorP us ver) : doorE us ver = 0 := by unfold doorE; rw [if_pos h]
theorem doorE_no {us : List UR} {ver : List Nat} (h : ¬ doorP us ver) : doorE us ver = 2 := by unfold doorE; rw [if_neg h]
abbrev UB (h : H) (v : V) (us : List UR) : Prop := RW 34 5 us.length h v (usC us)
theorem rw_src {e : TypeId} {sz n : Nat} {h : H} {v : V} {cells : List V} (a : RW e sz n h v cells) : Src h v cells sz := by
  rcases a.2 with ⟨q, q2⟩ | ⟨b, o, m, q1, q2, q3, q4, _⟩
  · exact .inl ⟨q, List.eq_nil_of_length_eq_zero (by rw [a.1, q2, Nat.zero_mul])⟩
  · exact .inr ⟨b, o, n, m, q1, q2, q4, a.1⟩
theorem tx32 : ∃ d, Tryz.prog.underlying 32 = some d ∧ isIntD d = false := ⟨.slice 34, by kernel_rfl, rfl⟩
theorem usC_all (us : List UR) : (usC us).all V.isCell = true := by
  rw [List.all_eq_true]
  intro x hx
  obtain ⟨u, _, hu⟩ := List.mem_flatMap.1 hx
  unfold UR.cells at hu
  simp only [List.mem_cons, List.not_mem_nil, or_false] at hu
  rcases hu with rfl | rfl | rfl | rfl | rfl <;> rfl
theorem map223 : mapI Tryz.prog 223 = some (.string, .agg [.str [], .str [], .str [], .str [], .bool false]) := by kernel_rfl
variable {S : Set0} (hS : StdU S)
include hS
theorem needed_spec (h : H) : Exact S.cfg 31 [] h (.int .u32 565760) := by
  refine into Tryz.f31 _ Tryz.func31 (hS.own _ (by decide)) rfl rfl (by kernel_rfl) (by kernel_rfl) ?_
  simp +contextual (disch := first | (simp only [facts, clsL, clsS, clsC, isPtrD]; done) | omega | (simp only [push_nx, put_nx, del_nx]; omega) | (refine Nat.le_antisymm ?_ ?_ <;> simp only [push_nx, put_nx, del_nx] <;> omega) | fail) only [wpy, facts, wpb, cst, wpk, wpl, forall_const, implies_true, false_implies, Int.reduceLE, Int.reduceLT, Nat.reduceLeDiff, UInt8.reduceToNat, ↓reduceIte, Nat.reduceEqDiff, Nat.reduceAdd, reduceCtorEq, Int.reduceToNat, clsL, clsS, clsC, Tryz.f31]
theorem rneeded_spec (h : H) : Exact S.cfg 200 [] h (.int .u32 565760) := by
  refine into Tryz.f200 _ Tryz.func200 (hS.own _ (by decide)) rfl rfl (by kernel_rfl) (by kernel_rfl) ?_
  simp +contextual (disch := first | (simp only [facts, clsL, clsS, clsC, isPtrD]; done) | omega | (simp only [push_nx, put_nx, del_nx]; omega) | (refine Nat.le_antisymm ?_ ?_ <;> simp only [push_nx, put_nx, del_nx] <;> omega) | fail) only [wpy, facts, wpb, cst, wpk, wpl, forall_const, implies_true, false_implies, Int.reduceLE, Int.reduceLT, Nat.reduceLeDiff, UInt8.reduceToNat, ↓reduceIte, Nat.reduceEqDiff, Nat.reduceAdd, reduceCtorEq, Int.reduceToNat, clsL, clsS, clsC, Tryz.f200]
theorem ccheck_spec {c : Int} (hc : CapsOk c) (h : H) : Exact S.cfg 75 [.int .u32 c] h (.int .i64 0) := by
  refine into Tryz.f75 _ Tryz.func75 (hS.own _ (by decide)) rfl rfl (by kernel_rfl) (by kernel_rfl) ?_
  simp +contextual (disch := first | (simp only [facts, clsL, clsS, clsC, isPtrD]; done) | omega | (simp only [push_nx, put_nx, del_nx]; omega) | (refine Nat.le_antisymm ?_ ?_ <;> simp only [push_nx, put_nx, del_nx] <;> omega) | fail) only [wpy, facts, wpb, cst, wpk, wpl, forall_const, implies_true, false_implies, Int.reduceLE, Int.reduceLT, Nat.reduceLeDiff, UInt8.reduceToNat, ↓reduceIte, Nat.reduceEqDiff, Nat.reduceAdd, reduceCtorEq, Int.reduceToNat, clsL, clsS, clsC, Tryz.f75]
  refine callF_exact (needed_spec hS _) ?_
  simp +contextual (disch := first | (simp only [facts, clsL, clsS, clsC, isPtrD]; done) | omega | (simp only [push_nx, put_nx, del_nx]; omega) | (refine Nat.le_antisymm ?_ ?_ <;> simp only [push_nx, put_nx, del_nx] <;> omega) | fail) only [wpy, facts, wpb, cst, wpk, wpl, forall_const, implies_true, false_implies, Int.reduceLE, Int.reduceLT, Nat.reduceLeDiff, UInt8.reduceToNat, ↓reduceIte, Nat.reduceEqDiff, Nat.reduceAdd, reduceCtorEq, Int.reduceToNat, clsL, clsS, clsC, Tryz.f75]
  refine callF_exact (needed_spec hS _) ?_
  have q := eq_true hc.a
  simp +contextual (disch := first | (simp only [facts, clsL, clsS, clsC, isPtrD]; done) | omega | (simp only [push_nx, put_nx, del_nx]; omega) | (refine Nat.le_antisymm ?_ ?_ <;> simp only [push_nx, put_nx, del_nx] <;> omega) | fail) only [wpy, facts, wpb, cst, wpk, wpl, forall_const, implies_true, false_implies, Int.reduceLE, Int.reduceLT, Nat.reduceLeDiff, UInt8.reduceToNat, ↓reduceIte, Nat.reduceEqDiff, Nat.reduceAdd, reduceCtorEq, Int.reduceToNat, clsL, clsS, clsC, Tryz.f75, q]
theorem rccheck_spec {c : Int} (hc : CapsOk c) (h : H) : Exact S.cfg 125 [.int .u32 c] h (.int .i64 0) := by
  refine into Tryz.f125 _ Tryz.func125 (hS.own _ (by decide)) rfl rfl (by kernel_rfl) (by kernel_rfl) ?_
  simp +contextual (disch := first | (simp only [facts, clsL, clsS, clsC, isPtrD]; done) | omega | (simp only [push_nx, put_nx, del_nx]; omega) | (refine Nat.le_antisymm ?_ ?_ <;> simp only [push_nx, put_nx, del_nx] <;> omega) | fail) only [wpy, facts, wpb, cst, wpk, wpl, forall_const, implies_true, false_implies, Int.reduceLE, Int.reduceLT, Nat.reduceLeDiff, UInt8.reduceToNat, ↓reduceIte, Nat.reduceEqDiff, Nat.reduceAdd, reduceCtorEq, Int.reduceToNat, clsL, clsS, clsC, Tryz.f125]
  refine callF_exact (rneeded_spec hS _) ?_
  simp +contextual (disch := first | (simp only [facts, clsL, clsS, clsC, isPtrD]; done) | omega | (simp only [push_nx, put_nx, del_nx]; omega) | (refine Nat.le_antisymm ?_ ?_ <;> simp only [push_nx, put_nx, del_nx] <;> omega) | fail) only [wpy, facts, wpb, cst, wpk, wpl, forall_const, implies_true, false_implies, Int.reduceLE, Int.reduceLT, Nat.reduceLeDiff, UInt8.reduceToNat, ↓reduceIte, Nat.reduceEqDiff, Nat.reduceAdd, reduceCtorEq, Int.reduceToNat, clsL, clsS, clsC, Tryz.f125]
  refine callF_exact (rneeded_spec hS _) ?_
  have q := eq_true hc.a
  simp +contextual (disch := first | (simp only [facts, clsL, clsS, clsC, isPtrD]; done) | omega | (simp only [push_nx, put_nx, del_nx]; omega) | (refine Nat.le_antisymm ?_ ?_ <;> simp only [push_nx, put_nx, del_nx] <;> omega) | fail) only [wpy, facts, wpb, cst, wpk, wpl, forall_const, implies_true, false_implies, Int.reduceLE, Int.reduceLT, Nat.reduceLeDiff, UInt8.reduceToNat, ↓reduceIte, Nat.reduceEqDiff, Nat.reduceAdd, reduceCtorEq, Int.reduceToNat, clsL, clsS, clsC, Tryz.f125, q]
theorem door_spec {v : V} {us : List UR} {ver : List Nat} {nv : V} {nl : List Nat} {c : Int} {h : H} (au : UB h v us) (hus : us.length ≤ 1000) (uok : ∀ u ∈ us, URok u) (a : BS 5 h nv nl) (hn : NonceOk nl) (hc : CapsOk c) (hv : ver.length ≤ 3000) (hb : ∀ x ∈ ver, x < 256) : Pure S.cfg 60 [v, .agg (greetC ver nv c)] h fun w h' => ∃ p, w = .tuple [p, .int .i64 (doorE us ver)] := by
  refine into Tryz.f60 _ Tryz.func60 (hS.own _ (by decide)) rfl rfl (by kernel_rfl) (by kernel_rfl) ?_
  obtain ⟨x1, x2⟩ := a.cell
  have gs := fun h (a : BS 5 h nv nl) => greet_spec hS (ver := ver) a hn hc hv hb
  have a1 := au.len 34
  unfold greetC at gs ⊢
  simp +contextual (disch := first | (simp only [facts, clsL, clsS, clsC, isPtrD]; done) | omega | (simp only [push_nx, put_nx, del_nx]; omega) | (refine Nat.le_antisymm ?_ ?_ <;> simp only [push_nx, put_nx, del_nx] <;> omega) | fail) only [wpy, facts, wpb, cst, wpk, wpl, forall_const, implies_true, false_implies, Int.reduceLE, Int.reduceLT, Nat.reduceLeDiff, UInt8.reduceToNat, ↓reduceIte, Nat.reduceEqDiff, Nat.reduceAdd, reduceCtorEq, Int.reduceToNat, clsL, clsS, clsC, Tryz.f60, x1, x2, opW_makeMap0, a1]
  generalize hhA : H.push h _ = hA
  have hxA : Ext h hA := by rw [← hhA]; exact (Ext.refl h).push _
  have gA : hA.get h.nx = some (.cells (greetC ver nv c) 141 false) := by rw [← hhA]; exact push_eq rfl
  have nA : hA.nx = h.nx + 1 := by rw [← hhA]; rfl
  clear hhA
  unfold greetC at gA
  generalize hhB : H.push hA _ = hB
  have hxB : Ext hA hB := by rw [← hhB]; exact (Ext.refl hA).push _
  have gB : hB.get hA.nx = some (.map [] 0) := by rw [← hhB]; exact push_eq rfl
  have nB : hB.nx = hA.nx + 1 := by rw [← hhB]; rfl
  have gB1 := (hxB.2 h.nx (by omega)).trans gA
  clear hhB
  refine run_blk_cut (fun env h' => env 0 = v ∧ env 3 = .ptr h.nx 0 ∧ env 6 = .map hA.nx ∧ hB.nx ≤ h'.nx ∧ (∀ k, k < h.nx → h'.get k = h.get k) ∧ h'.get h.nx = hA.get h.nx ∧ usersP us) ?_ ?_
  · refine run_loop (fun k env h' => ∃ i : Nat, k = us.length - i ∧ i ≤ us.length ∧ env 0 = v ∧ env 3 = .ptr h.nx 0 ∧ env 6 = .map hA.nx ∧ env 15 = v ∧ env 16 = .int .i64 us.length ∧ env 17 = .int .i64 i ∧ hB.nx ≤ h'.nx ∧ (∀ k, k < h.nx → h'.get k = h.get k) ∧ h'.get h.nx = hA.get h.nx ∧ h'.get hA.nx = some (.map (userM 0 (us.take i)) i) ∧ ∀ j, (hj : j < us.length) → j < i → userP us[j] ∧ us[j].n ∉ (us.take j).map UR.n) us.length ⟨0, ?_⟩ ?_
    · simp +contextual (disch := first | (simp only [facts, clsL, clsS, clsC, isPtrD]; done) | omega | (simp only [push_nx, put_nx, del_nx]; omega) | (refine Nat.le_antisymm ?_ ?_ <;> simp only [push_nx, put_nx, del_nx] <;> omega) | fail) only [wpy, facts, wpb, cst, wpk, wpl, forall_const, implies_true, false_implies, Int.reduceLE, Int.reduceLT, Nat.reduceLeDiff, UInt8.reduceToNat, ↓reduceIte, Nat.reduceEqDiff, Nat.reduceAdd, reduceCtorEq, Int.reduceToNat, clsL, clsS, clsC, nA]
      exact ⟨rfl, fun k hk => (hxB.2 k (by omega)).trans (hxA.2 k hk), hxB.2 h.nx (by omega), by rw [← nA]; exact gB, fun j hj q => absurd q (by omega)⟩
    rintro k env h' ⟨i, rfl, hi, e0, e3, e6, e15, e16, e17, hn', hk', hg', hm', hu'⟩
    by_cases hin : i < us.length
    · have au' : UB h' v us := au.keep (by omega) fun k hk _ => hk' k hk
      obtain ⟨b, o, m, rfl⟩ := au'.at (by omega)
      obtain ⟨_, hb', _, hr⟩ := au'.rd
      have hri := hr (i * 5) 5 (by rw [usC_len]; omega)
      rw [usC_at us i hin] at hri
      unfold UR.cells at hri
      simp +contextual (disch := first | (simp only [facts, clsL, clsS, clsC, isPtrD]; done) | omega | (simp only [push_nx, put_nx, del_nx]; omega) | (refine Nat.le_antisymm ?_ ?_ <;> simp only [push_nx, put_nx, del_nx] <;> omega) | fail) only [wpy, facts, wpb, cst, wpk, wpl, forall_const, implies_true, false_implies, Int.reduceLE, Int.reduceLT, Nat.reduceLeDiff, UInt8.reduceToNat, ↓reduceIte, Nat.reduceEqDiff, Nat.reduceAdd, reduceCtorEq, Int.reduceToNat, clsL, clsS, clsC, Tryz.f60, e0, e3, e6, e15, e16, e17, hin, hri]
      refine ⟨.inr (by omega), ?_⟩
      generalize hhC : H.put (H.push h' _) h'.nx _ = hC
      have xC : ∀ k, k < h'.nx → hC.get k = h'.get k := fun k hk => by rw [← hhC, put_ne (by omega), push_ne (by omega)]
      have nC : hC.nx = h'.nx + 1 := by rw [← hhC]; rfl
      have gC : hC.get h'.nx = some (.cells us[i].cells 34 false) := by rw [← hhC]; exact put_eq rfl
      clear hhC
      have gC1 := (xC hA.nx (by omega)).trans hm'
      have uok1 := uok _ (List.getElem_mem hin)
      obtain ⟨f1, f2⟩ := findV_user us[i].n (us.take i) 0 0
      by_cases htw : us[i].n ∈ (us.take i).map UR.n
      · obtain ⟨j, u', hf⟩ := f1 htw
        rw [doorE_no fun q => (q.2.1 i hin).2 htw]
        refine lookup_by (q := some (j, .agg u'.cells)) (by simp +contextual (disch := first | (simp only [facts, clsL, clsS, clsC, isPtrD]; done) | omega | (simp only [push_nx, put_nx, del_nx]; omega) | (refine Nat.le_antisymm ?_ ?_ <;> simp only [push_nx, put_nx, del_nx] <;> omega) | fail) only [wpy, facts, wpb, cst, wpk, wpl, forall_const, implies_true, false_implies, Int.reduceLE, Int.reduceLT, Nat.reduceLeDiff, UInt8.reduceToNat, ↓reduceIte, Nat.reduceEqDiff, Nat.reduceAdd, reduceCtorEq, Int.reduceToNat, clsL, clsS, clsC]) (by simp +contextual (disch := first | (simp only [facts, clsL, clsS, clsC, isPtrD]; done) | omega | (simp only [push_nx, put_nx, del_nx]; omega) | (refine Nat.le_antisymm ?_ ?_ <;> simp only [push_nx, put_nx, del_nx] <;> omega) | fail) only [wpy, facts, wpb, cst, wpk, wpl, forall_const, implies_true, false_implies, Int.reduceLE, Int.reduceLT, Nat.reduceLeDiff, UInt8.reduceToNat, ↓reduceIte, Nat.reduceEqDiff, Nat.reduceAdd, reduceCtorEq, Int.reduceToNat, clsL, clsS, clsC]) map223 rfl gC1 hf ?_
        unfold UR.cells
        simp +contextual (disch := first | (simp only [facts, clsL, clsS, clsC, isPtrD]; done) | omega | (simp only [push_nx, put_nx, del_nx]; omega) | (refine Nat.le_antisymm ?_ ?_ <;> simp only [push_nx, put_nx, del_nx] <;> omega) | fail) only [wpy, facts, wpb, cst, wpk, wpl, forall_const, implies_true, false_implies, Int.reduceLE, Int.reduceLT, Nat.reduceLeDiff, UInt8.reduceToNat, ↓reduceIte, Nat.reduceEqDiff, Nat.reduceAdd, reduceCtorEq, Int.reduceToNat, clsL, clsS, clsC, Tryz.f60, e0, e3, e6, e15, e16, e17, lkV, cond_true]
        exact ⟨.inr (by omega), ⟨Nat.le_trans (by omega) (Nat.le_succ hC.nx), fun k hk => by rw [put_ne (by omega), push_ne (by omega), xC k (by omega), hk' k hk]⟩, _, rfl⟩
      · refine lookup_by (q := none) (by simp +contextual (disch := first | (simp only [facts, clsL, clsS, clsC, isPtrD]; done) | omega | (simp only [push_nx, put_nx, del_nx]; omega) | (refine Nat.le_antisymm ?_ ?_ <;> simp only [push_nx, put_nx, del_nx] <;> omega) | fail) only [wpy, facts, wpb, cst, wpk, wpl, forall_const, implies_true, false_implies, Int.reduceLE, Int.reduceLT, Nat.reduceLeDiff, UInt8.reduceToNat, ↓reduceIte, Nat.reduceEqDiff, Nat.reduceAdd, reduceCtorEq, Int.reduceToNat, clsL, clsS, clsC]) (by simp +contextual (disch := first | (simp only [facts, clsL, clsS, clsC, isPtrD]; done) | omega | (simp only [push_nx, put_nx, del_nx]; omega) | (refine Nat.le_antisymm ?_ ?_ <;> simp only [push_nx, put_nx, del_nx] <;> omega) | fail) only [wpy, facts, wpb, cst, wpk, wpl, forall_const, implies_true, false_implies, Int.reduceLE, Int.reduceLT, Nat.reduceLeDiff, UInt8.reduceToNat, ↓reduceIte, Nat.reduceEqDiff, Nat.reduceAdd, reduceCtorEq, Int.reduceToNat, clsL, clsS, clsC]) map223 rfl gC1 (f2 htw) ?_
        unfold UR.cells at gC
        simp +contextual (disch := first | (simp only [facts, clsL, clsS, clsC, isPtrD]; done) | omega | (simp only [push_nx, put_nx, del_nx]; omega) | (refine Nat.le_antisymm ?_ ?_ <;> simp only [push_nx, put_nx, del_nx] <;> omega) | fail) only [wpy, facts, wpb, cst, wpk, wpl, forall_const, implies_true, false_implies, Int.reduceLE, Int.reduceLT, Nat.reduceLeDiff, UInt8.reduceToNat, ↓reduceIte, Nat.reduceEqDiff, Nat.reduceAdd, reduceCtorEq, Int.reduceToNat, clsL, clsS, clsC, Tryz.f60, e0, e3, e6, e15, e16, e17, lkV, cond_true, gC]
        refine ⟨.inr (by omega), ?_⟩
        generalize hhD : H.put (H.push hC _) hC.nx _ = hD
        have xD : ∀ k, k < hC.nx → hD.get k = hC.get k := fun k hk => by rw [← hhD, put_ne (by omega), push_ne (by omega)]
        have nD : hD.nx = hC.nx + 1 := by rw [← hhD]; rfl
        clear hhD
        refine callF_pure (lcheck_spec hS us[i] uok1 _) ?_
        rintro _ h2 hx2 rfl
        have n2 := hx2.1
        have kk : ∀ k, k < h'.nx → h2.get k = h'.get k := fun k hk => by rw [hx2.2 k (by omega), xD k (by omega), xC k (by omega)]
        by_cases hup : userP us[i]
        · have g2 := (hx2.2 h'.nx (by omega)).trans ((xD h'.nx (by omega)).trans gC)
          have gm2 := (kk hA.nx (by omega)).trans hm'
          rw [userE_yes hup]
          simp +contextual (disch := first | (simp only [facts, clsL, clsS, clsC, isPtrD]; done) | omega | (simp only [push_nx, put_nx, del_nx]; omega) | (refine Nat.le_antisymm ?_ ?_ <;> simp only [push_nx, put_nx, del_nx] <;> omega) | fail) only [wpy, facts, wpb, cst, wpk, wpl, forall_const, implies_true, false_implies, Int.reduceLE, Int.reduceLT, Nat.reduceLeDiff, UInt8.reduceToNat, ↓reduceIte, Nat.reduceEqDiff, Nat.reduceAdd, reduceCtorEq, Int.reduceToNat, clsL, clsS, clsC, Tryz.f60, e0, e3, e6, e15, e16, e17, g2]
          refine update_new (xv := .agg us[i].cells) (by simp +contextual (disch := first | (simp only [facts, clsL, clsS, clsC, isPtrD]; done) | omega | (simp only [push_nx, put_nx, del_nx]; omega) | (refine Nat.le_antisymm ?_ ?_ <;> simp only [push_nx, put_nx, del_nx] <;> omega) | fail) only [wpy, facts, wpb, cst, wpk, wpl, forall_const, implies_true, false_implies, Int.reduceLE, Int.reduceLT, Nat.reduceLeDiff, UInt8.reduceToNat, ↓reduceIte, Nat.reduceEqDiff, Nat.reduceAdd, reduceCtorEq, Int.reduceToNat, clsL, clsS, clsC]) (by simp +contextual (disch := first | (simp only [facts, clsL, clsS, clsC, isPtrD]; done) | omega | (simp only [push_nx, put_nx, del_nx]; omega) | (refine Nat.le_antisymm ?_ ?_ <;> simp only [push_nx, put_nx, del_nx] <;> omega) | fail) only [wpy, facts, wpb, cst, wpk, wpl, forall_const, implies_true, false_implies, Int.reduceLE, Int.reduceLT, Nat.reduceLeDiff, UInt8.reduceToNat, ↓reduceIte, Nat.reduceEqDiff, Nat.reduceAdd, reduceCtorEq, Int.reduceToNat, clsL, clsS, clsC]) (by unfold UR.cells; simp +contextual (disch := first | (simp only [facts, clsL, clsS, clsC, isPtrD]; done) | omega | (simp only [push_nx, put_nx, del_nx]; omega) | (refine Nat.le_antisymm ?_ ?_ <;> simp only [push_nx, put_nx, del_nx] <;> omega) | fail) only [wpy, facts, wpb, cst, wpk, wpl, forall_const, implies_true, false_implies, Int.reduceLE, Int.reduceLT, Nat.reduceLeDiff, UInt8.reduceToNat, ↓reduceIte, Nat.reduceEqDiff, Nat.reduceAdd, reduceCtorEq, Int.reduceToNat, clsL, clsS, clsC]) map223 rfl gm2 (f2 htw) (.inr (by rw [fresh_def]; exact .inl (by omega))) ?_
          simp +contextual (disch := first | (simp only [facts, clsL, clsS, clsC, isPtrD]; done) | omega | (simp only [push_nx, put_nx, del_nx]; omega) | (refine Nat.le_antisymm ?_ ?_ <;> simp only [push_nx, put_nx, del_nx] <;> omega) | fail) only [wpy, facts, wpb, cst, wpk, wpl, forall_const, implies_true, false_implies, Int.reduceLE, Int.reduceLT, Nat.reduceLeDiff, UInt8.reduceToNat, ↓reduceIte, Nat.reduceEqDiff, Nat.reduceAdd, reduceCtorEq, Int.reduceToNat, clsL, clsS, clsC, Tryz.f60, e0, e3, e6, e15, e16, e17]
          refine ⟨us.length - (i + 1), by omega, i + 1, rfl, by omega, rfl, by omega, fun k hk => by rw [kk k (by omega), hk' k hk], by rw [kk h.nx (by omega)]; exact hg', ?_, fun j hj q => ?_⟩
          · rw [List.take_succ_eq_append_getElem hin, userM_snoc, List.length_take, Nat.min_eq_left (by omega), Nat.zero_add]
          · by_cases hji : j < i
            · exact hu' j hj hji
            · obtain rfl : j = i := by omega
              exact ⟨hup, htw⟩
        · rw [userE_no hup, doorE_no fun q => hup (q.2.1 i hin).1]
          simp +contextual (disch := first | (simp only [facts, clsL, clsS, clsC, isPtrD]; done) | omega | (simp only [push_nx, put_nx, del_nx]; omega) | (refine Nat.le_antisymm ?_ ?_ <;> simp only [push_nx, put_nx, del_nx] <;> omega) | fail) only [wpy, facts, wpb, cst, wpk, wpl, forall_const, implies_true, false_implies, Int.reduceLE, Int.reduceLT, Nat.reduceLeDiff, UInt8.reduceToNat, ↓reduceIte, Nat.reduceEqDiff, Nat.reduceAdd, reduceCtorEq, Int.reduceToNat, clsL, clsS, clsC, Tryz.f60, e0, e3, e6, e15, e16, e17]
          exact ⟨fun _ => ⟨⟨by omega, fun k hk => by rw [kk k (by omega), hk' k hk]⟩, _, rfl⟩, fun q => absurd (by decide) q⟩
    · obtain rfl : i = us.length := by omega
      simp +contextual (disch := first | (simp only [facts, clsL, clsS, clsC, isPtrD]; done) | omega | (simp only [push_nx, put_nx, del_nx]; omega) | (refine Nat.le_antisymm ?_ ?_ <;> simp only [push_nx, put_nx, del_nx] <;> omega) | fail) only [wpy, facts, wpb, cst, wpk, wpl, forall_const, implies_true, false_implies, Int.reduceLE, Int.reduceLT, Nat.reduceLeDiff, UInt8.reduceToNat, ↓reduceIte, Nat.reduceEqDiff, Nat.reduceAdd, reduceCtorEq, Int.reduceToNat, clsL, clsS, clsC, Tryz.f60, e0, e3, e6, e15, e16, e17, hin]
      exact ⟨hn', hk', hg', fun j hj => hu' j hj hj⟩
  rintro env h1 ⟨e0, e3, e6, hn1, hk1, hg1, hu⟩
  have gx := hg1.trans gA
  simp +contextual (disch := first | (simp only [facts, clsL, clsS, clsC, isPtrD]; done) | omega | (simp only [push_nx, put_nx, del_nx]; omega) | (refine Nat.le_antisymm ?_ ?_ <;> simp only [push_nx, put_nx, del_nx] <;> omega) | fail) only [wpy, facts, wpb, cst, wpk, wpl, forall_const, implies_true, false_implies, Int.reduceLE, Int.reduceLT, Nat.reduceLeDiff, UInt8.reduceToNat, ↓reduceIte, Nat.reduceEqDiff, Nat.reduceAdd, reduceCtorEq, Int.reduceToNat, clsL, clsS, clsC, Tryz.f60, e0, e3, e6, gx]
  have ab : BS 5 h1 nv nl := a.keep (by omega) fun k hk _ => hk1 k hk
  refine callF_pure (gs _ ab) ?_
  rintro w h2 hx2 ⟨hw1, hw2⟩
  have n2 := hx2.1
  have g2 := (hx2.2 h.nx (by omega)).trans gx
  by_cases hz : 0 ∈ ver
  · obtain rfl := hw1 hz
    rw [doorE_no fun q => q.2.2 hz]
    simp +contextual (disch := first | (simp only [facts, clsL, clsS, clsC, isPtrD]; done) | omega | (simp only [push_nx, put_nx, del_nx]; omega) | (refine Nat.le_antisymm ?_ ?_ <;> simp only [push_nx, put_nx, del_nx] <;> omega) | fail) only [wpy, facts, wpb, cst, wpk, wpl, forall_const, implies_true, false_implies, Int.reduceLE, Int.reduceLT, Nat.reduceLeDiff, UInt8.reduceToNat, ↓reduceIte, Nat.reduceEqDiff, Nat.reduceAdd, reduceCtorEq, Int.reduceToNat, clsL, clsS, clsC, Tryz.f60, e0, e3, e6, a1, g2, Int.reduceEq]
    exact ⟨⟨by omega, fun k hk => by rw [hx2.2 k (by omega), hk1 k hk]⟩, _, rfl⟩
  obtain ⟨lv, rfl, y1, y2⟩ := hw2 hz
  by_cases hlen : 64 < us.length
  · rw [doorE_no fun q => by have := q.1; omega]
    simp +contextual (disch := first | (simp only [facts, clsL, clsS, clsC, isPtrD]; done) | omega | (simp only [push_nx, put_nx, del_nx]; omega) | (refine Nat.le_antisymm ?_ ?_ <;> simp only [push_nx, put_nx, del_nx] <;> omega) | fail) only [wpy, facts, wpb, cst, wpk, wpl, forall_const, implies_true, false_implies, Int.reduceLE, Int.reduceLT, Nat.reduceLeDiff, UInt8.reduceToNat, ↓reduceIte, Nat.reduceEqDiff, Nat.reduceAdd, reduceCtorEq, Int.reduceToNat, clsL, clsS, clsC, Tryz.f60, e0, e3, e6, a1, g2, Int.reduceEq, hlen]
    exact ⟨⟨by omega, fun k hk => by rw [hx2.2 k (by omega), hk1 k hk]⟩, _, rfl⟩
  rw [doorE_yes ⟨by omega, hu, hz⟩]
  simp +contextual (disch := first | (simp only [facts, clsL, clsS, clsC, isPtrD]; done) | omega | (simp only [push_nx, put_nx, del_nx]; omega) | (refine Nat.le_antisymm ?_ ?_ <;> simp only [push_nx, put_nx, del_nx] <;> omega) | fail) only [wpy, facts, wpb, cst, wpk, wpl, forall_const, implies_true, false_implies, Int.reduceLE, Int.reduceLT, Nat.reduceLeDiff, UInt8.reduceToNat, ↓reduceIte, Nat.reduceEqDiff, Nat.reduceAdd, reduceCtorEq, Int.reduceToNat, clsL, clsS, clsC, Tryz.f60, e0, e3, e6, a1, g2, Int.reduceEq, hlen]
  refine callF_exact (ccheck_spec hS hc _) ?_
  simp +contextual (disch := first | (simp only [facts, clsL, clsS, clsC, isPtrD]; done) | omega | (simp only [push_nx, put_nx, del_nx]; omega) | (refine Nat.le_antisymm ?_ ?_ <;> simp only [push_nx, put_nx, del_nx] <;> omega) | fail) only [wpy, facts, wpb, cst, wpk, wpl, forall_const, implies_true, false_implies, Int.reduceLE, Int.reduceLT, Nat.reduceLeDiff, UInt8.reduceToNat, ↓reduceIte, Nat.reduceEqDiff, Nat.reduceAdd, reduceCtorEq, Int.reduceToNat, clsL, clsS, clsC, Tryz.f60, e0, e3, e6, a1, g2, Int.reduceEq, hlen]
  have ab2 : BS 5 h2 nv nl := ab.ext hx2
  refine callF_pure (sclone_spec hS ab2 (by rw [hn.1]; decide)) ?_
  intro w3 h3 hx3 hl3
  have n3 := hx3.1
  have g3 := (hx3.2 h.nx (by omega)).trans g2
  obtain ⟨y3, y4⟩ : w3.cells = [w3] ∧ w3.isCell = true := by
    rcases hl3 with (⟨q, _⟩ | ⟨b, n, _, _, q, _⟩) | ⟨_, b, _, _, q, _⟩ <;> rw [q] <;> exact ⟨rfl, rfl⟩
  simp +contextual (disch := first | (simp only [facts, clsL, clsS, clsC, isPtrD]; done) | omega | (simp only [push_nx, put_nx, del_nx]; omega) | (refine Nat.le_antisymm ?_ ?_ <;> simp only [push_nx, put_nx, del_nx] <;> omega) | fail) only [wpy, facts, wpb, cst, wpk, wpl, forall_const, implies_true, false_implies, Int.reduceLE, Int.reduceLT, Nat.reduceLeDiff, UInt8.reduceToNat, ↓reduceIte, Nat.reduceEqDiff, Nat.reduceAdd, reduceCtorEq, Int.reduceToNat, clsL, clsS, clsC, Tryz.f60, e0, e3, e6, a1, g3, Int.reduceEq, hlen, y1, y2, y3, y4, x1, x2]
  exact ⟨.inr (by omega), ⟨Nat.le_trans (by omega) (Nat.le_succ h3.nx), fun k hk => by rw [put_ne (show ¬ k = h3.nx by omega), push_ne (by show ¬ k = h3.nx; omega), put_ne (show ¬ k = h.nx by omega), hx3.2 k (by omega), hx2.2 k (by omega), hk1 k hk]⟩, _, rfl⟩
theorem rdoor_spec {v : V} {us : List UR} {ver : List Nat} {nv : V} {nl : List Nat} {c : Int} {h : H} (au : UB h v us) (hus : us.length ≤ 1000) (uok : ∀ u ∈ us, URok u) (a : BS 5 h nv nl) (hn : NonceOk nl) (hc : CapsOk c) (hv : ver.length ≤ 3000) (hb : ∀ x ∈ ver, x < 256) : Pure S.cfg 67 [v, .agg (greetC ver nv c)] h fun w h' => ∃ p, w = .tuple [p, .int .i64 (doorE us ver)] := by
  refine into Tryz.f67 _ Tryz.func67 (hS.own _ (by decide)) rfl rfl (by kernel_rfl) (by kernel_rfl) ?_
  obtain ⟨x1, x2⟩ := a.cell
  have gs := fun h (a : BS 5 h nv nl) => rgreet_spec hS (ver := ver) a hn hc hv hb
  have a1 := au.len 34
  unfold greetC at gs ⊢
  by_cases hlen : 64 < us.length
  · rw [doorE_no fun q => by have := q.1; omega]
    simp +contextual (disch := first | (simp only [facts, clsL, clsS, clsC, isPtrD]; done) | omega | (simp only [push_nx, put_nx, del_nx]; omega) | (refine Nat.le_antisymm ?_ ?_ <;> simp only [push_nx, put_nx, del_nx] <;> omega) | fail) only [wpy, facts, wpb, cst, wpk, wpl, forall_const, implies_true, false_implies, Int.reduceLE, Int.reduceLT, Nat.reduceLeDiff, UInt8.reduceToNat, ↓reduceIte, Nat.reduceEqDiff, Nat.reduceAdd, reduceCtorEq, Int.reduceToNat, clsL, clsS, clsC, Tryz.f67, x1, x2, a1, hlen]
    exact ⟨(Ext.refl h).push _, _, rfl⟩
  simp +contextual (disch := first | (simp only [facts, clsL, clsS, clsC, isPtrD]; done) | omega | (simp only [push_nx, put_nx, del_nx]; omega) | (refine Nat.le_antisymm ?_ ?_ <;> simp only [push_nx, put_nx, del_nx] <;> omega) | fail) only [wpy, facts, wpb, cst, wpk, wpl, forall_const, implies_true, false_implies, Int.reduceLE, Int.reduceLT, Nat.reduceLeDiff, UInt8.reduceToNat, ↓reduceIte, Nat.reduceEqDiff, Nat.reduceAdd, reduceCtorEq, Int.reduceToNat, clsL, clsS, clsC, Tryz.f67, x1, x2, a1, hlen]
  generalize hhA : H.push h _ = hA
  have hxA : Ext h hA := by rw [← hhA]; exact (Ext.refl h).push _
  have gA : hA.get h.nx = some (.cells (greetC ver nv c) 141 false) := by rw [← hhA]; exact push_eq rfl
  have nA : hA.nx = h.nx + 1 := by rw [← hhA]; rfl
  clear hhA
  unfold greetC at gA
  have auA := au.ext hxA
  refine run_blk_cut (fun env h' => env 0 = v ∧ env 3 = .ptr h.nx 0 ∧ Ext hA h' ∧ usersP us) ?_ ?_
  · refine run_loop (fun k env h' => ∃ i : Nat, k = us.length - i ∧ i ≤ us.length ∧ env 0 = v ∧ env 3 = .ptr h.nx 0 ∧ env 6 = .int .i64 i ∧ Ext hA h' ∧ ∀ j, (hj : j < us.length) → j < i → userP us[j] ∧ us[j].n ∉ (us.take j).map UR.n) us.length ⟨0, ?_⟩ ?_
    · simp +contextual (disch := first | (simp only [facts, clsL, clsS, clsC, isPtrD]; done) | omega | (simp only [push_nx, put_nx, del_nx]; omega) | (refine Nat.le_antisymm ?_ ?_ <;> simp only [push_nx, put_nx, del_nx] <;> omega) | fail) only [wpy, facts, wpb, cst, wpk, wpl, forall_const, implies_true, false_implies, Int.reduceLE, Int.reduceLT, Nat.reduceLeDiff, UInt8.reduceToNat, ↓reduceIte, Nat.reduceEqDiff, Nat.reduceAdd, reduceCtorEq, Int.reduceToNat, clsL, clsS, clsC, nA]
      exact ⟨rfl, Ext.refl _, fun j hj q => absurd q (by omega)⟩
    rintro k env h' ⟨i, rfl, hi, e0, e3, e6, hx', hu'⟩
    by_cases hin : i < us.length
    · have au' : UB h' v us := auA.ext hx'
      obtain ⟨b, o, m, rfl⟩ := au'.at (by omega)
      obtain ⟨_, hb', hs, hr⟩ := au'.rd
      have hri := hr (i * 5) 5 (by rw [usC_len]; omega)
      rw [usC_at us i hin] at hri
      unfold UR.cells at hri
      simp +contextual (disch := first | (simp only [facts, clsL, clsS, clsC, isPtrD]; done) | omega | (simp only [push_nx, put_nx, del_nx]; omega) | (refine Nat.le_antisymm ?_ ?_ <;> simp only [push_nx, put_nx, del_nx] <;> omega) | fail) only [wpy, facts, wpb, cst, wpk, wpl, forall_const, implies_true, false_implies, Int.reduceLE, Int.reduceLT, Nat.reduceLeDiff, UInt8.reduceToNat, ↓reduceIte, Nat.reduceEqDiff, Nat.reduceAdd, reduceCtorEq, Int.reduceToNat, clsL, clsS, clsC, Tryz.f67, e0, e3, e6, a1, hin, hri]
      refine callF_pure (rcheck_spec hS us[i] (uok _ (List.getElem_mem hin)) _) ?_
      rintro _ h2 hx2 rfl
      by_cases hup : userP us[i]
      · rw [userE_yes hup]
        simp +contextual (disch := first | (simp only [facts, clsL, clsS, clsC, isPtrD]; done) | omega | (simp only [push_nx, put_nx, del_nx]; omega) | (refine Nat.le_antisymm ?_ ?_ <;> simp only [push_nx, put_nx, del_nx] <;> omega) | fail) only [wpy, facts, wpb, cst, wpk, wpl, forall_const, implies_true, false_implies, Int.reduceLE, Int.reduceLT, Nat.reduceLeDiff, UInt8.reduceToNat, ↓reduceIte, Nat.reduceEqDiff, Nat.reduceAdd, reduceCtorEq, Int.reduceToNat, clsL, clsS, clsC, Tryz.f67, e0, e3, e6]
        refine run_loop (fun k env h' => ∃ j : Nat, k = i - j ∧ j ≤ i ∧ env 0 = .slice b o us.length m ∧ env 3 = .ptr h.nx 0 ∧ env 6 = .int .i64 i ∧ env 7 = .int .i64 j ∧ h' = h2 ∧ us[i].n ∉ (us.take j).map UR.n) i ⟨0, ?_⟩ ?_
        · simp +contextual (disch := first | (simp only [facts, clsL, clsS, clsC, isPtrD]; done) | omega | (simp only [push_nx, put_nx, del_nx]; omega) | (refine Nat.le_antisymm ?_ ?_ <;> simp only [push_nx, put_nx, del_nx] <;> omega) | fail) only [wpy, facts, wpb, cst, wpk, wpl, forall_const, implies_true, false_implies, Int.reduceLE, Int.reduceLT, Nat.reduceLeDiff, UInt8.reduceToNat, ↓reduceIte, Nat.reduceEqDiff, Nat.reduceAdd, reduceCtorEq, Int.reduceToNat, clsL, clsS, clsC, e0, e3, e6]
          exact ⟨by omega, by simp⟩
        rintro k env h' ⟨j, rfl, hj, e0, e3, e6, e7, rfl, hno⟩
        by_cases hji : j < i
        · simp +contextual (disch := first | (simp only [facts, clsL, clsS, clsC, isPtrD]; done) | omega | (simp only [push_nx, put_nx, del_nx]; omega) | (refine Nat.le_antisymm ?_ ?_ <;> simp only [push_nx, put_nx, del_nx] <;> omega) | fail) only [wpy, facts, wpb, cst, wpk, wpl, forall_const, implies_true, false_implies, Int.reduceLE, Int.reduceLT, Nat.reduceLeDiff, UInt8.reduceToNat, ↓reduceIte, Nat.reduceEqDiff, Nat.reduceAdd, reduceCtorEq, Int.reduceToNat, clsL, clsS, clsC, Tryz.f67, e0, e3, e6, e7, hji]
          refine draw_by [] (by kernel_rfl) ?_
          have hj5 : j * 5 < (usC us).length := by rw [usC_len]; omega
          have hi5 : i * 5 < (usC us).length := by rw [usC_len]; omega
          have r1 := hs (j * 5) 1 hj5
          have r2 := hs (i * 5) 1 hi5
          rw [usC_name us j (by omega) hj5, ← hx2.2 b hb'] at r1
          rw [usC_name us i hin hi5, ← hx2.2 b hb'] at r2
          have hju : j < us.length := by omega
          by_cases hsame : us[j].n = us[i].n
          · rw [doorE_no fun q => (q.2.1 i hin).2 (by rw [← hsame]; exact List.mem_map.2 ⟨us[j], List.mem_take_iff_getElem.2 ⟨j, by omega, rfl⟩, rfl⟩)]
            simp +contextual (disch := first | (simp only [facts, clsL, clsS, clsC, isPtrD]; done) | omega | (simp only [push_nx, put_nx, del_nx]; omega) | (refine Nat.le_antisymm ?_ ?_ <;> simp only [push_nx, put_nx, del_nx] <;> omega) | fail) only [wpy, facts, wpb, cst, wpk, wpl, forall_const, implies_true, false_implies, Int.reduceLE, Int.reduceLT, Nat.reduceLeDiff, UInt8.reduceToNat, ↓reduceIte, Nat.reduceEqDiff, Nat.reduceAdd, reduceCtorEq, Int.reduceToNat, clsL, clsS, clsC, Tryz.f67, e0, e3, e6, e7, hji, hin, hju, r1, r2, hsame]
            exact ⟨fun p hp => (by cases hp), (hxA.trans hx').trans hx2, _, rfl⟩
          · simp +contextual (disch := first | (simp only [facts, clsL, clsS, clsC, isPtrD]; done) | omega | (simp only [push_nx, put_nx, del_nx]; omega) | (refine Nat.le_antisymm ?_ ?_ <;> simp only [push_nx, put_nx, del_nx] <;> omega) | fail) only [wpy, facts, wpb, cst, wpk, wpl, forall_const, implies_true, false_implies, Int.reduceLE, Int.reduceLT, Nat.reduceLeDiff, UInt8.reduceToNat, ↓reduceIte, Nat.reduceEqDiff, Nat.reduceAdd, reduceCtorEq, Int.reduceToNat, clsL, clsS, clsC, Tryz.f67, e0, e3, e6, e7, hji, hin, hju, r1, r2, hsame]
            refine ⟨fun p hp => (by cases hp), i - (j + 1), by omega, j + 1, rfl, by omega, rfl, ?_⟩
            rw [List.take_succ_eq_append_getElem hju, List.map_append, List.mem_append]
            rintro (q | q)
            · exact hno q
            · exact hsame (List.mem_singleton.1 q).symm
        · obtain rfl : j = i := by omega
          simp +contextual (disch := first | (simp only [facts, clsL, clsS, clsC, isPtrD]; done) | omega | (simp only [push_nx, put_nx, del_nx]; omega) | (refine Nat.le_antisymm ?_ ?_ <;> simp only [push_nx, put_nx, del_nx] <;> omega) | fail) only [wpy, facts, wpb, cst, wpk, wpl, forall_const, implies_true, false_implies, Int.reduceLE, Int.reduceLT, Nat.reduceLeDiff, UInt8.reduceToNat, ↓reduceIte, Nat.reduceEqDiff, Nat.reduceAdd, reduceCtorEq, Int.reduceToNat, clsL, clsS, clsC, Tryz.f67, e0, e3, e6, e7, hji]
          exact ⟨us.length - (j + 1), by omega, j + 1, rfl, by omega, rfl, hx'.trans hx2, fun k hk q => by
            by_cases hkj : k < j
            · exact hu' k hk hkj
            · obtain rfl : k = j := by omega
              exact ⟨hup, hno⟩⟩
      · rw [userE_no hup, doorE_no fun q => hup (q.2.1 i hin).1]
        simp +contextual (disch := first | (simp only [facts, clsL, clsS, clsC, isPtrD]; done) | omega | (simp only [push_nx, put_nx, del_nx]; omega) | (refine Nat.le_antisymm ?_ ?_ <;> simp only [push_nx, put_nx, del_nx] <;> omega) | fail) only [wpy, facts, wpb, cst, wpk, wpl, forall_const, implies_true, false_implies, Int.reduceLE, Int.reduceLT, Nat.reduceLeDiff, UInt8.reduceToNat, ↓reduceIte, Nat.reduceEqDiff, Nat.reduceAdd, reduceCtorEq, Int.reduceToNat, clsL, clsS, clsC, Tryz.f67, e0, e3, e6, Int.reduceEq]
        exact ⟨(hxA.trans hx').trans hx2, _, rfl⟩
    · obtain rfl : i = us.length := by omega
      simp +contextual (disch := first | (simp only [facts, clsL, clsS, clsC, isPtrD]; done) | omega | (simp only [push_nx, put_nx, del_nx]; omega) | (refine Nat.le_antisymm ?_ ?_ <;> simp only [push_nx, put_nx, del_nx] <;> omega) | fail) only [wpy, facts, wpb, cst, wpk, wpl, forall_const, implies_true, false_implies, Int.reduceLE, Int.reduceLT, Nat.reduceLeDiff, UInt8.reduceToNat, ↓reduceIte, Nat.reduceEqDiff, Nat.reduceAdd, reduceCtorEq, Int.reduceToNat, clsL, clsS, clsC, Tryz.f67, e0, e3, e6, a1, hin]
      exact ⟨hx', fun j hj => hu' j hj hj⟩
  rintro env h1 ⟨e0, e3, hx1, hu⟩
  have gx := (hx1.2 h.nx (by omega)).trans gA
  simp +contextual (disch := first | (simp only [facts, clsL, clsS, clsC, isPtrD]; done) | omega | (simp only [push_nx, put_nx, del_nx]; omega) | (refine Nat.le_antisymm ?_ ?_ <;> simp only [push_nx, put_nx, del_nx] <;> omega) | fail) only [wpy, facts, wpb, cst, wpk, wpl, forall_const, implies_true, false_implies, Int.reduceLE, Int.reduceLT, Nat.reduceLeDiff, UInt8.reduceToNat, ↓reduceIte, Nat.reduceEqDiff, Nat.reduceAdd, reduceCtorEq, Int.reduceToNat, clsL, clsS, clsC, Tryz.f67, e0, e3, gx]
  have ab : BS 5 h1 nv nl := a.ext (hxA.trans hx1)
  have n1 := hx1.1
  refine callF_pure (gs _ ab) ?_
  rintro w h2 hx2 ⟨hw1, hw2⟩
  have n2 := hx2.1
  have g2 := (hx2.2 h.nx (by omega)).trans gx
  have xx := (hxA.trans hx1).trans hx2
  by_cases hz : 0 ∈ ver
  · obtain rfl := hw1 hz
    rw [doorE_no fun q => q.2.2 hz]
    simp +contextual (disch := first | (simp only [facts, clsL, clsS, clsC, isPtrD]; done) | omega | (simp only [push_nx, put_nx, del_nx]; omega) | (refine Nat.le_antisymm ?_ ?_ <;> simp only [push_nx, put_nx, del_nx] <;> omega) | fail) only [wpy, facts, wpb, cst, wpk, wpl, forall_const, implies_true, false_implies, Int.reduceLE, Int.reduceLT, Nat.reduceLeDiff, UInt8.reduceToNat, ↓reduceIte, Nat.reduceEqDiff, Nat.reduceAdd, reduceCtorEq, Int.reduceToNat, clsL, clsS, clsC, Tryz.f67, e0, e3, g2, Int.reduceEq]
    exact ⟨xx, _, rfl⟩
  obtain ⟨lv, rfl, y1, y2⟩ := hw2 hz
  rw [doorE_yes ⟨by omega, hu, hz⟩]
  simp +contextual (disch := first | (simp only [facts, clsL, clsS, clsC, isPtrD]; done) | omega | (simp only [push_nx, put_nx, del_nx]; omega) | (refine Nat.le_antisymm ?_ ?_ <;> simp only [push_nx, put_nx, del_nx] <;> omega) | fail) only [wpy, facts, wpb, cst, wpk, wpl, forall_const, implies_true, false_implies, Int.reduceLE, Int.reduceLT, Nat.reduceLeDiff, UInt8.reduceToNat, ↓reduceIte, Nat.reduceEqDiff, Nat.reduceAdd, reduceCtorEq, Int.reduceToNat, clsL, clsS, clsC, Tryz.f67, e0, e3, g2, Int.reduceEq]
  refine callF_exact (rccheck_spec hS hc _) ?_
  simp +contextual (disch := first | (simp only [facts, clsL, clsS, clsC, isPtrD]; done) | omega | (simp only [push_nx, put_nx, del_nx]; omega) | (refine Nat.le_antisymm ?_ ?_ <;> simp only [push_nx, put_nx, del_nx] <;> omega) | fail) only [wpy, facts, wpb, cst, wpk, wpl, forall_const, implies_true, false_implies, Int.reduceLE, Int.reduceLT, Nat.reduceLeDiff, UInt8.reduceToNat, ↓reduceIte, Nat.reduceEqDiff, Nat.reduceAdd, reduceCtorEq, Int.reduceToNat, clsL, clsS, clsC, Tryz.f67, e0, e3, g2, Int.reduceEq]
  generalize hhC : H.push h2 _ = hC
  have hxC : Ext h2 hC := by rw [← hhC]; exact (Ext.refl h2).push _
  have gC : hC.get h2.nx = some (.cells [] 5 false) := by rw [← hhC]; exact push_eq rfl
  have nC : hC.nx = h2.nx + 1 := by rw [← hhC]; rfl
  clear hhC
  have lC : Lst h1.nx hC (.slice h2.nx 0 0 0) [] 5 1 := .inr ⟨rfl, h2.nx, n2, by omega, rfl, gC⟩
  refine append_lst (n0 := h1.nx) (by simp +contextual (disch := first | (simp only [facts, clsL, clsS, clsC, isPtrD]; done) | omega | (simp only [push_nx, put_nx, del_nx]; omega) | (refine Nat.le_antisymm ?_ ?_ <;> simp only [push_nx, put_nx, del_nx] <;> omega) | fail) only [wpy, facts, wpb, cst, wpk, wpl, forall_const, implies_true, false_implies, Int.reduceLE, Int.reduceLT, Nat.reduceLeDiff, UInt8.reduceToNat, ↓reduceIte, Nat.reduceEqDiff, Nat.reduceAdd, reduceCtorEq, Int.reduceToNat, clsL, clsS, clsC]) (by simp +contextual (disch := first | (simp only [facts, clsL, clsS, clsC, isPtrD]; done) | omega | (simp only [push_nx, put_nx, del_nx]; omega) | (refine Nat.le_antisymm ?_ ?_ <;> simp only [push_nx, put_nx, del_nx] <;> omega) | fail) only [wpy, facts, wpb, cst, wpk, wpl, forall_const, implies_true, false_implies, Int.reduceLE, Int.reduceLT, Nat.reduceLeDiff, UInt8.reduceToNat, ↓reduceIte, Nat.reduceEqDiff, Nat.reduceAdd, reduceCtorEq, Int.reduceToNat, clsL, clsS, clsC]) ap27 tx27 lC ((ab.ext hx2).ext hxC).src (bytesV_all _) (by rw [bytesV_length, hn.1]; decide) (by decide) (fun k hk => by rw [fresh_def]; exact .inl (by omega)) (by omega) ?_
  intro v3 h3 L3 l3 n3 _ k3 hL3
  have g3 := (k3 h.nx (by omega)).trans ((hxC.2 h.nx (by omega)).trans g2)
  obtain ⟨y3, y4⟩ : v3.cells = [v3] ∧ v3.isCell = true := by
    rcases l3 with (⟨q, _⟩ | ⟨b, n, _, _, q, _⟩) | ⟨_, b, _, _, q, _⟩ <;> rw [q] <;> exact ⟨rfl, rfl⟩
  simp +contextual (disch := first | (simp only [facts, clsL, clsS, clsC, isPtrD]; done) | omega | (simp only [push_nx, put_nx, del_nx]; omega) | (refine Nat.le_antisymm ?_ ?_ <;> simp only [push_nx, put_nx, del_nx] <;> omega) | fail) only [wpy, facts, wpb, cst, wpk, wpl, forall_const, implies_true, false_implies, Int.reduceLE, Int.reduceLT, Nat.reduceLeDiff, UInt8.reduceToNat, ↓reduceIte, Nat.reduceEqDiff, Nat.reduceAdd, reduceCtorEq, Int.reduceToNat, clsL, clsS, clsC, Tryz.f67, e0, e3, g3, y3, y4]
  refine draw_by [(0, 3), (2, 3), (0, 4), (2, 4), (3, 4), (0, 6), (2, 6), (4, 6), (3, 7)] (by kernel_rfl) ?_
  simp +contextual (disch := first | (simp only [facts, clsL, clsS, clsC, isPtrD]; done) | omega | (simp only [push_nx, put_nx, del_nx]; omega) | (refine Nat.le_antisymm ?_ ?_ <;> simp only [push_nx, put_nx, del_nx] <;> omega) | fail) only [wpy, facts, wpb, cst, wpk, wpl, forall_const, implies_true, false_implies, Int.reduceLE, Int.reduceLT, Nat.reduceLeDiff, UInt8.reduceToNat, ↓reduceIte, Nat.reduceEqDiff, Nat.reduceAdd, reduceCtorEq, Int.reduceToNat, clsL, clsS, clsC, Tryz.f67, e0, e3, y3, y4]
  generalize hhD : H.push (H.put h3 h.nx _) _ = hD
  have nD : hD.nx = h3.nx + 1 := by rw [← hhD]; rfl
  have gD : hD.get h.nx = some (.cells (greetC ver v3 c) 141 false) := by rw [← hhD, push_ne (by show ¬ h.nx = h3.nx; omega)]; exact put_eq rfl
  have gD2 : hD.get h3.nx = some (.cells [] 34 false) := by rw [← hhD]; exact push_eq rfl
  have xD : ∀ k, k < h3.nx → ¬ k = h.nx → hD.get k = h3.get k := fun k hk q => by rw [← hhD, push_ne (by show ¬ k = h3.nx; omega), put_ne q]
  clear hhD
  unfold greetC at gD
  have lD : Lst h3.nx hD (.slice h3.nx 0 0 0) [] 34 5 := .inr ⟨rfl, h3.nx, Nat.le_refl _, by omega, rfl, gD2⟩
  have kD : ∀ k, k < h.nx → hD.get k = h.get k := fun k hk => by rw [xD k (by omega) (by omega), k3 k (by omega), hxC.2 k (by omega), hx2.2 k (by omega), hx1.2 k (by omega), hxA.2 k (by omega)]
  have auD : UB hD v us := au.keep (by omega) fun k hk _ => kD k hk
  refine append_lst (n0 := h3.nx) (by simp +contextual (disch := first | (simp only [facts, clsL, clsS, clsC, isPtrD]; done) | omega | (simp only [push_nx, put_nx, del_nx]; omega) | (refine Nat.le_antisymm ?_ ?_ <;> simp only [push_nx, put_nx, del_nx] <;> omega) | fail) only [wpy, facts, wpb, cst, wpk, wpl, forall_const, implies_true, false_implies, Int.reduceLE, Int.reduceLT, Nat.reduceLeDiff, UInt8.reduceToNat, ↓reduceIte, Nat.reduceEqDiff, Nat.reduceAdd, reduceCtorEq, Int.reduceToNat, clsL, clsS, clsC]) (by simp +contextual (disch := first | (simp only [facts, clsL, clsS, clsC, isPtrD]; done) | omega | (simp only [push_nx, put_nx, del_nx]; omega) | (refine Nat.le_antisymm ?_ ?_ <;> simp only [push_nx, put_nx, del_nx] <;> omega) | fail) only [wpy, facts, wpb, cst, wpk, wpl, forall_const, implies_true, false_implies, Int.reduceLE, Int.reduceLT, Nat.reduceLeDiff, UInt8.reduceToNat, ↓reduceIte, Nat.reduceEqDiff, Nat.reduceAdd, reduceCtorEq, Int.reduceToNat, clsL, clsS, clsC, e0]) ap32 tx32 lD (rw_src auD) (usC_all us) (by rw [usC_len, List.length_nil]; omega) (by decide) (fun k hk => by rw [fresh_def]; exact .inl (by omega)) (by omega) ?_
  intro v4 h4 L4 l4 n4 _ k4 hL4
  have g4 := (k4 h.nx (by omega)).trans gD
  obtain ⟨y5, y6⟩ : v4.cells = [v4] ∧ v4.isCell = true := by
    rcases l4 with (⟨q, _⟩ | ⟨b, n, _, _, q, _⟩) | ⟨_, b, _, _, q, _⟩ <;> rw [q] <;> exact ⟨rfl, rfl⟩
  simp +contextual (disch := first | (simp only [facts, clsL, clsS, clsC, isPtrD]; done) | omega | (simp only [push_nx, put_nx, del_nx]; omega) | (refine Nat.le_antisymm ?_ ?_ <;> simp only [push_nx, put_nx, del_nx] <;> omega) | fail) only [wpy, facts, wpb, cst, wpk, wpl, forall_const, implies_true, false_implies, Int.reduceLE, Int.reduceLT, Nat.reduceLeDiff, UInt8.reduceToNat, ↓reduceIte, Nat.reduceEqDiff, Nat.reduceAdd, reduceCtorEq, Int.reduceToNat, clsL, clsS, clsC, Tryz.f67, e0, e3, g4, y3, y4, y5, y6]
  generalize hhE : H.push h4 _ = hE
  have hxE : Ext h4 hE := by rw [← hhE]; exact (Ext.refl h4).push _
  have gE : hE.get h4.nx = some (.cells [] 5 false) := by rw [← hhE]; exact push_eq rfl
  have nE : hE.nx = h4.nx + 1 := by rw [← hhE]; rfl
  clear hhE
  rw [List.nil_append] at l3
  have b3 : BS 5 h3 v3 nl := BS.of_lst (fun x hx => (hn.2 x hx).2.1) l3
  have bE : BS 5 hE v3 nl := b3.keep (by omega) fun k hk ⟨o, n, m, q⟩ => by
    have := (lst_blk l3 q).1
    rw [hxE.2 k (by omega), k4 k (by omega), xD k hk (by omega)]
  have lE : Lst h4.nx hE (.slice h4.nx 0 0 0) [] 5 1 := .inr ⟨rfl, h4.nx, Nat.le_refl _, by omega, rfl, gE⟩
  refine append_lst (n0 := h4.nx) (by simp +contextual (disch := first | (simp only [facts, clsL, clsS, clsC, isPtrD]; done) | omega | (simp only [push_nx, put_nx, del_nx]; omega) | (refine Nat.le_antisymm ?_ ?_ <;> simp only [push_nx, put_nx, del_nx] <;> omega) | fail) only [wpy, facts, wpb, cst, wpk, wpl, forall_const, implies_true, false_implies, Int.reduceLE, Int.reduceLT, Nat.reduceLeDiff, UInt8.reduceToNat, ↓reduceIte, Nat.reduceEqDiff, Nat.reduceAdd, reduceCtorEq, Int.reduceToNat, clsL, clsS, clsC]) (by simp +contextual (disch := first | (simp only [facts, clsL, clsS, clsC, isPtrD]; done) | omega | (simp only [push_nx, put_nx, del_nx]; omega) | (refine Nat.le_antisymm ?_ ?_ <;> simp only [push_nx, put_nx, del_nx] <;> omega) | fail) only [wpy, facts, wpb, cst, wpk, wpl, forall_const, implies_true, false_implies, Int.reduceLE, Int.reduceLT, Nat.reduceLeDiff, UInt8.reduceToNat, ↓reduceIte, Nat.reduceEqDiff, Nat.reduceAdd, reduceCtorEq, Int.reduceToNat, clsL, clsS, clsC]) ap27 tx27 lE bE.src (bytesV_all _) (by rw [bytesV_length, hn.1]; decide) (by decide) (fun k hk => by rw [fresh_def]; exact .inl (by omega)) (by omega) ?_
  intro v5 h5 L5 l5 n5 _ k5 hL5
  obtain ⟨y7, y8⟩ : v5.cells = [v5] ∧ v5.isCell = true := by
    rcases l5 with (⟨q, _⟩ | ⟨b, n, _, _, q, _⟩) | ⟨_, b, _, _, q, _⟩ <;> rw [q] <;> exact ⟨rfl, rfl⟩
  simp +contextual (disch := first | (simp only [facts, clsL, clsS, clsC, isPtrD]; done) | omega | (simp only [push_nx, put_nx, del_nx]; omega) | (refine Nat.le_antisymm ?_ ?_ <;> simp only [push_nx, put_nx, del_nx] <;> omega) | fail) only [wpy, facts, wpb, cst, wpk, wpl, forall_const, implies_true, false_implies, Int.reduceLE, Int.reduceLT, Nat.reduceLeDiff, UInt8.reduceToNat, ↓reduceIte, Nat.reduceEqDiff, Nat.reduceAdd, reduceCtorEq, Int.reduceToNat, clsL, clsS, clsC, Tryz.f67, e0, e3, g4, y3, y4, y5, y6, y7, y8]
  have hL4' : ∀ x ∈ L4, blkOf x < h4.nx ∧ (x.isW = true → h3.nx ≤ blkOf x) := fun x hx => by
    rcases hL4 x hx with ⟨⟨o, n, m, q⟩, q2⟩ | q | ⟨o, n, m, q⟩
    · have := au.blk q
      exact ⟨by omega, fun w => by rw [q2] at w; cases w⟩
    · exact ⟨q.2, fun _ => by omega⟩
    · injection q with q1
      exact ⟨by omega, fun _ => by omega⟩
  refine ⟨fun p hp => ?_, ⟨Nat.le_trans (by omega) (Nat.le_succ h5.nx), fun k hk => by rw [push_ne (by omega), k5 k (by omega), hxE.2 k (by omega), k4 k (by omega), kD k hk]⟩, _, rfl⟩
  have hl0 : ldL (some (7, true)) (V.ptr h.nx 0) = [.rd h.nx 0 7] := rfl
  have hl2 : ldL (some (1, false)) (V.ptr h.nx 2) = [.rd h.nx 2 1] := rfl
  rw [hl0, hl2]
  simp only [List.mem_cons, List.not_mem_nil, or_false] at hp
  rcases hp with rfl | rfl | rfl | rfl | rfl | rfl | rfl | rfl | rfl
  · exact pair_one rfl rfl (raf (a := h1.nx) (one_le (by show h1.nx ≤ h3.nx; omega)) (one_lt (by show h.nx < h1.nx; omega)))
  · refine pair_one rfl rfl (apart_w fun x hx y hy q => ?_)
    rw [List.mem_singleton.1 hy] at q ⊢
    have := (hL4' x hx).2 (q.elim id fun w => by cases w)
    show ¬ blkOf x = h.nx
    omega
  · exact pair_one rfl rfl (far (a := h4.nx) (one_lt (by show h3.nx < h4.nx; omega)) (one_le (Nat.le_refl _)))
  · exact pair_one rfl rfl (far (a := h4.nx) (fun x hx => (hL4' x hx).1) (one_le (Nat.le_refl _)))
  · exact pair_one rfl rfl (far (a := h4.nx) (one_lt (by show h.nx < h4.nx; omega)) (one_le (Nat.le_refl _)))
  · exact pair_one rfl rfl (raf (a := h1.nx) (one_le (by show h1.nx ≤ h3.nx; omega)) (one_lt (by show h.nx < h1.nx; omega)))
  · refine pair_one rfl rfl (apart_w fun x hx y hy q => ?_)
    rw [List.mem_singleton.1 hy] at q ⊢
    have := (hL4' x hx).2 (q.elim id fun w => by cases w)
    show ¬ blkOf x = h.nx
    omega
  · exact pair_one rfl rfl (raf (a := h1.nx) (one_le (by show h1.nx ≤ h4.nx; omega)) (one_lt (by show h.nx < h1.nx; omega)))
  · refine pair_one rfl rfl (apart_w fun x hx y hy q => ?_)
    rw [List.mem_singleton.1 hx] at q ⊢
    have hyw := q.elim (fun w => by cases w) id
    have : h.nx < blkOf y := by
      rcases hL5 y hy with ⟨_, q2⟩ | q | ⟨o, n, m, q⟩
      · rw [q2] at hyw; cases hyw
      · omega
      · injection q with q1; omega
    show ¬ h.nx = blkOf y
    omega
end
end Go.Proofs.YthhdkonpejmgcaaGreatDoor

/-
  Setups checked, by the program and by the document; the law.
-/
set_option linter.unusedSimpArgs false
set_option linter.unusedVariables false
set_option linter.unusedSectionVars false
set_option linter.defProp false
set_option maxRecDepth 20000
set_option maxHeartbeats 2000000
namespace Go.Proofs.YthhdkonpejmgcaaGreatDoor
open Go.Proofs Go.Lx Go.Wx Go.IntWalk
noncomputable section
structure SU where
  us : List UR
  sv : UR
  seed : Int
  ts : List (List Nat)
  rows : Int
  pl : Int
  pw : Int
  pk : Int
  cp : Bool
  lim : Int
  most : Int
  ver : List Nat
def SU.cells (x : SU) (uv fv : V) : List V := [uv, .str x.sv.n, .str x.sv.p, .str x.sv.g, .str x.sv.s, .bool x.sv.a, .int .u64 x.seed, fv, .int .i64 x.rows, .int .i64 x.pl, .int .i64 x.pw, .int .i64 x.pk, .bool x.cp, .int .i64 x.lim, .int .i64 x.most, .str x.ver]
def poolP (l w k : Int) : Prop := (1 ≤ l ∧ l ≤ 64) ∧ (1 ≤ w ∧ w ≤ 1048576) ∧ 0 ≤ k ∧ k ≤ 1048576
noncomputable def poolE (l w k : Int) : Int := @ite Int (poolP l w k) (Classical.propDecidable _) 0 2
theorem poolE_yes {l w k : Int} (h : poolP l w k) : poolE l w k = 0 := by unfold poolE; rw [if_pos h]
theorem poolE_no {l w k : Int} (h : ¬ poolP l w k) : poolE l w k = 2 := by unfold poolE; rw [if_neg h]
theorem capsA : CapsOk 29353903 := ⟨by kernel_rfl, by kernel_rfl, by kernel_rfl, by decide, by decide, by decide⟩
theorem capsB : CapsOk 29353871 := ⟨by kernel_rfl, by kernel_rfl, by kernel_rfl, by decide, by decide, by decide⟩
theorem capsC : CapsOk 12576655 := ⟨by kernel_rfl, by kernel_rfl, by kernel_rfl, by decide, by decide, by decide⟩
def offF (b : Bool) : Int := bif b then 29353903 else 29353871
theorem offF_ok (b : Bool) : CapsOk (offF b) := by cases b; exact capsB; exact capsA
variable {S : Set0} (hS : StdU S)
include hS
theorem offeredC_spec (h : H) : Exact S.cfg 119 [] h (.int .u32 29353903) := by
  refine into Tryz.f119 _ Tryz.func119 (hS.own _ (by decide)) rfl rfl (by kernel_rfl) (by kernel_rfl) ?_
  simp +contextual (disch := first | (simp only [facts, clsL, clsS, clsC, isPtrD]; done) | omega | (simp only [push_nx, put_nx, del_nx]; omega) | (refine Nat.le_antisymm ?_ ?_ <;> simp only [push_nx, put_nx, del_nx] <;> omega) | fail) only [wpy, facts, wpb, cst, wpk, wpl, forall_const, implies_true, false_implies, Int.reduceLE, Int.reduceLT, Nat.reduceLeDiff, UInt8.reduceToNat, ↓reduceIte, Nat.reduceEqDiff, Nat.reduceAdd, reduceCtorEq, Int.reduceToNat, clsL, clsS, clsC, Tryz.f119]
  refine callF_exact (needed_spec hS _) ?_
  simp +contextual (disch := first | (simp only [facts, clsL, clsS, clsC, isPtrD]; done) | omega | (simp only [push_nx, put_nx, del_nx]; omega) | (refine Nat.le_antisymm ?_ ?_ <;> simp only [push_nx, put_nx, del_nx] <;> omega) | fail) only [wpy, facts, wpb, cst, wpk, wpl, forall_const, implies_true, false_implies, Int.reduceLE, Int.reduceLT, Nat.reduceLeDiff, UInt8.reduceToNat, ↓reduceIte, Nat.reduceEqDiff, Nat.reduceAdd, reduceCtorEq, Int.reduceToNat, clsL, clsS, clsC, Tryz.f119]
  kernel_rfl
theorem roffered_spec (h : H) : Exact S.cfg 126 [] h (.int .u32 29353903) := by
  refine into Tryz.f126 _ Tryz.func126 (hS.own _ (by decide)) rfl rfl (by kernel_rfl) (by kernel_rfl) ?_
  simp +contextual (disch := first | (simp only [facts, clsL, clsS, clsC, isPtrD]; done) | omega | (simp only [push_nx, put_nx, del_nx]; omega) | (refine Nat.le_antisymm ?_ ?_ <;> simp only [push_nx, put_nx, del_nx] <;> omega) | fail) only [wpy, facts, wpb, cst, wpk, wpl, forall_const, implies_true, false_implies, Int.reduceLE, Int.reduceLT, Nat.reduceLeDiff, UInt8.reduceToNat, ↓reduceIte, Nat.reduceEqDiff, Nat.reduceAdd, reduceCtorEq, Int.reduceToNat, clsL, clsS, clsC, Tryz.f126]
theorem backs_spec (h : H) : Exact S.cfg 64 [] h (.int .u32 12576655) := by
  refine into Tryz.f64 _ Tryz.func64 (hS.own _ (by decide)) rfl rfl (by kernel_rfl) (by kernel_rfl) ?_
  simp +contextual (disch := first | (simp only [facts, clsL, clsS, clsC, isPtrD]; done) | omega | (simp only [push_nx, put_nx, del_nx]; omega) | (refine Nat.le_antisymm ?_ ?_ <;> simp only [push_nx, put_nx, del_nx] <;> omega) | fail) only [wpy, facts, wpb, cst, wpk, wpl, forall_const, implies_true, false_implies, Int.reduceLE, Int.reduceLT, Nat.reduceLeDiff, UInt8.reduceToNat, ↓reduceIte, Nat.reduceEqDiff, Nat.reduceAdd, reduceCtorEq, Int.reduceToNat, clsL, clsS, clsC, Tryz.f64]
  refine callF_exact (offeredC_spec hS _) ?_
  simp +contextual (disch := first | (simp only [facts, clsL, clsS, clsC, isPtrD]; done) | omega | (simp only [push_nx, put_nx, del_nx]; omega) | (refine Nat.le_antisymm ?_ ?_ <;> simp only [push_nx, put_nx, del_nx] <;> omega) | fail) only [wpy, facts, wpb, cst, wpk, wpl, forall_const, implies_true, false_implies, Int.reduceLE, Int.reduceLT, Nat.reduceLeDiff, UInt8.reduceToNat, ↓reduceIte, Nat.reduceEqDiff, Nat.reduceAdd, reduceCtorEq, Int.reduceToNat, clsL, clsS, clsC, Tryz.f64]
  kernel_rfl
theorem rbacks_spec (h : H) : Exact S.cfg 70 [] h (.int .u32 12576655) := by
  refine into Tryz.f70 _ Tryz.func70 (hS.own _ (by decide)) rfl rfl (by kernel_rfl) (by kernel_rfl) ?_
  simp +contextual (disch := first | (simp only [facts, clsL, clsS, clsC, isPtrD]; done) | omega | (simp only [push_nx, put_nx, del_nx]; omega) | (refine Nat.le_antisymm ?_ ?_ <;> simp only [push_nx, put_nx, del_nx] <;> omega) | fail) only [wpy, facts, wpb, cst, wpk, wpl, forall_const, implies_true, false_implies, Int.reduceLE, Int.reduceLT, Nat.reduceLeDiff, UInt8.reduceToNat, ↓reduceIte, Nat.reduceEqDiff, Nat.reduceAdd, reduceCtorEq, Int.reduceToNat, clsL, clsS, clsC, Tryz.f70]
  refine callF_exact (roffered_spec hS _) ?_
  simp +contextual (disch := first | (simp only [facts, clsL, clsS, clsC, isPtrD]; done) | omega | (simp only [push_nx, put_nx, del_nx]; omega) | (refine Nat.le_antisymm ?_ ?_ <;> simp only [push_nx, put_nx, del_nx] <;> omega) | fail) only [wpy, facts, wpb, cst, wpk, wpl, forall_const, implies_true, false_implies, Int.reduceLE, Int.reduceLT, Nat.reduceLeDiff, UInt8.reduceToNat, ↓reduceIte, Nat.reduceEqDiff, Nat.reduceAdd, reduceCtorEq, Int.reduceToNat, clsL, clsS, clsC, Tryz.f70]
  kernel_rfl
theorem offered_spec (x : SU) (uv fv : V) (hu : uv.cells = [uv] ∧ uv.isCell = true) (hf : fv.cells = [fv] ∧ fv.isCell = true) (h : H) : Pure S.cfg 63 [.agg (x.cells uv fv)] h fun v _ => v = .int .u32 (offF x.cp) := by
  refine into Tryz.f63 _ Tryz.func63 (hS.own _ (by decide)) rfl rfl (by kernel_rfl) (by kernel_rfl) ?_
  unfold SU.cells
  obtain ⟨u1, u2⟩ := hu
  obtain ⟨f1, f2⟩ := hf
  cases hc : x.cp
  · simp +contextual (disch := first | (simp only [facts, clsL, clsS, clsC, isPtrD]; done) | omega | (simp only [push_nx, put_nx, del_nx]; omega) | (refine Nat.le_antisymm ?_ ?_ <;> simp only [push_nx, put_nx, del_nx] <;> omega) | fail) only [wpy, facts, wpb, cst, wpk, wpl, forall_const, implies_true, false_implies, Int.reduceLE, Int.reduceLT, Nat.reduceLeDiff, UInt8.reduceToNat, ↓reduceIte, Nat.reduceEqDiff, Nat.reduceAdd, reduceCtorEq, Int.reduceToNat, clsL, clsS, clsC, Tryz.f63, u1, u2, f1, f2, hc]
    refine callF_exact (offeredC_spec hS _) ?_
    simp +contextual (disch := first | (simp only [facts, clsL, clsS, clsC, isPtrD]; done) | omega | (simp only [push_nx, put_nx, del_nx]; omega) | (refine Nat.le_antisymm ?_ ?_ <;> simp only [push_nx, put_nx, del_nx] <;> omega) | fail) only [wpy, facts, wpb, cst, wpk, wpl, forall_const, implies_true, false_implies, Int.reduceLE, Int.reduceLT, Nat.reduceLeDiff, UInt8.reduceToNat, ↓reduceIte, Nat.reduceEqDiff, Nat.reduceAdd, reduceCtorEq, Int.reduceToNat, clsL, clsS, clsC, Tryz.f63, hc]
    exact ⟨(Ext.refl h).push _, by kernel_rfl⟩
  · simp +contextual (disch := first | (simp only [facts, clsL, clsS, clsC, isPtrD]; done) | omega | (simp only [push_nx, put_nx, del_nx]; omega) | (refine Nat.le_antisymm ?_ ?_ <;> simp only [push_nx, put_nx, del_nx] <;> omega) | fail) only [wpy, facts, wpb, cst, wpk, wpl, forall_const, implies_true, false_implies, Int.reduceLE, Int.reduceLT, Nat.reduceLeDiff, UInt8.reduceToNat, ↓reduceIte, Nat.reduceEqDiff, Nat.reduceAdd, reduceCtorEq, Int.reduceToNat, clsL, clsS, clsC, Tryz.f63, u1, u2, f1, f2, hc]
    refine callF_exact (offeredC_spec hS _) ?_
    simp +contextual (disch := first | (simp only [facts, clsL, clsS, clsC, isPtrD]; done) | omega | (simp only [push_nx, put_nx, del_nx]; omega) | (refine Nat.le_antisymm ?_ ?_ <;> simp only [push_nx, put_nx, del_nx] <;> omega) | fail) only [wpy, facts, wpb, cst, wpk, wpl, forall_const, implies_true, false_implies, Int.reduceLE, Int.reduceLT, Nat.reduceLeDiff, UInt8.reduceToNat, ↓reduceIte, Nat.reduceEqDiff, Nat.reduceAdd, reduceCtorEq, Int.reduceToNat, clsL, clsS, clsC, Tryz.f63, hc]
    exact ⟨(Ext.refl h).push _, by kernel_rfl⟩
theorem offeredR_spec (x : SU) (uv fv : V) (hu : uv.cells = [uv] ∧ uv.isCell = true) (hf : fv.cells = [fv] ∧ fv.isCell = true) (h : H) : Pure S.cfg 69 [.agg (x.cells uv fv)] h fun v _ => v = .int .u32 (offF x.cp) := by
  refine into Tryz.f69 _ Tryz.func69 (hS.own _ (by decide)) rfl rfl (by kernel_rfl) (by kernel_rfl) ?_
  unfold SU.cells
  obtain ⟨u1, u2⟩ := hu
  obtain ⟨f1, f2⟩ := hf
  simp +contextual (disch := first | (simp only [facts, clsL, clsS, clsC, isPtrD]; done) | omega | (simp only [push_nx, put_nx, del_nx]; omega) | (refine Nat.le_antisymm ?_ ?_ <;> simp only [push_nx, put_nx, del_nx] <;> omega) | fail) only [wpy, facts, wpb, cst, wpk, wpl, forall_const, implies_true, false_implies, Int.reduceLE, Int.reduceLT, Nat.reduceLeDiff, UInt8.reduceToNat, ↓reduceIte, Nat.reduceEqDiff, Nat.reduceAdd, reduceCtorEq, Int.reduceToNat, clsL, clsS, clsC, Tryz.f69, u1, u2, f1, f2]
  refine callF_exact (roffered_spec hS _) ?_
  cases hc : x.cp
  · simp +contextual (disch := first | (simp only [facts, clsL, clsS, clsC, isPtrD]; done) | omega | (simp only [push_nx, put_nx, del_nx]; omega) | (refine Nat.le_antisymm ?_ ?_ <;> simp only [push_nx, put_nx, del_nx] <;> omega) | fail) only [wpy, facts, wpb, cst, wpk, wpl, forall_const, implies_true, false_implies, Int.reduceLE, Int.reduceLT, Nat.reduceLeDiff, UInt8.reduceToNat, ↓reduceIte, Nat.reduceEqDiff, Nat.reduceAdd, reduceCtorEq, Int.reduceToNat, clsL, clsS, clsC, Tryz.f69, hc]
    exact ⟨(Ext.refl h).push _, by kernel_rfl⟩
  · simp +contextual (disch := first | (simp only [facts, clsL, clsS, clsC, isPtrD]; done) | omega | (simp only [push_nx, put_nx, del_nx]; omega) | (refine Nat.le_antisymm ?_ ?_ <;> simp only [push_nx, put_nx, del_nx] <;> omega) | fail) only [wpy, facts, wpb, cst, wpk, wpl, forall_const, implies_true, false_implies, Int.reduceLE, Int.reduceLT, Nat.reduceLeDiff, UInt8.reduceToNat, ↓reduceIte, Nat.reduceEqDiff, Nat.reduceAdd, reduceCtorEq, Int.reduceToNat, clsL, clsS, clsC, Tryz.f69, hc]
    exact ⟨(Ext.refl h).push _, by kernel_rfl⟩
theorem greeting_spec (x : SU) (uv fv nv : V) (c : Int) (hu : uv.cells = [uv] ∧ uv.isCell = true) (hf : fv.cells = [fv] ∧ fv.isCell = true) (hn : nv.cells = [nv] ∧ nv.isCell = true) (h : H) : Pure S.cfg 61 [.agg (x.cells uv fv), .int .i64 1, nv, .int .u32 c] h fun v _ => v = .agg (greetC x.ver nv c) := by
  refine into Tryz.f61 _ Tryz.func61 (hS.own _ (by decide)) rfl rfl (by kernel_rfl) (by kernel_rfl) ?_
  unfold SU.cells greetC
  obtain ⟨u1, u2⟩ := hu
  obtain ⟨f1, f2⟩ := hf
  obtain ⟨n1, n2⟩ := hn
  simp +contextual (disch := first | (simp only [facts, clsL, clsS, clsC, isPtrD]; done) | omega | (simp only [push_nx, put_nx, del_nx]; omega) | (refine Nat.le_antisymm ?_ ?_ <;> simp only [push_nx, put_nx, del_nx] <;> omega) | fail) only [wpy, facts, wpb, cst, wpk, wpl, forall_const, implies_true, false_implies, Int.reduceLE, Int.reduceLT, Nat.reduceLeDiff, UInt8.reduceToNat, ↓reduceIte, Nat.reduceEqDiff, Nat.reduceAdd, reduceCtorEq, Int.reduceToNat, clsL, clsS, clsC, Tryz.f61, u1, u2, f1, f2, n1, n2]
  exact ⟨.inr (by omega), ⟨Nat.le_trans (Nat.le_succ h.nx) (Nat.le_succ _), fun k hk => by rw [put_ne (by omega), push_ne (by show ¬ k = h.nx + 1; omega), push_ne (by omega)]⟩, rfl⟩
theorem greetingR_spec (x : SU) (uv fv nv : V) (c : Int) (hu : uv.cells = [uv] ∧ uv.isCell = true) (hf : fv.cells = [fv] ∧ fv.isCell = true) (hn : nv.cells = [nv] ∧ nv.isCell = true) (h : H) : Pure S.cfg 68 [.agg (x.cells uv fv), .int .u32 1, nv, .int .u32 c] h fun v _ => v = .agg (greetC x.ver nv c) := by
  refine into Tryz.f68 _ Tryz.func68 (hS.own _ (by decide)) rfl rfl (by kernel_rfl) (by kernel_rfl) ?_
  unfold SU.cells greetC
  obtain ⟨u1, u2⟩ := hu
  obtain ⟨f1, f2⟩ := hf
  obtain ⟨n1, n2⟩ := hn
  simp +contextual (disch := first | (simp only [facts, clsL, clsS, clsC, isPtrD]; done) | omega | (simp only [push_nx, put_nx, del_nx]; omega) | (refine Nat.le_antisymm ?_ ?_ <;> simp only [push_nx, put_nx, del_nx] <;> omega) | fail) only [wpy, facts, wpb, cst, wpk, wpl, forall_const, implies_true, false_implies, Int.reduceLE, Int.reduceLT, Nat.reduceLeDiff, UInt8.reduceToNat, ↓reduceIte, Nat.reduceEqDiff, Nat.reduceAdd, reduceCtorEq, Int.reduceToNat, clsL, clsS, clsC, Tryz.f68, u1, u2, f1, f2, n1, n2]
  exact ⟨.inr (by omega), ⟨Nat.le_trans (Nat.le_succ h.nx) (Nat.le_succ _), fun k hk => by rw [put_ne (by omega), push_ne (by show ¬ k = h.nx + 1; omega), push_ne (by omega)]⟩, rfl⟩
theorem sound_spec (h : H) : Pure S.cfg 62 [] h fun w h' => ∃ l, NonceOk l ∧ LB h.nx h' w l := by
  refine into Tryz.f62 _ Tryz.func62 (hS.own _ (by decide)) rfl rfl (by kernel_rfl) (by kernel_rfl) ?_
  simp +contextual (disch := first | (simp only [facts, clsL, clsS, clsC, isPtrD]; done) | omega | (simp only [push_nx, put_nx, del_nx]; omega) | (refine Nat.le_antisymm ?_ ?_ <;> simp only [push_nx, put_nx, del_nx] <;> omega) | fail) only [wpy, facts, wpb, cst, wpk, wpl, forall_const, implies_true, false_implies, Int.reduceLE, Int.reduceLT, Nat.reduceLeDiff, UInt8.reduceToNat, ↓reduceIte, Nat.reduceEqDiff, Nat.reduceAdd, reduceCtorEq, Int.reduceToNat, clsL, clsS, clsC, Tryz.f62]
  refine mk_bytes (n := 20) (by decide) rfl ?_
  simp +contextual (disch := first | (simp only [facts, clsL, clsS, clsC, isPtrD]; done) | omega | (simp only [push_nx, put_nx, del_nx]; omega) | (refine Nat.le_antisymm ?_ ?_ <;> simp only [push_nx, put_nx, del_nx] <;> omega) | fail) only [wpy, facts, wpb, cst, wpk, wpl, forall_const, implies_true, false_implies, Int.reduceLE, Int.reduceLT, Nat.reduceLeDiff, UInt8.reduceToNat, ↓reduceIte, Nat.reduceEqDiff, Nat.reduceAdd, reduceCtorEq, Int.reduceToNat, clsL, clsS, clsC, Tryz.f62]
  generalize hhA : H.push h _ = hA
  have hxA : Ext h hA := by rw [← hhA]; exact (Ext.refl h).push _
  have gA : hA.get h.nx = some (.cells (bytesV (List.replicate 20 0)) 5 false) := by rw [← hhA]; exact push_eq rfl
  have nA : hA.nx = h.nx + 1 := by rw [← hhA]; rfl
  clear hhA
  have hb : BS 5 hA (.slice h.nx 0 20 20) (List.replicate 20 0) := by
    refine ⟨by decide, .inr ⟨h.nx, 0, 20, rfl, by omega, by decide, ?_, fun kc e' fl q hf => ?_⟩⟩
    · rw [gA]
      exact rdC_all (by rw [bytesV_length])
    · rw [gA] at q; cases q; rfl
  refine callF_pure (nonce_spec hS hb rfl) ?_
  rintro _ h2 hx2 ⟨lv, rfl, hlv⟩
  simp +contextual (disch := first | (simp only [facts, clsL, clsS, clsC, isPtrD]; done) | omega | (simp only [push_nx, put_nx, del_nx]; omega) | (refine Nat.le_antisymm ?_ ?_ <;> simp only [push_nx, put_nx, del_nx] <;> omega) | fail) only [wpy, facts, wpb, cst, wpk, wpl, forall_const, implies_true, false_implies, Int.reduceLE, Int.reduceLT, Nat.reduceLeDiff, UInt8.reduceToNat, ↓reduceIte, Nat.reduceEqDiff, Nat.reduceAdd, reduceCtorEq, Int.reduceToNat, clsL, clsS, clsC, Tryz.f62]
  exact ⟨hxA.trans hx2, _, nonces_ok (by decide), LB.mono hlv hxA.1⟩
theorem between_spec (n a b : Int) (h : H) : Exact S.cfg 120 [.int .i64 n, .int .i64 a, .int .i64 b] h (bo (a ≤ n ∧ n ≤ b)) := by
  refine into Tryz.f120 _ Tryz.func120 (hS.own _ (by decide)) rfl rfl (by kernel_rfl) (by kernel_rfl) ?_
  simp +contextual (disch := first | (simp only [facts, clsL, clsS, clsC, isPtrD]; done) | omega | (simp only [push_nx, put_nx, del_nx]; omega) | (refine Nat.le_antisymm ?_ ?_ <;> simp only [push_nx, put_nx, del_nx] <;> omega) | fail) only [wpy, facts, wpb, cst, wpk, wpl, forall_const, implies_true, false_implies, Int.reduceLE, Int.reduceLT, Nat.reduceLeDiff, UInt8.reduceToNat, ↓reduceIte, Nat.reduceEqDiff, Nat.reduceAdd, reduceCtorEq, Int.reduceToNat, clsL, clsS, clsC, Tryz.f120]
theorem pool_spec (l w k : Int) (h : H) : Pure S.cfg 65 [.agg [.int .i64 l, .int .i64 w, .int .i64 k]] h fun v _ => ∃ p, v = .tuple [p, .int .i64 (poolE l w k)] := by
  refine into Tryz.f65 _ Tryz.func65 (hS.own _ (by decide)) rfl rfl (by kernel_rfl) (by kernel_rfl) ?_
  simp +contextual (disch := first | (simp only [facts, clsL, clsS, clsC, isPtrD]; done) | omega | (simp only [push_nx, put_nx, del_nx]; omega) | (refine Nat.le_antisymm ?_ ?_ <;> simp only [push_nx, put_nx, del_nx] <;> omega) | fail) only [wpy, facts, wpb, cst, wpk, wpl, forall_const, implies_true, false_implies, Int.reduceLE, Int.reduceLT, Nat.reduceLeDiff, UInt8.reduceToNat, ↓reduceIte, Nat.reduceEqDiff, Nat.reduceAdd, reduceCtorEq, Int.reduceToNat, clsL, clsS, clsC, Tryz.f65]
  refine callF_exact (between_spec hS _ _ _ _) ?_
  simp +contextual (disch := first | (simp only [facts, clsL, clsS, clsC, isPtrD]; done) | omega | (simp only [push_nx, put_nx, del_nx]; omega) | (refine Nat.le_antisymm ?_ ?_ <;> simp only [push_nx, put_nx, del_nx] <;> omega) | fail) only [wpy, facts, wpb, cst, wpk, wpl, forall_const, implies_true, false_implies, Int.reduceLE, Int.reduceLT, Nat.reduceLeDiff, UInt8.reduceToNat, ↓reduceIte, Nat.reduceEqDiff, Nat.reduceAdd, reduceCtorEq, Int.reduceToNat, clsL, clsS, clsC, Tryz.f65]
  by_cases p1 : 1 ≤ l ∧ l ≤ 64
  · simp +contextual (disch := first | (simp only [facts, clsL, clsS, clsC, isPtrD]; done) | omega | (simp only [push_nx, put_nx, del_nx]; omega) | (refine Nat.le_antisymm ?_ ?_ <;> simp only [push_nx, put_nx, del_nx] <;> omega) | fail) only [wpy, facts, wpb, cst, wpk, wpl, forall_const, implies_true, false_implies, Int.reduceLE, Int.reduceLT, Nat.reduceLeDiff, UInt8.reduceToNat, ↓reduceIte, Nat.reduceEqDiff, Nat.reduceAdd, reduceCtorEq, Int.reduceToNat, clsL, clsS, clsC, Tryz.f65, p1]
    refine callF_exact (between_spec hS _ _ _ _) ?_
    by_cases p2 : 1 ≤ w ∧ w ≤ 1048576
    · simp +contextual (disch := first | (simp only [facts, clsL, clsS, clsC, isPtrD]; done) | omega | (simp only [push_nx, put_nx, del_nx]; omega) | (refine Nat.le_antisymm ?_ ?_ <;> simp only [push_nx, put_nx, del_nx] <;> omega) | fail) only [wpy, facts, wpb, cst, wpk, wpl, forall_const, implies_true, false_implies, Int.reduceLE, Int.reduceLT, Nat.reduceLeDiff, UInt8.reduceToNat, ↓reduceIte, Nat.reduceEqDiff, Nat.reduceAdd, reduceCtorEq, Int.reduceToNat, clsL, clsS, clsC, Tryz.f65, p1, p2]
      refine callF_exact (between_spec hS _ _ _ _) ?_
      by_cases p3 : 0 ≤ k ∧ k ≤ 1048576
      · simp +contextual (disch := first | (simp only [facts, clsL, clsS, clsC, isPtrD]; done) | omega | (simp only [push_nx, put_nx, del_nx]; omega) | (refine Nat.le_antisymm ?_ ?_ <;> simp only [push_nx, put_nx, del_nx] <;> omega) | fail) only [wpy, facts, wpb, cst, wpk, wpl, forall_const, implies_true, false_implies, Int.reduceLE, Int.reduceLT, Nat.reduceLeDiff, UInt8.reduceToNat, ↓reduceIte, Nat.reduceEqDiff, Nat.reduceAdd, reduceCtorEq, Int.reduceToNat, clsL, clsS, clsC, Tryz.f65, p1, p2, p3, opW_makeMap0]
        rw [poolE_yes ⟨p1, p2, p3⟩]
        exact ⟨(((Ext.refl h).push _).push _).push _, _, rfl⟩
      · simp +contextual (disch := first | (simp only [facts, clsL, clsS, clsC, isPtrD]; done) | omega | (simp only [push_nx, put_nx, del_nx]; omega) | (refine Nat.le_antisymm ?_ ?_ <;> simp only [push_nx, put_nx, del_nx] <;> omega) | fail) only [wpy, facts, wpb, cst, wpk, wpl, forall_const, implies_true, false_implies, Int.reduceLE, Int.reduceLT, Nat.reduceLeDiff, UInt8.reduceToNat, ↓reduceIte, Nat.reduceEqDiff, Nat.reduceAdd, reduceCtorEq, Int.reduceToNat, clsL, clsS, clsC, Tryz.f65, p1, p2, p3]
        rw [poolE_no fun q => p3 q.2.2]
        exact ⟨(Ext.refl h).push _, _, rfl⟩
    · simp +contextual (disch := first | (simp only [facts, clsL, clsS, clsC, isPtrD]; done) | omega | (simp only [push_nx, put_nx, del_nx]; omega) | (refine Nat.le_antisymm ?_ ?_ <;> simp only [push_nx, put_nx, del_nx] <;> omega) | fail) only [wpy, facts, wpb, cst, wpk, wpl, forall_const, implies_true, false_implies, Int.reduceLE, Int.reduceLT, Nat.reduceLeDiff, UInt8.reduceToNat, ↓reduceIte, Nat.reduceEqDiff, Nat.reduceAdd, reduceCtorEq, Int.reduceToNat, clsL, clsS, clsC, Tryz.f65, p1, p2]
      rw [poolE_no fun q => p2 q.2.1]
      exact ⟨(Ext.refl h).push _, _, rfl⟩
  · simp +contextual (disch := first | (simp only [facts, clsL, clsS, clsC, isPtrD]; done) | omega | (simp only [push_nx, put_nx, del_nx]; omega) | (refine Nat.le_antisymm ?_ ?_ <;> simp only [push_nx, put_nx, del_nx] <;> omega) | fail) only [wpy, facts, wpb, cst, wpk, wpl, forall_const, implies_true, false_implies, Int.reduceLE, Int.reduceLT, Nat.reduceLeDiff, UInt8.reduceToNat, ↓reduceIte, Nat.reduceEqDiff, Nat.reduceAdd, reduceCtorEq, Int.reduceToNat, clsL, clsS, clsC, Tryz.f65, p1]
    rw [poolE_no fun q => p1 q.1]
    exact ⟨(Ext.refl h).push _, _, rfl⟩
theorem rpool_spec (l w k : Int) (h : H) : Pure S.cfg 72 [.agg [.int .i64 l, .int .i64 w, .int .i64 k]] h fun v _ => v = bo (poolP l w k) := by
  refine into Tryz.f72 _ Tryz.func72 (hS.own _ (by decide)) rfl rfl (by kernel_rfl) (by kernel_rfl) ?_
  simp +contextual (disch := first | (simp only [facts, clsL, clsS, clsC, isPtrD]; done) | omega | (simp only [push_nx, put_nx, del_nx]; omega) | (refine Nat.le_antisymm ?_ ?_ <;> simp only [push_nx, put_nx, del_nx] <;> omega) | fail) only [wpy, facts, wpb, cst, wpk, wpl, forall_const, implies_true, false_implies, Int.reduceLE, Int.reduceLT, Nat.reduceLeDiff, UInt8.reduceToNat, ↓reduceIte, Nat.reduceEqDiff, Nat.reduceAdd, reduceCtorEq, Int.reduceToNat, clsL, clsS, clsC, Tryz.f72]
  refine ⟨(Ext.refl h).push _, congrArg bo (propext ?_)⟩
  unfold poolP
  constructor
  · rintro ⟨⟨⟨⟨⟨a, b⟩, c⟩, d⟩, e⟩, f⟩
    exact ⟨⟨a, b⟩, ⟨c, d⟩, e, f⟩
  · rintro ⟨⟨a, b⟩, ⟨c, d⟩, e, f⟩
    exact ⟨⟨⟨⟨⟨a, b⟩, c⟩, d⟩, e⟩, f⟩
end
end Go.Proofs.YthhdkonpejmgcaaGreatDoor

/-
  Whole setups checked, by the program and by the document.
-/
set_option linter.unusedSimpArgs false
set_option linter.unusedVariables false
set_option linter.unusedSectionVars false
set_option linter.defProp false
set_option maxRecDepth 20000
set_option maxHeartbeats 2000000
namespace Go.Proofs.YthhdkonpejmgcaaGreatDoor
open Go.Proofs Go.Lx Go.Wx Go.IntWalk
noncomputable section
structure SOk (x : SU) : Prop where
  us : x.us.length ≤ 1000
  ts : x.ts.length ≤ 1000
  ver : x.ver.length ≤ 3000
  vb : ∀ b ∈ x.ver, b < 256
  uok : ∀ u ∈ x.us, URok u
  sok : URok x.sv
def checkP (x : SU) : Prop := doorP x.us x.ver ∧ doorP [x.sv] x.ver ∧ poolP x.pl x.pw x.pk ∧ okS x.ts x.rows ∧ ¬ x.lim < 1 ∧ ¬ x.lim > 16777216 ∧ ¬ x.most < 1 ∧ ¬ x.most > 16777215
noncomputable def checkE (x : SU) : Int := @ite Int (checkP x) (Classical.propDecidable _) 0 2
theorem checkE_yes {x : SU} (h : checkP x) : checkE x = 0 := by unfold checkE; rw [if_pos h]
theorem checkE_no {x : SU} (h : ¬ checkP x) : checkE x = 2 := by unfold checkE; rw [if_neg h]
theorem ub_one {h : H} {u : UR} {cs : List V} (hc : cs = u.cells) : UB (h.push (.cells cs 34 false)) (.slice h.nx 0 1 1) [u] := by
  subst hc
  exact ⟨rfl, .inr ⟨h.nx, 0, 1, rfl, Nat.lt_succ_self _, Nat.le_refl _, by rw [push_eq rfl]; rfl, fun kc e' fl w hf => by rw [push_eq rfl] at w; cases w; cases hf⟩⟩
theorem lb_cell {n0 : Nat} {h : H} {v : V} {l : List Nat} (a : LB n0 h v l) : v.cells = [v] ∧ v.isCell = true := by
  rcases a with (⟨q, _⟩ | ⟨b, n, _, _, q, _⟩) | ⟨_, b, _, _, q, _⟩ <;> rw [q] <;> exact ⟨rfl, rfl⟩
theorem wr_ch {n0 n1 B : Nat} : fpApart (.lg [.wrd B]) (.ch n0 n1 nil1 B) := fun e he => .inl (by rw [List.mem_singleton.1 he]; rfl)
theorem rd_ch {n0 n1 k o m B : Nat} (h : k < n0) : fpApart (.lg [.rd k o m]) (.ch n0 n1 nil1 B) := fun e he => .inr (by rw [List.mem_singleton.1 he]; exact ⟨rfl, .inr h, fun q => q.elim⟩)
variable {S : Set0} (hS : StdU S) (hl : SumLocal S.cfg)
include hS hl
theorem pcheck_spec (x : SU) (uv fv : V) (h : H) (hx : SOk x) (au : UB h uv x.us) (af : Fam h fv x.ts) : Pure S.cfg 25 [.agg (x.cells uv fv)] h fun v _ => v = .int .i64 (checkE x) := by
  refine into Tryz.f25 _ Tryz.func25 (hS.own _ (by decide)) rfl rfl (by kernel_rfl) (by kernel_rfl) ?_
  obtain ⟨u1, u2⟩ := au.cell
  obtain ⟨f2, f1⟩ := af.cell
  have so := fun h => offered_spec hS x uv fv ⟨u1, u2⟩ ⟨f1, f2⟩ h
  have sg := fun nv c hn h => greeting_spec hS x uv fv nv c ⟨u1, u2⟩ ⟨f1, f2⟩ hn h
  unfold SU.cells at so sg ⊢
  simp +contextual (disch := first | (simp only [facts, clsL, clsS, clsC, isPtrD]; done) | omega | (simp only [push_nx, put_nx, del_nx]; omega) | (refine Nat.le_antisymm ?_ ?_ <;> simp only [push_nx, put_nx, del_nx] <;> omega) | fail) only [wpy, facts, wpb, cst, wpk, wpl, forall_const, implies_true, false_implies, Int.reduceLE, Int.reduceLT, Nat.reduceLeDiff, UInt8.reduceToNat, ↓reduceIte, Nat.reduceEqDiff, Nat.reduceAdd, reduceCtorEq, Int.reduceToNat, clsL, clsS, clsC, Tryz.f25, u1, u2, f1, f2]
  generalize hhA : H.push h _ = hA
  have hxA : Ext h hA := by rw [← hhA]; exact (Ext.refl h).push _
  have gA : hA.get h.nx = some (.cells (x.cells uv fv) 42 false) := by rw [← hhA]; exact push_eq rfl
  have nA : hA.nx = h.nx + 1 := by rw [← hhA]; rfl
  clear hhA
  unfold SU.cells at gA
  refine draw_by [(1, 3), (2, 3), (3, 4), (1, 5), (2, 5), (1, 6)] (by kernel_rfl) ?_
  simp +contextual (disch := first | (simp only [facts, clsL, clsS, clsC, isPtrD]; done) | omega | (simp only [push_nx, put_nx, del_nx]; omega) | (refine Nat.le_antisymm ?_ ?_ <;> simp only [push_nx, put_nx, del_nx] <;> omega) | fail) only [wpy, facts, wpb, cst, wpk, wpl, forall_const, implies_true, false_implies, Int.reduceLE, Int.reduceLT, Nat.reduceLeDiff, UInt8.reduceToNat, ↓reduceIte, Nat.reduceEqDiff, Nat.reduceAdd, reduceCtorEq, Int.reduceToNat, clsL, clsS, clsC, Tryz.f25, gA]
  refine callF_pure (sound_spec hS _) ?_
  rintro nv h1 hx1 ⟨nl, hn, hl1⟩
  have g1 := (hx1.2 h.nx (by omega)).trans gA
  have n1 := hx1.1
  simp +contextual (disch := first | (simp only [facts, clsL, clsS, clsC, isPtrD]; done) | omega | (simp only [push_nx, put_nx, del_nx]; omega) | (refine Nat.le_antisymm ?_ ?_ <;> simp only [push_nx, put_nx, del_nx] <;> omega) | fail) only [wpy, facts, wpb, cst, wpk, wpl, forall_const, implies_true, false_implies, Int.reduceLE, Int.reduceLT, Nat.reduceLeDiff, UInt8.reduceToNat, ↓reduceIte, Nat.reduceEqDiff, Nat.reduceAdd, reduceCtorEq, Int.reduceToNat, clsL, clsS, clsC, Tryz.f25, g1]
  refine callF_pure (so _) ?_
  rintro _ h2 hx2 rfl
  have g2 := (hx2.2 h.nx (by omega)).trans g1
  have n2 := hx2.1
  simp +contextual (disch := first | (simp only [facts, clsL, clsS, clsC, isPtrD]; done) | omega | (simp only [push_nx, put_nx, del_nx]; omega) | (refine Nat.le_antisymm ?_ ?_ <;> simp only [push_nx, put_nx, del_nx] <;> omega) | fail) only [wpy, facts, wpb, cst, wpk, wpl, forall_const, implies_true, false_implies, Int.reduceLE, Int.reduceLT, Nat.reduceLeDiff, UInt8.reduceToNat, ↓reduceIte, Nat.reduceEqDiff, Nat.reduceAdd, reduceCtorEq, Int.reduceToNat, clsL, clsS, clsC, Tryz.f25, g2]
  refine callF_pure (sg nv _ (lb_cell hl1) _) ?_
  rintro _ h3 hx3 rfl
  have g3 := (hx3.2 h.nx (by omega)).trans g2
  have n3 := hx3.1
  simp +contextual (disch := first | (simp only [facts, clsL, clsS, clsC, isPtrD]; done) | omega | (simp only [push_nx, put_nx, del_nx]; omega) | (refine Nat.le_antisymm ?_ ?_ <;> simp only [push_nx, put_nx, del_nx] <;> omega) | fail) only [wpy, facts, wpb, cst, wpk, wpl, forall_const, implies_true, false_implies, Int.reduceLE, Int.reduceLT, Nat.reduceLeDiff, UInt8.reduceToNat, ↓reduceIte, Nat.reduceEqDiff, Nat.reduceAdd, reduceCtorEq, Int.reduceToNat, clsL, clsS, clsC, Tryz.f25, g3]
  have xx3 := ((hxA.trans hx1).trans hx2).trans hx3
  have b3 : BS 5 h3 nv nl := ((hl1.bs fun b q => (hn.2 b q).2.1).ext hx2).ext hx3
  refine callF_pure (door_spec hS (au.ext xx3) hx.us hx.uok b3 hn (offF_ok _) hx.ver hx.vb) ?_
  rintro _ h4 hx4 ⟨p4, rfl⟩
  have g4 := (hx4.2 h.nx (by omega)).trans g3
  have n4 := hx4.1
  simp +contextual (disch := first | (simp only [facts, clsL, clsS, clsC, isPtrD]; done) | omega | (simp only [push_nx, put_nx, del_nx]; omega) | (refine Nat.le_antisymm ?_ ?_ <;> simp only [push_nx, put_nx, del_nx] <;> omega) | fail) only [wpy, facts, wpb, cst, wpk, wpl, forall_const, implies_true, false_implies, Int.reduceLE, Int.reduceLT, Nat.reduceLeDiff, UInt8.reduceToNat, ↓reduceIte, Nat.reduceEqDiff, Nat.reduceAdd, reduceCtorEq, Int.reduceToNat, clsL, clsS, clsC, Tryz.f25, g4]
  have ld1 : ldL (some (1, false)) (V.ptr h.nx 0) = [.rd h.nx 0 1] := rfl
  have ld16 : ldL (some (16, true)) (V.ptr h.nx 0) = [.rd h.nx 0 16] := rfl
  refine ⟨fun p hp => ?_, ?_⟩
  · rw [ld1, ld16]
    simp only [List.mem_cons, List.not_mem_nil, or_false] at hp
    rcases hp with rfl | rfl | rfl | rfl | rfl | rfl
    · exact pair_one rfl rfl (rd_cl0 (by omega))
    · exact pair_one rfl rfl (rd_cl0 (by omega))
    · exact pair_one rfl rfl (cl_rd0 (by omega))
    · exact pair_one rfl rfl (rd_cl0 (by omega))
    · exact pair_one rfl rfl (rd_cl0 (by omega))
    · exact pair_one rfl rfl (rd_cl0 (by omega))
  refine draw_by [(2, 3), (1, 4), (2, 4), (3, 4), (1, 5), (2, 5), (3, 5), (1, 6), (2, 6)] (by kernel_rfl) ?_
  have tk : List.take 5 (List.drop 1 [uv, V.str x.sv.n, V.str x.sv.p, V.str x.sv.g, V.str x.sv.s, V.bool x.sv.a, V.int IntKind.u64 x.seed, fv, V.int IntKind.i64 x.rows, V.int IntKind.i64 x.pl, V.int IntKind.i64 x.pw, V.int IntKind.i64 x.pk, V.bool x.cp, V.int IntKind.i64 x.lim, V.int IntKind.i64 x.most, V.str x.ver]) = [V.str x.sv.n, V.str x.sv.p, V.str x.sv.g, V.str x.sv.s, V.bool x.sv.a] := rfl
  simp +contextual (disch := first | (simp only [facts, clsL, clsS, clsC, isPtrD]; done) | omega | (simp only [push_nx, put_nx, del_nx]; omega) | (refine Nat.le_antisymm ?_ ?_ <;> simp only [push_nx, put_nx, del_nx] <;> omega) | fail) only [wpy, facts, wpb, cst, wpk, wpl, forall_const, implies_true, false_implies, Int.reduceLE, Int.reduceLT, Nat.reduceLeDiff, UInt8.reduceToNat, ↓reduceIte, Nat.reduceEqDiff, Nat.reduceAdd, reduceCtorEq, Int.reduceToNat, clsL, clsS, clsC, Tryz.f25, g4, tk]
  have a5 := ub_one (h := h4) (u := x.sv) (cs := [.str x.sv.n, .str x.sv.p, .str x.sv.g, .str x.sv.s, .bool x.sv.a]) rfl
  generalize hh5 : H.push h4 _ = h5 at *
  have hx5 : Ext h4 h5 := by rw [← hh5]; exact (Ext.refl h4).push _
  have n5 : h5.nx = h4.nx + 1 := by rw [← hh5]; rfl
  have g5 := (hx5.2 h.nx (by omega)).trans g4
  clear hh5
  refine callF_hid h4.nx (by omega) hl (sound_spec hS _) (sound_spec hS _) ?_
  rintro mv h6 hx6 ⟨ml, hm, hl6⟩
  have g6 := (hx6.2 h.nx (by omega)).trans g5
  have n6 := hx6.1
  simp +contextual (disch := first | (simp only [facts, clsL, clsS, clsC, isPtrD]; done) | omega | (simp only [push_nx, put_nx, del_nx]; omega) | (refine Nat.le_antisymm ?_ ?_ <;> simp only [push_nx, put_nx, del_nx] <;> omega) | fail) only [wpy, facts, wpb, cst, wpk, wpl, forall_const, implies_true, false_implies, Int.reduceLE, Int.reduceLT, Nat.reduceLeDiff, UInt8.reduceToNat, ↓reduceIte, Nat.reduceEqDiff, Nat.reduceAdd, reduceCtorEq, Int.reduceToNat, clsL, clsS, clsC, Tryz.f25, g6]
  refine callF_hid h4.nx (by omega) hl (exact_pure (backs_spec hS _)) (exact_pure (backs_spec hS _)) ?_
  rintro _ h7 hx7 rfl
  have g7 := (hx7.2 h.nx (by omega)).trans g6
  have n7 := hx7.1
  simp +contextual (disch := first | (simp only [facts, clsL, clsS, clsC, isPtrD]; done) | omega | (simp only [push_nx, put_nx, del_nx]; omega) | (refine Nat.le_antisymm ?_ ?_ <;> simp only [push_nx, put_nx, del_nx] <;> omega) | fail) only [wpy, facts, wpb, cst, wpk, wpl, forall_const, implies_true, false_implies, Int.reduceLE, Int.reduceLT, Nat.reduceLeDiff, UInt8.reduceToNat, ↓reduceIte, Nat.reduceEqDiff, Nat.reduceAdd, reduceCtorEq, Int.reduceToNat, clsL, clsS, clsC, Tryz.f25, g7]
  refine callF_hid h4.nx (by omega) hl (sg mv _ (lb_cell hl6) _) (sg mv _ (lb_cell hl6) _) ?_
  rintro _ h8 hx8 rfl
  have g8 := (hx8.2 h.nx (by omega)).trans g7
  have n8 := hx8.1
  simp +contextual (disch := first | (simp only [facts, clsL, clsS, clsC, isPtrD]; done) | omega | (simp only [push_nx, put_nx, del_nx]; omega) | (refine Nat.le_antisymm ?_ ?_ <;> simp only [push_nx, put_nx, del_nx] <;> omega) | fail) only [wpy, facts, wpb, cst, wpk, wpl, forall_const, implies_true, false_implies, Int.reduceLE, Int.reduceLT, Nat.reduceLeDiff, UInt8.reduceToNat, ↓reduceIte, Nat.reduceEqDiff, Nat.reduceAdd, reduceCtorEq, Int.reduceToNat, clsL, clsS, clsC, Tryz.f25, g8]
  have b8 : BS 5 h8 mv ml := ((hl6.bs fun b q => (hm.2 b q).2.1).ext hx7).ext hx8
  have a8 : UB h8 (.slice h4.nx 0 1 1) [x.sv] := ((a5.ext hx6).ext hx7).ext hx8
  refine callF_pure (door_spec hS a8 (show 1 ≤ 1000 by decide) (fun u hu => by rw [List.mem_singleton.1 hu]; exact hx.sok) b8 hm capsC hx.ver hx.vb) ?_
  rintro _ h9 hx9 ⟨p9, rfl⟩
  have g9 := (hx9.2 h.nx (by omega)).trans g8
  have n9 := hx9.1
  simp +contextual (disch := first | (simp only [facts, clsL, clsS, clsC, isPtrD]; done) | omega | (simp only [push_nx, put_nx, del_nx]; omega) | (refine Nat.le_antisymm ?_ ?_ <;> simp only [push_nx, put_nx, del_nx] <;> omega) | fail) only [wpy, facts, wpb, cst, wpk, wpl, forall_const, implies_true, false_implies, Int.reduceLE, Int.reduceLT, Nat.reduceLeDiff, UInt8.reduceToNat, ↓reduceIte, Nat.reduceEqDiff, Nat.reduceAdd, reduceCtorEq, Int.reduceToNat, clsL, clsS, clsC, Tryz.f25, g9]
  refine ⟨fun p hp => ?_, ?_⟩
  · have ld5 : ldL (some (5, true)) (V.ptr h.nx 1) = [.rd h.nx 1 5] := rfl
    rw [ld5, ld16]
    simp only [List.mem_cons, List.not_mem_nil, or_false] at hp
    rcases hp with rfl | rfl | rfl | rfl | rfl | rfl | rfl | rfl | rfl
    · exact pair_one rfl rfl (raf (a := h4.nx) (one_le (Nat.le_refl _)) (one_lt (by show h.nx < h4.nx; omega)))
    · exact pair_one rfl rfl (rd_ch (by omega))
    · exact pair_one rfl rfl wr_ch
    · exact pair_one rfl rfl (rd_ch (by omega))
    · exact pair_one rfl rfl (rd_ch (by omega))
    · exact pair_one rfl rfl wr_ch
    · exact pair_one rfl rfl (rd_ch (by omega))
    · exact pair_one rfl rfl (rd_ch (by omega))
    · exact pair_one rfl rfl wr_ch
  refine callF_pure (pool_spec hS x.pl x.pw x.pk _) ?_
  rintro _ h10 hx10 ⟨p10, rfl⟩
  have g10 := (hx10.2 h.nx (by omega)).trans g9
  have n10 := hx10.1
  have xx10 : Ext h h10 := (((((xx3.trans hx4).trans hx5).trans hx6).trans hx7).trans hx8).trans (hx9.trans hx10)
  by_cases d1 : doorP x.us x.ver
  case neg =>
    have e1 := doorE_no d1
    rw [checkE_no fun q => d1 q.1]
    simp +contextual (disch := first | (simp only [facts, clsL, clsS, clsC, isPtrD]; done) | omega | (simp only [push_nx, put_nx, del_nx]; omega) | (refine Nat.le_antisymm ?_ ?_ <;> simp only [push_nx, put_nx, del_nx] <;> omega) | fail) only [wpy, facts, wpb, cst, wpk, wpl, forall_const, implies_true, false_implies, Int.reduceLE, Int.reduceLT, Nat.reduceLeDiff, UInt8.reduceToNat, ↓reduceIte, Nat.reduceEqDiff, Nat.reduceAdd, reduceCtorEq, Int.reduceToNat, clsL, clsS, clsC, Tryz.f25, g10, e1, Int.reduceEq]
    exact xx10
  have e1 := doorE_yes d1
  by_cases d2 : doorP [x.sv] x.ver
  case neg =>
    have e2 := doorE_no d2
    rw [checkE_no fun q => d2 q.2.1]
    simp +contextual (disch := first | (simp only [facts, clsL, clsS, clsC, isPtrD]; done) | omega | (simp only [push_nx, put_nx, del_nx]; omega) | (refine Nat.le_antisymm ?_ ?_ <;> simp only [push_nx, put_nx, del_nx] <;> omega) | fail) only [wpy, facts, wpb, cst, wpk, wpl, forall_const, implies_true, false_implies, Int.reduceLE, Int.reduceLT, Nat.reduceLeDiff, UInt8.reduceToNat, ↓reduceIte, Nat.reduceEqDiff, Nat.reduceAdd, reduceCtorEq, Int.reduceToNat, clsL, clsS, clsC, Tryz.f25, g10, e1, e2, Int.reduceEq]
    exact xx10
  have e2 := doorE_yes d2
  by_cases d3 : poolP x.pl x.pw x.pk
  case neg =>
    have e3 := poolE_no d3
    rw [checkE_no fun q => d3 q.2.2.1]
    simp +contextual (disch := first | (simp only [facts, clsL, clsS, clsC, isPtrD]; done) | omega | (simp only [push_nx, put_nx, del_nx]; omega) | (refine Nat.le_antisymm ?_ ?_ <;> simp only [push_nx, put_nx, del_nx] <;> omega) | fail) only [wpy, facts, wpb, cst, wpk, wpl, forall_const, implies_true, false_implies, Int.reduceLE, Int.reduceLT, Nat.reduceLeDiff, UInt8.reduceToNat, ↓reduceIte, Nat.reduceEqDiff, Nat.reduceAdd, reduceCtorEq, Int.reduceToNat, clsL, clsS, clsC, Tryz.f25, g10, e1, e2, e3, Int.reduceEq]
    exact xx10
  have e3 := poolE_yes d3
  simp +contextual (disch := first | (simp only [facts, clsL, clsS, clsC, isPtrD]; done) | omega | (simp only [push_nx, put_nx, del_nx]; omega) | (refine Nat.le_antisymm ?_ ?_ <;> simp only [push_nx, put_nx, del_nx] <;> omega) | fail) only [wpy, facts, wpb, cst, wpk, wpl, forall_const, implies_true, false_implies, Int.reduceLE, Int.reduceLT, Nat.reduceLeDiff, UInt8.reduceToNat, ↓reduceIte, Nat.reduceEqDiff, Nat.reduceAdd, reduceCtorEq, Int.reduceToNat, clsL, clsS, clsC, Tryz.f25, g10, e1, e2, e3, Int.reduceEq]
  refine callF_pure (mcheck_spec hS x.seed x.rows fv x.ts _ (af.ext xx10) hx.ts) ?_
  rintro _ h11 hx11 rfl
  have g11 := (hx11.2 h.nx (by omega)).trans g10
  have xx11 := xx10.trans hx11
  by_cases d4 : okS x.ts x.rows
  case neg =>
    have e4 := famF_no d4
    rw [checkE_no fun q => d4 q.2.2.2.1]
    simp +contextual (disch := first | (simp only [facts, clsL, clsS, clsC, isPtrD]; done) | omega | (simp only [push_nx, put_nx, del_nx]; omega) | (refine Nat.le_antisymm ?_ ?_ <;> simp only [push_nx, put_nx, del_nx] <;> omega) | fail) only [wpy, facts, wpb, cst, wpk, wpl, forall_const, implies_true, false_implies, Int.reduceLE, Int.reduceLT, Nat.reduceLeDiff, UInt8.reduceToNat, ↓reduceIte, Nat.reduceEqDiff, Nat.reduceAdd, reduceCtorEq, Int.reduceToNat, clsL, clsS, clsC, Tryz.f25, g11, e1, e2, e3, e4, Int.reduceEq]
    exact xx11
  have e4 := famF_yes d4
  by_cases d5 : x.lim < 1
  case pos =>
    rw [checkE_no fun q => q.2.2.2.2.1 d5]
    simp +contextual (disch := first | (simp only [facts, clsL, clsS, clsC, isPtrD]; done) | omega | (simp only [push_nx, put_nx, del_nx]; omega) | (refine Nat.le_antisymm ?_ ?_ <;> simp only [push_nx, put_nx, del_nx] <;> omega) | fail) only [wpy, facts, wpb, cst, wpk, wpl, forall_const, implies_true, false_implies, Int.reduceLE, Int.reduceLT, Nat.reduceLeDiff, UInt8.reduceToNat, ↓reduceIte, Nat.reduceEqDiff, Nat.reduceAdd, reduceCtorEq, Int.reduceToNat, clsL, clsS, clsC, Tryz.f25, g11, e1, e2, e3, e4, d5, Int.reduceEq]
    exact xx11
  by_cases d6 : x.lim > 16777216
  case pos =>
    have d6' : 16777216 < x.lim := d6
    rw [checkE_no fun q => q.2.2.2.2.2.1 d6]
    simp +contextual (disch := first | (simp only [facts, clsL, clsS, clsC, isPtrD]; done) | omega | (simp only [push_nx, put_nx, del_nx]; omega) | (refine Nat.le_antisymm ?_ ?_ <;> simp only [push_nx, put_nx, del_nx] <;> omega) | fail) only [wpy, facts, wpb, cst, wpk, wpl, forall_const, implies_true, false_implies, Int.reduceLE, Int.reduceLT, Nat.reduceLeDiff, UInt8.reduceToNat, ↓reduceIte, Nat.reduceEqDiff, Nat.reduceAdd, reduceCtorEq, Int.reduceToNat, clsL, clsS, clsC, Tryz.f25, g11, e1, e2, e3, e4, d5, d6', Int.reduceEq]
    exact xx11
  by_cases d7 : x.most < 1
  case pos =>
    have d6' : ¬ 16777216 < x.lim := d6
    rw [checkE_no fun q => q.2.2.2.2.2.2.1 d7]
    simp +contextual (disch := first | (simp only [facts, clsL, clsS, clsC, isPtrD]; done) | omega | (simp only [push_nx, put_nx, del_nx]; omega) | (refine Nat.le_antisymm ?_ ?_ <;> simp only [push_nx, put_nx, del_nx] <;> omega) | fail) only [wpy, facts, wpb, cst, wpk, wpl, forall_const, implies_true, false_implies, Int.reduceLE, Int.reduceLT, Nat.reduceLeDiff, UInt8.reduceToNat, ↓reduceIte, Nat.reduceEqDiff, Nat.reduceAdd, reduceCtorEq, Int.reduceToNat, clsL, clsS, clsC, Tryz.f25, g11, e1, e2, e3, e4, d5, d6', d7, Int.reduceEq]
    exact xx11
  by_cases d8 : x.most > 16777215
  case pos =>
    have d6' : ¬ 16777216 < x.lim := d6
    have d8' : 16777215 < x.most := d8
    rw [checkE_no fun q => q.2.2.2.2.2.2.2 d8]
    simp +contextual (disch := first | (simp only [facts, clsL, clsS, clsC, isPtrD]; done) | omega | (simp only [push_nx, put_nx, del_nx]; omega) | (refine Nat.le_antisymm ?_ ?_ <;> simp only [push_nx, put_nx, del_nx] <;> omega) | fail) only [wpy, facts, wpb, cst, wpk, wpl, forall_const, implies_true, false_implies, Int.reduceLE, Int.reduceLT, Nat.reduceLeDiff, UInt8.reduceToNat, ↓reduceIte, Nat.reduceEqDiff, Nat.reduceAdd, reduceCtorEq, Int.reduceToNat, clsL, clsS, clsC, Tryz.f25, g11, e1, e2, e3, e4, d5, d6', d7, d8', Int.reduceEq]
    exact xx11
  have d6' : ¬ 16777216 < x.lim := d6
  have d8' : ¬ 16777215 < x.most := d8
  rw [checkE_yes ⟨d1, d2, d3, d4, d5, d6, d7, d8⟩]
  simp +contextual (disch := first | (simp only [facts, clsL, clsS, clsC, isPtrD]; done) | omega | (simp only [push_nx, put_nx, del_nx]; omega) | (refine Nat.le_antisymm ?_ ?_ <;> simp only [push_nx, put_nx, del_nx] <;> omega) | fail) only [wpy, facts, wpb, cst, wpk, wpl, forall_const, implies_true, false_implies, Int.reduceLE, Int.reduceLT, Nat.reduceLeDiff, UInt8.reduceToNat, ↓reduceIte, Nat.reduceEqDiff, Nat.reduceAdd, reduceCtorEq, Int.reduceToNat, clsL, clsS, clsC, Tryz.f25, g11, e1, e2, e3, e4, d5, d6', d7, d8', Int.reduceEq]
  exact xx11
end
end Go.Proofs.YthhdkonpejmgcaaGreatDoor

/-
  Whole setups checked by the document.
-/
set_option linter.unusedSimpArgs false
set_option linter.unusedVariables false
set_option linter.unusedSectionVars false
set_option linter.defProp false
set_option maxRecDepth 20000
set_option maxHeartbeats 2000000
namespace Go.Proofs.YthhdkonpejmgcaaGreatDoor
open Go.Proofs Go.Lx Go.Wx Go.IntWalk
noncomputable section

variable {S : Set0} (hS : StdU S) (hl : SumLocal S.cfg)
include hS hl
theorem rpcheck_spec (x : SU) (uv fv : V) (h : H) (hx : SOk x) (au : UB h uv x.us) (af : Fam h fv x.ts) : Pure S.cfg 26 [.agg (x.cells uv fv)] h fun v _ => v = .int .i64 (checkE x) := by
  refine into Tryz.f26 _ Tryz.func26 (hS.own _ (by decide)) rfl rfl (by kernel_rfl) (by kernel_rfl) ?_
  obtain ⟨u1, u2⟩ := au.cell
  obtain ⟨f2, f1⟩ := af.cell
  have so := fun h => offeredR_spec hS x uv fv ⟨u1, u2⟩ ⟨f1, f2⟩ h
  have sg := fun nv c hn h => greetingR_spec hS x uv fv nv c ⟨u1, u2⟩ ⟨f1, f2⟩ hn h
  unfold SU.cells at so sg ⊢
  simp +contextual (disch := first | (simp only [facts, clsL, clsS, clsC, isPtrD]; done) | omega | (simp only [push_nx, put_nx, del_nx]; omega) | (refine Nat.le_antisymm ?_ ?_ <;> simp only [push_nx, put_nx, del_nx] <;> omega) | fail) only [wpy, facts, wpb, cst, wpk, wpl, forall_const, implies_true, false_implies, Int.reduceLE, Int.reduceLT, Nat.reduceLeDiff, UInt8.reduceToNat, ↓reduceIte, Nat.reduceEqDiff, Nat.reduceAdd, reduceCtorEq, Int.reduceToNat, clsL, clsS, clsC, Tryz.f26, u1, u2, f1, f2]
  generalize hhA : H.push h _ = hA
  have hxA : Ext h hA := by rw [← hhA]; exact (Ext.refl h).push _
  have gA : hA.get h.nx = some (.cells (x.cells uv fv) 42 false) := by rw [← hhA]; exact push_eq rfl
  have nA : hA.nx = h.nx + 1 := by rw [← hhA]; rfl
  clear hhA
  unfold SU.cells at gA
  refine draw_by [(1, 3), (2, 3), (3, 4), (1, 5), (2, 5), (1, 6)] (by kernel_rfl) ?_
  simp +contextual (disch := first | (simp only [facts, clsL, clsS, clsC, isPtrD]; done) | omega | (simp only [push_nx, put_nx, del_nx]; omega) | (refine Nat.le_antisymm ?_ ?_ <;> simp only [push_nx, put_nx, del_nx] <;> omega) | fail) only [wpy, facts, wpb, cst, wpk, wpl, forall_const, implies_true, false_implies, Int.reduceLE, Int.reduceLT, Nat.reduceLeDiff, UInt8.reduceToNat, ↓reduceIte, Nat.reduceEqDiff, Nat.reduceAdd, reduceCtorEq, Int.reduceToNat, clsL, clsS, clsC, Tryz.f26, gA]
  refine callF_pure (rpnonce_spec hS 1 _) ?_
  rintro nv h1 hx1 hl1
  have hn := nonceF_ok 1
  have g1 := (hx1.2 h.nx (by omega)).trans gA
  have n1 := hx1.1
  simp +contextual (disch := first | (simp only [facts, clsL, clsS, clsC, isPtrD]; done) | omega | (simp only [push_nx, put_nx, del_nx]; omega) | (refine Nat.le_antisymm ?_ ?_ <;> simp only [push_nx, put_nx, del_nx] <;> omega) | fail) only [wpy, facts, wpb, cst, wpk, wpl, forall_const, implies_true, false_implies, Int.reduceLE, Int.reduceLT, Nat.reduceLeDiff, UInt8.reduceToNat, ↓reduceIte, Nat.reduceEqDiff, Nat.reduceAdd, reduceCtorEq, Int.reduceToNat, clsL, clsS, clsC, Tryz.f26, g1]
  refine callF_pure (so _) ?_
  rintro _ h2 hx2 rfl
  have g2 := (hx2.2 h.nx (by omega)).trans g1
  have n2 := hx2.1
  simp +contextual (disch := first | (simp only [facts, clsL, clsS, clsC, isPtrD]; done) | omega | (simp only [push_nx, put_nx, del_nx]; omega) | (refine Nat.le_antisymm ?_ ?_ <;> simp only [push_nx, put_nx, del_nx] <;> omega) | fail) only [wpy, facts, wpb, cst, wpk, wpl, forall_const, implies_true, false_implies, Int.reduceLE, Int.reduceLT, Nat.reduceLeDiff, UInt8.reduceToNat, ↓reduceIte, Nat.reduceEqDiff, Nat.reduceAdd, reduceCtorEq, Int.reduceToNat, clsL, clsS, clsC, Tryz.f26, g2]
  refine callF_pure (sg nv _ (lb_cell hl1) _) ?_
  rintro _ h3 hx3 rfl
  have g3 := (hx3.2 h.nx (by omega)).trans g2
  have n3 := hx3.1
  simp +contextual (disch := first | (simp only [facts, clsL, clsS, clsC, isPtrD]; done) | omega | (simp only [push_nx, put_nx, del_nx]; omega) | (refine Nat.le_antisymm ?_ ?_ <;> simp only [push_nx, put_nx, del_nx] <;> omega) | fail) only [wpy, facts, wpb, cst, wpk, wpl, forall_const, implies_true, false_implies, Int.reduceLE, Int.reduceLT, Nat.reduceLeDiff, UInt8.reduceToNat, ↓reduceIte, Nat.reduceEqDiff, Nat.reduceAdd, reduceCtorEq, Int.reduceToNat, clsL, clsS, clsC, Tryz.f26, g3]
  have xx3 := ((hxA.trans hx1).trans hx2).trans hx3
  have b3 : BS 5 h3 nv (nonceF 1) := ((hl1.bs fun b q => (hn.2 b q).2.1).ext hx2).ext hx3
  refine callF_pure (rdoor_spec hS (au.ext xx3) hx.us hx.uok b3 hn (offF_ok _) hx.ver hx.vb) ?_
  rintro _ h4 hx4 ⟨p4, rfl⟩
  have g4 := (hx4.2 h.nx (by omega)).trans g3
  have n4 := hx4.1
  simp +contextual (disch := first | (simp only [facts, clsL, clsS, clsC, isPtrD]; done) | omega | (simp only [push_nx, put_nx, del_nx]; omega) | (refine Nat.le_antisymm ?_ ?_ <;> simp only [push_nx, put_nx, del_nx] <;> omega) | fail) only [wpy, facts, wpb, cst, wpk, wpl, forall_const, implies_true, false_implies, Int.reduceLE, Int.reduceLT, Nat.reduceLeDiff, UInt8.reduceToNat, ↓reduceIte, Nat.reduceEqDiff, Nat.reduceAdd, reduceCtorEq, Int.reduceToNat, clsL, clsS, clsC, Tryz.f26, g4]
  have ld1 : ldL (some (1, false)) (V.ptr h.nx 0) = [.rd h.nx 0 1] := rfl
  have ld16 : ldL (some (16, true)) (V.ptr h.nx 0) = [.rd h.nx 0 16] := rfl
  refine ⟨fun p hp => ?_, ?_⟩
  · rw [ld1, ld16]
    simp only [List.mem_cons, List.not_mem_nil, or_false] at hp
    rcases hp with rfl | rfl | rfl | rfl | rfl | rfl
    · exact pair_one rfl rfl (rd_cl0 (by omega))
    · exact pair_one rfl rfl (rd_cl0 (by omega))
    · exact pair_one rfl rfl (cl_rd0 (by omega))
    · exact pair_one rfl rfl (rd_cl0 (by omega))
    · exact pair_one rfl rfl (rd_cl0 (by omega))
    · exact pair_one rfl rfl (rd_cl0 (by omega))
  refine draw_by [(2, 3), (1, 4), (2, 4), (3, 4), (1, 5), (2, 5), (3, 5), (1, 6), (2, 6)] (by kernel_rfl) ?_
  have tk : List.take 5 (List.drop 1 [uv, V.str x.sv.n, V.str x.sv.p, V.str x.sv.g, V.str x.sv.s, V.bool x.sv.a, V.int IntKind.u64 x.seed, fv, V.int IntKind.i64 x.rows, V.int IntKind.i64 x.pl, V.int IntKind.i64 x.pw, V.int IntKind.i64 x.pk, V.bool x.cp, V.int IntKind.i64 x.lim, V.int IntKind.i64 x.most, V.str x.ver]) = [V.str x.sv.n, V.str x.sv.p, V.str x.sv.g, V.str x.sv.s, V.bool x.sv.a] := rfl
  simp +contextual (disch := first | (simp only [facts, clsL, clsS, clsC, isPtrD]; done) | omega | (simp only [push_nx, put_nx, del_nx]; omega) | (refine Nat.le_antisymm ?_ ?_ <;> simp only [push_nx, put_nx, del_nx] <;> omega) | fail) only [wpy, facts, wpb, cst, wpk, wpl, forall_const, implies_true, false_implies, Int.reduceLE, Int.reduceLT, Nat.reduceLeDiff, UInt8.reduceToNat, ↓reduceIte, Nat.reduceEqDiff, Nat.reduceAdd, reduceCtorEq, Int.reduceToNat, clsL, clsS, clsC, Tryz.f26, g4, tk]
  have a5 := ub_one (h := h4) (u := x.sv) (cs := [.str x.sv.n, .str x.sv.p, .str x.sv.g, .str x.sv.s, .bool x.sv.a]) rfl
  generalize hh5 : H.push h4 _ = h5 at *
  have hx5 : Ext h4 h5 := by rw [← hh5]; exact (Ext.refl h4).push _
  have n5 : h5.nx = h4.nx + 1 := by rw [← hh5]; rfl
  have g5 := (hx5.2 h.nx (by omega)).trans g4
  clear hh5
  refine callF_hid h4.nx (by omega) hl (rpnonce_spec hS 1 _) (rpnonce_spec hS 1 _) ?_
  rintro mv h6 hx6 hl6
  have hm := nonceF_ok 1
  have g6 := (hx6.2 h.nx (by omega)).trans g5
  have n6 := hx6.1
  simp +contextual (disch := first | (simp only [facts, clsL, clsS, clsC, isPtrD]; done) | omega | (simp only [push_nx, put_nx, del_nx]; omega) | (refine Nat.le_antisymm ?_ ?_ <;> simp only [push_nx, put_nx, del_nx] <;> omega) | fail) only [wpy, facts, wpb, cst, wpk, wpl, forall_const, implies_true, false_implies, Int.reduceLE, Int.reduceLT, Nat.reduceLeDiff, UInt8.reduceToNat, ↓reduceIte, Nat.reduceEqDiff, Nat.reduceAdd, reduceCtorEq, Int.reduceToNat, clsL, clsS, clsC, Tryz.f26, g6]
  refine callF_hid h4.nx (by omega) hl (exact_pure (rbacks_spec hS _)) (exact_pure (rbacks_spec hS _)) ?_
  rintro _ h7 hx7 rfl
  have g7 := (hx7.2 h.nx (by omega)).trans g6
  have n7 := hx7.1
  simp +contextual (disch := first | (simp only [facts, clsL, clsS, clsC, isPtrD]; done) | omega | (simp only [push_nx, put_nx, del_nx]; omega) | (refine Nat.le_antisymm ?_ ?_ <;> simp only [push_nx, put_nx, del_nx] <;> omega) | fail) only [wpy, facts, wpb, cst, wpk, wpl, forall_const, implies_true, false_implies, Int.reduceLE, Int.reduceLT, Nat.reduceLeDiff, UInt8.reduceToNat, ↓reduceIte, Nat.reduceEqDiff, Nat.reduceAdd, reduceCtorEq, Int.reduceToNat, clsL, clsS, clsC, Tryz.f26, g7]
  refine callF_hid h4.nx (by omega) hl (sg mv _ (lb_cell hl6) _) (sg mv _ (lb_cell hl6) _) ?_
  rintro _ h8 hx8 rfl
  have g8 := (hx8.2 h.nx (by omega)).trans g7
  have n8 := hx8.1
  simp +contextual (disch := first | (simp only [facts, clsL, clsS, clsC, isPtrD]; done) | omega | (simp only [push_nx, put_nx, del_nx]; omega) | (refine Nat.le_antisymm ?_ ?_ <;> simp only [push_nx, put_nx, del_nx] <;> omega) | fail) only [wpy, facts, wpb, cst, wpk, wpl, forall_const, implies_true, false_implies, Int.reduceLE, Int.reduceLT, Nat.reduceLeDiff, UInt8.reduceToNat, ↓reduceIte, Nat.reduceEqDiff, Nat.reduceAdd, reduceCtorEq, Int.reduceToNat, clsL, clsS, clsC, Tryz.f26, g8]
  have b8 : BS 5 h8 mv (nonceF 1) := ((hl6.bs fun b q => (hm.2 b q).2.1).ext hx7).ext hx8
  have a8 : UB h8 (.slice h4.nx 0 1 1) [x.sv] := ((a5.ext hx6).ext hx7).ext hx8
  refine callF_pure (rdoor_spec hS a8 (show 1 ≤ 1000 by decide) (fun u hu => by rw [List.mem_singleton.1 hu]; exact hx.sok) b8 hm capsC hx.ver hx.vb) ?_
  rintro _ h9 hx9 ⟨p9, rfl⟩
  have g9 := (hx9.2 h.nx (by omega)).trans g8
  have n9 := hx9.1
  simp +contextual (disch := first | (simp only [facts, clsL, clsS, clsC, isPtrD]; done) | omega | (simp only [push_nx, put_nx, del_nx]; omega) | (refine Nat.le_antisymm ?_ ?_ <;> simp only [push_nx, put_nx, del_nx] <;> omega) | fail) only [wpy, facts, wpb, cst, wpk, wpl, forall_const, implies_true, false_implies, Int.reduceLE, Int.reduceLT, Nat.reduceLeDiff, UInt8.reduceToNat, ↓reduceIte, Nat.reduceEqDiff, Nat.reduceAdd, reduceCtorEq, Int.reduceToNat, clsL, clsS, clsC, Tryz.f26, g9]
  refine ⟨fun p hp => ?_, ?_⟩
  · have ld5 : ldL (some (5, true)) (V.ptr h.nx 1) = [.rd h.nx 1 5] := rfl
    rw [ld5, ld16]
    simp only [List.mem_cons, List.not_mem_nil, or_false] at hp
    rcases hp with rfl | rfl | rfl | rfl | rfl | rfl | rfl | rfl | rfl
    · exact pair_one rfl rfl (raf (a := h4.nx) (one_le (Nat.le_refl _)) (one_lt (by show h.nx < h4.nx; omega)))
    · exact pair_one rfl rfl (rd_ch (by omega))
    · exact pair_one rfl rfl wr_ch
    · exact pair_one rfl rfl (rd_ch (by omega))
    · exact pair_one rfl rfl (rd_ch (by omega))
    · exact pair_one rfl rfl wr_ch
    · exact pair_one rfl rfl (rd_ch (by omega))
    · exact pair_one rfl rfl (rd_ch (by omega))
    · exact pair_one rfl rfl wr_ch
  have xx9 : Ext h h9 := (((((xx3.trans hx4).trans hx5).trans hx6).trans hx7).trans hx8).trans hx9
  by_cases d1 : doorP x.us x.ver
  case neg =>
    have e1 := doorE_no d1
    rw [checkE_no fun q => d1 q.1]
    simp +contextual (disch := first | (simp only [facts, clsL, clsS, clsC, isPtrD]; done) | omega | (simp only [push_nx, put_nx, del_nx]; omega) | (refine Nat.le_antisymm ?_ ?_ <;> simp only [push_nx, put_nx, del_nx] <;> omega) | fail) only [wpy, facts, wpb, cst, wpk, wpl, forall_const, implies_true, false_implies, Int.reduceLE, Int.reduceLT, Nat.reduceLeDiff, UInt8.reduceToNat, ↓reduceIte, Nat.reduceEqDiff, Nat.reduceAdd, reduceCtorEq, Int.reduceToNat, clsL, clsS, clsC, Tryz.f26, g9, e1, Int.reduceEq]
    exact xx9
  have e1 := doorE_yes d1
  by_cases d2 : doorP [x.sv] x.ver
  case neg =>
    have e2 := doorE_no d2
    rw [checkE_no fun q => d2 q.2.1]
    simp +contextual (disch := first | (simp only [facts, clsL, clsS, clsC, isPtrD]; done) | omega | (simp only [push_nx, put_nx, del_nx]; omega) | (refine Nat.le_antisymm ?_ ?_ <;> simp only [push_nx, put_nx, del_nx] <;> omega) | fail) only [wpy, facts, wpb, cst, wpk, wpl, forall_const, implies_true, false_implies, Int.reduceLE, Int.reduceLT, Nat.reduceLeDiff, UInt8.reduceToNat, ↓reduceIte, Nat.reduceEqDiff, Nat.reduceAdd, reduceCtorEq, Int.reduceToNat, clsL, clsS, clsC, Tryz.f26, g9, e1, e2, Int.reduceEq]
    exact xx9
  have e2 := doorE_yes d2
  simp +contextual (disch := first | (simp only [facts, clsL, clsS, clsC, isPtrD]; done) | omega | (simp only [push_nx, put_nx, del_nx]; omega) | (refine Nat.le_antisymm ?_ ?_ <;> simp only [push_nx, put_nx, del_nx] <;> omega) | fail) only [wpy, facts, wpb, cst, wpk, wpl, forall_const, implies_true, false_implies, Int.reduceLE, Int.reduceLT, Nat.reduceLeDiff, UInt8.reduceToNat, ↓reduceIte, Nat.reduceEqDiff, Nat.reduceAdd, reduceCtorEq, Int.reduceToNat, clsL, clsS, clsC, Tryz.f26, g9, e1, e2, Int.reduceEq]
  refine callF_pure (rmcheck_spec hS x.seed x.rows fv x.ts _ (af.ext xx9) hx.ts) ?_
  rintro _ h11 hx11 rfl
  have g11 := (hx11.2 h.nx (by omega)).trans g9
  have n11 := hx11.1
  have xx11 := xx9.trans hx11
  by_cases d4 : okS x.ts x.rows
  case neg =>
    have e4 := famF_no d4
    rw [checkE_no fun q => d4 q.2.2.2.1]
    simp +contextual (disch := first | (simp only [facts, clsL, clsS, clsC, isPtrD]; done) | omega | (simp only [push_nx, put_nx, del_nx]; omega) | (refine Nat.le_antisymm ?_ ?_ <;> simp only [push_nx, put_nx, del_nx] <;> omega) | fail) only [wpy, facts, wpb, cst, wpk, wpl, forall_const, implies_true, false_implies, Int.reduceLE, Int.reduceLT, Nat.reduceLeDiff, UInt8.reduceToNat, ↓reduceIte, Nat.reduceEqDiff, Nat.reduceAdd, reduceCtorEq, Int.reduceToNat, clsL, clsS, clsC, Tryz.f26, g11, e1, e2, e4, Int.reduceEq]
    exact xx11
  have e4 := famF_yes d4
  simp +contextual (disch := first | (simp only [facts, clsL, clsS, clsC, isPtrD]; done) | omega | (simp only [push_nx, put_nx, del_nx]; omega) | (refine Nat.le_antisymm ?_ ?_ <;> simp only [push_nx, put_nx, del_nx] <;> omega) | fail) only [wpy, facts, wpb, cst, wpk, wpl, forall_const, implies_true, false_implies, Int.reduceLE, Int.reduceLT, Nat.reduceLeDiff, UInt8.reduceToNat, ↓reduceIte, Nat.reduceEqDiff, Nat.reduceAdd, reduceCtorEq, Int.reduceToNat, clsL, clsS, clsC, Tryz.f26, g11, e1, e2, e4, Int.reduceEq]
  refine callF_pure (rpool_spec hS x.pl x.pw x.pk _) ?_
  rintro _ h12 hx12 rfl
  have g12 := (hx12.2 h.nx (by omega)).trans g11
  have xx12 := xx11.trans hx12
  by_cases d3 : poolP x.pl x.pw x.pk
  case neg =>
    rw [checkE_no fun q => d3 q.2.2.1]
    simp +contextual (disch := first | (simp only [facts, clsL, clsS, clsC, isPtrD]; done) | omega | (simp only [push_nx, put_nx, del_nx]; omega) | (refine Nat.le_antisymm ?_ ?_ <;> simp only [push_nx, put_nx, del_nx] <;> omega) | fail) only [wpy, facts, wpb, cst, wpk, wpl, forall_const, implies_true, false_implies, Int.reduceLE, Int.reduceLT, Nat.reduceLeDiff, UInt8.reduceToNat, ↓reduceIte, Nat.reduceEqDiff, Nat.reduceAdd, reduceCtorEq, Int.reduceToNat, clsL, clsS, clsC, Tryz.f26, g12, e1, e2, e4, d3, Int.reduceEq]
    exact xx12
  by_cases d5 : x.lim < 1
  case pos =>
    rw [checkE_no fun q => q.2.2.2.2.1 d5]
    simp +contextual (disch := first | (simp only [facts, clsL, clsS, clsC, isPtrD]; done) | omega | (simp only [push_nx, put_nx, del_nx]; omega) | (refine Nat.le_antisymm ?_ ?_ <;> simp only [push_nx, put_nx, del_nx] <;> omega) | fail) only [wpy, facts, wpb, cst, wpk, wpl, forall_const, implies_true, false_implies, Int.reduceLE, Int.reduceLT, Nat.reduceLeDiff, UInt8.reduceToNat, ↓reduceIte, Nat.reduceEqDiff, Nat.reduceAdd, reduceCtorEq, Int.reduceToNat, clsL, clsS, clsC, Tryz.f26, g12, e1, e2, d3, e4, d5, Int.reduceEq]
    exact xx12
  by_cases d6 : x.lim > 16777216
  case pos =>
    have d6' : 16777216 < x.lim := d6
    rw [checkE_no fun q => q.2.2.2.2.2.1 d6]
    simp +contextual (disch := first | (simp only [facts, clsL, clsS, clsC, isPtrD]; done) | omega | (simp only [push_nx, put_nx, del_nx]; omega) | (refine Nat.le_antisymm ?_ ?_ <;> simp only [push_nx, put_nx, del_nx] <;> omega) | fail) only [wpy, facts, wpb, cst, wpk, wpl, forall_const, implies_true, false_implies, Int.reduceLE, Int.reduceLT, Nat.reduceLeDiff, UInt8.reduceToNat, ↓reduceIte, Nat.reduceEqDiff, Nat.reduceAdd, reduceCtorEq, Int.reduceToNat, clsL, clsS, clsC, Tryz.f26, g12, e1, e2, d3, e4, d5, d6', Int.reduceEq]
    exact xx12
  by_cases d7 : x.most < 1
  case pos =>
    have d6' : ¬ 16777216 < x.lim := d6
    rw [checkE_no fun q => q.2.2.2.2.2.2.1 d7]
    simp +contextual (disch := first | (simp only [facts, clsL, clsS, clsC, isPtrD]; done) | omega | (simp only [push_nx, put_nx, del_nx]; omega) | (refine Nat.le_antisymm ?_ ?_ <;> simp only [push_nx, put_nx, del_nx] <;> omega) | fail) only [wpy, facts, wpb, cst, wpk, wpl, forall_const, implies_true, false_implies, Int.reduceLE, Int.reduceLT, Nat.reduceLeDiff, UInt8.reduceToNat, ↓reduceIte, Nat.reduceEqDiff, Nat.reduceAdd, reduceCtorEq, Int.reduceToNat, clsL, clsS, clsC, Tryz.f26, g12, e1, e2, d3, e4, d5, d6', d7, Int.reduceEq]
    exact xx12
  by_cases d8 : x.most > 16777215
  case pos =>
    have d6' : ¬ 16777216 < x.lim := d6
    have d8' : 16777215 < x.most := d8
    rw [checkE_no fun q => q.2.2.2.2.2.2.2 d8]
    simp +contextual (disch := first | (simp only [facts, clsL, clsS, clsC, isPtrD]; done) | omega | (simp only [push_nx, put_nx, del_nx]; omega) | (refine Nat.le_antisymm ?_ ?_ <;> simp only [push_nx, put_nx, del_nx] <;> omega) | fail) only [wpy, facts, wpb, cst, wpk, wpl, forall_const, implies_true, false_implies, Int.reduceLE, Int.reduceLT, Nat.reduceLeDiff, UInt8.reduceToNat, ↓reduceIte, Nat.reduceEqDiff, Nat.reduceAdd, reduceCtorEq, Int.reduceToNat, clsL, clsS, clsC, Tryz.f26, g12, e1, e2, d3, e4, d5, d6', d7, d8', Int.reduceEq]
    exact xx12
  have d6' : ¬ 16777216 < x.lim := d6
  have d8' : ¬ 16777215 < x.most := d8
  rw [checkE_yes ⟨d1, d2, d3, d4, d5, d6, d7, d8⟩]
  simp +contextual (disch := first | (simp only [facts, clsL, clsS, clsC, isPtrD]; done) | omega | (simp only [push_nx, put_nx, del_nx]; omega) | (refine Nat.le_antisymm ?_ ?_ <;> simp only [push_nx, put_nx, del_nx] <;> omega) | fail) only [wpy, facts, wpb, cst, wpk, wpl, forall_const, implies_true, false_implies, Int.reduceLE, Int.reduceLT, Nat.reduceLeDiff, UInt8.reduceToNat, ↓reduceIte, Nat.reduceEqDiff, Nat.reduceAdd, reduceCtorEq, Int.reduceToNat, clsL, clsS, clsC, Tryz.f26, g12, e1, e2, d3, e4, d5, d6', d7, d8', Int.reduceEq]
  exact xx12
end
end Go.Proofs.YthhdkonpejmgcaaGreatDoor

/-
  The law: any setup, any number.
-/
set_option linter.unusedSimpArgs false
set_option linter.unusedVariables false
set_option linter.unusedSectionVars false
set_option linter.defProp false
set_option maxRecDepth 20000
set_option maxHeartbeats 2000000
namespace Go.Proofs.YthhdkonpejmgcaaGreatDoor
open Go.Proofs Go.Lx Go.Wx Go.IntWalk
noncomputable section

def smallP (x : SU) : Prop := x.us.length ≤ 100 ∧ x.ts.length ≤ 100 ∧ x.ver.length ≤ 3000
variable {S : Set0} (hS : StdU S)
include hS
theorem small_spec (x : SU) (uv fv : V) (h : H) (au : UB h uv x.us) (af : Fam h fv x.ts) : Pure S.cfg 24 [.agg (x.cells uv fv), .nilslice] h fun v _ => v = bo (smallP x) := by
  refine into Tryz.f24 _ Tryz.func24 (hS.own _ (by decide)) rfl rfl (by kernel_rfl) (by kernel_rfl) ?_
  obtain ⟨u1, u2⟩ := au.cell
  obtain ⟨f2, f1⟩ := af.cell
  have ul := au.len 34
  have fl := af.len
  unfold SU.cells
  simp +contextual (disch := first | (simp only [facts, clsL, clsS, clsC, isPtrD]; done) | omega | (simp only [push_nx, put_nx, del_nx]; omega) | (refine Nat.le_antisymm ?_ ?_ <;> simp only [push_nx, put_nx, del_nx] <;> omega) | fail) only [wpy, facts, wpb, cst, wpk, wpl, forall_const, implies_true, false_implies, Int.reduceLE, Int.reduceLT, Nat.reduceLeDiff, UInt8.reduceToNat, ↓reduceIte, Nat.reduceEqDiff, Nat.reduceAdd, reduceCtorEq, Int.reduceToNat, clsL, clsS, clsC, Tryz.f24, u1, u2, f1, f2]
  generalize hhA : H.push h _ = hA
  have hxA : Ext h hA := by rw [← hhA]; exact (Ext.refl h).push _
  have gA : hA.get h.nx = some (.cells (x.cells uv fv) 42 false) := by rw [← hhA]; exact push_eq rfl
  clear hhA
  unfold SU.cells at gA
  refine run_loop (fun k env h' => env 1 = .nilslice ∧ env 2 = .ptr h.nx 0 ∧ env 5 = .int .i64 0 ∧ h' = hA) 0 ?_ ?_
  · simp +contextual (disch := first | (simp only [facts, clsL, clsS, clsC, isPtrD]; done) | omega | (simp only [push_nx, put_nx, del_nx]; omega) | (refine Nat.le_antisymm ?_ ?_ <;> simp only [push_nx, put_nx, del_nx] <;> omega) | fail) only [wpy, facts, wpb, cst, wpk, wpl, forall_const, implies_true, false_implies, Int.reduceLE, Int.reduceLT, Nat.reduceLeDiff, UInt8.reduceToNat, ↓reduceIte, Nat.reduceEqDiff, Nat.reduceAdd, reduceCtorEq, Int.reduceToNat, clsL, clsS, clsC]
  rintro k env h' ⟨e1, e2, e5, rfl⟩
  unfold smallP
  by_cases p1 : x.us.length ≤ 100
  · by_cases p2 : x.ts.length ≤ 100
    · by_cases p3 : x.ver.length ≤ 3000
      · simp +contextual (disch := first | (simp only [facts, clsL, clsS, clsC, isPtrD]; done) | omega | (simp only [push_nx, put_nx, del_nx]; omega) | (refine Nat.le_antisymm ?_ ?_ <;> simp only [push_nx, put_nx, del_nx] <;> omega) | fail) only [wpy, facts, wpb, cst, wpk, wpl, forall_const, implies_true, false_implies, Int.reduceLE, Int.reduceLT, Nat.reduceLeDiff, UInt8.reduceToNat, ↓reduceIte, Nat.reduceEqDiff, Nat.reduceAdd, reduceCtorEq, Int.reduceToNat, clsL, clsS, clsC, Tryz.f24, e1, e2, e5, gA, ul, fl, p1, p2, p3]
        exact ⟨fun q => absurd q (by decide), fun _ => hxA⟩
      · simp +contextual (disch := first | (simp only [facts, clsL, clsS, clsC, isPtrD]; done) | omega | (simp only [push_nx, put_nx, del_nx]; omega) | (refine Nat.le_antisymm ?_ ?_ <;> simp only [push_nx, put_nx, del_nx] <;> omega) | fail) only [wpy, facts, wpb, cst, wpk, wpl, forall_const, implies_true, false_implies, Int.reduceLE, Int.reduceLT, Nat.reduceLeDiff, UInt8.reduceToNat, ↓reduceIte, Nat.reduceEqDiff, Nat.reduceAdd, reduceCtorEq, Int.reduceToNat, clsL, clsS, clsC, Tryz.f24, e1, e2, e5, gA, ul, fl, p1, p2, p3]
        exact ⟨fun q => absurd q (by decide), fun _ => hxA⟩
    · simp +contextual (disch := first | (simp only [facts, clsL, clsS, clsC, isPtrD]; done) | omega | (simp only [push_nx, put_nx, del_nx]; omega) | (refine Nat.le_antisymm ?_ ?_ <;> simp only [push_nx, put_nx, del_nx] <;> omega) | fail) only [wpy, facts, wpb, cst, wpk, wpl, forall_const, implies_true, false_implies, Int.reduceLE, Int.reduceLT, Nat.reduceLeDiff, UInt8.reduceToNat, ↓reduceIte, Nat.reduceEqDiff, Nat.reduceAdd, reduceCtorEq, Int.reduceToNat, clsL, clsS, clsC, Tryz.f24, e1, e2, e5, gA, ul, fl, p1, p2]
      exact ⟨fun q => absurd q (by decide), fun _ => hxA⟩
  · simp +contextual (disch := first | (simp only [facts, clsL, clsS, clsC, isPtrD]; done) | omega | (simp only [push_nx, put_nx, del_nx]; omega) | (refine Nat.le_antisymm ?_ ?_ <;> simp only [push_nx, put_nx, del_nx] <;> omega) | fail) only [wpy, facts, wpb, cst, wpk, wpl, forall_const, implies_true, false_implies, Int.reduceLE, Int.reduceLT, Nat.reduceLeDiff, UInt8.reduceToNat, ↓reduceIte, Nat.reduceEqDiff, Nat.reduceAdd, reduceCtorEq, Int.reduceToNat, clsL, clsS, clsC, Tryz.f24, e1, e2, e5, gA, ul, fl, p1]
    exact ⟨fun q => absurd q (by decide), fun _ => hxA⟩
theorem lives_spec (hv : sums S.exts 7 = some constTrue) (h : H) : Exact S.cfg 7 [] h (.bool true) :=
  callW_sum (s := h.st) (g := constTrue) hv (Nice.ret _) rfl LogOk_nil ⟨rfl, rfl⟩
theorem law_spec (h5 : sums S.exts 5 = none) (hl : SumLocal S.cfg) (hv : sums S.exts 7 = some constTrue) (x : SU) (n : Int) (uv fv : V) (h : H) (au : UB h uv x.us) (af : Fam h fv x.ts) (hx : smallP x → SOk x) : Pure S.cfg 5 [.agg (x.cells uv fv), .int .u64 n] h fun v _ => v = .bool true := by
  refine into Tryz.f5 _ Tryz.func5 h5 rfl rfl (by kernel_rfl) (by kernel_rfl) ?_
  obtain ⟨u1, u2⟩ := au.cell
  obtain ⟨f2, f1⟩ := af.cell
  have s24 := fun h au af => small_spec hS x uv fv h au af
  have s25 := fun h hx au af => pcheck_spec hS hl x uv fv h hx au af
  have s26 := fun h hx au af => rpcheck_spec hS hl x uv fv h hx au af
  unfold SU.cells at s24 s25 s26 ⊢
  simp +contextual (disch := first | (simp only [facts, clsL, clsS, clsC, isPtrD]; done) | omega | (simp only [push_nx, put_nx, del_nx]; omega) | (refine Nat.le_antisymm ?_ ?_ <;> simp only [push_nx, put_nx, del_nx] <;> omega) | fail) only [wpy, facts, wpb, cst, wpk, wpl, forall_const, implies_true, false_implies, Int.reduceLE, Int.reduceLT, Nat.reduceLeDiff, UInt8.reduceToNat, ↓reduceIte, Nat.reduceEqDiff, Nat.reduceAdd, reduceCtorEq, Int.reduceToNat, clsL, clsS, clsC, Tryz.f5, u1, u2, f1, f2]
  generalize hhA : H.push h _ = hA
  have hxA : Ext h hA := by rw [← hhA]; exact (Ext.refl h).push _
  have gA : hA.get h.nx = some (.cells (x.cells uv fv) 42 false) := by rw [← hhA]; exact push_eq rfl
  have nA : hA.nx = h.nx + 1 := by rw [← hhA]; rfl
  clear hhA
  unfold SU.cells at gA
  refine draw_by [(14, 15)] (by kernel_rfl) ?_
  simp +contextual (disch := first | (simp only [facts, clsL, clsS, clsC, isPtrD]; done) | omega | (simp only [push_nx, put_nx, del_nx]; omega) | (refine Nat.le_antisymm ?_ ?_ <;> simp only [push_nx, put_nx, del_nx] <;> omega) | fail) only [wpy, facts, wpb, cst, wpk, wpl, forall_const, implies_true, false_implies, Int.reduceLE, Int.reduceLT, Nat.reduceLeDiff, UInt8.reduceToNat, ↓reduceIte, Nat.reduceEqDiff, Nat.reduceAdd, reduceCtorEq, Int.reduceToNat, clsL, clsS, clsC, Tryz.f5, gA]
  refine callF_exact (lives_spec hS hv _) ?_
  simp +contextual (disch := first | (simp only [facts, clsL, clsS, clsC, isPtrD]; done) | omega | (simp only [push_nx, put_nx, del_nx]; omega) | (refine Nat.le_antisymm ?_ ?_ <;> simp only [push_nx, put_nx, del_nx] <;> omega) | fail) only [wpy, facts, wpb, cst, wpk, wpl, forall_const, implies_true, false_implies, Int.reduceLE, Int.reduceLT, Nat.reduceLeDiff, UInt8.reduceToNat, ↓reduceIte, Nat.reduceEqDiff, Nat.reduceAdd, reduceCtorEq, Int.reduceToNat, clsL, clsS, clsC, Tryz.f5, gA]
  refine callF_pure (pnonce_spec hS n _) ?_
  rintro v1 h1 hx1 hl1
  have n1 := hx1.1
  simp +contextual (disch := first | (simp only [facts, clsL, clsS, clsC, isPtrD]; done) | omega | (simp only [push_nx, put_nx, del_nx]; omega) | (refine Nat.le_antisymm ?_ ?_ <;> simp only [push_nx, put_nx, del_nx] <;> omega) | fail) only [wpy, facts, wpb, cst, wpk, wpl, forall_const, implies_true, false_implies, Int.reduceLE, Int.reduceLT, Nat.reduceLeDiff, UInt8.reduceToNat, ↓reduceIte, Nat.reduceEqDiff, Nat.reduceAdd, reduceCtorEq, Int.reduceToNat, clsL, clsS, clsC, Tryz.f5]
  refine callF_pure (rpnonce_spec hS n _) ?_
  rintro v2 h2 hx2 hl2
  have n2 := hx2.1
  simp +contextual (disch := first | (simp only [facts, clsL, clsS, clsC, isPtrD]; done) | omega | (simp only [push_nx, put_nx, del_nx]; omega) | (refine Nat.le_antisymm ?_ ?_ <;> simp only [push_nx, put_nx, del_nx] <;> omega) | fail) only [wpy, facts, wpb, cst, wpk, wpl, forall_const, implies_true, false_implies, Int.reduceLE, Int.reduceLT, Nat.reduceLeDiff, UInt8.reduceToNat, ↓reduceIte, Nat.reduceEqDiff, Nat.reduceAdd, reduceCtorEq, Int.reduceToNat, clsL, clsS, clsC, Tryz.f5]
  have hb : ∀ b ∈ nonceF n, b < 256 := fun b q => ((nonceF_ok n).2 b q).2.1
  refine callF_exact (same_spec hS ((hl1.bs hb).ext hx2) (hl2.bs hb)) ?_
  have g2 := (hx2.2 h.nx (by omega)).trans ((hx1.2 h.nx (by omega)).trans gA)
  simp +contextual (disch := first | (simp only [facts, clsL, clsS, clsC, isPtrD]; done) | omega | (simp only [push_nx, put_nx, del_nx]; omega) | (refine Nat.le_antisymm ?_ ?_ <;> simp only [push_nx, put_nx, del_nx] <;> omega) | fail) only [wpy, facts, wpb, cst, wpk, wpl, forall_const, implies_true, false_implies, Int.reduceLE, Int.reduceLT, Nat.reduceLeDiff, UInt8.reduceToNat, ↓reduceIte, Nat.reduceEqDiff, Nat.reduceAdd, reduceCtorEq, Int.reduceToNat, clsL, clsS, clsC, Tryz.f5, g2]
  have xx2 := (hxA.trans hx1).trans hx2
  refine callF_pure (s24 _ (au.ext xx2) (af.ext xx2)) ?_
  rintro _ h3 hx3 rfl
  have n3 := hx3.1
  have g3 := (hx3.2 h.nx (by omega)).trans g2
  have xx3 := xx2.trans hx3
  by_cases hs : smallP x
  · have ok := hx hs
    simp +contextual (disch := first | (simp only [facts, clsL, clsS, clsC, isPtrD]; done) | omega | (simp only [push_nx, put_nx, del_nx]; omega) | (refine Nat.le_antisymm ?_ ?_ <;> simp only [push_nx, put_nx, del_nx] <;> omega) | fail) only [wpy, facts, wpb, cst, wpk, wpl, forall_const, implies_true, false_implies, Int.reduceLE, Int.reduceLT, Nat.reduceLeDiff, UInt8.reduceToNat, ↓reduceIte, Nat.reduceEqDiff, Nat.reduceAdd, reduceCtorEq, Int.reduceToNat, clsL, clsS, clsC, Tryz.f5, g3, hs]
    refine callF_pure (s25 _ ok (au.ext xx3) (af.ext xx3)) ?_
    rintro _ h4 hx4 rfl
    have n4 := hx4.1
    have g4 := (hx4.2 h.nx (by omega)).trans g3
    simp +contextual (disch := first | (simp only [facts, clsL, clsS, clsC, isPtrD]; done) | omega | (simp only [push_nx, put_nx, del_nx]; omega) | (refine Nat.le_antisymm ?_ ?_ <;> simp only [push_nx, put_nx, del_nx] <;> omega) | fail) only [wpy, facts, wpb, cst, wpk, wpl, forall_const, implies_true, false_implies, Int.reduceLE, Int.reduceLT, Nat.reduceLeDiff, UInt8.reduceToNat, ↓reduceIte, Nat.reduceEqDiff, Nat.reduceAdd, reduceCtorEq, Int.reduceToNat, clsL, clsS, clsC, Tryz.f5, g4, hs]
    have xx4 := xx3.trans hx4
    refine callF_pure (s26 _ ok (au.ext xx4) (af.ext xx4)) ?_
    rintro _ h5 hx5 rfl
    simp +contextual (disch := first | (simp only [facts, clsL, clsS, clsC, isPtrD]; done) | omega | (simp only [push_nx, put_nx, del_nx]; omega) | (refine Nat.le_antisymm ?_ ?_ <;> simp only [push_nx, put_nx, del_nx] <;> omega) | fail) only [wpy, facts, wpb, cst, wpk, wpl, forall_const, implies_true, false_implies, Int.reduceLE, Int.reduceLT, Nat.reduceLeDiff, UInt8.reduceToNat, ↓reduceIte, Nat.reduceEqDiff, Nat.reduceAdd, reduceCtorEq, Int.reduceToNat, clsL, clsS, clsC, Tryz.f5, hs]
    refine ⟨fun p hp => ?_, xx4.trans hx5⟩
    rw [List.mem_singleton.1 hp]
    exact pair_one rfl rfl (cl_rd0 (by omega))
  · simp +contextual (disch := first | (simp only [facts, clsL, clsS, clsC, isPtrD]; done) | omega | (simp only [push_nx, put_nx, del_nx]; omega) | (refine Nat.le_antisymm ?_ ?_ <;> simp only [push_nx, put_nx, del_nx] <;> omega) | fail) only [wpy, facts, wpb, cst, wpk, wpl, forall_const, implies_true, false_implies, Int.reduceLE, Int.reduceLT, Nat.reduceLeDiff, UInt8.reduceToNat, ↓reduceIte, Nat.reduceEqDiff, Nat.reduceAdd, reduceCtorEq, Int.reduceToNat, clsL, clsS, clsC, Tryz.f5, g3, hs]
    refine ⟨fun p hp => ?_, xx3⟩
    rw [List.mem_singleton.1 hp]
    exact pair_one rfl rfl (apart_blk fun x hx => by cases hx)
end
end Go.Proofs.YthhdkonpejmgcaaGreatDoor

/-
  What came in with ProxyPure, and its walk over the model.
-/
set_option linter.unusedVariables false
set_option linter.unusedSimpArgs false
set_option linter.constructorNameAsVariable false
set_option maxRecDepth 100000
namespace Go.Proofs.YthhdkonpejmgcaaGreatDoor.proxyPure
open Go.Proofs Go.Shelf Go.ChangeShapes Go.WideShapes Go.ChangeAt Go.RowKit Go.Lx
theorem mixedU : Tryz.prog.follows .mixedOrders = true := Checked.mixed Tryz.checked

noncomputable def fieldsAre (d : Option TypeDesc) (ts : List (TypeId × Nat)) : Bool := match d with
  | some (.struct fs) => fs.toList.map (fun f => (f.type, f.offset)) == ts
  | _ => false
theorem fieldsAre_ok {d : Option TypeDesc} {ts : List (TypeId × Nat)} (h : fieldsAre d ts = true) : ∃ fs, d = some (.struct fs) ∧ ∀ p ∈ ts, ∃ f ∈ fs.toList, f.type = p.1 ∧ f.offset = p.2 := by
  unfold fieldsAre at h
  cases d with
  | none => cases h
  | some d =>
    cases d <;> try (cases h; done)
    rename_i fs
    refine ⟨fs, rfl, fun p hp => ?_⟩
    have := eq_of_beq h
    rw [← this] at hp
    obtain ⟨f, hf, e⟩ := List.mem_map.1 hp
    exact ⟨f, hf, by rw [← e], by rw [← e]⟩
theorem u42 : fieldsAre (Tryz.prog.underlying 42) [(32, 0), (34, 1), (38, 6), (40, 9), (4, 12), (3, 13), (3, 14), (9, 15)] = true := by kernel_rfl
theorem c42 : Tryz.prog.cellsOf 42 = 16 := by kernel_rfl
theorem u34 : fieldsAre (Tryz.prog.underlying 34) [(9, 0), (9, 1), (9, 2), (9, 3), (4, 4)] = true := by kernel_rfl
theorem c34 : Tryz.prog.cellsOf 34 = 5 := by kernel_rfl
theorem u38 : fieldsAre (Tryz.prog.underlying 38) [(35, 0), (36, 1), (3, 2)] = true := by kernel_rfl
theorem c38 : Tryz.prog.cellsOf 38 = 3 := by kernel_rfl
theorem u40 : fieldsAre (Tryz.prog.underlying 40) [(3, 0), (3, 1), (3, 2)] = true := by kernel_rfl
theorem c40 : Tryz.prog.cellsOf 40 = 3 := by kernel_rfl
theorem t42 : Tryz.prog.cellTypes Tryz.prog.depth 42 = some [32, 9, 9, 9, 9, 4, 35, 36, 3, 3, 3, 3, 4, 3, 3, 9] := by kernel_rfl
theorem c3 : Tryz.prog.cellsOf 3 = 1 := by kernel_rfl
theorem c4 : Tryz.prog.cellsOf 4 = 1 := by kernel_rfl
theorem c9 : Tryz.prog.cellsOf 9 = 1 := by kernel_rfl
theorem c35 : Tryz.prog.cellsOf 35 = 1 := by kernel_rfl
theorem c32 : Tryz.prog.cellsOf 32 = 1 := by kernel_rfl
theorem c36 : Tryz.prog.cellsOf 36 = 1 := by kernel_rfl
theorem und3 : Tryz.prog.underlying 3 = some (.int .i64) := by kernel_rfl
theorem und4 : Tryz.prog.underlying 4 = some (.bool) := by kernel_rfl
theorem und9 : Tryz.prog.underlying 9 = some (.string) := by kernel_rfl
theorem und35 : Tryz.prog.underlying 35 = some (.int .u64) := by kernel_rfl
theorem und32 : Tryz.prog.underlying 32 = some (.slice 34) := by kernel_rfl
theorem und36 : Tryz.prog.underlying 36 = some (.slice 9) := by kernel_rfl
theorem bytes_toNats (b : ByteArray) : ∀ x ∈ toNats b, x < 256 := by
  intro x hx
  simp only [toNats, List.mem_map] at hx
  obtain ⟨y, _, rfl⟩ := hx
  exact y.toNat_lt
theorem toNats_len (b : ByteArray) : (toNats b).length = b.size := by
  unfold toNats
  rw [List.length_map]
  first | rfl | exact Array.length_toList | (rw [Array.length_toList]; rfl)
section
open Go.Wx
variable {H : Type} {enc : TypeId × Value → H} {P : Program} {w : World} {spare : Nat → Bool} {held : Bool} {g0 : Nat} {h : Go.Wx.H} {μ : Mu}
theorem trod_strL {e : TypeId} {fuel : Nat} {cs : List Value} {x : DataW H × List MemPlace} (he : P.underlying e = some .string) (h : DataW.trod enc P w 0 spare held fuel e cs = some x) : ∃ s, cs = [.string s] ∧ (toNats s).length < 2 ^ 63 := by
  obtain ⟨s, rfl⟩ := trod_str he h
  refine ⟨s, rfl, ?_⟩
  rw [toNats_len]
  cases fuel with
  | zero => cases h
  | succ fuel =>
    unfold DataW.trod at h
    rw [he] at h
    simp only at h
    split at h
    · rename_i q
      have : maxLen = 2 ^ 63 - 1 := rfl
      omega
    · cases h
/-- any row whose elements are told by values of ours -/
theorem rows_ro (I : Inc P w g0 h μ) {α : Type} (f : α → List V) {t e : TypeId} {v : Value} {fuel sz : Nat} {x : DataW H × List MemPlace} {k : IntKind} (hu : P.underlying t = some (.slice e)) (hce : P.cellsOf e = sz) (hsz : 0 < sz) (hspare : ∀ b, spare b = true)
    (ht : DataW.trod enc P w 0 spare held fuel t [v] = some x) (hf : ∀ a, (f a).length = sz) (hg0 : NotAt w g0 k) (hgF : Some0 w g0 v)
    (hd : ∀ (cs : List Value) (fu : Nat) (y : DataW H × List MemPlace), DataW.trod enc P w 0 spare held fu e cs = some y → cs.length = sz → (∀ m, cs[0]? ≠ some (.int k m)) ∧ ∃ a : α, ∀ (j : Nat) (u : V), (f a)[j]? = some u → ∃ r, cs[j]? = some r ∧ VRel μ ν0 u r) :
    ∃ (h' : Go.Wx.H) (μ' : Mu) (vv : V) (xs : List α), Inc P w g0 h' μ' ∧ Mu.le μ μ' ∧ Ext h h' ∧ VRel μ' ν0 vv v ∧ ((vv = .nilslice ∧ xs = []) ∨ ∃ b m, vv = .slice b 0 xs.length m ∧ xs.length ≤ m ∧ b < h'.nx ∧ h'.get b = some (.ro (xs.flatMap f))) ∧ xs.length ≤ maxLen := by
  rcases slice_form hu ht with rfl | ⟨a, len, cap, rfl, hlc, hcm⟩
  · exact ⟨h, μ, .nilslice, [], I, Mu.le_refl _, Ext.refl h, .nilslice, .inl ⟨rfl, rfl⟩, Nat.zero_le _⟩
  · rcases Nat.eq_zero_or_pos cap with rfl | hcap
    · obtain rfl : len = 0 := by omega
      obtain ⟨gF, hne, rc, et, frz, hb⟩ := hgF a rfl
      obtain ⟨I', hle⟩ := I.push (cells := []) (off := 0) hb (fun i v q => by simp at q) hne
      refine ⟨_, _, .slice h.nx 0 0 0, [], I', hle, (Ext.refl h).push _, .slice (upd_same _ _ _) (Nat.le_refl _) (.inl ⟨rfl, rfl⟩), .inr ⟨h.nx, 0, rfl, Nat.le_refl _, Nat.lt_succ_self _, push_eq rfl⟩, Nat.zero_le _⟩
    · subst hce
      obtain ⟨hs, hel⟩ := trod_rowS hu hcap hsz (hspare _) ht
      obtain ⟨c0, y0, q1, q2, q3⟩ := hel 0 hcap
      have q4 := q3 0 hsz
      have hc0 : 0 < c0.length := by omega
      rw [List.getElem?_eq_getElem hc0] at q4
      obtain ⟨rc, et, frz, hb, hr0⟩ := cell_block q4
      have hne : a.block ≠ g0 := by
        rintro q
        rcases hg0 with hg0 | hg0
        case inr => rw [← q, hb] at hg0; cases hg0
        obtain ⟨rc', e', frz', m, h1, h2, h3⟩ := hg0
        rw [← q, hb] at h1
        cases h1
        have hlt := (Array.getElem?_eq_some_iff.1 hr0).1
        have : a.off + (0 * P.cellsOf e + 0) = 0 := by omega
        rw [this, h3] at hr0
        exact (hd c0 _ y0 q1 q2).1 m (by rw [List.getElem?_eq_getElem hc0]; exact hr0.symm)
      have key : ∀ n, n ≤ len → ∃ xs : List α, xs.length = n ∧ ∀ i u, (xs.flatMap f)[i]? = some u → ∃ r, rc[a.off + i]? = some r ∧ VRel μ ν0 u r := by
        intro n
        induction n with
        | zero => exact fun _ => ⟨[], rfl, fun i u q => by simp at q⟩
        | succ n ih =>
          intro hn
          obtain ⟨xs, h1, h2⟩ := ih (by omega)
          obtain ⟨cs, y, c1, c2, c3⟩ := hel n (by omega)
          obtain ⟨_, z, hz⟩ := hd cs _ y c1 c2
          have hfl : ∀ l : List α, (l.flatMap f).length = l.length * P.cellsOf e := fun l => by
            induction l with
            | nil => simp
            | cons z l ih => rw [List.flatMap_cons, List.length_append, hf, ih, List.length_cons, Nat.succ_mul]; omega
          refine ⟨xs ++ [z], by simp [h1], fun i u q => ?_⟩
          rw [List.flatMap_append] at q
          by_cases hin : i < n * P.cellsOf e
          · rw [List.getElem?_append_left (by rw [hfl, h1]; exact hin)] at q
            exact h2 i u q
          · rw [List.getElem?_append_right (by rw [hfl, h1]; omega), hfl, h1] at q
            have q : (f z)[i - n * P.cellsOf e]? = some u := by simpa using q
            obtain ⟨r, r1, r2⟩ := hz _ u q
            have hj : i - n * P.cellsOf e < P.cellsOf e := by
              have := (List.getElem?_eq_some_iff.1 q).1
              rw [hf] at this; exact this
            have h5 := c3 _ hj
            rw [r1, cell_at hb] at h5
            refine ⟨r, ?_, r2⟩
            rw [← h5]
            congr 1
            omega
      obtain ⟨xs, h1, h2⟩ := key len (Nat.le_refl _)
      obtain ⟨I', hle⟩ := I.push (off := a.off) (cells := xs.flatMap f) hb h2 hne
      have hfl : (xs.flatMap f).length = xs.length * P.cellsOf e := by
        clear h1 h2 I' hle key
        induction xs with
        | nil => simp
        | cons z l ih => rw [List.flatMap_cons, List.length_append, hf, ih, List.length_cons, Nat.succ_mul]; omega
      subst h1
      refine ⟨_, _, .slice h.nx 0 xs.length cap, xs, I', hle, (Ext.refl h).push _, .slice (upd_same _ _ _) hlc (.inr ⟨?_, .inl rfl⟩), .inr ⟨h.nx, cap, rfl, hlc, Nat.lt_succ_self _, push_eq rfl⟩, Nat.le_trans hlc hcm⟩
      · obtain ⟨b, o, sp⟩ := a
        simp only at hs
        subst hs
        rfl
end
section
variable {H : Type} {enc : TypeId × Value → H} {W : World} {spare : Nat → Bool} {held : Bool}
theorem us_cells {fuel : Nat} {cs : List Value} {x : DataW H × List MemPlace} (h : DataW.trod enc Tryz.prog W 0 spare held fuel 34 cs = some x) : ∃ (n p g s : ByteArray) (a : Bool), cs = [.string n, .string p, .string g, .string s, .bool a] ∧ (toNats n).length < 2 ^ 63 ∧ (toNats p).length < 2 ^ 63 ∧ (toNats s).length < 2 ^ 63 := by
  obtain ⟨fs, hu, hf⟩ := fieldsAre_ok u34
  have hl := trod_struct_len hu h
  rw [c34] at hl
  have sub : ∀ t o n, Tryz.prog.cellsOf t = n → ((t, o) : TypeId × Nat) ∈ [((9, 0) : TypeId × Nat), (9, 1), (9, 2), (9, 3), (4, 4)] → ∃ fu y, DataW.trod enc Tryz.prog W 0 spare held fu t ((cs.drop o).take n) = some y := fun t o n hn ho => by
    obtain ⟨f, hm, e1, e2⟩ := hf _ ho
    obtain ⟨y, hy⟩ := trod_field' hu hm h
    rw [e1, e2] at hy
    simp only [hn] at hy
    exact ⟨_, y, hy⟩
  match cs, hl with
  | [k0, k1, k2, k3, k4], _ =>
    obtain ⟨_, _, h0⟩ := sub 9 0 1 c9 (by simp)
    obtain ⟨a0, e0, w0⟩ := trod_strL und9 h0
    obtain ⟨_, _, h1⟩ := sub 9 1 1 c9 (by simp)
    obtain ⟨a1, e1, w1⟩ := trod_strL und9 h1
    obtain ⟨_, _, h2⟩ := sub 9 2 1 c9 (by simp)
    obtain ⟨a2, e2, w2⟩ := trod_strL und9 h2
    obtain ⟨_, _, h3⟩ := sub 9 3 1 c9 (by simp)
    obtain ⟨a3, e3, w3⟩ := trod_strL und9 h3
    obtain ⟨_, _, h4⟩ := sub 4 4 1 c4 (by simp)
    obtain ⟨a4, e4⟩ := trod_bool und4 h4
    simp only [List.drop_succ_cons, List.drop_zero, List.take_succ_cons, List.take_zero, List.cons.injEq, and_true] at e0 e1 e2 e3 e4
    exact ⟨a0, a1, a2, a3, a4, by rw [e0, e1, e2, e3, e4], w0, w1, w3⟩
theorem fa_cells {fuel : Nat} {cs : List Value} {x : DataW H × List MemPlace} (h : DataW.trod enc Tryz.prog W 0 spare held fuel 38 cs = some x) : ∃ (n : Int) (v : Value) (r : Int) (f1 : Nat) (y1 : DataW H × List MemPlace), cs = [.int .u64 n, v, .int .i64 r] ∧ DataW.trod enc Tryz.prog W 0 spare held f1 36 [v] = some y1 := by
  obtain ⟨fs, hu, hf⟩ := fieldsAre_ok u38
  have hl := trod_struct_len hu h
  rw [c38] at hl
  have sub : ∀ t o n, Tryz.prog.cellsOf t = n → ((t, o) : TypeId × Nat) ∈ [((35, 0) : TypeId × Nat), (36, 1), (3, 2)] → ∃ fu y, DataW.trod enc Tryz.prog W 0 spare held fu t ((cs.drop o).take n) = some y := fun t o n hn ho => by
    obtain ⟨f, hm, e1, e2⟩ := hf _ ho
    obtain ⟨y, hy⟩ := trod_field' hu hm h
    rw [e1, e2] at hy
    simp only [hn] at hy
    exact ⟨_, y, hy⟩
  match cs, hl with
  | [k0, k1, k2], _ =>
    obtain ⟨_, _, h0⟩ := sub 35 0 1 c35 (by simp)
    obtain ⟨a0, e0, w0⟩ := trod_int und35 h0
    obtain ⟨f1, y1, h1⟩ := sub 36 1 1 c36 (by simp)
    obtain ⟨_, _, h2⟩ := sub 3 2 1 c3 (by simp)
    obtain ⟨a2, e2, w2⟩ := trod_int und3 h2
    simp only [List.drop_succ_cons, List.drop_zero, List.take_succ_cons, List.take_zero, List.cons.injEq, and_true] at e0 h1 e2
    exact ⟨a0, k1, a2, f1, y1, by rw [e0, e2], h1⟩
theorem po_cells {fuel : Nat} {cs : List Value} {x : DataW H × List MemPlace} (h : DataW.trod enc Tryz.prog W 0 spare held fuel 40 cs = some x) : ∃ (a b c : Int), cs = [.int .i64 a, .int .i64 b, .int .i64 c] := by
  obtain ⟨fs, hu, hf⟩ := fieldsAre_ok u40
  have hl := trod_struct_len hu h
  rw [c40] at hl
  have sub : ∀ t o n, Tryz.prog.cellsOf t = n → ((t, o) : TypeId × Nat) ∈ [((3, 0) : TypeId × Nat), (3, 1), (3, 2)] → ∃ fu y, DataW.trod enc Tryz.prog W 0 spare held fu t ((cs.drop o).take n) = some y := fun t o n hn ho => by
    obtain ⟨f, hm, e1, e2⟩ := hf _ ho
    obtain ⟨y, hy⟩ := trod_field' hu hm h
    rw [e1, e2] at hy
    simp only [hn] at hy
    exact ⟨_, y, hy⟩
  match cs, hl with
  | [k0, k1, k2], _ =>
    obtain ⟨_, _, h0⟩ := sub 3 0 1 c3 (by simp)
    obtain ⟨a0, e0, w0⟩ := trod_int und3 h0
    obtain ⟨_, _, h1⟩ := sub 3 1 1 c3 (by simp)
    obtain ⟨a1, e1, w1⟩ := trod_int und3 h1
    obtain ⟨_, _, h2⟩ := sub 3 2 1 c3 (by simp)
    obtain ⟨a2, e2, w2⟩ := trod_int und3 h2
    simp only [List.drop_succ_cons, List.drop_zero, List.take_succ_cons, List.take_zero, List.cons.injEq, and_true] at e0 e1 e2
    exact ⟨a0, a1, a2, by rw [e0, e1, e2]⟩
theorem su_cells {fuel : Nat} {cs : List Value} {x : DataW H × List MemPlace} (h : DataW.trod enc Tryz.prog W 0 spare held fuel 42 cs = some x) : ∃ (uv : Value) (n p g s : ByteArray) (a : Bool) (sd : Int) (fv : Value) (r l w k : Int) (cp : Bool) (lim most : Int) (ver : ByteArray) (f1 f2 : Nat) (y1 y2 : DataW H × List MemPlace),
    cs = [uv, .string n, .string p, .string g, .string s, .bool a, .int .u64 sd, fv, .int .i64 r, .int .i64 l, .int .i64 w, .int .i64 k, .bool cp, .int .i64 lim, .int .i64 most, .string ver] ∧ DataW.trod enc Tryz.prog W 0 spare held f1 32 [uv] = some y1 ∧ DataW.trod enc Tryz.prog W 0 spare held f2 36 [fv] = some y2 ∧ (toNats n).length < 2 ^ 63 ∧ (toNats p).length < 2 ^ 63 ∧ (toNats s).length < 2 ^ 63 := by
  obtain ⟨fs, hu, hf⟩ := fieldsAre_ok u42
  have hl := trod_struct_len hu h
  rw [c42] at hl
  have sub : ∀ t o n, Tryz.prog.cellsOf t = n → ((t, o) : TypeId × Nat) ∈ [((32, 0) : TypeId × Nat), (34, 1), (38, 6), (40, 9), (4, 12), (3, 13), (3, 14), (9, 15)] → ∃ fu y, DataW.trod enc Tryz.prog W 0 spare held fu t ((cs.drop o).take n) = some y := fun t o n hn ho => by
    obtain ⟨f, hm, e1, e2⟩ := hf _ ho
    obtain ⟨y, hy⟩ := trod_field' hu hm h
    rw [e1, e2] at hy
    simp only [hn] at hy
    exact ⟨_, y, hy⟩
  match cs, hl with
  | [k0, k1, k2, k3, k4, k5, k6, k7, k8, k9, k10, k11, k12, k13, k14, k15], _ =>
    obtain ⟨f1, y1, h0⟩ := sub 32 0 1 c32 (by simp)
    obtain ⟨_, _, h1⟩ := sub 34 1 5 c34 (by simp)
    obtain ⟨n, p, g, s, a, e1, w1, w2, w3⟩ := us_cells h1
    obtain ⟨_, _, h6⟩ := sub 38 6 3 c38 (by simp)
    obtain ⟨sd, fv, r, f2, y2, e6, q6⟩ := fa_cells h6
    obtain ⟨_, _, h9⟩ := sub 40 9 3 c40 (by simp)
    obtain ⟨l, w, k, e9⟩ := po_cells h9
    obtain ⟨_, _, h12⟩ := sub 4 12 1 c4 (by simp)
    obtain ⟨cp, e12⟩ := trod_bool und4 h12
    obtain ⟨_, _, h13⟩ := sub 3 13 1 c3 (by simp)
    obtain ⟨lim, e13, _⟩ := trod_int und3 h13
    obtain ⟨_, _, h14⟩ := sub 3 14 1 c3 (by simp)
    obtain ⟨most, e14, _⟩ := trod_int und3 h14
    obtain ⟨_, _, h15⟩ := sub 9 15 1 c9 (by simp)
    obtain ⟨ver, e15⟩ := trod_str und9 h15
    simp only [List.drop_succ_cons, List.drop_zero, List.take_succ_cons, List.take_zero, List.cons.injEq, and_true] at h0 e1 e6 e9 e12 e13 e14 e15
    obtain ⟨rfl, rfl, rfl, rfl, rfl⟩ := e1
    obtain ⟨rfl, rfl, rfl⟩ := e6
    obtain ⟨rfl, rfl, rfl⟩ := e9
    subst e12 e13 e14 e15
    exact ⟨_, _, _, _, _, _, _, _, _, _, _, _, _, _, _, _, f1, f2, y1, y2, rfl, h0, q6, w1, w2, w3⟩
end
theorem slice_cell {t e : TypeId} {W : World} {base : Nat} {v : Value} (hu : Tryz.prog.underlying t = some (.slice e)) (h : Cell.okWide Tryz.prog W .any base t v) : Go.Wx.Some0 W W.heap.size v := by
  unfold Cell.okWide Cell.ok at h
  rw [hu] at h
  cases v <;> simp only [] at h <;> try (exact h.elim)
  rename_i ao len cap
  refine fun a q => ?_
  injection q with q1 q2 q3
  subst q1
  obtain ⟨w1, w2, _, w3, row, cells, w4, _⟩ := h
  unfold World.shape? at w4
  cases hh : W.heap[a.block]? with
  | none => rw [hh] at w4; cases w4
  | some ob =>
    rw [hh] at w4
    cases ob <;> first | (cases w4; done) | skip
    rename_i rc e frz
    refine ⟨a.block, fun e => ?_, rc, _, _, hh⟩
    have := (Array.getElem?_eq_some_iff.1 hh).1
    omega
theorem int_val {t : TypeId} {k : IntKind} {W : World} {base : Nat} {v : Value} (hu : Tryz.prog.underlying t = some (.int k)) (h : Value.okWide Tryz.prog W .any base t v) : ∃ n, v = .int k n := by
  unfold Value.okWide at h
  rw [hu] at h
  unfold Cell.okWide at h
  rw [hu] at h
  cases v <;> simp only [Cell.ok, hu] at h
  obtain ⟨rfl, _⟩ := h
  exact ⟨_, rfl⟩
theorem agg_val {W : World} {base : Nat} {v : Value} {t : TypeId} {l : List (TypeId × Nat)} {ts : List TypeId} (hf : fieldsAre (Tryz.prog.underlying t) l = true) (hts : Tryz.prog.cellTypes Tryz.prog.depth t = some ts) (h : Value.okWide Tryz.prog W .any base t v) : ∃ cs : List Value, v = .agg ⟨cs⟩ ∧ ∀ (i : Nat) (d : Value) (u : TypeId), cs[i]? = some d → ts[i]? = some u → Cell.okWide Tryz.prog W .any base u d := by
  obtain ⟨fs, hu, _⟩ := fieldsAre_ok hf
  unfold Value.okWide at h
  rw [hu] at h
  obtain ⟨⟨cs⟩, rfl, _, ts', h1, _, h3⟩ := h
  rw [hts] at h1
  injection h1 with h1
  subst h1
  refine ⟨cs, rfl, fun i d u hd hu' => ?_⟩
  obtain ⟨u', h4, h5⟩ := h3 i d (by simpa using hd)
  have hi := (List.getElem?_eq_some_iff.1 hu').1
  rw [Nat.mod_eq_of_lt hi, hu'] at h4
  injection h4 with h4
  rw [h4]
  exact h5
open Go.Wx in
/-- the setting of the walk -/
noncomputable def st : Set0 := { exts := [(7, constTrue), (370, idxM), (524, pureM idxStr)] }
theorem st_ok (hlv : ExtSum Tryz.prog .leaf 7 constTrue) (lf : Nat) : SumOk (st.cfg.at lf) := by
  refine sumOk_list _ [(7, constTrue), (370, idxM), (524, pureM idxStr)] rfl ?_
  intro p hp
  simp only [List.mem_cons, List.mem_nil_iff, or_false] at hp
  rcases hp with rfl | rfl | rfl
  · exact hlv
  · exact extSum_idx Tryz.func370 (by kernel_rfl) (by kernel_rfl) (by kernel_rfl) (by kernel_rfl)
  · exact extSum_pure Tryz.func524 (by kernel_rfl) (by kernel_rfl) (by kernel_rfl) (by kernel_rfl) (e := Extern.BytealgIndexByte.indexByte) idxStr_ok
open Go.Wx in
theorem std : StdU st where
  own := by
    repeat (refine List.forall_mem_cons.2 ⟨rfl, ?_⟩)
    intro f hf
    cases hf
  bidx := rfl
  sidx := rfl
open Go.Wx in
/-- the law, over what came in -/
theorem walkU (hlv : ExtSum Tryz.prog .leaf 7 constTrue) {H : Type} {enc : TypeId × Value → H} {held : Bool} {W : World} {base : Nat} {v1 v2 : Value} {d1 : DataW H} {p1 : List MemPlace} (k1 : Value.okWide Tryz.prog W .any base 42 v1) (k2 : Value.okWide Tryz.prog W .any base 35 v2)
    (h1 : DataW.Trod enc Tryz.prog W 0 (fun _ => true) held 42 v1 d1 p1) : Calls Tryz.prog 5 #[v1, v2] W fun e W' => e = .returned (.bool true) ∧ Below W.heap.size W W' := by
  obtain ⟨n, rfl⟩ := int_val und35 k2
  obtain ⟨cs, rfl, hdc⟩ := agg_val u42 t42 k1
  obtain ⟨fu1, h1⟩ := h1
  obtain ⟨uv, n0, p0, g0, s0, a0, sd, fv, r, l, w, k, cp, lim, most, ver, f1, f2, y1, y2, ecs, hu, hf, w1, w2, w3⟩ := su_cells h1
  have ecs : cs = [uv, .string n0, .string p0, .string g0, .string s0, .bool a0, .int .u64 sd, fv, .int .i64 r, .int .i64 l, .int .i64 w, .int .i64 k, .bool cp, .int .i64 lim, .int .i64 most, .string ver] := ecs
  subst ecs
  have so0 := slice_cell und32 (hdc 0 uv 32 rfl rfl)
  have so7 := slice_cell und36 (hdc 7 fv 36 rfl rfl)
  have na : ∀ q, NotAt W W.heap.size q := fun q => .inr (Array.getElem?_eq_none (Nat.le_refl _))
  obtain ⟨hA, μA, uvv, us, iA, leA, exA, relA, rwA, lnA⟩ := (Inc.start Tryz.prog W W.heap.size).rows (k := .u8) (α := { x : UR // URok x }) (fun a => a.1.cells) und32 c34 (by decide) (fun _ => rfl) hu (fun _ => rfl) (na _) so0 (fun cs fu y hy hl => by
    obtain ⟨n, p, g, s, a, rfl, q1, q2, q3⟩ := us_cells hy
    refine ⟨fun m q => (by cases q), ⟨⟨toNats n, toNats p, toNats g, toNats s, a⟩, ⟨q1, q2, q3, bytes_toNats n, bytes_toNats p, bytes_toNats s⟩⟩, fun j u hu => ?_⟩
    match j, hu with
    | 0, hu => cases hu; exact ⟨_, rfl, .str _⟩
    | 1, hu => cases hu; exact ⟨_, rfl, .str _⟩
    | 2, hu => cases hu; exact ⟨_, rfl, .str _⟩
    | 3, hu => cases hu; exact ⟨_, rfl, .str _⟩
    | 4, hu => cases hu; exact ⟨_, rfl, .bool _⟩
    | j + 5, hu => cases hu)
  obtain ⟨hB, μB, fvv, ts, iB, leB, exB, relB, rwB, lnB⟩ := rows_ro iA (k := .u8) (α := List Nat) (fun s => [V.str s]) und36 c9 (by decide) (fun _ => rfl) hf (fun _ => rfl) (na _) so7 (fun cs fu y hy hl => by
    obtain ⟨s, rfl⟩ := trod_str und9 hy
    refine ⟨fun m q => (by cases q), toNats s, fun j u hu => ?_⟩
    match j, hu with
    | 0, hu => cases hu; exact ⟨_, rfl, .str _⟩
    | j + 1, hu => cases hu)
  have fl4 : ∀ {α : Type} {p : α → Prop} {f : α → List V} (l : List { x : α // p x }), l.flatMap (fun a => f a.1) = (l.map (·.1)).flatMap f := fun l => by
    induction l with
    | nil => rfl
    | cons x l ih => rw [List.flatMap_cons, ih]; rfl
  have fl1 : ∀ l : List (List Nat), l.flatMap (fun s => [V.str s]) = l.map V.str := fun l => by
    induction l with
    | nil => rfl
    | cons x l ih => rw [List.flatMap_cons, ih]; rfl
  rw [fl4] at rwA
  rw [fl1] at rwB
  have uok : ∀ u ∈ us.map (·.1), URok u := fun u hu => by
    obtain ⟨y, _, rfl⟩ := List.mem_map.1 hu
    exact y.2
  have hl : SumLocal st.cfg := fun f g e vs => (st_ok hlv 0 f g e).1 vs
  obtain ⟨v, h', lf, m, lg, hrun, _, rfl⟩ := callW_runH iB.wf (law_spec std rfl hl rfl ⟨us.map (·.1), ⟨toNats n0, toNats p0, toNats g0, toNats s0, a0⟩, sd, ts, r, l, w, k, cp, lim, most, toNats ver⟩ n uvv fvv hB (by
    have := rwA.ext exB
    show RW 34 5 (us.map (·.1)).length _ _ _
    rw [List.length_map]
    exact this) rwB fun hs => ⟨Nat.le_trans hs.1 (by decide), Nat.le_trans hs.2.1 (by decide), hs.2.2, bytes_toNats ver, uok, ⟨w1, w2, w3, bytes_toNats n0, bytes_toNats p0, bytes_toNats s0⟩⟩)
  refine law_calls_r (st.cfg.at lf) mixedU (st_ok hlv lf) (n := m) (ν := ν0) (μ := μB) hrun rfl W ⟨fun j ob hk => (iB.ob j ob hk).2, fun j j' ob ob' q q' hk hk' hne hro => ?_⟩ (fun j hj => iB.none j hj) iB.ro ?_ Globs.none
  · rw [(iB.ob j ob hk).1, (iB.ob j' ob' hk').1] at hro
    cases hro
  · exact .cons (.agg (.cons (relA.mono leB) (.cons (.str _) (.cons (.str _) (.cons (.str _) (.cons (.str _) (.cons (.bool _) (.cons (.int _ _) (.cons relB (.cons (.int _ _) (.cons (.int _ _) (.cons (.int _ _) (.cons (.int _ _) (.cons (.bool _) (.cons (.int _ _) (.cons (.int _ _) (.cons (.str _) .nil))))))))))))))))) (.cons (.int _ _) .nil)
end Go.Proofs.YthhdkonpejmgcaaGreatDoor.proxyPure
