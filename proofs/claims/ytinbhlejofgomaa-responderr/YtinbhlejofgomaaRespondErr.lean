/-
  RespondErr: an ERR that may come ends an answer, wherever that is, whatever the packets; it has no condition. The walk goes by the machine of LxA to LxC; LxX shows that the model does what that machine does.
-/
import Derived.Test.YtinbhlejofgomaaRows
import Derived.Test.YtinbhlejofgomaaHsB
import Derived.Test.YtinbhlejofgomaaLyH
import Derived.Test.YtinbhlejofgomaaLyU
import Derived.Test.YtinbhlejofgomaaWxZ
set_option linter.unusedVariables false
set_option linter.unusedSimpArgs false
set_option linter.constructorNameAsVariable false
set_option maxRecDepth 100000
namespace Go.Proofs.Ytinbhlejofgomaa.respondErr
open Go.Proofs Go.Shelf Go.ChangeShapes Go.WideShapes Go.ChangeAt Go.RowKit Go.Lx
theorem own : ownKnob Try.prog.godebug = none := by kernel_rfl
theorem laidOut : laidOutB Try.prog = true := by kernel_rfl
theorem mixed : Try.prog.follows .mixedOrders = true := Checked.mixed Try.checked
noncomputable def exts0 : List (FuncId × (List V → M V)) := [(94, idxM)]
theorem exts_all : ∀ p ∈ exts0, ExtSum Try.prog .leaf p.1 p.2 := by
  intro p hp
  rw [exts0, List.mem_singleton] at hp
  subst hp
  exact extSum_idx Try.func94 (by kernel_rfl) (by kernel_rfl) (by kernel_rfl) (by kernel_rfl)
noncomputable def cfg : Cfg := { P := Try.prog, lf := 100000, gl := .leaf, sum := sums exts0 }
theorem exts_ok : SumOk cfg := sumOk_list _ exts0 rfl exts_all
theorem livesRun : yes (callM cfg 100 6 [] st0) = true := by kernel_rfl
theorem eL : Go.Proofs.Enters Try.prog 6 := Go.Proofs.enters_of Try.func6 (by kernel_rfl) (by first | rfl | kernel_rfl)
noncomputable def st : Set0 := { exts := (6, constTrue) :: exts0, gl := .leaf }
theorem st_ok (lf : Nat) : SumOk (st.cfg.at lf) := by
  refine sumOk_list _ ((6, constTrue) :: exts0) rfl ?_
  intro p hp
  rcases List.mem_cons.1 hp with rfl | hp
  · exact extSum_true cfg mixed exts_ok livesRun rfl eL rfl
  exact exts_all p hp
open Go.Wx in
theorem std : StdL st where
  ownB := by
    repeat (refine List.forall_mem_cons.2 ⟨rfl, ?_⟩)
    intro f hf
    cases hf
  bidx := rfl
  ownG := by
    repeat (refine List.forall_mem_cons.2 ⟨rfl, ?_⟩)
    intro f hf
    cases hf
  ownR := by
    repeat (refine List.forall_mem_cons.2 ⟨rfl, ?_⟩)
    intro f hf
    cases hf
  lives := fun h => by
    rw [← btT]
    exact callW_sum (s := h.st) (g := constTrue) rfl (Nice.ret _) rfl LogOk_nil ⟨rfl, rfl⟩
/-! ### the arguments -/
noncomputable def fieldsAre (d : Option TypeDesc) (ts : List (TypeId × Nat)) : Bool := match d with
  | some (.struct fs) => fs.toList.map (fun f => (f.type, f.offset)) == ts
  | _ => false
theorem fieldsAre_ok {d : Option TypeDesc} {ts : List (TypeId × Nat)} (h : fieldsAre d ts = true) : ∃ fs, d = some (.struct fs) ∧ ∀ p ∈ ts, ∃ f ∈ fs.toList, f.type = p.1 ∧ f.offset = p.2 := by
  unfold fieldsAre at h
  cases d with
  | none => cases h
  | some d =>
    cases d <;> try (cases h; done)
    rename_i fs
    refine ⟨fs, rfl, fun p hp => ?_⟩
    have := eq_of_beq h
    rw [← this] at hp
    obtain ⟨f, hf, e⟩ := List.mem_map.1 hp
    exact ⟨f, hf, by rw [← e], by rw [← e]⟩
theorem u29 : fieldsAre (Try.prog.underlying 29) [(5, 0), (9, 1), (23, 2), (26, 3), (5, 4), (23, 5), (26, 6), (27, 7)] = true := by kernel_rfl
theorem c29 : Try.prog.cellsOf 29 = 8 := by kernel_rfl
theorem t29 : Try.prog.cellTypes Try.prog.depth 29 = some [5, 9, 23, 26, 5, 23, 26, 27] := by kernel_rfl
theorem c5 : Try.prog.cellsOf 5 = 1 := by kernel_rfl
theorem c9 : Try.prog.cellsOf 9 = 1 := by kernel_rfl
theorem c23 : Try.prog.cellsOf 23 = 1 := by kernel_rfl
theorem c26 : Try.prog.cellsOf 26 = 1 := by kernel_rfl
theorem c27 : Try.prog.cellsOf 27 = 1 := by kernel_rfl
theorem und5 : Try.prog.underlying 5 = some (.int .u8) := by kernel_rfl
theorem und9 : Try.prog.underlying 9 = some .string := by kernel_rfl
theorem und23 : Try.prog.underlying 23 = some (.int .u32) := by kernel_rfl
theorem und24 : Try.prog.underlying 24 = some (.int .u32) := by kernel_rfl
theorem und26 : Try.prog.underlying 26 = some (.int .u16) := by kernel_rfl
theorem und27 : Try.prog.underlying 27 = some (.slice 5) := by kernel_rfl
theorem und33 : Try.prog.underlying 33 = some (.slice 27) := by kernel_rfl
section
variable {H : Type} {enc : TypeId × Value → H} {W : World} {spare : Nat → Bool} {held : Bool}
theorem cm_cells {fuel : Nat} {cs : List Value} {x : DataW H × List MemPlace} (h : DataW.trod enc Try.prog W 0 spare held fuel 29 cs = some x) : ∃ (k x2 x3 fl x5 x6 : Int) (s : ByteArray) (d : Value) (f1 : Nat) (y1 : DataW H × List MemPlace), cs = [.int .u8 k, .string s, .int .u32 x2, .int .u16 x3, .int .u8 fl, .int .u32 x5, .int .u16 x6, d] ∧ DataW.trod enc Try.prog W 0 spare held f1 27 [d] = some y1 := by
  obtain ⟨fs, hu, hf⟩ := fieldsAre_ok u29
  have hl := trod_struct_len hu h
  rw [c29] at hl
  have sub : ∀ t o, Try.prog.cellsOf t = 1 → ((t, o) : TypeId × Nat) ∈ [((5, 0) : TypeId × Nat), (9, 1), (23, 2), (26, 3), (5, 4), (23, 5), (26, 6), (27, 7)] → ∃ fu y, DataW.trod enc Try.prog W 0 spare held fu t ((cs.drop o).take 1) = some y := fun t o hn ho => by
    obtain ⟨f, hm, e1, e2⟩ := hf _ ho
    obtain ⟨y, hy⟩ := trod_field' hu hm h
    rw [e1, e2] at hy
    simp only [hn] at hy
    exact ⟨_, y, hy⟩
  match cs, hl with
  | [k0, k1, k2, k3, k4, k5, k6, k7], _ =>
    obtain ⟨_, _, h0⟩ := sub 5 0 c5 (by simp)
    obtain ⟨a0, e0, _⟩ := trod_int und5 h0
    obtain ⟨_, _, h1⟩ := sub 9 1 c9 (by simp)
    obtain ⟨s, e1⟩ := trod_str und9 h1
    obtain ⟨_, _, h2⟩ := sub 23 2 c23 (by simp)
    obtain ⟨a2, e2, _⟩ := trod_int und23 h2
    obtain ⟨_, _, h3⟩ := sub 26 3 c26 (by simp)
    obtain ⟨a3, e3, _⟩ := trod_int und26 h3
    obtain ⟨_, _, h4⟩ := sub 5 4 c5 (by simp)
    obtain ⟨a4, e4, _⟩ := trod_int und5 h4
    obtain ⟨_, _, h5⟩ := sub 23 5 c23 (by simp)
    obtain ⟨a5, e5, _⟩ := trod_int und23 h5
    obtain ⟨_, _, h6⟩ := sub 26 6 c26 (by simp)
    obtain ⟨a6, e6, _⟩ := trod_int und26 h6
    obtain ⟨f1, y1, h7⟩ := sub 27 7 c27 (by simp)
    simp only [List.drop_succ_cons, List.drop_zero, List.take_succ_cons, List.take_zero, List.cons.injEq, and_true] at e0 e1 e2 e3 e4 e5 e6 h7
    exact ⟨a0, a2, a3, a4, a5, a6, s, k7, f1, y1, by rw [e0, e1, e2, e3, e4, e5, e6], h7⟩
theorem trodAll_four' {t1 t2 t3 t4 : TypeId} {args : Array Value} {ds : List (DataW H)} {ps : List MemPlace} (h : DataW.TrodAll enc Try.prog W 0 spare held [t1, t2, t3, t4] args.toList ds ps) :
    ∃ v1 v2 v3 v4 d1 d2 d3 d4 p2 p3 p4, args = #[v1, v2, v3, v4] ∧ ds = [d1, d2, d3, d4] ∧ DataW.Trod enc Try.prog W 0 spare held t2 v2 d2 p2 ∧ DataW.Trod enc Try.prog W 0 spare held t3 v3 d3 p3 ∧ DataW.Trod enc Try.prog W 0 spare held t4 v4 d4 p4 := by
  obtain ⟨v1, vs, d1, ds', p1, q, e1, rfl, rfl, hd, hrest⟩ := trodAll_cons h
  obtain ⟨v2, vs2, d2, ds2, p2, q2, rfl, rfl, rfl, hd2, hrest2⟩ := trodAll_cons hrest
  obtain ⟨v3, vs3, d3, ds3, p3, q3, rfl, rfl, rfl, hd3, hrest3⟩ := trodAll_cons hrest2
  obtain ⟨v4, vs4, d4, ds4, p4, q4, rfl, rfl, rfl, hd4, hrest4⟩ := trodAll_cons hrest3
  obtain ⟨rfl, rfl, rfl⟩ := trodAll_nil hrest4
  exact ⟨v1, v2, v3, v4, d1, d2, d3, d4, p2, p3, p4, by cases args; simp_all, rfl, hd2, hd3, hd4⟩
end
theorem slice_cell {t e : TypeId} {W : World} {base : Nat} {v : Value} (hu : Try.prog.underlying t = some (.slice e)) (h : Cell.okWide Try.prog W .any base t v) : v.cells.toList = [v] ∧ Go.Wx.Some0 W W.heap.size v := by
  unfold Cell.okWide Cell.ok at h
  rw [hu] at h
  cases v <;> simp only [] at h <;> try (exact h.elim)
  rename_i ao len cap
  refine ⟨rfl, fun a q => ?_⟩
  injection q with q1 q2 q3
  subst q1
  obtain ⟨w1, w2, _, w3, row, cells, w4, _⟩ := h
  unfold World.shape? at w4
  cases hh : W.heap[a.block]? with
  | none => rw [hh] at w4; cases w4
  | some ob =>
    rw [hh] at w4
    cases ob <;> first | (cases w4; done) | skip
    rename_i rc e frz
    refine ⟨a.block, fun e => ?_, rc, _, _, hh⟩
    have := (Array.getElem?_eq_some_iff.1 hh).1
    omega
theorem slice_val {t e : TypeId} {W : World} {base : Nat} {v : Value} (hu : Try.prog.underlying t = some (.slice e)) (h : Value.okWide Try.prog W .any base t v) : v.cells.toList = [v] ∧ Go.Wx.Some0 W W.heap.size v := by
  unfold Value.okWide at h
  rw [hu] at h
  exact slice_cell hu h
theorem int_val {t : TypeId} {k : IntKind} {W : World} {base : Nat} {v : Value} (hu : Try.prog.underlying t = some (.int k)) (h : Value.okWide Try.prog W .any base t v) : ∃ n, v = .int k n := by
  unfold Value.okWide at h
  rw [hu] at h
  unfold Cell.okWide at h
  rw [hu] at h
  cases v <;> simp only [Cell.ok, hu] at h
  obtain ⟨rfl, _⟩ := h
  exact ⟨_, rfl⟩
theorem agg_val {W : World} {base : Nat} {v : Value} (h : Value.okWide Try.prog W .any base 29 v) : ∃ cs : List Value, v = .agg ⟨cs⟩ ∧ ∀ d, cs[7]? = some d → Cell.okWide Try.prog W .any base 27 d := by
  obtain ⟨fs, hu, _⟩ := fieldsAre_ok u29
  unfold Value.okWide at h
  rw [hu] at h
  obtain ⟨⟨cs⟩, rfl, _, ts, h1, _, h3⟩ := h
  rw [t29] at h1
  injection h1 with h1
  subst h1
  refine ⟨cs, rfl, fun d hd => ?_⟩
  obtain ⟨u, h4, h5⟩ := h3 7 d (by simpa using hd)
  have h4 : some (27 : TypeId) = some u := h4
  injection h4 with h4
  rw [h4]
  exact h5
open Go.Wx in
theorem walk {H : Type} {enc : TypeId × Value → H} {held : Bool} {W : World} {base : Nat} {v1 v2 v3 v4 : Value} {d2 d3 d4 : DataW H} {p2 p3 p4 : List MemPlace} (k1 : Value.okWide Try.prog W .any base 24 v1) (k2 : Value.okWide Try.prog W .any base 29 v2) (k3 : Value.okWide Try.prog W .any base 33 v3) (k4 : Value.okWide Try.prog W .any base 26 v4)
    (h2 : DataW.Trod enc Try.prog W 0 (fun _ => true) held 29 v2 d2 p2) (h3 : DataW.Trod enc Try.prog W 0 (fun _ => true) held 33 v3 d3 p3) (h4 : DataW.Trod enc Try.prog W 0 (fun _ => true) held 26 v4 d4 p4) : Calls Try.prog 5 #[v1, v2, v3, v4] W fun e W' => e = .returned (.bool true) ∧ Below W.heap.size W W' := by
  obtain ⟨c, rfl⟩ := int_val und24 k1
  obtain ⟨cs, rfl, hdc⟩ := agg_val k2
  obtain ⟨sv3, so3⟩ := slice_val und33 k3
  obtain ⟨code, rfl⟩ := int_val und26 k4
  obtain ⟨fu2, h2⟩ := h2
  obtain ⟨fu3, h3⟩ := h3
  obtain ⟨fu4, h4⟩ := h4
  rw [sv3] at h3
  obtain ⟨code', q1, hwf⟩ := trod_int und26 (cs := [.int .u16 code]) h4
  have hcode : 0 ≤ code ∧ code < 65536 := by
    injection q1 with q1 _
    injection q1 with _ q1
    subst q1
    have : Lit.wf (.int .u16 code) = true := hwf
    simp [Lit.wf, IntKind.min, IntKind.max, IntKind.signed, IntKind.bits] at this
    omega
  obtain ⟨k, x2, x3, fl, x5, x6, s, d, f1, y1, ecs, hd⟩ := cm_cells h2
  have ecs : cs = [.int .u8 k, .string s, .int .u32 x2, .int .u16 x3, .int .u8 fl, .int .u32 x5, .int .u16 x6, d] := ecs
  subst ecs
  obtain ⟨_, so7⟩ := slice_cell und27 (hdc d rfl)
  have na : NotAt W W.heap.size .i64 := .inr (Array.getElem?_eq_none (Nat.le_refl _))
  obtain ⟨hA, μA, dv, dl, iA, leA, exA, relA, bsA⟩ := (Inc.start Try.prog W W.heap.size).bytes und27 und5 c5 (fun _ => rfl) hd na so7
  obtain ⟨hB, μB, lv, ls, lcs, iB, leB, exB, relB, rwB, bsB, lnB⟩ := iA.packs und33 und27 und5 c27 c5 (fun _ => rfl) h3 na so3
  have hml : maxLen = 2 ^ 63 - 1 := rfl
  obtain ⟨v, h', lf, n, l, hrun, _, rfl⟩ := callW_runH iB.wf (err_law std (X := ⟨toNats s, x2, x3, x5, x6, dv⟩) c k fl code (bsA.ext exB) ⟨rwB, bsB⟩ hcode (by omega))
  have hg' : Globs (st.cfg.at lf).gl μB W := ⟨fun g c hq => (by cases hq), fun g c k p q1 q2 => (by cases q1), fun g hq => (by cases hq), fun g c rc e frz hq _ _ => (by cases hq)⟩
  rw [← btT] at hrun
  refine law_calls_r (st.cfg.at lf) mixed (st_ok lf) (n := n) (ν := ν0) (μ := μB) hrun rfl W ⟨fun j ob hk => (iB.ob j ob hk).2, fun j j' ob ob' q q' hk hk' hne hro => ?_⟩ (fun j hj => iB.none j hj) iB.ro ?_ hg'
  · rw [(iB.ob j ob hk).1, (iB.ob j' ob' hk').1] at hro
    cases hro
  · unfold cmdC
    exact .cons (.int _ _) (.cons (.agg (.cons (.int _ _) (.cons (.str s) (.cons (.int _ _) (.cons (.int _ _) (.cons (.int _ _) (.cons (.int _ _) (.cons (.int _ _) (.cons (relA.mono leB) .nil))))))))) (.cons relB (.cons (.int _ _) .nil)))
set_option maxRecDepth 100000 in
theorem lifted (os : Os) (started : os.Started) (H : Type) (enc : TypeId × Value → H) :
    ReturnsInHanded {} Try.checked os 5 .any (Rows.respondErrSpec.pre6 enc Try.prog Try.f5 Rows.respondErrRow.domain false) (Rows.respondErrSpec.post enc Try.prog Try.f5 false true false false) := by
  refine returnsInHanded_of_change (C := Try.checked) own started (by kernel_rfl) Try.func5
    (ChangeSpec.witness6 (enc := enc) (C := Try.checked) false ⟨#[], #[.int .u32 0, .agg #[.int .u8 0, .string ⟨#[]⟩, .int .u32 0, .int .u16 0, .int .u8 0, .int .u32 0, .int .u16 0, .slice none 0 0], .slice none 0 0, .int .u16 0], []⟩ 8 (by kernel_rfl) (by kernel_rfl) (by kernel_rfl) (by kernel_rfl)) ?_
  intro W base args ds gs before hval0 hW hcnd _
  have hval : ∀ (j : Nat) t v, Try.f5.params[j]? = some t → args[j]? = some v → Value.okWide Try.prog W .any base t v := hval0
  have hW' := hW
  obtain ⟨p, q, hA0, hV, rfl, hfz, hnd⟩ := hW
  have hA : DataW.TrodAll enc Try.prog W 0 (fun _ => true) true Try.f5.params.toList args.toList ds p := hA0
  rw [Try.params5] at hA hval
  obtain ⟨v1, v2, v3, v4, d1, d2, d3, d4, p2, p3, p4, rfl, rfl, h2, h3, h4⟩ := trodAll_four' hA
  refine (walk (hval 0 24 v1 rfl rfl) (hval 1 29 v2 rfl rfl) (hval 2 33 v3 rfl rfl) (hval 3 26 v4 rfl rfl) h2 h3 h4).mono fun e W' ⟨he, hb⟩ => ?_
  subst he
  refine ⟨_, rfl, post_true laidOut hW' hb rfl ?_ rfl Try.underlying4 rfl rfl rfl⟩
  rw [Try.params5]
  intro t ht
  simp at ht
  rcases ht with rfl | rfl | rfl | rfl <;> exact ⟨by kernel_rfl, of_decide_eq_true (by kernel_rfl)⟩
theorem over : Rows.RespondErrSaid :=
  OpenClaim.holds_of_wide 5 Try.f5 rfl rfl rfl rfl rfl rfl rfl ⟨rfl, rfl, rfl, rfl, rfl⟩ rfl rfl rfl rfl rfl (by kernel_rfl) Try.func5 (by kernel_rfl)
    (of_decide_eq_true (by kernel_rfl)) (by unfold Func.isWrapper; first | (rw [if_pos (by decide +kernel)]; kernel_rfl) | (rw [if_neg (by decide +kernel)]; exact ⟨rfl, rfl⟩))
    (fun os started H enc _ => lifted os started H enc)
/-- THE STATEMENT -/
theorem proved : Rows.RespondErrSaid :=
  over
end Go.Proofs.Ytinbhlejofgomaa.respondErr
