/-
  RespondScript: both responders answer a script alike, whatever it is; it has no condition. The walk goes by the machine of LxA to LxC; LxX shows that the model does what that machine does.
-/
import Derived.Test.YtinbhlejofgomaaGreatRows
import Derived.Test.YtinbhlejofgomaaGreatPsC
import Derived.Test.YtinbhlejofgomaaGreatLyH
import Derived.Test.YtinbhlejofgomaaGreatLyU
import Derived.Test.YtinbhlejofgomaaGreatWxZ
set_option linter.unusedVariables false
set_option linter.unusedSimpArgs false
set_option linter.constructorNameAsVariable false
set_option maxRecDepth 100000
namespace Go.Proofs.YtinbhlejofgomaaGreat.respondScript
open Go.Proofs Go.Shelf Go.ChangeShapes Go.WideShapes Go.ChangeAt Go.RowKit Go.Lx
theorem own : ownKnob Tryz.prog.godebug = none := by kernel_rfl
theorem laidOut : laidOutB Tryz.prog = true := by kernel_rfl
theorem mixed : Tryz.prog.follows .mixedOrders = true := Checked.mixed Tryz.checked
noncomputable def exts0 : List (FuncId × (List V → M V)) := [(153, idxM)]
theorem exts_all : ∀ p ∈ exts0, ExtSum Tryz.prog .leaf p.1 p.2 := by
 intro p hp
 rw [exts0, List.mem_singleton] at hp
 subst hp
 exact extSum_idx Tryz.func153 (by kernel_rfl) (by kernel_rfl) (by kernel_rfl) (by kernel_rfl)
noncomputable def cfg : Cfg := { P := Tryz.prog, lf := 100000, gl := .leaf, sum := sums exts0 }
theorem exts_ok : SumOk cfg := sumOk_list _ exts0 rfl exts_all
theorem livesRun : yes (callM cfg 100 4 [] st0) = true := by kernel_rfl
theorem eL : Go.Proofs.Enters Tryz.prog 4 := Go.Proofs.enters_of Tryz.func4 (by kernel_rfl) (by first | rfl | kernel_rfl)
noncomputable def st : Set0 := { exts := (4, constTrue) :: exts0, gl := .leaf }
theorem st_ok (lf : Nat) : SumOk (st.cfg.at lf) := by
 refine sumOk_list _ ((4, constTrue) :: exts0) rfl ?_
 intro p hp
 rcases List.mem_cons.1 hp with rfl | hp
 ·exact extSum_true cfg mixed exts_ok livesRun rfl eL rfl
 exact exts_all p hp
open Go.Wx in
theorem std : StdL st where
 ownB := by
  repeat (refine List.forall_mem_cons.2 ⟨rfl, ?_⟩)
  intro f hf
  cases hf
 bidx := rfl
 ownG := by
  repeat (refine List.forall_mem_cons.2 ⟨rfl, ?_⟩)
  intro f hf
  cases hf
 ownR := by
  repeat (refine List.forall_mem_cons.2 ⟨rfl, ?_⟩)
  intro f hf
  cases hf
 ownF := by
  repeat (refine List.forall_mem_cons.2 ⟨rfl, ?_⟩)
  intro f hf
  cases hf
 ownX := by
  repeat (refine List.forall_mem_cons.2 ⟨rfl, ?_⟩)
  intro f hf
  cases hf
 ownL := by
  repeat (refine List.forall_mem_cons.2 ⟨rfl, ?_⟩)
  intro f hf
  cases hf
 lives := fun h => by
  rw [← btT]
  exact callW_sum (s := h.st) (g := constTrue) rfl (Nice.ret _) rfl LogOk_nil ⟨rfl, rfl⟩
/-! ### the arguments -/
noncomputable def fieldsAre (d : Option TypeDesc) (ts : List (TypeId × Nat)) : Bool := match d with
 | some (.struct fs) => fs.toList.map (fun f => (f.type, f.offset)) == ts
 | _ => false
theorem fieldsAre_ok {d : Option TypeDesc} {ts : List (TypeId × Nat)} (h : fieldsAre d ts = true) : ∃ fs, d = some (.struct fs) ∧ ∀ p ∈ ts, ∃ f ∈ fs.toList, f.type = p.1 ∧ f.offset = p.2 := by
 unfold fieldsAre at h
 cases d with
 | none => cases h
 | some d =>
   cases d <;> try (cases h; done)
   rename_i fs
   refine ⟨fs, rfl, fun p hp => ?_⟩
   have := eq_of_beq h
   rw [← this] at hp
   obtain ⟨f, hf, e⟩ := List.mem_map.1 hp
   exact ⟨f, hf, by rw [← e], by rw [← e]⟩
theorem u27 : fieldsAre (Tryz.prog.underlying 27) [(5, 0), (9, 1), (22, 2), (24, 3), (5, 4), (22, 5), (24, 6), (25, 7)] = true := by kernel_rfl
theorem u67 : fieldsAre (Tryz.prog.underlying 67) [(9, 0), (9, 1), (9, 2), (9, 3), (9, 4), (24, 5), (22, 6), (5, 7), (24, 8), (5, 9)] = true := by kernel_rfl
theorem c27 : Tryz.prog.cellsOf 27 = 8 := by kernel_rfl
theorem c67 : Tryz.prog.cellsOf 67 = 10 := by kernel_rfl
theorem t27 : Tryz.prog.cellTypes Tryz.prog.depth 27 = some [5, 9, 22, 24, 5, 22, 24, 25] := by kernel_rfl
theorem c4 : Tryz.prog.cellsOf 4 = 1 := by kernel_rfl
theorem c5 : Tryz.prog.cellsOf 5 = 1 := by kernel_rfl
theorem c9 : Tryz.prog.cellsOf 9 = 1 := by kernel_rfl
theorem c22 : Tryz.prog.cellsOf 22 = 1 := by kernel_rfl
theorem c24 : Tryz.prog.cellsOf 24 = 1 := by kernel_rfl
theorem c25 : Tryz.prog.cellsOf 25 = 1 := by kernel_rfl
theorem und4 : Tryz.prog.underlying 4 = some .bool := by kernel_rfl
theorem und5 : Tryz.prog.underlying 5 = some (.int .u8) := by kernel_rfl
theorem und9 : Tryz.prog.underlying 9 = some .string := by kernel_rfl
theorem und22 : Tryz.prog.underlying 22 = some (.int .u32) := by kernel_rfl
theorem und23 : Tryz.prog.underlying 23 = some (.int .u32) := by kernel_rfl
theorem und24 : Tryz.prog.underlying 24 = some (.int .u16) := by kernel_rfl
theorem und25 : Tryz.prog.underlying 25 = some (.slice 5) := by kernel_rfl
theorem und28 : Tryz.prog.underlying 28 = some (.slice 67) := by kernel_rfl
theorem und29 : Tryz.prog.underlying 29 = some (.slice 25) := by kernel_rfl
theorem und30 : Tryz.prog.underlying 30 = some (.slice 4) := by kernel_rfl
section
variable {H : Type} {enc : TypeId × Value → H} {W : World} {spare : Nat → Bool} {held : Bool}
theorem cm_cells {fuel : Nat} {cs : List Value} {x : DataW H × List MemPlace} (h : DataW.trod enc Tryz.prog W 0 spare held fuel 27 cs = some x) : ∃ (k x2 x3 fl x5 x6 : Int) (s : ByteArray) (d : Value) (f1 : Nat) (y1 : DataW H × List MemPlace), cs = [.int .u8 k, .string s, .int .u32 x2, .int .u16 x3, .int .u8 fl, .int .u32 x5, .int .u16 x6, d] ∧ DataW.trod enc Tryz.prog W 0 spare held f1 25 [d] = some y1 := by
 obtain ⟨fs, hu, hf⟩ := fieldsAre_ok u27
 have hl := trod_struct_len hu h
 rw [c27] at hl
 have sub : ∀ t o, Tryz.prog.cellsOf t = 1 → ((t, o) : TypeId × Nat) ∈ [((5, 0) : TypeId × Nat), (9, 1), (22, 2), (24, 3), (5, 4), (22, 5), (24, 6), (25, 7)] → ∃ fu y, DataW.trod enc Tryz.prog W 0 spare held fu t ((cs.drop o).take 1) = some y := fun t o hn ho => by
  obtain ⟨f, hm, e1, e2⟩ := hf _ ho
  obtain ⟨y, hy⟩ := trod_field' hu hm h
  rw [e1, e2] at hy
  simp only [hn] at hy
  exact ⟨_, y, hy⟩
 match cs, hl with
 | [k0, k1, k2, k3, k4, k5, k6, k7], _ =>
   obtain ⟨_, _, h0⟩ := sub 5 0 c5 (by simp)
   obtain ⟨a0, e0, w0⟩ := trod_int und5 h0
   obtain ⟨_, _, h1⟩ := sub 9 1 c9 (by simp)
   obtain ⟨a1, e1⟩ := trod_str und9 h1
   obtain ⟨_, _, h2⟩ := sub 22 2 c22 (by simp)
   obtain ⟨a2, e2, w2⟩ := trod_int und22 h2
   obtain ⟨_, _, h3⟩ := sub 24 3 c24 (by simp)
   obtain ⟨a3, e3, w3⟩ := trod_int und24 h3
   obtain ⟨_, _, h4⟩ := sub 5 4 c5 (by simp)
   obtain ⟨a4, e4, w4⟩ := trod_int und5 h4
   obtain ⟨_, _, h5⟩ := sub 22 5 c22 (by simp)
   obtain ⟨a5, e5, w5⟩ := trod_int und22 h5
   obtain ⟨_, _, h6⟩ := sub 24 6 c24 (by simp)
   obtain ⟨a6, e6, w6⟩ := trod_int und24 h6
   obtain ⟨f1, y1, h7⟩ := sub 25 7 c25 (by simp)
   simp only [List.drop_succ_cons, List.drop_zero, List.take_succ_cons, List.take_zero, List.cons.injEq, and_true] at e0 e1 e2 e3 e4 e5 e6 h7
   exact ⟨a0, a2, a3, a4, a5, a6, a1, k7, f1, y1, by rw [e0, e1, e2, e3, e4, e5, e6], h7⟩
theorem co_cells {fuel : Nat} {cs : List Value} {x : DataW H × List MemPlace} (h : DataW.trod enc Tryz.prog W 0 spare held fuel 67 cs = some x) : ∃ (s0 s1 s2 s3 s4 : ByteArray) (c l t f d : Int), cs = [.string s0, .string s1, .string s2, .string s3, .string s4, .int .u16 c, .int .u32 l, .int .u8 t, .int .u16 f, .int .u8 d] ∧ 0 ≤ t ∧ t < 256 := by
 obtain ⟨fs, hu, hf⟩ := fieldsAre_ok u67
 have hl := trod_struct_len hu h
 rw [c67] at hl
 have sub : ∀ t o, Tryz.prog.cellsOf t = 1 → ((t, o) : TypeId × Nat) ∈ [((9, 0) : TypeId × Nat), (9, 1), (9, 2), (9, 3), (9, 4), (24, 5), (22, 6), (5, 7), (24, 8), (5, 9)] → ∃ fu y, DataW.trod enc Tryz.prog W 0 spare held fu t ((cs.drop o).take 1) = some y := fun t o hn ho => by
  obtain ⟨f, hm, e1, e2⟩ := hf _ ho
  obtain ⟨y, hy⟩ := trod_field' hu hm h
  rw [e1, e2] at hy
  simp only [hn] at hy
  exact ⟨_, y, hy⟩
 match cs, hl with
 | [k0, k1, k2, k3, k4, k5, k6, k7, k8, k9], _ =>
   obtain ⟨_, _, h0⟩ := sub 9 0 c9 (by simp)
   obtain ⟨a0, e0⟩ := trod_str und9 h0
   obtain ⟨_, _, h1⟩ := sub 9 1 c9 (by simp)
   obtain ⟨a1, e1⟩ := trod_str und9 h1
   obtain ⟨_, _, h2⟩ := sub 9 2 c9 (by simp)
   obtain ⟨a2, e2⟩ := trod_str und9 h2
   obtain ⟨_, _, h3⟩ := sub 9 3 c9 (by simp)
   obtain ⟨a3, e3⟩ := trod_str und9 h3
   obtain ⟨_, _, h4⟩ := sub 9 4 c9 (by simp)
   obtain ⟨a4, e4⟩ := trod_str und9 h4
   obtain ⟨_, _, h5⟩ := sub 24 5 c24 (by simp)
   obtain ⟨a5, e5, w5⟩ := trod_int und24 h5
   obtain ⟨_, _, h6⟩ := sub 22 6 c22 (by simp)
   obtain ⟨a6, e6, w6⟩ := trod_int und22 h6
   obtain ⟨_, _, h7⟩ := sub 5 7 c5 (by simp)
   obtain ⟨a7, e7, w7⟩ := trod_int und5 h7
   obtain ⟨_, _, h8⟩ := sub 24 8 c24 (by simp)
   obtain ⟨a8, e8, w8⟩ := trod_int und24 h8
   obtain ⟨_, _, h9⟩ := sub 5 9 c5 (by simp)
   obtain ⟨a9, e9, w9⟩ := trod_int und5 h9
   simp only [List.drop_succ_cons, List.drop_zero, List.take_succ_cons, List.take_zero, List.cons.injEq, and_true] at e0 e1 e2 e3 e4 e5 e6 e7 e8 e9
   have ht : 0 ≤ a7 ∧ a7 < 256 := by
    have : Lit.wf (.int .u8 a7) = true := w7
    simp [Lit.wf, IntKind.min, IntKind.max, IntKind.signed, IntKind.bits] at this
    omega
   exact ⟨a0, a1, a2, a3, a4, a5, a6, a7, a8, a9, by rw [e0, e1, e2, e3, e4, e5, e6, e7, e8, e9], ht⟩
theorem trodAll_five' {t1 t2 t3 t4 t5 : TypeId} {args : Array Value} {ds : List (DataW H)} {ps : List MemPlace} (h : DataW.TrodAll enc Tryz.prog W 0 spare held [t1, t2, t3, t4, t5] args.toList ds ps) :
  ∃ v1 v2 v3 v4 v5 d1 d2 d3 d4 d5 p2 p3 p4 p5, args = #[v1, v2, v3, v4, v5] ∧ ds = [d1, d2, d3, d4, d5] ∧ DataW.Trod enc Tryz.prog W 0 spare held t2 v2 d2 p2 ∧ DataW.Trod enc Tryz.prog W 0 spare held t3 v3 d3 p3 ∧ DataW.Trod enc Tryz.prog W 0 spare held t4 v4 d4 p4 ∧ DataW.Trod enc Tryz.prog W 0 spare held t5 v5 d5 p5 := by
 obtain ⟨v1, vs, d1, ds', p1, q, e1, rfl, rfl, hd, hrest⟩ := trodAll_cons h
 obtain ⟨v2, vs2, d2, ds2, p2, q2, rfl, rfl, rfl, hd2, hrest2⟩ := trodAll_cons hrest
 obtain ⟨v3, vs3, d3, ds3, p3, q3, rfl, rfl, rfl, hd3, hrest3⟩ := trodAll_cons hrest2
 obtain ⟨v4, vs4, d4, ds4, p4, q4, rfl, rfl, rfl, hd4, hrest4⟩ := trodAll_cons hrest3
 obtain ⟨v5, vs5, d5, ds5, p5, q5, rfl, rfl, rfl, hd5, hrest5⟩ := trodAll_cons hrest4
 obtain ⟨rfl, rfl, rfl⟩ := trodAll_nil hrest5
 exact ⟨v1, v2, v3, v4, v5, d1, d2, d3, d4, d5, p2, p3, p4, p5, by cases args; simp_all, rfl, hd2, hd3, hd4, hd5⟩
end
theorem slice_cell {t e : TypeId} {W : World} {base : Nat} {v : Value} (hu : Tryz.prog.underlying t = some (.slice e)) (h : Cell.okWide Tryz.prog W .any base t v) : v.cells.toList = [v] ∧ Go.Wx.Some0 W W.heap.size v := by
 unfold Cell.okWide Cell.ok at h
 rw [hu] at h
 cases v <;> simp only [] at h <;> try (exact h.elim)
 rename_i ao len cap
 refine ⟨rfl, fun a q => ?_⟩
 injection q with q1 q2 q3
 subst q1
 obtain ⟨w1, w2, _, w3, row, cells, w4, _⟩ := h
 unfold World.shape? at w4
 cases hh : W.heap[a.block]? with
 | none => rw [hh] at w4; cases w4
 | some ob =>
   rw [hh] at w4
   cases ob <;> first | (cases w4; done) | skip
   rename_i rc e frz
   refine ⟨a.block, fun e => ?_, rc, _, _, hh⟩
   have := (Array.getElem?_eq_some_iff.1 hh).1
   omega
theorem slice_val {t e : TypeId} {W : World} {base : Nat} {v : Value} (hu : Tryz.prog.underlying t = some (.slice e)) (h : Value.okWide Tryz.prog W .any base t v) : v.cells.toList = [v] ∧ Go.Wx.Some0 W W.heap.size v := by
 unfold Value.okWide at h
 rw [hu] at h
 exact slice_cell hu h
theorem int_val {t : TypeId} {k : IntKind} {W : World} {base : Nat} {v : Value} (hu : Tryz.prog.underlying t = some (.int k)) (h : Value.okWide Tryz.prog W .any base t v) : ∃ n, v = .int k n := by
 unfold Value.okWide at h
 rw [hu] at h
 unfold Cell.okWide at h
 rw [hu] at h
 cases v <;> simp only [Cell.ok, hu] at h
 obtain ⟨rfl, _⟩ := h
 exact ⟨_, rfl⟩
theorem agg_val {W : World} {base : Nat} {v : Value} (h : Value.okWide Tryz.prog W .any base 27 v) : ∃ cs : List Value, v = .agg ⟨cs⟩ ∧ ∀ d, cs[7]? = some d → Cell.okWide Tryz.prog W .any base 25 d := by
 obtain ⟨fs, hu, _⟩ := fieldsAre_ok u27
 unfold Value.okWide at h
 rw [hu] at h
 obtain ⟨⟨cs⟩, rfl, _, ts, h1, _, h3⟩ := h
 rw [t27] at h1
 injection h1 with h1
 subst h1
 refine ⟨cs, rfl, fun d hd => ?_⟩
 obtain ⟨u, h4, h5⟩ := h3 7 d (by simpa using hd)
 have h4 : some (25 : TypeId) = some u := h4
 injection h4 with h4
 rw [h4]
 exact h5
theorem flat_bool : ∀ bs : List Bool, (bs.flatMap fun b => [V.bool b]) = bs.map V.bool
 | [] => rfl
 | b :: bs => by rw [List.flatMap_cons, flat_bool bs]; rfl
open Go.Wx in
theorem walk {H : Type} {enc : TypeId × Value → H} {held : Bool} {W : World} {base : Nat} {v1 v2 v3 v4 v5 : Value} {d2 d3 d4 d5 : DataW H} {p2 p3 p4 p5 : List MemPlace} (k1 : Value.okWide Tryz.prog W .any base 23 v1) (k2 : Value.okWide Tryz.prog W .any base 27 v2) (k3 : Value.okWide Tryz.prog W .any base 28 v3) (k4 : Value.okWide Tryz.prog W .any base 29 v4) (k5 : Value.okWide Tryz.prog W .any base 30 v5)
  (h2 : DataW.Trod enc Tryz.prog W 0 (fun _ => true) held 27 v2 d2 p2) (h3 : DataW.Trod enc Tryz.prog W 0 (fun _ => true) held 28 v3 d3 p3) (h4 : DataW.Trod enc Tryz.prog W 0 (fun _ => true) held 29 v4 d4 p4) (h5 : DataW.Trod enc Tryz.prog W 0 (fun _ => true) held 30 v5 d5 p5) : Calls Tryz.prog 3 #[v1, v2, v3, v4, v5] W fun e W' => e = .returned (.bool true) ∧ Below W.heap.size W W' := by
 obtain ⟨c, rfl⟩ := int_val und23 k1
 obtain ⟨cs, rfl, hdc⟩ := agg_val k2
 obtain ⟨sv3, so3⟩ := slice_val und28 k3
 obtain ⟨sv4, so4⟩ := slice_val und29 k4
 obtain ⟨sv5, so5⟩ := slice_val und30 k5
 obtain ⟨fu2, h2⟩ := h2
 obtain ⟨fu3, h3⟩ := h3
 obtain ⟨fu4, h4⟩ := h4
 obtain ⟨fu5, h5⟩ := h5
 rw [sv3] at h3
 rw [sv4] at h4
 rw [sv5] at h5
 obtain ⟨k, x2, x3, fl, x5, x6, s, d, f1, y1, ecs, hd⟩ := cm_cells h2
 have ecs : cs = [.int .u8 k, .string s, .int .u32 x2, .int .u16 x3, .int .u8 fl, .int .u32 x5, .int .u16 x6, d] := ecs
 subst ecs
 obtain ⟨_, so7⟩ := slice_cell und25 (hdc d rfl)
 have na : NotAt W W.heap.size .i64 := .inr (Array.getElem?_eq_none (Nat.le_refl _))
 obtain ⟨hA, μA, dv, dl, iA, leA, exA, relA, bsA⟩ := (Inc.start Tryz.prog W W.heap.size).bytes und25 und5 c5 (fun _ => rfl) hd na so7
 obtain ⟨hB, μB, cv, xs, iB, leB, exB, relB, rwB, lnB⟩ := iA.rows (α := { x : CO // x.Ok }) (fun a => a.1.cells) und28 c67 (by decide) (fun _ => rfl) h3 (fun _ => rfl) na so3 (fun cs fu y hy hl => by
  obtain ⟨s0, s1, s2, s3, s4, c, l, t, f, d, rfl, ht⟩ := co_cells hy
  refine ⟨fun m q => (by cases q), ⟨⟨toNats s0, toNats s1, toNats s2, toNats s3, toNats s4, c, l, t, f, d⟩, ht⟩, fun j u hu => ?_⟩
  match j, hu with
  | 0, hu => cases hu; exact ⟨_, rfl, .str _⟩
  | 1, hu => cases hu; exact ⟨_, rfl, .str _⟩
  | 2, hu => cases hu; exact ⟨_, rfl, .str _⟩
  | 3, hu => cases hu; exact ⟨_, rfl, .str _⟩
  | 4, hu => cases hu; exact ⟨_, rfl, .str _⟩
  | 5, hu => cases hu; exact ⟨_, rfl, .int _ _⟩
  | 6, hu => cases hu; exact ⟨_, rfl, .int _ _⟩
  | 7, hu => cases hu; exact ⟨_, rfl, .int _ _⟩
  | 8, hu => cases hu; exact ⟨_, rfl, .int _ _⟩
  | 9, hu => cases hu; exact ⟨_, rfl, .int _ _⟩
  | n + 10, hu => cases hu)
 obtain ⟨hC, μC, lv, ls, lcs, iC, leC, exC, relC, rwC, bsC, lnC⟩ := iB.packs und29 und25 und5 c25 c5 (fun _ => rfl) h4 na so4
 obtain ⟨hD, μD, fv, bs, iD, leD, exD, relD, rwD, lnD⟩ := iC.rows (α := Bool) (fun b => [.bool b]) und30 c4 (by decide) (fun _ => rfl) h5 (fun _ => rfl) na so5 (fun cs fu y hy hl => by
  obtain ⟨b, rfl⟩ := trod_bool und4 hy
  refine ⟨fun m q => (by cases q), b, fun j u hu => ?_⟩
  match j, hu with
  | 0, hu => cases hu; exact ⟨_, rfl, .bool _⟩
  | n + 1, hu => cases hu)
 have hml : maxLen = 2 ^ 63 - 1 := rfl
 have exCD := exC.trans exD
 have rwB' : RW 67 10 (xs.map (·.1)).length hD cv (colV (xs.map (·.1))) := by
  have e : colV (xs.map (·.1)) = xs.flatMap fun a => a.1.cells := by unfold colV; rw [List.flatMap_map]
  rw [e, List.length_map]
  exact rwB.ext exCD
 have flD : FL hD fv bs.length (bs.flatMap fun b => [.bool b]) := ⟨rwD, fun i hi => by
  have e : (bs.flatMap fun b => [V.bool b]) = bs.map V.bool := flat_bool bs
  refine ⟨bs[i]'(by rw [e, List.length_map] at hi; exact hi) = true, ?_⟩
  have e2 : (bs.flatMap fun b => [V.bool b])[i] = (bs.map V.bool)[i]'(by rw [← e]; exact hi) := by congr 1
  rw [e2, List.getElem_map]
  simp [bo]⟩
 obtain ⟨v, h', lf, n, l, hrun, _, rfl⟩ := callW_runH iD.wf (law_spec std (X := ⟨toNats s, x2, x3, x5, x6, dv⟩) (bsA.ext (exB.trans exCD)) rwB' (fun x hx => by obtain ⟨a, _, rfl⟩ := List.mem_map.1 hx; exact a.2) (ls := ls) (pc := lcs) ⟨rwC.ext exD, fun i hi hc => (bsC i hi hc).ext exD⟩ (by omega) flD c k fl)
 have hg' : Globs (st.cfg.at lf).gl μD W := ⟨fun g c hq => (by cases hq), fun g c k p q1 q2 => (by cases q1), fun g hq => (by cases hq), fun g c rc e frz hq _ _ => (by cases hq)⟩
 rw [← btT] at hrun
 refine law_calls_r (st.cfg.at lf) mixed (st_ok lf) (n := n) (ν := ν0) (μ := μD) hrun rfl W ⟨fun j ob hk => (iD.ob j ob hk).2, fun j j' ob ob' q q' hk hk' hne hro => ?_⟩ (fun j hj => iD.none j hj) iD.ro ?_ hg'
 ·rw [(iD.ob j ob hk).1, (iD.ob j' ob' hk').1] at hro
  cases hro
 ·unfold cmdC
  exact .cons (.int _ _) (.cons (.agg (.cons (.int _ _) (.cons (.str s) (.cons (.int _ _) (.cons (.int _ _) (.cons (.int _ _) (.cons (.int _ _) (.cons (.int _ _) (.cons (relA.mono (Mu.le_trans leB (Mu.le_trans leC leD))) .nil))))))))) (.cons (relB.mono (Mu.le_trans leC leD)) (.cons (relC.mono leD) (.cons relD .nil))))
set_option maxRecDepth 100000 in
theorem lifted (os : Os) (started : os.Started) (H : Type) (enc : TypeId × Value → H) :
  ReturnsInHanded {} Tryz.checked os 3 .any (Rows.respondScriptSpec.pre6 enc Tryz.prog Tryz.f3 Rows.respondScriptRow.domain false) (Rows.respondScriptSpec.post enc Tryz.prog Tryz.f3 false true false false) := by
 refine returnsInHanded_of_change (C := Tryz.checked) own started (by kernel_rfl) Tryz.func3
  (ChangeSpec.witness6 (enc := enc) (C := Tryz.checked) false ⟨#[], #[.int .u32 0, .agg #[.int .u8 0, .string ⟨#[]⟩, .int .u32 0, .int .u16 0, .int .u8 0, .int .u32 0, .int .u16 0, .slice none 0 0], .slice none 0 0, .slice none 0 0, .slice none 0 0], []⟩ 8 (by kernel_rfl) (by kernel_rfl) (by kernel_rfl) (by kernel_rfl)) ?_
 intro W base args ds gs before hval0 hW hcnd _
 have hval : ∀ (j : Nat) t v, Tryz.f3.params[j]? = some t → args[j]? = some v → Value.okWide Tryz.prog W .any base t v := hval0
 have hW' := hW
 obtain ⟨p, q, hA0, hV, rfl, hfz, hnd⟩ := hW
 have hA : DataW.TrodAll enc Tryz.prog W 0 (fun _ => true) true Tryz.f3.params.toList args.toList ds p := hA0
 rw [Tryz.params3] at hA hval
 obtain ⟨v1, v2, v3, v4, v5, d1, d2, d3, d4, d5, p2, p3, p4, p5, rfl, rfl, h2, h3, h4, h5⟩ := trodAll_five' hA
 refine (walk (hval 0 23 v1 rfl rfl) (hval 1 27 v2 rfl rfl) (hval 2 28 v3 rfl rfl) (hval 3 29 v4 rfl rfl) (hval 4 30 v5 rfl rfl) h2 h3 h4 h5).mono fun e W' ⟨he, hb⟩ => ?_
 subst he
 refine ⟨_, rfl, post_true laidOut hW' hb rfl ?_ rfl Tryz.underlying4 rfl rfl rfl⟩
 rw [Tryz.params3]
 intro t ht
 simp at ht
 rcases ht with rfl | rfl | rfl | rfl | rfl <;> exact ⟨by kernel_rfl, of_decide_eq_true (by kernel_rfl)⟩
theorem over : Rows.RespondScriptSaid :=
 OpenClaim.holds_of_wide 3 Tryz.f3 rfl rfl rfl rfl rfl rfl rfl ⟨rfl, rfl, rfl, rfl, rfl⟩ rfl rfl rfl rfl rfl (by kernel_rfl) Tryz.func3 (by kernel_rfl)
  (of_decide_eq_true (by kernel_rfl)) (by unfold Func.isWrapper; first | (rw [if_pos (by decide +kernel)]; kernel_rfl) | (rw [if_neg (by decide +kernel)]; exact ⟨rfl, rfl⟩))
  (fun os started H enc _ => lifted os started H enc)
/-- THE STATEMENT -/
theorem proved : Rows.RespondScriptSaid :=
 over
end Go.Proofs.YtinbhlejofgomaaGreat.respondScript
