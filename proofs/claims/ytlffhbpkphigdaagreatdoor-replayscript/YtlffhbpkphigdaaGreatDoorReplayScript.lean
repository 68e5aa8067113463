/-
  ReplayScript: whatever is asked of a replayer, packet by packet, it says and tells what the document says; its condition is what the row lists, which the card ties. The walk goes by the machine of LxA to LxC; LxX shows that the model does what that machine does.
-/
import Derived.Test.YtlffhbpkphigdaaGreatDoorRows
import Derived.Test.YtlffhbpkphigdaaGreatDoorTie
import Derived.Test.YtlffhbpkphigdaaGreatDoorCards
import Derived.Test.YtlffhbpkphigdaaGreatDoorLyH
import Derived.Test.YtlffhbpkphigdaaGreatDoorLyI
import Derived.Test.YtlffhbpkphigdaaGreatDoorLyK
import Derived.Test.YtlffhbpkphigdaaGreatDoorLyP
import Derived.Test.YtlffhbpkphigdaaGreatDoorVsA
import Derived.Test.YtlffhbpkphigdaaGreatDoorWxZ
import Derived.SevenTiedAt
import Derived.Stop.Joined
namespace Go.Proofs.YtlffhbpkphigdaaGreatDoor.replayScript
open Go.Proofs Go.Shelf Go.ChangeShapes Go.WideShapes Go.ChangeAt Go.RowKit Go.Lx
set_option linter.unusedVariables false
set_option linter.unusedSimpArgs false
set_option linter.constructorNameAsVariable false
set_option maxRecDepth 100000
theorem own : ownKnob Tryz.prog.godebug = none := by kernel_rfl
theorem laidOut : laidOutB Tryz.prog = true := by kernel_rfl
theorem mixed : Tryz.prog.follows .mixedOrders = true := Checked.mixed Tryz.checked
def ρR : Go.Shelf.Ren := ⟨fun n => match n with | 138 => 84 | 143 => 86 | 154 => 82 | 155 => 68 | 165 => 85 | 166 => 87 | 169 => 89 | 195 => 90 | 197 => 88 | 217 => 98 | 218 => 91 | 219 => 94 | 224 => 100 | 225 => 99 | 240 => 92 | 241 => 93 | 260 => 95 | 266 => 102 | 267 => 101 | 276 => 96 | 277 => 97 | 314 => 103 | _ => 0, fun n => match n with | 0 => 0 | 3 => 3 | 4 => 4 | 5 => 5 | 9 => 9 | 20 => 20 | 21 => 21 | 37 => 43 | 46 => 113 | 51 => 26 | 70 => 115 | 72 => 117 | 75 => 120 | 76 => 121 | 80 => 92 | 105 => 123 | 119 => 131 | 127 => 127 | 138 => 133 | 139 => 134 | 146 => 135 | 164 => 128 | _ => 0, fun n => match n with | 1 => 0 | 3 => 1 | 4 => 2 | _ => 0⟩
theorem layρR : Lays.n155 Tryz.prog ρR where
  mixed := mixed
  f138 := by kernel_rfl
  f143 := by kernel_rfl
  f154 := by kernel_rfl
  f155 := by kernel_rfl
  f165 := by kernel_rfl
  f166 := by kernel_rfl
  f169 := by kernel_rfl
  f195 := by kernel_rfl
  f197 := by kernel_rfl
  f217 := by kernel_rfl
  f218 := by kernel_rfl
  f219 := by kernel_rfl
  f224 := by kernel_rfl
  f225 := by kernel_rfl
  f240 := by kernel_rfl
  f241 := by kernel_rfl
  f260 := by kernel_rfl
  f266 := by kernel_rfl
  f267 := by kernel_rfl
  f276 := by kernel_rfl
  f277 := by kernel_rfl
  f314 := by kernel_rfl
  t0 := by kernel_rfl
  a0 := fun w => by kernel_rfl
  z0 := fun w => by kernel_rfl
  v0 := fun w => by kernel_rfl
  t3 := by kernel_rfl
  a3 := fun w => by kernel_rfl
  z3 := fun w => by kernel_rfl
  v3 := fun w => by kernel_rfl
  t4 := by kernel_rfl
  a4 := fun w => by kernel_rfl
  z4 := fun w => by kernel_rfl
  v4 := fun w => by kernel_rfl
  t5 := by kernel_rfl
  a5 := fun w => by kernel_rfl
  z5 := fun w => by kernel_rfl
  v5 := fun w => by kernel_rfl
  t9 := by kernel_rfl
  a9 := fun w => by kernel_rfl
  z9 := fun w => by kernel_rfl
  v9 := fun w => by kernel_rfl
  t20 := by kernel_rfl
  a20 := fun w => by kernel_rfl
  z20 := fun w => by kernel_rfl
  v20 := fun w => by kernel_rfl
  t21 := by kernel_rfl
  a21 := fun w => by kernel_rfl
  z21 := fun w => by kernel_rfl
  v21 := fun w => by kernel_rfl
  t37 := by kernel_rfl
  a37 := fun w => by kernel_rfl
  z37 := fun w => by kernel_rfl
  v37 := fun w => by kernel_rfl
  t46 := by kernel_rfl
  a46 := fun w => by kernel_rfl
  z46 := fun w => by kernel_rfl
  v46 := fun w => by kernel_rfl
  t51 := by kernel_rfl
  a51 := fun w => by kernel_rfl
  z51 := fun w => by kernel_rfl
  v51 := fun w => by kernel_rfl
  t70 := by kernel_rfl
  a70 := fun w => by kernel_rfl
  z70 := fun w => by kernel_rfl
  v70 := fun w => by kernel_rfl
  t72 := by kernel_rfl
  a72 := fun w => by kernel_rfl
  z72 := fun w => by kernel_rfl
  v72 := fun w => by kernel_rfl
  t75 := by kernel_rfl
  a75 := fun w => by kernel_rfl
  z75 := fun w => by kernel_rfl
  v75 := fun w => by kernel_rfl
  t76 := by kernel_rfl
  a76 := fun w => by kernel_rfl
  z76 := fun w => by kernel_rfl
  v76 := fun w => by kernel_rfl
  t105 := by kernel_rfl
  a105 := fun w => by kernel_rfl
  z105 := fun w => by kernel_rfl
  v105 := fun w => by kernel_rfl
  t119 := by kernel_rfl
  a119 := fun w => by kernel_rfl
  z119 := fun w => by kernel_rfl
  t127 := by kernel_rfl
  a127 := fun w => by kernel_rfl
  z127 := fun w => by kernel_rfl
  v127 := fun w => by kernel_rfl
  t138 := by kernel_rfl
  a138 := fun w => by kernel_rfl
  z138 := fun w => by kernel_rfl
  v138 := fun w => by kernel_rfl
  t139 := by kernel_rfl
  a139 := fun w => by kernel_rfl
  z139 := fun w => by kernel_rfl
  v139 := fun w => by kernel_rfl
  t146 := by kernel_rfl
  a146 := fun w => by kernel_rfl
  z146 := fun w => by kernel_rfl
  v146 := fun w => by kernel_rfl
  t164 := by kernel_rfl
  a164 := fun w => by kernel_rfl
  z164 := fun w => by kernel_rfl
  v164 := fun w => by kernel_rfl
  g1 := by kernel_rfl
  g3 := by kernel_rfl
  g4 := by kernel_rfl
theorem enρR : ρR.f 155 = 68 := by kernel_rfl
theorem eρR : Go.Proofs.Enters Tryz.prog (ρR.f 155) := Go.Proofs.enters_of Tryz.func68 (by kernel_rfl) (by first | rfl | kernel_rfl)
theorem xρR : Builder.Extra Tryz.prog ρR where
  sizeBuilder := by kernel_rfl
  liesBuilder := by kernel_rfl
  t5 := by kernel_rfl
  a5 := fun w => by kernel_rfl
  z5 := fun w => by kernel_rfl
  v5 := fun w => by kernel_rfl
  infoByte := by kernel_rfl
  cellsByte := by kernel_rfl
  sizeByte := by kernel_rfl
  neB5 := by decide
noncomputable def gl (mx : Int) : T (List V) := (T.leaf).set 0 (some [.int .i64 mx])
noncomputable def exts0 : List (FuncId × (List V → M V)) := [(68, pureM replV), (83, idxM)]
theorem exts_all (mx : Int) : ∀ p ∈ exts0, ExtSum Tryz.prog (gl mx) p.1 p.2 := by
  intro p hp
  simp only [exts0, List.mem_cons, List.mem_nil_iff, or_false] at hp
  rcases hp with rfl | rfl
  · have h := extSum_repl (P := Tryz.prog) (ρ := ρR) (gl := gl mx) (m := mx) layρR xρR (by kernel_rfl) eρR
    rw [enρR] at h
    exact h
  · exact extSum_idx Tryz.func83 (by kernel_rfl) (by kernel_rfl) (by kernel_rfl) (by kernel_rfl)
noncomputable def cfg (mx : Int) : Cfg := { P := Tryz.prog, lf := 100000, gl := gl mx, sum := sums exts0 }
theorem exts_ok (mx : Int) : SumOk (cfg mx) := sumOk_list _ exts0 rfl (exts_all mx)
theorem livesRun (mx : Int) : yes (callM (cfg mx) 100 4 [] st0) = true := by kernel_rfl
theorem eL : Go.Proofs.Enters Tryz.prog 4 := Go.Proofs.enters_of Tryz.func4 (by kernel_rfl) (by first | rfl | kernel_rfl)
noncomputable def st (mx : Int) : Set0 := { exts := (4, constTrue) :: exts0, gl := gl mx }
theorem st_ok (mx : Int) (lf : Nat) : SumOk ((st mx).cfg.at lf) := by
  refine sumOk_list _ ((4, constTrue) :: exts0) rfl ?_
  intro p hp
  rcases List.mem_cons.1 hp with rfl | hp
  · exact extSum_true (cfg mx) mixed (exts_ok mx) (livesRun mx) rfl eL rfl
  exact exts_all mx p hp
open Go.Wx in
theorem std (mx : Int) : StdZ (st mx) where
  ownB := by
    repeat (refine List.forall_mem_cons.2 ⟨rfl, ?_⟩)
    intro f hf
    cases hf
  bidx := rfl
  ownF := by
    repeat (refine List.forall_mem_cons.2 ⟨rfl, ?_⟩)
    intro f hf
    cases hf
  ownT := by
    repeat (refine List.forall_mem_cons.2 ⟨rfl, ?_⟩)
    intro f hf
    cases hf
  repl := rfl
  ownV := by
    repeat (refine List.forall_mem_cons.2 ⟨rfl, ?_⟩)
    intro f hf
    cases hf
  ownW := by
    repeat (refine List.forall_mem_cons.2 ⟨rfl, ?_⟩)
    intro f hf
    cases hf
  ownX := by
    repeat (refine List.forall_mem_cons.2 ⟨rfl, ?_⟩)
    intro f hf
    cases hf
  ownY := by
    repeat (refine List.forall_mem_cons.2 ⟨rfl, ?_⟩)
    intro f hf
    cases hf
  ownZ := by
    repeat (refine List.forall_mem_cons.2 ⟨rfl, ?_⟩)
    intro f hf
    cases hf
  lives := fun h => callW_sum (s := h.st) (g := constTrue) rfl (Nice.ret _) rfl LogOk_nil ⟨rfl, rfl⟩
/-! ### the arguments -/
theorem bytes_toNats (b : ByteArray) : Bytes (toNats b) := by
  intro x hx
  simp only [toNats, List.mem_map] at hx
  obtain ⟨y, _, rfl⟩ := hx
  exact y.toNat_lt
noncomputable def fieldsAre (d : Option TypeDesc) (ts : List (TypeId × Nat)) : Bool := match d with
  | some (.struct fs) => fs.toList.map (fun f => (f.type, f.offset)) == ts
  | _ => false
theorem fieldsAre_ok {d : Option TypeDesc} {ts : List (TypeId × Nat)} (h : fieldsAre d ts = true) : ∃ fs, d = some (.struct fs) ∧ ∀ p ∈ ts, ∃ f ∈ fs.toList, f.type = p.1 ∧ f.offset = p.2 := by
  unfold fieldsAre at h
  cases d with
  | none => cases h
  | some d =>
    cases d <;> try (cases h; done)
    rename_i fs
    refine ⟨fs, rfl, fun p hp => ?_⟩
    have := eq_of_beq h
    rw [← this] at hp
    obtain ⟨f, hf, e⟩ := List.mem_map.1 hp
    exact ⟨f, hf, by rw [← e], by rw [← e]⟩
theorem u25 : fieldsAre (Tryz.prog.underlying 25) [(9, 0), (22, 1), (23, 2), (4, 3), (4, 4), (4, 5), (4, 6)] = true := by kernel_rfl
theorem u57 : fieldsAre (Tryz.prog.underlying 57) [(9, 0), (9, 1)] = true := by kernel_rfl
theorem c25 : Tryz.prog.cellsOf 25 = 7 := by kernel_rfl
theorem c57 : Tryz.prog.cellsOf 57 = 2 := by kernel_rfl
theorem c9 : Tryz.prog.cellsOf 9 = 1 := by kernel_rfl
theorem c22 : Tryz.prog.cellsOf 22 = 1 := by kernel_rfl
theorem c23 : Tryz.prog.cellsOf 23 = 1 := by kernel_rfl
theorem c4 : Tryz.prog.cellsOf 4 = 1 := by kernel_rfl
theorem c43 : Tryz.prog.cellsOf 43 = 1 := by kernel_rfl
theorem c5 : Tryz.prog.cellsOf 5 = 1 := by kernel_rfl
theorem und9 : Tryz.prog.underlying 9 = some .string := by kernel_rfl
theorem und4 : Tryz.prog.underlying 4 = some .bool := by kernel_rfl
theorem und5 : Tryz.prog.underlying 5 = some (.int .u8) := by kernel_rfl
theorem und27 : Tryz.prog.underlying 27 = some (.int .u32) := by kernel_rfl
theorem und22 : Tryz.prog.underlying 22 = some (.slice 57) := by kernel_rfl
theorem und23 : Tryz.prog.underlying 23 = some (.slice 9) := by kernel_rfl
theorem und28 : Tryz.prog.underlying 28 = some (.slice 43) := by kernel_rfl
theorem und29 : Tryz.prog.underlying 29 = some (.slice 4) := by kernel_rfl
theorem und43 : Tryz.prog.underlying 43 = some (.slice 5) := by kernel_rfl
section
variable {H : Type} {enc : TypeId × Value → H} {W : World} {spare : Nat → Bool} {held : Bool}
theorem tk_cells {fuel : Nat} {cs : List Value} {x : DataW H × List MemPlace} (h : DataW.trod enc Tryz.prog W 0 spare held fuel 25 cs = some x) : ∃ (s : ByteArray) (vv tv : Value) (b3 b4 b5 b6 : Bool) (f1 f2 : Nat) (y1 y2 : DataW H × List MemPlace), cs = [.string s, vv, tv, .bool b3, .bool b4, .bool b5, .bool b6] ∧ DataW.trod enc Tryz.prog W 0 spare held f1 22 [vv] = some y1 ∧ DataW.trod enc Tryz.prog W 0 spare held f2 23 [tv] = some y2 := by
  obtain ⟨fs, hu, hf⟩ := fieldsAre_ok u25
  have hl := trod_struct_len hu h
  rw [c25] at hl
  have sub : ∀ t o, Tryz.prog.cellsOf t = 1 → ((t, o) : TypeId × Nat) ∈ [((9, 0) : TypeId × Nat), (22, 1), (23, 2), (4, 3), (4, 4), (4, 5), (4, 6)] → ∃ fu y, DataW.trod enc Tryz.prog W 0 spare held fu t ((cs.drop o).take 1) = some y := fun t o hn ho => by
    obtain ⟨f, hm, e1, e2⟩ := hf _ ho
    obtain ⟨y, hy⟩ := trod_field' hu hm h
    rw [e1, e2] at hy
    simp only [hn] at hy
    exact ⟨_, y, hy⟩
  match cs, hl with
  | [k0, k1, k2, k3, k4, k5, k6], _ =>
    obtain ⟨_, _, h0⟩ := sub 9 0 c9 (by simp)
    obtain ⟨s, e0⟩ := trod_str und9 h0
    obtain ⟨f1, y1, h1⟩ := sub 22 1 c22 (by simp)
    obtain ⟨f2, y2, h2⟩ := sub 23 2 c23 (by simp)
    obtain ⟨_, _, h3⟩ := sub 4 3 c4 (by simp)
    obtain ⟨b3, e3⟩ := trod_bool und4 h3
    obtain ⟨_, _, h4⟩ := sub 4 4 c4 (by simp)
    obtain ⟨b4, e4⟩ := trod_bool und4 h4
    obtain ⟨_, _, h5⟩ := sub 4 5 c4 (by simp)
    obtain ⟨b5, e5⟩ := trod_bool und4 h5
    obtain ⟨_, _, h6⟩ := sub 4 6 c4 (by simp)
    obtain ⟨b6, e6⟩ := trod_bool und4 h6
    simp only [List.drop_succ_cons, List.drop_zero, List.take_succ_cons, List.take_zero, List.cons.injEq, and_true] at e0 e3 e4 e5 e6 h1 h2
    exact ⟨s, k1, k2, b3, b4, b5, b6, f1, f2, y1, y2, by rw [e0, e3, e4, e5, e6], h1, h2⟩
theorem var_cells {fuel : Nat} {cs : List Value} {x : DataW H × List MemPlace} (h : DataW.trod enc Tryz.prog W 0 spare held fuel 57 cs = some x) : ∃ a b : ByteArray, cs = [.string a, .string b] := by
  obtain ⟨fs, hu, hf⟩ := fieldsAre_ok u57
  have hl := trod_struct_len hu h
  rw [c57] at hl
  have sub : ∀ t o, Tryz.prog.cellsOf t = 1 → ((t, o) : TypeId × Nat) ∈ [((9, 0) : TypeId × Nat), (9, 1)] → ∃ fu y, DataW.trod enc Tryz.prog W 0 spare held fu t ((cs.drop o).take 1) = some y := fun t o hn ho => by
    obtain ⟨f, hm, e1, e2⟩ := hf _ ho
    obtain ⟨y, hy⟩ := trod_field' hu hm h
    rw [e1, e2] at hy
    simp only [hn] at hy
    exact ⟨_, y, hy⟩
  match cs, hl with
  | [k0, k1], _ =>
    obtain ⟨_, _, h0⟩ := sub 9 0 c9 (by simp)
    obtain ⟨a, e0⟩ := trod_str und9 h0
    obtain ⟨_, _, h1⟩ := sub 9 1 c9 (by simp)
    obtain ⟨b, e1⟩ := trod_str und9 h1
    simp only [List.drop_succ_cons, List.drop_zero, List.take_succ_cons, List.take_zero, List.cons.injEq, and_true] at e0 e1
    exact ⟨a, b, by rw [e0, e1]⟩
theorem trodAll_five {t1 t2 t3 t4 t5 : TypeId} {args : Array Value} {ds : List (DataW H)} {ps : List MemPlace} (h : DataW.TrodAll enc Tryz.prog W 0 spare held [t1, t2, t3, t4, t5] args.toList ds ps) :
    ∃ v1 v2 v3 v4 v5 d1 d2 d3 d4 d5 p1 p4 p5, args = #[v1, v2, v3, v4, v5] ∧ ds = [d1, d2, d3, d4, d5] ∧ DataW.Trod enc Tryz.prog W 0 spare held t1 v1 d1 p1 ∧ DataW.Trod enc Tryz.prog W 0 spare held t4 v4 d4 p4 ∧ DataW.Trod enc Tryz.prog W 0 spare held t5 v5 d5 p5 := by
  obtain ⟨v1, vs, d1, ds', p1, q, e1, rfl, rfl, hd, hrest⟩ := trodAll_cons h
  obtain ⟨v2, vs2, d2, ds2, p2, q2, rfl, rfl, rfl, hd2, hrest2⟩ := trodAll_cons hrest
  obtain ⟨v3, vs3, d3, ds3, p3, q3, rfl, rfl, rfl, hd3, hrest3⟩ := trodAll_cons hrest2
  obtain ⟨v4, vs4, d4, ds4, p4, q4, rfl, rfl, rfl, hd4, hrest4⟩ := trodAll_cons hrest3
  obtain ⟨v5, vs5, d5, ds5, p5, q5, rfl, rfl, rfl, hd5, hrest5⟩ := trodAll_cons hrest4
  obtain ⟨rfl, rfl, rfl⟩ := trodAll_nil hrest5
  exact ⟨v1, v2, v3, v4, v5, d1, d2, d3, d4, d5, p1, p4, p5, by cases args; simp_all, rfl, hd, hd4, hd5⟩
end
theorem slice_val {t e : TypeId} {W : World} {base : Nat} {v : Value} (hu : Tryz.prog.underlying t = some (.slice e)) (h : Value.okWide Tryz.prog W .any base t v) : v.cells.toList = [v] := by
  unfold Value.okWide at h
  rw [hu] at h
  unfold Cell.okWide Cell.ok at h
  rw [hu] at h
  cases v <;> simp only [] at h <;> try (exact h.elim)
  rfl
theorem str_val {W : World} {base : Nat} {v : Value} (h : Value.okWide Tryz.prog W .any base 9 v) : ∃ b, v = .string b := by
  unfold Value.okWide at h
  rw [und9] at h
  unfold Cell.okWide at h
  rw [und9] at h
  cases v <;> simp only [Cell.ok, und9] at h
  exact ⟨_, rfl⟩
theorem int_val {W : World} {base : Nat} {v : Value} (h : Value.okWide Tryz.prog W .any base 27 v) : ∃ n, v = .int .u32 n := by
  unfold Value.okWide at h
  rw [und27] at h
  unfold Cell.okWide at h
  rw [und27] at h
  cases v <;> simp only [Cell.ok, und27] at h
  obtain ⟨rfl, _⟩ := h
  exact ⟨_, rfl⟩
theorem agg_val {W : World} {base : Nat} {v : Value} (h : Value.okWide Tryz.prog W .any base 25 v) : ∃ cs, v = .agg ⟨cs⟩ := by
  obtain ⟨fs, hu, _⟩ := fieldsAre_ok u25
  unfold Value.okWide at h
  rw [hu] at h
  obtain ⟨⟨cs⟩, rfl, _⟩ := h
  exact ⟨cs, rfl⟩
open Go.Wx in
theorem walk (mx : Int) {H : Type} {enc : TypeId × Value → H} {held : Bool} {W : World} {base : Nat} {v1 v2 v3 v4 v5 : Value} {d1 d4 d5 : DataW H} {p1 p4 p5 : List MemPlace} (k1 : Value.okWide Tryz.prog W .any base 25 v1) (k2 : Value.okWide Tryz.prog W .any base 9 v2) (k3 : Value.okWide Tryz.prog W .any base 27 v3) (k4 : Value.okWide Tryz.prog W .any base 28 v4) (k5 : Value.okWide Tryz.prog W .any base 29 v5)
    (h1 : DataW.Trod enc Tryz.prog W 0 (fun _ => true) held 25 v1 d1 p1) (h4 : DataW.Trod enc Tryz.prog W 0 (fun _ => true) held 28 v4 d4 p4) (h5 : DataW.Trod enc Tryz.prog W 0 (fun _ => true) held 29 v5 d5 p5) (hg : Globs (gl mx) (fun _ => none) W) (hi : IntAt W 0 .i64) (hF : (1 : Nat) ≠ 0 ∧ ∃ rc e frz, W.heap[1]? = some (.cells rc e frz)) : Calls Tryz.prog 3 #[v1, v2, v3, v4, v5] W fun e W' => e = .returned (.bool true) ∧ Below W.heap.size W W' := by
  obtain ⟨cs, rfl⟩ := agg_val k1
  obtain ⟨sb, rfl⟩ := str_val k2
  obtain ⟨c, rfl⟩ := int_val k3
  obtain ⟨fu1, h1⟩ := h1
  obtain ⟨fu4, h4⟩ := h4
  obtain ⟨fu5, h5⟩ := h5
  rw [slice_val und28 k4] at h4
  rw [slice_val und29 k5] at h5
  obtain ⟨s, vv, tv, b3, b4, b5, b6, f1, f2, y1, y2, ecs, ht1, ht2⟩ := tk_cells h1
  have ecs : cs = [.string s, vv, tv, .bool b3, .bool b4, .bool b5, .bool b6] := ecs
  subst ecs
  obtain ⟨hA, μA, wv, xs, iA, leA, exA, relA, rwA, lnA⟩ := (Inc.start Tryz.prog W 0).rows (α := { x : List Nat × List Nat // Bytes x.1 ∧ Bytes x.2 }) (fun a => [.str a.1.1, .str a.1.2]) und22 c57 (by decide) (fun _ => rfl) ht1 (fun _ => rfl) hi hF (fun cs fu y hy hl => by
    obtain ⟨a, b, rfl⟩ := var_cells hy
    refine ⟨fun m q => by simp at q, ⟨(toNats a, toNats b), bytes_toNats a, bytes_toNats b⟩, fun j u q => ?_⟩
    match j, q with
    | 0, q => simp at q; subst q; exact ⟨_, rfl, .str a⟩
    | 1, q => simp at q; subst q; exact ⟨_, rfl, .str b⟩
    | j + 2, q => simp at q)
  obtain ⟨hB, μB, ww, ts, iB, leB, exB, relB, rwB, lnB⟩ := iA.rows (α := List Nat) (fun a => [.str a]) und23 c9 (by decide) (fun _ => rfl) ht2 (fun _ => rfl) hi hF (fun cs fu y hy hl => by
    obtain ⟨a, rfl⟩ := trod_str und9 hy
    refine ⟨fun m q => by simp at q, toNats a, fun j u q => ?_⟩
    match j, q with
    | 0, q => simp at q; subst q; exact ⟨_, rfl, .str a⟩
    | j + 1, q => simp at q)
  obtain ⟨hC, μC, lv, ls, lcs, iC, leC, exC, relC, rwC, bsC⟩ := iB.packs und28 und43 und5 c43 c5 (fun _ => rfl) h4 hi hF
  obtain ⟨hD, μD, ov, on, iD, leD, exD, relD, rwD, lnD⟩ := iC.rows (α := Prop) (fun a => [bo a]) und29 c4 (by decide) (fun _ => rfl) h5 (fun _ => rfl) hi hF (fun cs fu y hy hl => by
    obtain ⟨b, rfl⟩ := trod_bool und4 hy
    refine ⟨fun m q => by simp at q, b = true, fun j u q => ?_⟩
    match j, q with
    | 0, q => simp at q; subst q; rw [← bo_bool]; exact ⟨_, rfl, .bool b⟩
    | j + 1, q => simp at q)
  have e1 : xs.flatMap (fun a => [V.str a.1.1, V.str a.1.2]) = vcells (xs.map (·.1)) := by
    clear rwA lnA
    induction xs with
    | nil => rfl
    | cons z l ih => rw [List.flatMap_cons, ih]; rfl
  have e2 : ts.flatMap (fun a => [V.str a]) = ts.map V.str := by
    clear rwB lnB
    induction ts with
    | nil => rfl
    | cons z l ih => rw [List.flatMap_cons, ih]; rfl
  have e3 : on.flatMap (fun a => [bo a]) = on.map bo := by
    clear rwD lnD
    induction on with
    | nil => rfl
    | cons z l ih => rw [List.flatMap_cons, ih]; rfl
  rw [e1] at rwA
  rw [e2] at rwB
  rw [e3] at rwD
  have hTR : TR hD ⟨toNats s, xs.map (·.1), ts, b3 = true, b4 = true, b5 = true, b6 = true⟩ wv ww := ⟨by
    show RW 57 2 (xs.map (·.1)).length hD wv _
    rw [List.length_map]
    exact rwA.ext ((exB.trans exC).trans exD), rwB.ext (exC.trans exD)⟩
  obtain ⟨v, h', lf, k, l, hrun, _, rfl⟩ := callW_runH iD.wf (script_law (std mx) ⟨toNats s, xs.map (·.1), ts, b3 = true, b4 = true, b5 = true, b6 = true⟩ wv ww (toNats sb) c lv ov ls lcs on hD hTR (by
    show (xs.map (·.1)).length < 2 ^ 63
    rw [List.length_map]
    have : maxLen = 2 ^ 63 - 1 := rfl
    omega) (bytes_toNats s) (fun x hx => by
      obtain ⟨z, _, rfl⟩ := List.mem_map.1 hx
      exact z.2) ⟨rwC.ext exD, fun i hi hc => (bsC i hi hc).ext exD⟩ rwD)
  have hg' : Globs ((st mx).cfg.at lf).gl μD W := ⟨hg.there, fun g c k p q1 q2 => (by
    have q3 : (T.set (T.leaf) 0 (some [V.int .i64 mx])).get g = some c := q1
    rw [T.get_set] at q3
    split at q3
    · rename_i e
      rw [e]
      exact iD.apart k p q2
    · cases q3), hg.face, hg.tab⟩
  refine law_calls_r ((st mx).cfg.at lf) mixed (st_ok mx lf) (n := k) (ν := ν0) (μ := μD) hrun rfl W ⟨fun j ob hk => (iD.ob j ob hk).2, fun j j' ob ob' q q' hk hk' hne hro => ?_⟩ (fun j hj => iD.none j hj) iD.ro ?_ hg'
  · rw [(iD.ob j ob hk).1, (iD.ob j' ob' hk').1] at hro
    cases hro
  · unfold TK.cells
    rw [← bo_bool, ← bo_bool, ← bo_bool, ← bo_bool]
    exact .cons (.agg (.cons (.str s) (.cons (relA.mono (Mu.le_trans leB (Mu.le_trans leC leD))) (.cons (relB.mono (Mu.le_trans leC leD)) (.cons (.bool b3) (.cons (.bool b4) (.cons (.bool b5) (.cons (.bool b6) .nil)))))))) (.cons (.str sb) (.cons (.int _ _) (.cons (relC.mono leD) (.cons relD .nil))))
theorem int_at {P : Program} {w : World} (h : w.ShapedOpen P) {g : Nat} {zero : Array Value} {t : TypeId} {k : IntKind} (hg : g < P.globals.size) (h0 : ((begin P (fun _ _ => 0) default).world.heap[g]?).bind Obj.row? = some (zero, t)) (hz : zero.size = 1)
    (hb : P.buildable t = true) (hu : P.underlying t = some (.int k)) (hct : P.cellTypes P.depth t = some [t]) : Go.Wx.IntAt w g k := by
  obtain ⟨cs, h1, h2, h3⟩ := h.1 g zero t hg h0
  obtain ⟨ts, h4, _, h5⟩ := h3 hb
  rw [hct] at h4
  injection h4 with h4; subst h4
  have hlt : 0 < cs.size := by omega
  obtain ⟨u, h6, h7⟩ := h5 0 cs[0] (by simp [hlt])
  simp at h6
  subst h6
  unfold Cell.ok at h7
  rw [hu] at h7
  cases hv : cs[0] with
  | int k' m =>
    rw [hv] at h7
    obtain ⟨rfl, _⟩ := h7
    exact ⟨cs, _, _, m, h1, by omega, by rw [Array.getElem?_eq_getElem hlt, hv]⟩
  | _ => rw [hv] at h7; simp at h7
def laidL : List (String × DataW Unit) := [("unicode/utf8.acceptRanges", Rows.laid_unicode_utf8_acceptRanges), ("unicode/utf8.first", Rows.laid_unicode_utf8_first)]
set_option maxRecDepth 100000 in
theorem lifted (os : Os) (started : os.Started) (H : Type) (enc : TypeId × Value → H) :
    ReturnsInHanded {} Tryz.checked os 3 .any (fun w args => (Rows.replayScriptSpec.pre enc Tryz.prog Tryz.f3 Rows.replayScriptRow.domain false w args ∧ laidMetH Tryz.prog laidL w) ∧ sizedMet enc Tryz.prog Tryz.f3 (OpenSpec.ofChange Rows.replayScriptSpec) false w args)
      (Rows.replayScriptSpec.post enc Tryz.prog Tryz.f3 false true false false) := by
  refine returns_shaped (C := Tryz.checked) (X := fun w _ => laidMetH Tryz.prog laidL w) (fun _ _ _ hh h => h.of_heap hh) own started (by kernel_rfl) Tryz.func3
    (ChangeSpec.witness_shaped (enc := enc) (C := Tryz.checked) (os := os) (X := fun w _ => laidMetH Tryz.prog laidL w) false (World.laidAll Tryz.prog os laidL) #[.agg #[.string ⟨#[]⟩, .slice none 0 0, .slice none 0 0, .bool false, .bool false, .bool false, .bool false], .string ⟨#[]⟩, .int .u32 0, .slice none 0 0, .slice none 0 0] 8 (World.laidAll_os _ _ _)
      (World.shaped_of_ZipB (by kernel_rfl) (by kernel_rfl)) (by kernel_rfl) (by kernel_rfl) (by kernel_rfl)
      (by rw [MakeChecks.laidMetH_plain _ _ _ (by kernel_rfl)]; exact laidMet_laidAll _ (by kernel_rfl) (by kernel_rfl))) ?_
  intro W base args ds gs before hsh hval0 hW hL
  have hL' := hL
  rw [MakeChecks.laidMetH_plain _ _ _ (by kernel_rfl)] at hL'
  obtain ⟨mx, hmx⟩ := shaped_int hsh (g := 0) (zero := #[.int .i64 0]) (t := 3) (k := .i64) (of_decide_eq_true (by kernel_rfl)) (by kernel_rfl) rfl (by kernel_rfl) (by kernel_rfl) (by kernel_rfl)
  have hiA : Go.Wx.IntAt W 0 .i64 := int_at hsh (g := 0) (zero := #[.int .i64 0]) (t := 3) (k := .i64) (of_decide_eq_true (by kernel_rfl)) (by kernel_rfl) rfl (by kernel_rfl) (by kernel_rfl) (by kernel_rfl)
  have hg : Globs (gl mx) (fun _ => none) W := Globs.add Globs.none hmx
  have hF : Holds W 1 ((listedInts (Rows.laid_unicode_utf8_first : DataW Unit)).map (V.int .u8)) := laid_ints hL' (List.mem_of_getElem? (i := 1) rfl) (d := (Rows.laid_unicode_utf8_first : DataW Unit)) (k := .u8) (n := 256) (g := 1) (t := 131) (e := 5) (by kernel_rfl) (by kernel_rfl) (by kernel_rfl) (by kernel_rfl) (by kernel_rfl) (by kernel_rfl)
  obtain ⟨rcF, eF, frzF, hbF, _⟩ := hF
  have hval : ∀ (j : Nat) t v, Tryz.f3.params[j]? = some t → args[j]? = some v → Value.okWide Tryz.prog W .any base t v := hval0
  have hW' := hW
  obtain ⟨p, q, hA0, hV, rfl, hfz, hnd⟩ := hW
  have hA : DataW.TrodAll enc Tryz.prog W 0 (fun _ => true) true Tryz.f3.params.toList args.toList ds p := hA0
  rw [Tryz.params3] at hA hval
  obtain ⟨v1, v2, v3, v4, v5, d1, d2, d3, d4, d5, p1, p4, p5, rfl, rfl, h1, h4, h5⟩ := trodAll_five hA
  obtain ⟨rfl, rfl⟩ := trodVars_none hV
  simp only [List.append_nil] at hW'
  refine (walk mx (hval 0 25 v1 rfl rfl) (hval 1 9 v2 rfl rfl) (hval 2 27 v3 rfl rfl) (hval 3 28 v4 rfl rfl) (hval 4 29 v5 rfl rfl) h1 h4 h5 hg hiA ⟨by decide, rcF, eF, frzF, hbF⟩).mono fun e W' ⟨he, hb⟩ => ?_
  subst he
  refine ⟨_, rfl, post_true laidOut hW' hb rfl ?_ rfl Tryz.underlying4 rfl rfl rfl⟩
  rw [Tryz.params3]
  intro t ht
  simp at ht
  rcases ht with rfl | rfl | rfl | rfl | rfl <;> exact ⟨by kernel_rfl, of_decide_eq_true (by kernel_rfl)⟩
theorem k_inPlace : (Rows.replayScriptRow.inPlace == Tryz.prog.inPlace 3) = true := by kernel_rfl
theorem k_unfollowed : (Rows.replayScriptRow.unfollowed == Tryz.prog.unfollowed 3) = true := by kernel_rfl
theorem k_recurses : (Rows.replayScriptRow.recurses == Tryz.prog.recurses 3) = true := by kernel_rfl
theorem k_named : (Rows.replayScriptRow.named == Tryz.prog.varsNamed 3) = true := by kernel_rfl
theorem closed : joinedFacts Tryz.prog 3 Tryz.f3 Rows.replayScriptSpec Rows.replayScriptRow = true := by
  unfold joinedFacts
  rw [k_inPlace, k_unfollowed, k_recurses, k_named]
  kernel_rfl
theorem over : Rows.ReplayScriptSaid :=
  OpenClaim.holds_of_wide 3 Tryz.f3 rfl rfl rfl rfl rfl rfl rfl ⟨rfl, rfl, rfl, rfl, rfl⟩ rfl rfl rfl rfl rfl (by kernel_rfl) Tryz.func3 closed
    (of_decide_eq_true (by kernel_rfl)) (by unfold Func.isWrapper; first | (rw [if_pos (by decide +kernel)]; kernel_rfl) | (rw [if_neg (by decide +kernel)]; exact ⟨rfl, rfl⟩))
    (fun os started H enc _ => lifted os started H enc)
/-- THE STATEMENT -/
theorem proved : Rows.ReplayScriptCardSaid :=
  Claim7.holds_tied_plain_at .later [] [.data, .pinned] true (true, "a782642c4173437bb8a5736890601bc2879039d8cce65b2a2d75344782d34cb6") false over (fun _ h => by cases h) (by as_aux_lemma => kernel_rfl) (fun _ h => by cases h) replayScript_row_tie rfl ⟨rfl, rfl⟩ (by as_aux_lemma => kernel_rfl) rfl
    (fun f fn hf hfn => by
      obtain rfl : f = 3 := Option.some.inj ((show Tryz.prog.funcNamed "sluicegate/sluicegatelaw26.ReplayScript" = some 3 by kernel_rfl).symm.trans hf) |>.symm
      obtain rfl : fn = Tryz.f3 := (Option.some.inj (Tryz.func3.symm.trans hfn)).symm
      exact ⟨by kernel_rfl, fun j t ht => by
        rw [Tryz.params3] at ht
        have hm : t ∈ [25, 9, 27, 28, 29] := by simpa using Array.mem_of_getElem? ht
        have hall : ([25, 9, 27, 28, 29].all fun u => !Tryz.prog.wantsStandIn u) = true := by kernel_rfl
        exact (show Tryz.prog.wantsStandIn t = false by simpa using List.all_eq_true.1 hall t hm)⟩)
    (by as_aux_lemma => kernel_rfl)
#print axioms proved
end Go.Proofs.YtlffhbpkphigdaaGreatDoor.replayScript
