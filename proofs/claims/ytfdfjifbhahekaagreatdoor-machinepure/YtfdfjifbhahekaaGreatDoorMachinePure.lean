/-
  MachinePure: Families are checked, and numbers mixed, as the document says. For every family, every two numbers and every text; its conditions are what the row lists, which the card ties. The law is walked by the rules of WxA to WxQ over the machine of LxA to LxC; LxX shows that the model does what that machine does; the row's card is closed by the builder.
-/
import Derived.Test.YtfdfjifbhahekaaGreatDoorRows
import Derived.Test.YtfdfjifbhahekaaGreatDoorTie
import Derived.Test.YtfdfjifbhahekaaGreatDoorCards
import Derived.Test.YtfdfjifbhahekaaGreatDoorYA
import Derived.SevenTiedAt
import Derived.Stop.Joined
namespace Go.Proofs.YtfdfjifbhahekaaGreatDoor.machinePure
open Go.Proofs Go.Shelf Go.ChangeShapes Go.WideShapes Go.ChangeAt Go.RowKit Go.Lx
set_option linter.unusedVariables false
set_option linter.constructorNameAsVariable false
set_option maxRecDepth 100000

theorem own : ownKnob Tryz.prog.godebug = none := by kernel_rfl
theorem laidOut : laidOutB Tryz.prog = true := by kernel_rfl
theorem mixed : Tryz.prog.follows .mixedOrders = true := Checked.mixed Tryz.checked

def cfg0 (P : Program) : Cfg := { P := P, lf := 100000, gl := .leaf, sum := fun _ => none }

def ρ0 : Go.Shelf.Ren := ⟨fun n => match n with | 6 => 31 | 8 => 57 | 9 => 58 | 10 => 59 | 11 => 83 | _ => 0, fun n => match n with | 0 => 0 | 3 => 86 | 4 => 4 | 23 => 66 | 24 => 81 | 26 => 38 | 28 => 84 | 33 => 131 | _ => 0, fun n => n⟩

theorem lay0 : KeyLay Tryz.prog ρ0 .u32 4 where
  mixed := mixed
  f6 := ⟨ "slices.Sorted[uint32]", by kernel_rfl, by kernel_rfl⟩
  f8 := ⟨ "slices.Collect[uint32]", by kernel_rfl, by kernel_rfl⟩
  f10 := ⟨ "maps.Keys[map[uint32]*sluicegate/api.Held,uint32,*sluicegate/api.Held]$1", by kernel_rfl, by kernel_rfl⟩
  f11 := ⟨ "slices.AppendSeq[[]uint32,uint32]", by kernel_rfl, by kernel_rfl⟩
  t0 := by kernel_rfl
  a0 := fun w => by kernel_rfl
  z0 := fun w => by kernel_rfl
  v0 := fun w => by kernel_rfl
  t4 := by kernel_rfl
  a4 := fun w => by kernel_rfl
  z4 := fun w => by kernel_rfl
  v4 := fun w => by kernel_rfl
  t23 := by kernel_rfl
  a23 := fun w => by kernel_rfl
  z23 := fun w => by kernel_rfl
  v23 := fun w => by kernel_rfl
  t24 := by kernel_rfl
  a24 := fun w => by kernel_rfl
  z24 := fun w => by kernel_rfl
  v24 := fun w => by kernel_rfl
  t26 := by kernel_rfl
  a26 := fun w => by kernel_rfl
  z26 := fun w => by kernel_rfl
  v26 := fun w => by kernel_rfl
  t28 := by kernel_rfl
  a28 := fun w => by kernel_rfl
  z28 := fun w => by kernel_rfl
  v28 := fun w => by kernel_rfl
  t33 := by kernel_rfl
  a33 := fun w => by kernel_rfl
  z33 := fun w => by kernel_rfl
  v33 := fun w => by kernel_rfl
  i26 := by kernel_rfl

theorem e9_0 : Go.Proofs.Enters Tryz.prog (ρ0.f 9) := Go.Proofs.enters_of Tryz.func58 (by kernel_rfl) (by first | rfl | kernel_rfl)
theorem e6_0 : Go.Proofs.Enters Tryz.prog (ρ0.f 6) := Go.Proofs.enters_of Tryz.func31 (by kernel_rfl) (by first | rfl | kernel_rfl)

noncomputable def gl : T (List V) := .leaf
noncomputable def exts (P : Program) : List (FuncId × (List V → M V)) := [(31, sortedM (cfg0 P) 41 59 58 .u32 38)]
noncomputable def cfg (P : Program) : Cfg := { P := P, lf := 100000, gl := gl, sum := sums (exts P) }

theorem exts_ok : SumOk (cfg Tryz.prog) := by
  refine sumOk_list _ (exts Tryz.prog) rfl ?_
  intro p hp
  simp only [exts, List.mem_cons, List.mem_nil_iff, or_false] at hp
  subst hp
  · exact extSum_sorted (cfg0 Tryz.prog) mixed (sumOk_none _ rfl) rfl lay0 rfl (by kernel_rfl) e9_0 e6_0 (by decide) (n := 40) (by kernel_rfl) _

theorem livesRun : yes (callM (cfg Tryz.prog) 100 4 [] st0) = true := by kernel_rfl

open Go.Wx in
noncomputable def base : Set0 := { exts := [] }
open Go.Wx in
theorem baseK : StdK base where
  own := fun _ _ => rfl
  ownK := fun _ _ => rfl
theorem base_ok (lf : Nat) : SumOk (base.cfg.at lf) := sumOk_none _ rfl
open Go.Wx in
theorem runs1 {f : FuncId} (hs : ∀ (a r : Int) (lv : V) (ts : List (List Nat)) (h : H), Fam h lv ts → ts.length ≤ 1000 → Pure base.cfg f [.agg [.int .u64 a, lv, .int .i64 r]] h fun v _ => v = .int .i64 (famF ts r)) (a r : Int) : RunsTo Tryz.prog .leaf f [.agg [.int .u64 a, .nilslice, .int .i64 r]] .leaf 0 (.int .i64 (famF [] r)) := by
  obtain ⟨v, h', lf, n, l, hrun, _, rfl⟩ := callW_run (hs a r .nilslice [] ⟨.leaf, 0⟩ (.inl ⟨rfl, rfl⟩) (Nat.zero_le _))
  exact ⟨base.cfg.at lf, rfl, rfl, base_ok lf, rfl, n, _, hrun⟩
open Go.Wx in
theorem wf_row (c : List V) : WF (T.leaf.set 0 (some (Ob.ro c))) 1 := by
  intro k hk
  rw [T.get_set] at hk
  split at hk
  · omega
  · exact absurd rfl hk
open Go.Wx in
theorem runs2 {f : FuncId} (hs : ∀ (a r : Int) (lv : V) (ts : List (List Nat)) (h : H), Fam h lv ts → ts.length ≤ 1000 → Pure base.cfg f [.agg [.int .u64 a, lv, .int .i64 r]] h fun v _ => v = .int .i64 (famF ts r)) (a r : Int) (ts : List (List Nat)) (m : Nat) (hl : ts.length ≤ 1000) (hm : ts.length ≤ m) : RunsTo Tryz.prog .leaf f [.agg [.int .u64 a, .slice 0 0 ts.length m, .int .i64 r]] (T.leaf.set 0 (some (.ro (ts.map V.str)))) 1 (.int .i64 (famF ts r)) := by
  obtain ⟨v, h', lf, n, l, hrun, _, rfl⟩ := callW_runH (h := ⟨T.leaf.set 0 (some (.ro (ts.map V.str))), 1⟩) (wf_row _) (hs a r (.slice 0 0 ts.length m) ts ⟨T.leaf.set 0 (some (.ro (ts.map V.str))), 1⟩ (.inr ⟨0, m, rfl, hm, Nat.one_pos, by show T.get _ 0 = _; rw [T.get_set, if_pos rfl]⟩) hl)
  exact ⟨base.cfg.at lf, rfl, rfl, base_ok lf, rfl, n, _, hrun⟩
theorem eC : Go.Proofs.Enters Tryz.prog 5 := Go.Proofs.enters_of Tryz.func5 (by kernel_rfl) (by first | rfl | kernel_rfl)
theorem eR : Go.Proofs.Enters Tryz.prog 6 := Go.Proofs.enters_of Tryz.func6 (by kernel_rfl) (by first | rfl | kernel_rfl)
theorem eL : Go.Proofs.Enters Tryz.prog 4 := Go.Proofs.enters_of Tryz.func4 (by kernel_rfl) (by first | rfl | kernel_rfl)

/-- the setting of the walk over all inputs -/
noncomputable def st : Set0 := { exts := [(4, constTrue), (5, famM famF), (6, famM famF)] }
theorem st_ok (lf : Nat) : SumOk (st.cfg.at lf) := by
  refine sumOk_list _ [(4, constTrue), (5, famM famF), (6, famM famF)] rfl ?_
  intro p hp
  rcases List.mem_cons.1 hp with rfl | hp
  · exact extSum_true (cfg Tryz.prog) mixed exts_ok livesRun rfl eL rfl
  rcases List.mem_cons.1 hp with rfl | hp
  · exact extSum_fam mixed eC (runs1 (check_spec baseK)) (runs2 (check_spec baseK))
  rcases List.mem_cons.1 hp with rfl | hp
  · exact extSum_fam mixed eR (runs1 (rcheck_spec baseK)) (runs2 (rcheck_spec baseK))
  cases hp
open Go.Wx in
theorem std : StdP st where
  own := by
    repeat (refine List.forall_mem_cons.2 ⟨rfl, ?_⟩)
    intro f hf
    cases hf
  ownP := rfl
  chk := rfl
  rchk := rfl
  lives := fun h => by
    refine callW_sum (s := h.st) (g := constTrue) rfl (Nice.ret _) rfl LogOk_nil ⟨rfl, rfl⟩
theorem toNats_len (b : ByteArray) : (toNats b).length = b.size := by
  unfold toNats
  rw [List.length_map]
  first | rfl | exact Array.length_toList | (rw [Array.length_toList]; rfl)
theorem bytes_toNats (b : ByteArray) : Bytes (toNats b) := by
  intro x hx
  simp only [toNats, List.mem_map] at hx
  obtain ⟨y, _, rfl⟩ := hx
  exact y.toNat_lt
open Go.Wx in
theorem walk0 (n x y r : Int) (b : ByteArray) (hb : (toNats b).length < 2 ^ 63) (W : World) : Calls Tryz.prog 3 #[.agg #[.int .u64 n, .slice none 0 0, .int .i64 r], .int .u64 x, .int .u64 y, .string b] W fun e W' => e = .returned (.bool true) ∧ Below W.heap.size W W' := by
  obtain ⟨v, h', lf, k, l, hrun, _, rfl⟩ := callW_run (law_spec std n x y r (toNats b) .nilslice [] ⟨.leaf, 0⟩ (.inl ⟨rfl, rfl⟩) (bytes_toNats b) hb (by decide))
  exact law_calls_g (st.cfg.at lf) mixed (st_ok lf) (vs := [.agg [.int .u64 n, .nilslice, .int .i64 r], .int .u64 x, .int .u64 y, .str (toNats b)]) (n := k) (by rw [show st0 = (⟨.leaf, 0, []⟩ : St) from rfl, hrun]; rfl) rfl (.cons (.agg (.cons (.int _ _) (.cons .nilslice (.cons (.int _ _) .nil)))) (.cons (.int _ _) (.cons (.int _ _) (.cons (.str b) .nil)))) (ν := fun _ => undef) W Globs.none
open Go.Wx in
theorem walk1 (n x y r : Int) (b : ByteArray) (hb : (toNats b).length < 2 ^ 63) (W : World) (a : Addr) (len cap : Nat) (hlt : len < 2 ^ 63) (hlc : len ≤ cap) (hsp : a.spot = none) (hsh : ∃ q, W.shape? a.block = some q) (hts : ∀ i, i < len → ∃ s, W.cell? ⟨a.block, a.off + i, none⟩ = some (.string s)) : Calls Tryz.prog 3 #[.agg #[.int .u64 n, .slice (some a) len cap, .int .i64 r], .int .u64 x, .int .u64 y, .string b] W fun e W' => e = .returned (.bool true) ∧ Below W.heap.size W W' := by
  obtain ⟨ts, rc, e, frz, hlen, hh, _, hrow⟩ := texts_row hsh hts
  subst hlen
  obtain ⟨v, h', lf, k, l, hrun, _, rfl⟩ := callW_runH (h := ⟨T.leaf.set 0 (some (.ro (ts.map V.str))), 1⟩) (wf_row _) (law_spec std n x y r (toNats b) (.slice 0 0 ts.length cap) ts ⟨T.leaf.set 0 (some (.ro (ts.map V.str))), 1⟩ (.inr ⟨0, cap, rfl, hlc, Nat.one_pos, by show T.get _ 0 = _; rw [T.get_set, if_pos rfl]⟩) (bytes_toNats b) hb hlt)
  refine law_calls_r (st.cfg.at lf) mixed (st_ok lf) (vs := [.agg [.int .u64 n, .slice 0 0 ts.length cap, .int .i64 r], .int .u64 x, .int .u64 y, .str (toNats b)]) (n := k) (ν := fun _ => undef) (μ := upd (fun _ => none) 0 ⟨a.block, a.off, false, 0, 0⟩) hrun rfl W ⟨fun j ob hk => ?_, fun j j' ob ob' q q' hk hk' hne => ?_⟩ (fun j hj => upd_ne _ _ (by have : 1 ≤ j := hj; omega)) (fun j q hk => ?_) (.cons (.agg (.cons (.int _ _) (.cons (.slice (upd_same _ _ _) hlc ?_) (.cons (.int _ _) .nil)))) (.cons (.int _ _) (.cons (.int _ _) (.cons (.str b) .nil)))) Globs.none
  · rw [T.get_set] at hk
    split at hk
    · rename_i e0
      subst e0
      cases hk
      refine ⟨_, upd_same _ _ _, rfl, rc, e, frz, hh, fun i v hi => ?_⟩
      obtain ⟨r', q1, q2⟩ := hrow i v hi
      exact ⟨r', q1, q2 _ _⟩
    · cases hk
  · rw [T.get_set] at hk hk'
    split at hk
    · split at hk'
      · omega
      · cases hk'
    · cases hk
  · by_cases h0 : j = 0
    · subst h0; exact ⟨_, by rw [T.get_set, if_pos rfl]⟩
    · rw [upd_ne _ _ h0] at hk; cases hk
  · refine .inr ⟨?_, .inl rfl⟩
    obtain ⟨ab, ao, asp⟩ := a
    simp only at hsp
    subst hsp
    rfl
theorem und : isStructD (Tryz.prog.underlying 25) = true := by kernel_rfl
theorem cellsOf : Tryz.prog.cellsOf 25 = 3 := by kernel_rfl
theorem cellTys : Tryz.prog.cellTypes Tryz.prog.depth 25 = some [22, 23, 3] := by kernel_rfl
theorem und22 : Tryz.prog.underlying 22 = some (.int .u64) := by kernel_rfl
theorem und23 : Tryz.prog.underlying 23 = some (.slice 9) := by kernel_rfl
theorem und9 : Tryz.prog.underlying 9 = some .string := by kernel_rfl
theorem und3 : Tryz.prog.underlying 3 = some (.int .i64) := by kernel_rfl
theorem u64_arg {W : World} {base : Nat} {v : Value} (h : Value.okWide Tryz.prog W .any base 22 v) : ∃ x, v = .int .u64 x := by
  unfold Value.okWide at h
  rw [und22] at h
  unfold Cell.okWide Cell.ok at h
  rw [und22] at h
  cases v <;> simp only [] at h <;> try (exact h.elim)
  obtain ⟨rfl, _⟩ := h
  exact ⟨_, rfl⟩
theorem str_arg {W : World} {base : Nat} {v : Value} (h : Value.okWide Tryz.prog W .any base 9 v) : ∃ b : ByteArray, v = .string b ∧ (toNats b).length < 2 ^ 63 := by
  unfold Value.okWide at h
  rw [und9] at h
  unfold Cell.okWide Cell.ok at h
  rw [und9] at h
  cases v <;> simp only [] at h <;> try (exact h.elim)
  rename_i b
  refine ⟨b, rfl, ?_⟩
  have : IntKind.i64.max = 9223372036854775807 := rfl
  rw [toNats_len]
  omega
theorem fam_args {W : World} {base : Nat} {v0 : Value} (h : Value.okWide Tryz.prog W .any base 25 v0) : ∃ n r, v0 = .agg #[.int .u64 n, .slice none 0 0, .int .i64 r] ∨ ∃ a len cap, v0 = .agg #[.int .u64 n, .slice (some a) len cap, .int .i64 r] ∧ len ≤ cap ∧ cap < 2 ^ 63 ∧ a.spot = none ∧ ∃ q, W.shape? a.block = some q := by
  obtain ⟨fs, hfs⟩ := isStructD_ok und
  unfold Value.okWide at h
  rw [hfs] at h
  obtain ⟨cs, rfl, h1, ts, h2, h3, h4⟩ := h
  rw [cellTys] at h2
  injection h2 with h2
  subst h2
  rw [cellsOf] at h1
  have c0 := h4 0 cs[0] (by rw [Array.getElem?_eq_getElem])
  have c1 := h4 1 cs[1] (by rw [Array.getElem?_eq_getElem])
  have c2 := h4 2 cs[2] (by rw [Array.getElem?_eq_getElem])
  obtain ⟨u0, e0, c0⟩ := c0
  obtain ⟨u1, e1, c1⟩ := c1
  obtain ⟨u2, e2, c2⟩ := c2
  injection e0 with e0
  injection e1 with e1
  injection e2 with e2
  subst e0 e1 e2
  have ecs : cs = #[cs[0], cs[1], cs[2]] := by
    apply Array.ext
    · simpa using h1
    · intro i hi hi'
      have : i = 0 ∨ i = 1 ∨ i = 2 := by omega
      rcases this with rfl | rfl | rfl <;> rfl
  generalize cs[0] = a0 at c0 ecs
  generalize cs[1] = a1 at c1 ecs
  generalize cs[2] = a2 at c2 ecs
  subst ecs
  unfold Cell.okWide Cell.ok at c0 c1 c2
  rw [und22] at c0
  rw [und23] at c1
  rw [und3] at c2
  cases a0 <;> simp only [] at c0 <;> try (exact c0.elim)
  cases a2 <;> simp only [] at c2 <;> try (exact c2.elim)
  obtain ⟨rfl, -⟩ := c0
  obtain ⟨rfl, -⟩ := c2
  cases a1 <;> simp only [] at c1 <;> try (exact c1.elim)
  rename_i n r ao len cap
  refine ⟨n, r, ?_⟩
  cases ao with
  | none =>
    left
    cases len <;> cases cap <;> first | rfl | exact c1.elim
  | some a =>
    obtain ⟨w1, w2, _, w3, row, cells, w4, _⟩ := c1
    exact .inr ⟨a, len, cap, rfl, w1, by have : IntKind.i64.max = 9223372036854775807 := rfl; omega, w3, _, w4⟩

def laidL : List (String × DataW Unit) := [("math/bits.deBruijn32tab", Rows.laid_math_bits_deBruijn32tab), ("math/bits.deBruijn64tab", Rows.laid_math_bits_deBruijn64tab), ("internal/strconv.uint64pow10", Rows.laid_internal_strconv_uint64pow10), ("unicode/utf8.acceptRanges", Rows.laid_unicode_utf8_acceptRanges), ("unicode.White_Space", Rows.laid_unicode_White_Space), ("strings.asciiSpace", Rows.laid_strings_asciiSpace), ("unicode/utf8.first", Rows.laid_unicode_utf8_first)]

set_option maxRecDepth 100000 in
theorem lifted (os : Os) (started : os.Started) (H : Type) (enc : TypeId × Value → H) :
    ReturnsInHanded {} Tryz.checked os 3 .any (fun w args => (Rows.machinePureSpec.pre enc Tryz.prog Tryz.f3 Rows.machinePureRow.domain false w args ∧ laidMetH Tryz.prog laidL w) ∧ sizedMet enc Tryz.prog Tryz.f3 (OpenSpec.ofChange Rows.machinePureSpec) false w args)
      (Rows.machinePureSpec.post enc Tryz.prog Tryz.f3 false true false false) := by
  refine returnsInHanded_of_change_and (C := Tryz.checked) (X := fun w _ => laidMetH Tryz.prog laidL w) (fun _ _ _ hh h => h.of_heap hh) own started (by kernel_rfl) Tryz.func3
    (ChangeSpec.witness_shaped (enc := enc) (C := Tryz.checked) (os := os) (X := fun w _ => laidMetH Tryz.prog laidL w) false (World.laidAll Tryz.prog os laidL) #[.agg #[.int .u64 0, .slice none 0 0, .int .i64 0], .int .u64 0, .int .u64 0, .string .empty] 8 (World.laidAll_os _ _ _)
      (World.shaped_of_ZipB (by kernel_rfl) (by kernel_rfl)) (by kernel_rfl) (by kernel_rfl) (by kernel_rfl)
      (by rw [MakeChecks.laidMetH_plain _ _ _ (by kernel_rfl)]; exact laidMet_laidAll _ (by kernel_rfl) (by kernel_rfl))) ?_
  intro W base args ds gs before hval0 hW _ _ hL _
  have hL' := hL
  rw [MakeChecks.laidMetH_plain _ _ _ (by kernel_rfl)] at hL'
  have hg : Globs gl (fun _ => none) W := Globs.none
  have hval : ∀ (j : Nat) t v, Tryz.f3.params[j]? = some t → args[j]? = some v → Value.okWide Tryz.prog W .any base t v := hval0
  have hW' := hW
  obtain ⟨p, q, hA0, hV, rfl, hfz, hnd⟩ := hW
  have hA : DataW.TrodAll enc Tryz.prog W 0 (fun _ => true) true Tryz.f3.params.toList args.toList ds p := hA0
  rw [Tryz.params3] at hA hval
  obtain ⟨v0, v1, v2, v3, d0, d1, d2, d3, p0, p1, p2, p3, rfl, rfl, rfl, h0, _, _, _⟩ := RowKit.trodAll_four hA
  obtain ⟨rfl, rfl⟩ := trodVars_none hV
  simp only [List.append_nil] at hW'
  obtain ⟨x, rfl⟩ := u64_arg (hval 1 22 v1 rfl rfl)
  obtain ⟨y, rfl⟩ := u64_arg (hval 2 22 v2 rfl rfl)
  obtain ⟨b, rfl, hbl⟩ := str_arg (hval 3 9 v3 rfl rfl)
  have key : Calls Tryz.prog 3 #[v0, .int .u64 x, .int .u64 y, .string b] W fun e W' => e = .returned (.bool true) ∧ Below W.heap.size W W' := by
    obtain ⟨n, r, rfl | ⟨a, len, cap, rfl, hlc, hcap, hsp, hsh⟩⟩ := fam_args (hval 0 25 v0 rfl rfl)
    · exact walk0 n x y r b hbl W
    · obtain ⟨fuel, h0⟩ := h0
      obtain ⟨yy, hy⟩ := trod_field Tryz.underlying25 (List.mem_cons_of_mem _ List.mem_cons_self) h0
      exact walk1 n x y r b hbl W a len cap (by omega) hlc hsp hsh (trod_texts und23 und9 (by kernel_rfl) hsp hy)
  refine key.mono fun e W' ⟨he, hb⟩ => ?_
  subst he
  refine ⟨_, rfl, post_true laidOut hW' hb rfl ?_ rfl Tryz.underlying4 rfl rfl rfl⟩
  rw [Tryz.params3]
  intro t ht
  have hm : t ∈ [25, 22, 22, 9] := by simpa using ht
  simp only [List.mem_cons, List.not_mem_nil, or_false] at hm
  rcases hm with rfl | rfl | rfl | rfl <;> exact ⟨by kernel_rfl, of_decide_eq_true (by kernel_rfl)⟩
theorem k_inPlace : (Rows.machinePureRow.inPlace == Tryz.prog.inPlace 3) = true := by kernel_rfl
theorem k_unfollowed : (Rows.machinePureRow.unfollowed == Tryz.prog.unfollowed 3) = true := by kernel_rfl
theorem k_recurses : (Rows.machinePureRow.recurses == Tryz.prog.recurses 3) = true := by kernel_rfl
theorem k_named : (Rows.machinePureRow.named == Tryz.prog.varsNamed 3) = true := by kernel_rfl
theorem closed : joinedFacts Tryz.prog 3 Tryz.f3 Rows.machinePureSpec Rows.machinePureRow = true := by
  unfold joinedFacts
  rw [k_inPlace, k_unfollowed, k_recurses, k_named]
  kernel_rfl


theorem over : Rows.MachinePureSaid :=
  OpenClaim.holds_of_wide 3 Tryz.f3 rfl rfl rfl rfl rfl rfl rfl ⟨rfl, rfl, rfl, rfl, rfl⟩ rfl rfl rfl rfl rfl (by kernel_rfl) Tryz.func3 closed
    (of_decide_eq_true (by kernel_rfl)) (by unfold Func.isWrapper; first | (rw [if_pos (by decide +kernel)]; kernel_rfl) | (rw [if_neg (by decide +kernel)]; exact ⟨rfl, rfl⟩))
    (fun os started H enc _ => lifted os started H enc)

/-- THE STATEMENT -/
theorem proved : Rows.MachinePureCardSaid :=
  Claim7.holds_tied_plain_at .later [] [.data, .data, .data, .data, .listed, .data, .pinned] true (true, "1c863af1fc2df4dbec772b409d80566d8392dd9e1eee66566f53c907b30ec99a") false over (fun _ h => by cases h) (by as_aux_lemma => kernel_rfl) (fun _ h => by cases h) machinePure_row_tie rfl ⟨rfl, rfl⟩ (by as_aux_lemma => kernel_rfl) rfl
    (fun f fn hf hfn => by
      obtain rfl : f = 3 := Option.some.inj ((show Tryz.prog.funcNamed "sluicegate/sluicegatelaw24.MachinePure" = some 3 by kernel_rfl).symm.trans hf) |>.symm
      obtain rfl : fn = Tryz.f3 := (Option.some.inj (Tryz.func3.symm.trans hfn)).symm
      exact ⟨by kernel_rfl, fun j t ht => by
        rw [Tryz.params3] at ht
        have hm : t ∈ [25, 22, 22, 9] := by simpa using Array.mem_of_getElem? ht
        have hall : ([25, 22, 22, 9].all fun u => !Tryz.prog.wantsStandIn u) = true := by kernel_rfl
        exact (show Tryz.prog.wantsStandIn t = false by simpa using List.all_eq_true.1 hall t hm)⟩)
    (by as_aux_lemma => kernel_rfl)
#print axioms proved
end Go.Proofs.YtfdfjifbhahekaaGreatDoor.machinePure
