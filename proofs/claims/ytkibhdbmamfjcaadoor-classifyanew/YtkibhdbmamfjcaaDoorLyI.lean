/-
  strings.Builder's grow, at a Builder without a buffer: it may stand in (its new row's bytes are open).
-/
import Derived.Test.YtkibhdbmamfjcaaDoorLyH
import Derived.Shelf.Strings.Builder2
set_option linter.unusedSimpArgs false
set_option linter.unusedVariables false
namespace Go.Lx
open Go.Shelf Go.Proofs Go.RowKit

section
variable {P : Program} {ρ : Ren}
def Grown (e : TypeId) (b n : Nat) (w w' : World) : Prop := ∃ (cs : Array Value) (d : Nat), n ≤ cs.size ∧ w' = { ((w.setCell ⟨b, 1, none⟩ (.slice (some ⟨w.heap.size, 0, none⟩) 0 cs.size)).alloc (.cells cs e)) with drawn := d }

set_option maxHeartbeats 2000000 in
set_option maxRecDepth 1000000 in
theorem grow_calls (L : Lays.n241 P ρ) (X : Builder.Extra P ρ) (b n : Nat) (w : World) {rc : Array Value} {T : TypeId} {frz : Nat × Nat} (hbk : w.heap[b]? = some (.cells rc T frz)) (hnil : rc[1]? = some (.slice none 0 0)) (hfz : ¬ (frz.1 ≤ 1 ∧ 1 < frz.2)) (hn : n ≤ 281474976710656) :
    Calls P (ρ.f 241) #[.pointer (some ⟨b, 0, none⟩), .int .i64 n] w fun e w' => e = .returned (.tuple #[]) ∧ Grown (ρ.t 5) b n w w' := by
  obtain ⟨cs, hrun, hle, hmax⟩ := Lib.run_makeNoZero (P := P) w.drew #[(ρ.t 3)] (ρ.t 37) (ρ.t 5) L.t37 n hn
  have hw : IntKind.i64.wrap (IntKind.i64.wrap 0 + (n : Int)) = n := by
    rw [IntKind.wrap_i64, IntKind.wrap_i64]
    omega
  have hcall : (callFunc (ρ.f 277) #[.int .i64 (IntKind.i64.wrap (IntKind.i64.wrap 0 + (n : Int)))]).run P w.drew = .ok (.value (.slice (some ⟨w.drew.heap.size, 0, none⟩) n cs.size)) (w.drew.drew.drew.alloc (.cells cs (ρ.t 5))) := by
    rw [hw, Go.run_callFunc_extern L.f277 (by kernel_rfl) (by kernel_rfl) (by kernel_rfl) (e := Extern.BytealgMakeNoZero.makeNoZero #[(ρ.t 3)] #[(ρ.t 37)]) (by kernel_rfl), hrun]
    rfl
  have hlt : b < w.heap.size := (Array.getElem?_eq_some_iff.1 hbk).1
  have c1 : w.drew.cell? ⟨b, 1, none⟩ = some (.slice none 0 0) := by
    have : w.drew.heap[b]? = _ := hbk
    rw [cell_at this]; exact hnil
  have hal : (w.alloc (.cells cs (ρ.t 5))).heap[b]? = some (.cells rc T frz) := (Lib.alloc_old w _ b hlt).trans hbk
  have c2 : (w.alloc (.cells cs (ρ.t 5))).cell? ⟨b, 1, none⟩ = some (.slice none 0 0) := by rw [cell_at hal]; exact hnil
  have f2 : (w.alloc (.cells cs (ρ.t 5))).frozen? ⟨b, 1, none⟩ = false := frozen_at hal hfz
  have hcopy : ∀ W : World, (Builtin.copy_ #[(ρ.t 37), (ρ.t 37)] (ρ.t 3) #[.slice (some ⟨w.heap.size, 0, none⟩) 0 cs.size, .slice none 0 0]).run P W = .ok (goInt 0) W :=
    fun W => run_copy_none W (ρ.t 37) (ρ.t 37) (ρ.t 3) (ρ.t 5) _ _ 0 cs.size 0 0 L.t37 X.sizeByte rfl
  clear hw
  have hfin : ∀ d, Grown (ρ.t 5) b n w { ((w.setCell ⟨b, 1, none⟩ (.slice (some ⟨w.heap.size, 0, none⟩) 0 cs.size)).alloc (.cells cs (ρ.t 5))) with drawn := d } := fun d => ⟨cs, d, hle, rfl⟩
  have mixed := L.mixed
  have t72 := L.t72; have a72 := L.a72; have z72 := L.z72; have v72 := L.v72; have u72 := Go.run_underlying L.t72
  have t70 := L.t70; have a70 := L.a70; have z70 := L.z70; have v70 := L.v70; have u70 := Go.run_underlying L.t70
  have t37 := L.t37; have a37 := L.a37; have z37 := L.z37; have v37 := L.v37; have u37 := Go.run_underlying L.t37
  have t3 := L.t3; have a3 := L.a3; have z3 := L.z3; have v3 := L.v3; have u3 := Go.run_underlying L.t3
  have t5 := X.t5; have a5 := X.a5; have z5 := X.z5; have v5 := X.v5; have u5 := Go.run_underlying X.t5
  go_enter L.f241, Body.n241_ntmps ρ
  go_wp2
  go_region_o
  all_goals (go_wp2; go_end0; exact ⟨rfl, hfin _⟩)

theorem set_alloc {w : World} {b : Nat} {v : Value} {O : Obj} (hb : b < w.heap.size) : (w.setCell ⟨b, 1, none⟩ v).alloc O = (w.alloc O).setCell ⟨b, 1, none⟩ v := by
  unfold World.setCell World.alloc
  simp only
  congr 1
  apply Array.ext
  · simp
  · intro i h1 h2
    simp only [Array.getElem_push, Array.getElem_modify, Array.size_modify]
    split <;> split <;> first | rfl | (split <;> first | rfl | omega) | omega
noncomputable def growB (e5 : TypeId) (vs : List V) : M V := match vs with
  | [.ptr k 0, .int .i64 (.ofNat n)] => bnd (blk k) fun (_, _, q) => bif !q && Nat.ble n 1073741824 then bnd (ld k 1 1) fun cs => (match cs with
      | [.nilslice] => bnd (alloc (.cells [] e5 true)) fun k2 => bnd (stc k 1 [.slice k2 0 0 0]) fun _ => Lx.ret (.tuple [])
      | _ => err "grow") else err "grow"
  | _ => err "grow"

theorem local_growB (e5 : TypeId) (vs : List V) : Local (growB e5 vs) := by
  unfold growB
  repeat' (first | exact Local.ret _ | exact Local.err _ | exact Local.blk _ | exact Local.ld _ _ _ | exact Local.stc _ _ _ | exact Local.alloc _ | refine Local.cond ?_ ?_ | refine Local.bnd ?_ (fun _ => ?_) | split)

theorem extSum_grow {gl : T (List V)} (L : Lays.n241 P ρ) (X : Builder.Extra P ρ) (he : Enters P (ρ.f 241)) : ExtSum P gl (ρ.f 241) (growB (ρ.t 5)) := by
  refine ⟨local_growB _, fun vs v s s' w μ ν rs h hr hf hg ha => ?_⟩
  unfold growB at h
  split at h
  · rename_i k n
    obtain ⟨⟨len, e, q⟩, s1, h1, h2⟩ := bnd_ok h
    obtain ⟨c, e1, q1, hk, hq, rfl⟩ := blk_ok h1
    injection hq with hq1 hq2
    injection hq2 with hq2 hq3
    subst hq2; subst hq3
    simp only at h2
    cases hc : (!q && Nat.ble n 1073741824)
    · rw [hc, cond_false] at h2; exact (err_ok h2).elim
    rw [hc, cond_true] at h2
    rw [Bool.and_eq_true, ble_iff] at hc
    obtain ⟨hc1, hc2⟩ := hc
    have hq0 : q = false := by simpa using hc1
    subst hq0
    obtain ⟨cs, s2, h3, h4⟩ := bnd_ok h2
    obtain ⟨c', hk', hl, rfl, rfl⟩ := ld_ok h3
    have hk1 : s.heap.get k = some (.cells c e false) := hk
    obtain rfl : c = c' := (HasRow.cells hk' hk1).symm
    rcases heq : sub c 1 1 with _ | ⟨x, _ | ⟨y, l⟩⟩
    · rw [heq] at h4; exact (err_ok h4).elim
    · rw [heq] at h4
      cases x <;> try exact (err_ok h4).elim
      obtain ⟨k2, s3, h5, h6⟩ := bnd_ok h4
      obtain ⟨rfl, rfl⟩ := alloc_ok h5
      obtain ⟨u, s4, h7, h8⟩ := bnd_ok h6
      obtain ⟨rfl, rfl⟩ := ret_ok h8
      obtain ⟨p, hp, hor⟩ := hr.ob k _ hk1
      obtain ⟨_, _, rc, frz, r3, r0, r4, r5, r6, r7⟩ := hor
      have hoff := r0 rfl
      have hcell : c[1]? = some .nilslice := by
        have : (sub c 1 1)[0]? = some .nilslice := by rw [heq]; rfl
        rw [sub_get (by omega)] at this
        simpa using this
      obtain ⟨r, hr1, hr2⟩ := r7 1 _ hcell
      cases hr2
      rw [hoff, Nat.zero_add] at hr1
      have hfz : ¬ (frz.1 ≤ 1 ∧ 1 < frz.2) := r6 1 (by omega)
      have hlt : p.blk < w.heap.size := (Array.getElem?_eq_some_iff.1 r3).1
      cases ha with
      | cons a1 a2 =>
        cases a2 with
        | cons a2 a3 =>
          cases a3
          cases a2
          cases a1 with
          | ptr hp' =>
            rw [hp] at hp'; cases hp'
            left
            have hz : (⟨p.blk, p.off + 0, none⟩ : Addr) = ⟨p.blk, 0, none⟩ := by rw [hoff]
            refine ⟨he _ _, ?_⟩
            rw [hz]
            refine (grow_calls L X p.blk n w r3 hr1 hfz (by omega)).mono ?_
            rintro e2 w' ⟨rfl, cs, d, hcs, rfl⟩
            have hk3 : μ s.next = none := hf _ (Nat.le_refl _) (by
              obtain ⟨lg, dd⟩ := Local.stc (k := k) (o := 1) (vs := [.slice s.next 0 0 0]) _ _ _ h7
              have := dd.next
              exact Nat.lt_of_lt_of_le (Nat.lt_succ_self _) this)
            have hsz5 : szT P (ρ.t 5) = some 1 := X.sizeByte
            have st := stepOpen (P := P) (μ := μ) (ν := ν) (s := s) (w := w) (e := ρ.t 5) (c := []) (rc := cs) (frz := (0, 0)) (esz := 1) (d := d) hr hk3 hsz5 (by simp) (fun i _ => by simp) .nil
            obtain ⟨w2, g1, g2⟩ := sim_stc (P := P) (μ := upd μ s.next ⟨w.heap.size, 0, true, 1, cs.size⟩) (ν := ν) (w := { w with heap := w.heap.push (.cells cs (ρ.t 5)), drawn := d }) (k := k) (o := 1) (vs := [.slice s.next 0 0 0]) (rs := [.slice (some ⟨w.heap.size, 0, none⟩) 0 cs.size]) (pl := p) (s' := s')
              (s := { heap := s.heap.set s.next (some (.cells [] (ρ.t 5) true)), next := s.next + 1, log := _ }) st.rel (st.le _ _ hp)
              (.cons (.slice (upd_same _ _ _) (Nat.le_refl _) (.inr ⟨rfl, .inr ⟨rfl, Nat.zero_le _, by show 0 + 0 + cs.size * 1 ≤ cs.size; omega⟩⟩)) .nil) h7
            have hw2 : w2 = { ((w.setCell ⟨p.blk, 1, none⟩ (.slice (some ⟨w.heap.size, 0, none⟩) 0 cs.size)).alloc (.cells cs (ρ.t 5))) with drawn := d } := by
              rw [set_alloc hlt]
              have hb1 : ({ w with heap := w.heap.push (.cells cs (ρ.t 5)), drawn := d } : World).heap[p.blk]? = some (.cells rc e frz) := by
                show (w.heap.push (.cells cs (ρ.t 5)))[p.blk]? = _
                rw [Array.getElem?_push, if_neg (by omega)]; exact r3
              have hc1 : ({ w with heap := w.heap.push (.cells cs (ρ.t 5)), drawn := d } : World).cell? ⟨p.blk, 1, none⟩ = some (.slice none 0 0) := by rw [cell_at hb1]; exact hr1
              have hf1 : ({ w with heap := w.heap.push (.cells cs (ρ.t 5)), drawn := d } : World).frozen? ⟨p.blk, 1, none⟩ = false := frozen_at hb1 hfz
              rw [hoff] at g1
              simp only [storeCells, Sem.run_bind, add_none, Nat.zero_add, Nat.add_zero, run_store P _ _ _ _ (show Value.oneCell' (.slice (some ⟨w.heap.size, 0, none⟩) 0 cs.size) = true from rfl), hc1, hf1, Bool.false_eq_true, if_false, Result.andThen_ok, Sem.run_pure] at g1
              injection g1 with _ g1
              exact g1.symm
            subst hw2
            refine ⟨_, rfl, _, .tuple .nil, st.trans g2 (Nat.le_succ _) ?_⟩
            obtain ⟨lg, dd⟩ := Local.stc (k := k) (o := 1) (vs := [.slice s.next 0 0 0]) _ _ _ h7
            exact dd.next
    · rw [heq] at h4
      cases x <;> exact (err_ok h4).elim
  · exact (err_ok h).elim

end
end Go.Lx
