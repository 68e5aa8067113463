/-
  Functions that are not gone into: the library's externs at strings.
-/
import Derived.Test.YthhdkonpejmgcaaGreatDoorLx7
import Derived.Lib.Bytealg
set_option linter.unusedSimpArgs false
set_option linter.unusedVariables false
namespace Go.Lx
noncomputable section

/-- what may stand in `sum` at one function -/
def ExtSum (P : Program) (gl : T (List V)) (f : FuncId) (g : List V → M V) : Prop := (∀ vs, Local (g vs)) ∧
  ∀ (vs : List V) (v : V) (s s' : St) (w : World) (μ : Mu) (ν : Nat → Value) (rs : List Value), g vs s = .ok v s' → Rel P μ ν s.heap w.heap → Fresh μ s s' → Globs gl μ s.heap w → VsRel μ ν vs rs →
    CallsTo P f ⟨rs⟩ w fun r w' => ∃ μ', VRel μ' ν v r ∧ StepOk P μ ν s.heap s.next w μ' s'.heap s'.next w'

/-- a list of functions with what is taken for each -/
def sums : List (FuncId × (List V → M V)) → FuncId → Option (List V → M V)
  | [], _ => none
  | p :: l, f => bif f == p.1 then some p.2 else sums l f

theorem sums_ok {P : Program} {gl : T (List V)} : ∀ {l : List (FuncId × (List V → M V))} (hl : ∀ p ∈ l, ExtSum P gl p.1 p.2) {f : FuncId} {g : List V → M V}, sums l f = some g → ExtSum P gl f g
  | [], _, _, _, h => by cases h
  | p :: l, hl, f, g, h => by
    unfold sums at h
    cases hf : f == p.1
    · rw [hf, cond_false] at h
      exact sums_ok (fun q hq => hl q (by simp [hq])) h
    · rw [hf, cond_true] at h
      cases h
      rw [beq_iff_eq.1 hf]
      exact hl p (by simp)

theorem sumOk_list (c : Cfg) (l : List (FuncId × (List V → M V))) (h : c.sum = sums l) (hl : ∀ p ∈ l, ExtSum c.P c.gl p.1 p.2) : SumOk c := by
  intro f g hg
  rw [h] at hg
  exact sums_ok hl hg

/-- an extern that looks at its arguments alone -/
def pureM (F : List V → Option V) (vs : List V) : M V := match F vs with
  | some v => Lx.ret v
  | none => err "extern"

theorem local_pureM (F : List V → Option V) (vs : List V) : Local (pureM F vs) := by
  unfold pureM
  cases F vs with
  | none => exact Local.err _
  | some v => exact Local.ret _

theorem extSum_pure {P : Program} {gl : T (List V)} {f : FuncId} {fn : Func} {e : Array Value → Sem Value} {F : List V → Option V} (hf : P.funcs[f]? = some fn) (hname : (fn.name == "runtime.NumGoroutine") = false)
    (hb : fn.body.isNone = true) (hn : Extern.findNext fn = none) (he : Extern.find fn = some e)
    (h : ∀ (μ : Mu) (ν : Nat → Value) (vs : List V) (rs : List Value) (v : V) (w : World), VsRel μ ν vs rs → F vs = some v → ∃ r, (e ⟨rs⟩).run P w = .ok r w ∧ VRel μ ν v r) :
    ExtSum P gl f (pureM F) := by
  refine ⟨local_pureM F, ?_⟩
  intro vs v s s' w μ ν rs hg hr _ _ hv
  unfold pureM at hg
  cases hF : F vs with
  | none => rw [hF] at hg; exact (err_ok hg).elim
  | some v0 =>
    rw [hF] at hg
    obtain ⟨rfl, rfl⟩ := ret_ok hg
    obtain ⟨r, h1, h2⟩ := h μ ν vs rs _ w hv hF
    refine .inr ⟨r, w, ?_, μ, h2, StepOk.refl hr⟩
    rw [run_callFunc_extern hf hname hb hn he, h1]
    rfl

/-! strings and one byte -/
def idxNats : List Nat → Nat → Int
  | [], _ => -1
  | b :: l, c => bif b == c then 0 else bif idxNats l c == -1 then -1 else idxNats l c + 1

def cntNats : List Nat → Nat → Nat
  | [], _ => 0
  | b :: l, c => bif b == c then cntNats l c + 1 else cntNats l c

theorem nat_byte_eq (b : UInt8) (n : Int) (h0 : 0 ≤ n) (h : n < 256) : (b.toNat == n.toNat) = (b == n.toNat.toUInt8) := by
  rw [Bool.eq_iff_iff, beq_iff_eq, beq_iff_eq]
  constructor
  · intro e
    rw [← e]
    simp
  · intro e
    rw [e]
    show (UInt8.ofNat n.toNat).toNat = _
    rw [UInt8.toNat_ofNat_of_lt']
    show n.toNat < 256
    omega

theorem idxNats_eq (c : Int) (h0 : 0 ≤ c) (h : c < 256) : ∀ l : List UInt8, idxNats (l.map (·.toNat)) c.toNat = Lib.indexByte l c.toNat.toUInt8
  | [] => rfl
  | b :: l => by
    simp only [List.map_cons, idxNats, Lib.indexByte, idxNats_eq c h0 h l, nat_byte_eq b c h0 h]
    cases b == c.toNat.toUInt8 <;> simp <;> split <;> simp_all

theorem cntNats_eq (c : Int) (h0 : 0 ≤ c) (h : c < 256) : ∀ l : List UInt8, cntNats (l.map (·.toNat)) c.toNat = Lib.countByte l c.toNat.toUInt8
  | [] => rfl
  | b :: l => by
    have ih := cntNats_eq c h0 h l
    unfold Lib.countByte at ih ⊢
    rw [List.map_cons, cntNats, ih, List.count_cons, nat_byte_eq b c h0 h]
    cases b == c.toNat.toUInt8 <;> simp

/-- internal/bytealg.IndexByteString -/
def idxStr : List V → Option V
  | [.str l, .int .u8 c] => bif decide (0 ≤ c) && decide (c < 256) then some (.int .i64 (idxNats l c.toNat)) else none
  | _ => none

/-- internal/bytealg.CountString -/
def cntStr : List V → Option V
  | [.str l, .int .u8 c] => bif decide (0 ≤ c) && decide (c < 256) then some (.int .i64 (cntNats l c.toNat)) else none
  | _ => none

/-- internal/abi.NoEscape -/
def sameV : List V → Option V
  | [v] => some v
  | _ => none

theorem idxStr_ok {P : Program} (μ : Mu) (ν : Nat → Value) (vs : List V) (rs : List Value) (v : V) (w : World) (h : VsRel μ ν vs rs) (hv : idxStr vs = some v) : ∃ r, (Extern.BytealgIndexByte.indexByte ⟨rs⟩).run P w = .ok r w ∧ VRel μ ν v r := by
  unfold idxStr at hv
  split at hv
  · rename_i l c
    cases hd : (decide (0 ≤ c) && decide (c < 256))
    · rw [hd, cond_false] at hv; cases hv
    · rw [hd, cond_true] at hv
      cases hv
      have hd' : 0 ≤ c ∧ c < 256 := by simpa using hd
      cases h with
      | cons h1 h =>
        cases h with
        | cons h2 h =>
          cases h
          cases h1
          cases h2
          rename_i b
          refine ⟨_, Lib.run_indexByteString b c w, ?_⟩
          rw [← idxNats_eq c hd'.1 hd'.2]
          exact .int _ _
  · cases hv

theorem cntStr_ok {P : Program} (μ : Mu) (ν : Nat → Value) (vs : List V) (rs : List Value) (v : V) (w : World) (h : VsRel μ ν vs rs) (hv : cntStr vs = some v) : ∃ r, (Extern.BytealgCount.count ⟨rs⟩).run P w = .ok r w ∧ VRel μ ν v r := by
  unfold cntStr at hv
  split at hv
  · rename_i l c
    cases hd : (decide (0 ≤ c) && decide (c < 256))
    · rw [hd, cond_false] at hv; cases hv
    · rw [hd, cond_true] at hv
      cases hv
      have hd' : 0 ≤ c ∧ c < 256 := by simpa using hd
      cases h with
      | cons h1 h =>
        cases h with
        | cons h2 h =>
          cases h
          cases h1
          cases h2
          rename_i b
          refine ⟨_, Lib.run_countString b c w, ?_⟩
          rw [← cntNats_eq c hd'.1 hd'.2]
          exact .int _ _
  · cases hv

theorem sameV_ok {P : Program} (μ : Mu) (ν : Nat → Value) (vs : List V) (rs : List Value) (v : V) (w : World) (h : VsRel μ ν vs rs) (hv : sameV vs = some v) : ∃ r, (Extern.AbiNoEscape.same ⟨rs⟩).run P w = .ok r w ∧ VRel μ ν v r := by
  unfold sameV at hv
  split at hv
  · cases hv
    cases h with
    | cons h1 h => cases h; exact ⟨_, rfl, h1⟩
  · cases hv


/-! bytes in a slice -/
def byteV : V → Option Nat
  | .int .u8 n => bif decide (0 ≤ n) && decide (n < 256) then some n.toNat else none
  | _ => none

def bytesOfV : List V → Option (List Nat)
  | [] => some []
  | v :: l => match byteV v, bytesOfV l with
    | some n, some ns => some (n :: ns)
    | _, _ => none

/-- internal/bytealg.IndexByte -/
def idxM (vs : List V) : M V := match vs with
  | [.slice b o len _, .int .u8 c] => bif decide (0 ≤ c) && decide (c < 256) then Lx.bnd (ld b o len) fun cs => Lx.bnd (Lx.opt (bytesOfV cs) "bytes") fun ns => Lx.ret (.int .i64 (idxNats ns c.toNat)) else err "byte"
  | [.nilslice, .int .u8 _] => Lx.ret (.int .i64 (-1))
  | _ => err "index"

theorem local_idxM (vs : List V) : Local (idxM vs) := by
  unfold idxM
  split
  · exact Local.cond (Local.bnd (Local.ld _ _ _) fun _ => Local.bnd (Local.opt _ _) fun _ => Local.ret _) (Local.err _)
  · exact Local.ret _
  · exact Local.err _

theorem byteV_ok {v : V} {n : Nat} (h : byteV v = some n) : v = .int .u8 n ∧ n < 256 := by
  unfold byteV at h
  split at h
  · rename_i c
    cases hd : (decide (0 ≤ c) && decide (c < 256))
    · rw [hd, cond_false] at h; cases h
    · rw [hd, cond_true] at h
      have hd' : 0 ≤ c ∧ c < 256 := by simpa using hd
      cases h
      refine ⟨?_, by omega⟩
      congr 1
      omega
  · cases h

theorem toNats_push (b : ByteArray) (x : UInt8) : toNats (b.push x) = toNats b ++ [x.toNat] := by
  simp [toNats, ByteArray.push]

theorem run_loadBytes {P : Program} {μ : Mu} {ν : Nat → Value} {w : World} {h : T Ob} (hr : Rel P μ ν h w.heap) {k : Nat} {c : List V} (hk : HasRow h k c) {pl : Pl} (hp : μ k = some pl) :
    ∀ (vs : List V) (ns : List Nat) (o : Nat) (acc : ByteArray), bytesOfV vs = some ns → (∀ (j : Nat) v, vs[j]? = some v → c[o + j]? = some v) →
      ∃ b, (Extern.Bytes.loadBytes ⟨pl.blk, pl.off + o, none⟩ vs.length acc).run P w = .ok b w ∧ toNats b = toNats acc ++ ns
  | [], ns, o, acc, hb, _ => by
    cases hb
    exact ⟨acc, rfl, by simp⟩
  | v :: vs, ns, o, acc, hb, hc => by
    unfold bytesOfV at hb
    cases hv : byteV v with
    | none => rw [hv] at hb; cases hb
    | some n =>
      cases hvs : bytesOfV vs with
      | none => rw [hv, hvs] at hb; cases hb
      | some ms =>
        rw [hv, hvs] at hb
        cases hb
        obtain ⟨rfl, hn⟩ := byteV_ok hv
        obtain ⟨r, h1, h2⟩ := run_loadCell (P := P) hr hk hp (hc 0 _ rfl)
        cases h2
        rw [Nat.add_zero] at h1
        obtain ⟨b, g1, g2⟩ := run_loadBytes hr hk hp vs ms (o + 1) (acc.push (Int.ofNat n).toNat.toUInt8) hvs (fun j v hj => by
          have := hc (j + 1) v (by simpa using hj)
          rwa [show o + 1 + j = o + (j + 1) by omega])
        refine ⟨b, ?_, ?_⟩
        · rw [List.length_cons, Extern.Bytes.loadBytes, run_pure_bind h1]
          exact g1
        · rw [g2, toNats_push]
          have : (UInt8.ofNat n).toNat = n := UInt8.toNat_ofNat_of_lt' hn
          simp [this]

theorem run_indexByte_of {P : Program} {x : Value} {b : ByteArray} {w : World} (c : Int) (h : (Extern.Bytes.bytesOf x).run P w = .ok b w) :
    (Extern.BytealgIndexByte.indexByte #[x, .int .u8 c]).run P w = .ok (.int .i64 (firstIdx b c.toNat.toUInt8)) w := by
  change Sem.run P (do
    let b ← Extern.Bytes.bytesOf x
    let c' ← Extern.Bytes.asByte (.int .u8 c)
    match (List.range b.size).find? fun i => b[i]! == c' with
    | some i => pure (goInt i)
    | none => pure (goInt (-1))) w = _
  simp only [Extern.Bytes.asByte, firstIdx, Sem.run_bind, Sem.run_pure, Result.andThen, h]
  generalize (List.range b.size).find? _ = o
  cases o <;> rfl

theorem extSum_idx {P : Program} {gl : T (List V)} {f : FuncId} {fn : Func} (hf : P.funcs[f]? = some fn) (hname : (fn.name == "runtime.NumGoroutine") = false)
    (hb : fn.body.isNone = true) (hn : Extern.findNext fn = none) (he : Extern.find fn = some Extern.BytealgIndexByte.indexByte) : ExtSum P gl f idxM := by
  refine ⟨local_idxM, ?_⟩
  intro vs v s s' w μ ν rs hg hr _ _ hv
  have fin : ∀ {r : Value}, (Extern.BytealgIndexByte.indexByte ⟨rs⟩).run P w = .ok r w → VRel μ ν v r → s'.heap = s.heap → s'.next = s.next →
      CallsTo P f ⟨rs⟩ w fun r w' => ∃ μ', VRel μ' ν v r ∧ StepOk P μ ν s.heap s.next w μ' s'.heap s'.next w' := by
    intro r h1 h2 h3 h4
    refine .inr ⟨r, w, ?_, μ, h2, by rw [h3, h4]; exact StepOk.refl hr⟩
    rw [run_callFunc_extern hf hname hb hn he, h1]
    rfl
  unfold idxM at hg
  split at hg
  · rename_i b o len cap c
    cases hd : (decide (0 ≤ c) && decide (c < 256))
    · rw [hd, cond_false] at hg; exact (err_ok hg).elim
    · rw [hd, cond_true] at hg
      have hd' : 0 ≤ c ∧ c < 256 := by simpa using hd
      obtain ⟨cs, s1, g1, g2⟩ := bnd_ok hg
      obtain ⟨ns, s2, g3, g4⟩ := bnd_ok g2
      obtain ⟨cl, hk, hlen, rfl, rfl⟩ := ld_ok g1
      obtain ⟨hns, rfl⟩ := opt_ok g3
      obtain ⟨rfl, rfl⟩ := ret_ok g4
      cases hv with
      | cons h1 h =>
        cases h with
        | cons h2 h =>
          cases h
          cases h2
          cases h1
          rename_i cap' pl a hp hs hl
          have key : ∃ ba, (Extern.Bytes.bytesOf (.slice (some a) len cap')).run P w = .ok ba w ∧ toNats ba = ns := by
            rcases hs with ⟨h0, _⟩ | ⟨h0, _⟩
            · have : len = 0 := by omega
              subst this
              have : ns = [] := by
                have : sub cl o 0 = [] := by simp [sub]
                rw [this] at hns
                cases hns; rfl
              exact ⟨.empty, rfl, by rw [this]; rfl⟩
            · subst h0
              have hlen' : (sub cl o len).length = len := sub_length hlen
              obtain ⟨ba, k1, k2⟩ := run_loadBytes (P := P) hr hk hp (sub cl o len) ns o .empty hns (fun j v hj => by
                have hj' : j < len := by rw [← hlen']; exact (List.getElem?_eq_some_iff.1 hj).1
                rwa [sub_get hj'] at hj)
              rw [hlen'] at k1
              exact ⟨ba, k1, by rw [k2]; rfl⟩
          obtain ⟨ba, k1, k2⟩ := key
          refine fin (run_indexByte_of c k1) ?_ rfl rfl
          rw [Lib.firstIdx_eq, ← idxNats_eq c hd'.1 hd'.2]
          have : ba.data.toList.map (·.toNat) = ns := k2
          rw [this]
          exact .int _ _
  · obtain ⟨rfl, rfl⟩ := ret_ok hg
    cases hv with
    | cons h1 h =>
      cases h with
      | cons h2 h =>
        cases h
        cases h2
        cases h1
        refine fin (run_indexByte_of _ (b := .empty) rfl) ?_ rfl rfl
        exact .int _ _
  · exact (err_ok hg).elim

end
end Go.Lx
