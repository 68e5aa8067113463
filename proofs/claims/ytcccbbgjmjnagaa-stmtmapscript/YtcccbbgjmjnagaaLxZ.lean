/-
  Functions that are not gone into: the library's externs at strings.
-/
import Derived.Test.YtcccbbgjmjnagaaLxY
import Derived.Lib.Bytealg
set_option linter.unusedSimpArgs false
set_option linter.unusedVariables false
namespace Go.Lx
noncomputable section
def ExtSum (P : Program) (gl : T (List V)) (f : FuncId) (g : List V → M V) : Prop := (∀ vs, Local (g vs)) ∧
  ∀ (vs : List V) (v : V) (s s' : St) (w : World) (μ : Mu) (ν : Nat → Value) (rs : List Value), g vs s = .ok v s' → Rel P μ ν s.heap w.heap → Fresh μ s s' → Globs gl μ w → VsRel μ ν vs rs →
    CallsTo P f ⟨rs⟩ w fun r w' => ∃ μ', VRel μ' ν v r ∧ StepOk P μ ν s.heap s.next w μ' s'.heap s'.next w'
def sums : List (FuncId × (List V → M V)) → FuncId → Option (List V → M V)
  | [], _ => none
  | p :: l, f => bif f == p.1 then some p.2 else sums l f
theorem sums_ok {P : Program} {gl : T (List V)} : ∀ {l : List (FuncId × (List V → M V))} (hl : ∀ p ∈ l, ExtSum P gl p.1 p.2) {f : FuncId} {g : List V → M V}, sums l f = some g → ExtSum P gl f g
  | [], _, _, _, h => by cases h
  | p :: l, hl, f, g, h => by
    unfold sums at h
    cases hf : f == p.1
    · rw [hf, cond_false] at h
      exact sums_ok (fun q hq => hl q (by simp [hq])) h
    · rw [hf, cond_true] at h
      cases h
      rw [beq_iff_eq.1 hf]
      exact hl p (by simp)
theorem sumOk_list (c : Cfg) (l : List (FuncId × (List V → M V))) (h : c.sum = sums l) (hl : ∀ p ∈ l, ExtSum c.P c.gl p.1 p.2) : SumOk c := by
  intro f g hg
  rw [h] at hg
  exact sums_ok hl hg
def byteV : V → Option Nat
  | .int .u8 n => bif decide (0 ≤ n) && decide (n < 256) then some n.toNat else none
  | _ => none
def bytesOfV : List V → Option (List Nat)
  | [] => some []
  | v :: l => match byteV v, bytesOfV l with
    | some n, some ns => some (n :: ns)
    | _, _ => none
theorem byteV_ok {v : V} {n : Nat} (h : byteV v = some n) : v = .int .u8 n ∧ n < 256 := by
  unfold byteV at h
  split at h
  · rename_i c
    cases hd : (decide (0 ≤ c) && decide (c < 256))
    · rw [hd, cond_false] at h; cases h
    · rw [hd, cond_true] at h
      have hd' : 0 ≤ c ∧ c < 256 := by simpa using hd
      cases h
      refine ⟨?_, by omega⟩
      congr 1
      omega
  · cases h
theorem toNats_push (b : ByteArray) (x : UInt8) : toNats (b.push x) = toNats b ++ [x.toNat] := by
  simp [toNats, ByteArray.push]
theorem run_loadBytes {P : Program} {μ : Mu} {ν : Nat → Value} {w : World} {h : T Ob} (hr : Rel P μ ν h w.heap) {k : Nat} {c : List V} (hk : HasRow h k c) {pl : Pl} (hp : μ k = some pl) :
    ∀ (vs : List V) (ns : List Nat) (o : Nat) (acc : ByteArray), bytesOfV vs = some ns → (∀ (j : Nat) v, vs[j]? = some v → c[o + j]? = some v) →
      ∃ b, (Extern.Bytes.loadBytes ⟨pl.blk, pl.off + o, none⟩ vs.length acc).run P w = .ok b w ∧ toNats b = toNats acc ++ ns
  | [], ns, o, acc, hb, _ => by
    cases hb
    exact ⟨acc, rfl, by simp⟩
  | v :: vs, ns, o, acc, hb, hc => by
    unfold bytesOfV at hb
    cases hv : byteV v with
    | none => rw [hv] at hb; cases hb
    | some n =>
      cases hvs : bytesOfV vs with
      | none => rw [hv, hvs] at hb; cases hb
      | some ms =>
        rw [hv, hvs] at hb
        cases hb
        obtain ⟨rfl, hn⟩ := byteV_ok hv
        obtain ⟨r, h1, h2⟩ := run_loadCell (P := P) hr hk hp (hc 0 _ rfl)
        cases h2
        rw [Nat.add_zero] at h1
        obtain ⟨b, g1, g2⟩ := run_loadBytes hr hk hp vs ms (o + 1) (acc.push (Int.ofNat n).toNat.toUInt8) hvs (fun j v hj => by
          have := hc (j + 1) v (by simpa using hj)
          rwa [show o + 1 + j = o + (j + 1) by omega])
        refine ⟨b, ?_, ?_⟩
        · rw [List.length_cons, Extern.Bytes.loadBytes, run_pure_bind h1]
          exact g1
        · rw [g2, toNats_push]
          have : (UInt8.ofNat n).toNat = n := UInt8.toNat_ofNat_of_lt' hn
          simp [this]
end
end Go.Lx
