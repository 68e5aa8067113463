/-
  Lists of integers, two places swapped: what the parts of slices.Sort do to them.
-/
import Derived.Test.YtcccbbgjmjnagaaLxA
set_option linter.unusedSimpArgs false
set_option linter.unusedVariables false
set_option linter.defProp false
namespace Go.Lx
namespace Srt
def gi (L : List Int) (i : Nat) : Int := L.getD i 0
def swp (L : List Int) (i j : Nat) : List Int := (L.set i (gi L j)).set j (gi L i)
theorem gi_lt {L : List Int} {i : Nat} (h : i < L.length) : gi L i = L[i] := by unfold gi; rw [List.getD_eq_getElem?_getD, List.getElem?_eq_getElem h]; rfl
theorem gi_some {L : List Int} {i : Nat} (h : i < L.length) : L[i]? = some (gi L i) := by rw [gi_lt h, List.getElem?_eq_getElem h]
theorem swp_len (L : List Int) (i j : Nat) : (swp L i j).length = L.length := by unfold swp; rw [List.length_set, List.length_set]
theorem gi_set {L : List Int} {i k : Nat} {x : Int} (h : i < L.length) : gi (L.set i x) k = if k = i then x else gi L k := by
  unfold gi
  rw [List.getD_eq_getElem?_getD, List.getD_eq_getElem?_getD, List.getElem?_set]
  by_cases q : i = k
  · subst q; simp [h]
  · rw [if_neg q, if_neg (fun e => q e.symm)]
theorem gi_swp {L : List Int} {i j k : Nat} (hi : i < L.length) (hj : j < L.length) : gi (swp L i j) k = if k = j then gi L i else if k = i then gi L j else gi L k := by
  unfold swp
  rw [gi_set (by rw [List.length_set]; exact hj), gi_set hi]
theorem swp_perm {L : List Int} {i j : Nat} (hi : i < L.length) (hj : j < L.length) : (swp L i j).Perm L := by
  have h := Array.swap_perm (xs := L.toArray) (i := i) (j := j) (by simpa using hi) (by simpa using hj)
  have h2 := Array.perm_iff_toList_perm.1 h
  rw [Array.toList_swap] at h2
  have e : swp L i j = (L.set i L[j]).set j L[i] := by unfold swp; rw [gi_lt hi, gi_lt hj]
  rw [e]
  simpa using h2
structure RP (a b : Nat) (L L' : List Int) : Prop where
  len : L'.length = L.length
  out : ∀ k, k < a ∨ b ≤ k → gi L' k = gi L k
  perm : L'.Perm L
  all : ∀ P : Int → Prop, (∀ k, a ≤ k → k < b → P (gi L k)) → ∀ k, a ≤ k → k < b → P (gi L' k)
theorem RP.refl (a b : Nat) (L : List Int) : RP a b L L := ⟨rfl, fun _ _ => rfl, List.Perm.refl _, fun _ h => h⟩
theorem RP.trans {a b : Nat} {L M N : List Int} (x : RP a b L M) (y : RP a b M N) : RP a b L N :=
  ⟨y.len.trans x.len, fun k hk => (y.out k hk).trans (x.out k hk), y.perm.trans x.perm, fun P h => y.all P (x.all P h)⟩
theorem RP.wide {a b a' b' : Nat} {L M : List Int} (x : RP a b L M) (ha : a' ≤ a) (hb : b ≤ b') : RP a' b' L M :=
  ⟨x.len, fun k hk => x.out k (by omega), x.perm, fun P h k h1 h2 => by
    by_cases hk : k < a ∨ b ≤ k
    · rw [x.out k hk]; exact h k h1 h2
    · exact x.all P (fun k q1 q2 => h k (by omega) (by omega)) k (by omega) (by omega)⟩
theorem RP.swp {a b i j : Nat} {L : List Int} (i1 : a ≤ i) (i2 : i < b) (j1 : a ≤ j) (j2 : j < b) (hb : b ≤ L.length) : RP a b L (swp L i j) := by
  have hi : i < L.length := by omega
  have hj : j < L.length := by omega
  refine ⟨swp_len _ _ _, fun k hk => ?_, swp_perm hi hj, fun P h k h1 h2 => ?_⟩
  · rw [gi_swp hi hj, if_neg (by omega), if_neg (by omega)]
  · rw [gi_swp hi hj]
    split
    · exact h i i1 i2
    · split
      · exact h j j1 j2
      · exact h k h1 h2
def SR (a b : Nat) (L : List Int) : Prop := ∀ i j, a ≤ i → i < j → j < b → gi L i ≤ gi L j
theorem SR.small {a b : Nat} {L : List Int} (h : b ≤ a + 1) : SR a b L := fun i j h1 h2 h3 => by omega
theorem SR.same {a b : Nat} {L M : List Int} (h : SR a b L) (e : ∀ k, a ≤ k → k < b → gi M k = gi L k) : SR a b M := fun i j h1 h2 h3 => by
  rw [e i h1 (by omega), e j (by omega) h3]; exact h i j h1 h2 h3
def InsI (a i j : Nat) (L : List Int) : Prop := ∀ p q, a ≤ p → p < q → q ≤ i → q ≠ j → gi L p ≤ gi L q
theorem ins_start {a i : Nat} {L : List Int} (h : SR a i L) : InsI a i i L := fun p q h1 h2 h3 h4 => h p q h1 h2 (by omega)
theorem ins_step {a i j : Nat} {L : List Int} (h : InsI a i j L) (ha : a < j) (hj : j ≤ i) (hi : i < L.length) (hl : gi L j < gi L (j - 1)) : InsI a i (j - 1) (swp L j (j - 1)) := by
  intro p q h1 h2 h3 h4
  rw [gi_swp (by omega) (by omega), gi_swp (by omega) (by omega)]
  rw [if_neg h4]
  by_cases q1 : q = j
  · rw [if_pos q1]
    by_cases p1 : p = j - 1
    · rw [if_pos p1]; omega
    · rw [if_neg p1, if_neg (by omega)]
      exact h p (j - 1) h1 (by omega) (by omega) (by omega)
  · rw [if_neg q1]
    by_cases p1 : p = j - 1
    · rw [if_pos p1]; exact h j q (by omega) (by omega) h3 q1
    · rw [if_neg p1]
      by_cases p2 : p = j
      · rw [if_pos p2]; exact h (j - 1) q (by omega) (by omega) h3 q1
      · rw [if_neg p2]; exact h p q h1 h2 h3 q1
theorem ins_end {a i j : Nat} {L : List Int} (h : InsI a i j L) (ha : a ≤ j) (hj : j ≤ i) (hl : j = a ∨ gi L (j - 1) ≤ gi L j) : SR a (i + 1) L := by
  intro p q h1 h2 h3
  by_cases q1 : q = j
  · subst q1
    rcases hl with hl | hl
    · omega
    · by_cases p1 : p = q - 1
      · rw [p1]; exact hl
      · have := h p (q - 1) h1 (by omega) (by omega) (by omega)
        omega
  · exact h p q h1 h2 (by omega) q1
def Hp (f lo hi r : Nat) (L : List Int) : Prop :=
  (∀ k c, lo ≤ k → (c = 2 * k + 1 ∨ c = 2 * k + 2) → c < hi → k ≠ r → gi L (f + c) ≤ gi L (f + k)) ∧
  (∀ k c, lo ≤ k → (r = 2 * k + 1 ∨ r = 2 * k + 2) → (c = 2 * r + 1 ∨ c = 2 * r + 2) → c < hi → gi L (f + c) ≤ gi L (f + k))
def HP (f lo hi : Nat) (L : List Int) : Prop := ∀ k c, lo ≤ k → (c = 2 * k + 1 ∨ c = 2 * k + 2) → c < hi → gi L (f + c) ≤ gi L (f + k)
theorem sift_start {f lo hi : Nat} {L : List Int} (h : HP f (lo + 1) hi L) : Hp f lo hi lo L := ⟨fun k c h1 h2 h3 h4 => h k c (by omega) h2 h3, fun k c h1 h2 h3 h4 => by omega⟩
theorem sift_end {f lo hi r : Nat} {L : List Int} (h : Hp f lo hi r L) (hr : ∀ c, (c = 2 * r + 1 ∨ c = 2 * r + 2) → c < hi → gi L (f + c) ≤ gi L (f + r)) : HP f lo hi L := fun k c h1 h2 h3 => by
  by_cases hk : k = r
  · subst hk; exact hr c h2 h3
  · exact h.1 k c h1 h2 h3 hk
theorem sift_step {f lo hi r c : Nat} {L : List Int} (h : Hp f lo hi r L) (hr : lo ≤ r) (hc : c = 2 * r + 1 ∨ c = 2 * r + 2) (hh : c < hi) (hb : f + hi ≤ L.length) (hm : ∀ d, (d = 2 * r + 1 ∨ d = 2 * r + 2) → d < hi → gi L (f + d) ≤ gi L (f + c)) (hl : gi L (f + r) < gi L (f + c)) : Hp f lo hi c (swp L (f + r) (f + c)) := by
  have g : ∀ k, gi (swp L (f + r) (f + c)) (f + k) = if k = c then gi L (f + r) else if k = r then gi L (f + c) else gi L (f + k) := fun k => by
    rw [gi_swp (by omega) (by omega)]
    by_cases q1 : k = c
    · rw [if_pos q1, if_pos (by omega)]
    · rw [if_neg q1, if_neg (by omega)]
      by_cases q2 : k = r
      · rw [if_pos q2, if_pos (by omega)]
      · rw [if_neg q2, if_neg (by omega)]
  constructor
  · intro k d h1 h2 h3 h4
    rw [g, g, if_neg h4]
    by_cases k1 : k = r
    · subst k1
      rw [if_pos rfl]
      by_cases d1 : d = c
      · rw [if_pos d1]; omega
      · rw [if_neg d1, if_neg (by omega)]; exact hm d h2 h3
    · rw [if_neg k1, if_neg (by omega)]
      by_cases d2 : d = r
      · rw [if_pos d2]; subst d2; exact h.2 k c h1 h2 hc hh
      · rw [if_neg d2]; exact h.1 k d h1 h2 h3 k1
  · intro k d h1 h2 h3 h4
    have hk : k = r := by omega
    subst hk
    rw [g, g, if_neg (by omega), if_neg (by omega), if_neg (by omega), if_pos rfl]
    exact h.1 c d (by omega) h3 h4 (by omega)
theorem heap_max {f hi : Nat} {L : List Int} (h : HP f 0 hi L) : ∀ (n k : Nat), k ≤ n → k < hi → gi L (f + k) ≤ gi L (f + 0)
  | 0, k, hn, _ => by have : k = 0 := by omega
                      subst this; exact Int.le_refl _
  | n + 1, k, hn, hk => by
    by_cases h0 : k = 0
    · subst h0; exact Int.le_refl _
    · have h1 := h ((k - 1) / 2) k (Nat.zero_le _) (by omega) hk
      have h2 := heap_max h n ((k - 1) / 2) (by omega) (by omega)
      omega
structure HS (f n i : Nat) (L : List Int) : Prop where
  heap : HP f 0 i L
  tail : ∀ p q, i ≤ p → p < q → q < n → gi L (f + p) ≤ gi L (f + q)
  cross : ∀ p q, p < i → i ≤ q → q < n → gi L (f + p) ≤ gi L (f + q)
theorem hs_swap {f n i : Nat} {L : List Int} (h : HS f n (i + 1) L) (hi : i + 1 ≤ n) (hb : f + n ≤ L.length) :
    HP f 1 i (swp L f (f + i)) ∧ (∀ p q, i ≤ p → p < q → q < n → gi (swp L f (f + i)) (f + p) ≤ gi (swp L f (f + i)) (f + q)) ∧ (∀ p q, p < i → i ≤ q → q < n → gi (swp L f (f + i)) (f + p) ≤ gi (swp L f (f + i)) (f + q)) := by
  have g : ∀ k, gi (swp L f (f + i)) (f + k) = if k = i then gi L (f + 0) else if k = 0 then gi L (f + i) else gi L (f + k) := fun k => by
    rw [gi_swp (by omega) (by omega)]
    by_cases q1 : k = i
    · rw [if_pos q1, if_pos (by omega)]; rfl
    · rw [if_neg q1, if_neg (by omega)]
      by_cases q2 : k = 0
      · rw [if_pos q2, if_pos (by omega)]
      · rw [if_neg q2, if_neg (by omega)]
  have hmax : ∀ k, k ≤ i → gi L (f + k) ≤ gi L (f + 0) := fun k hk => heap_max h.heap k k (Nat.le_refl _) (by omega)
  refine ⟨fun k c h1 h2 h3 => ?_, fun p q h1 h2 h3 => ?_, fun p q h1 h2 h3 => ?_⟩
  · rw [g, g, if_neg (by omega), if_neg (by omega), if_neg (by omega), if_neg (by omega)]
    exact h.heap k c (Nat.zero_le _) h2 (by omega)
  · rw [g, g, if_neg (by omega : ¬ q = i), if_neg (by omega : ¬ q = 0)]
    by_cases p1 : p = i
    · rw [if_pos p1]; exact h.cross 0 q (by omega) (by omega) h3
    · rw [if_neg p1, if_neg (by omega)]; exact h.tail p q (by omega) h2 h3
  · rw [g, g, if_neg (by omega : ¬ p = i)]
    by_cases q1 : q = i
    · rw [if_pos q1]
      by_cases p1 : p = 0
      · rw [if_pos p1]; exact hmax i (Nat.le_refl _)
      · rw [if_neg p1]; exact hmax p (by omega)
    · rw [if_neg q1, if_neg (by omega : ¬ q = 0)]
      by_cases p1 : p = 0
      · rw [if_pos p1]; exact h.cross i q (by omega) (by omega) h3
      · rw [if_neg p1]; exact h.cross p q (by omega) (by omega) h3
theorem hs_sift {f n i : Nat} {L M : List Int} (h1 : HP f 0 i M) (h : RP f (f + i) L M) (hin : i ≤ n) (ht : ∀ p q, i ≤ p → p < q → q < n → gi L (f + p) ≤ gi L (f + q)) (hc : ∀ p q, p < i → i ≤ q → q < n → gi L (f + p) ≤ gi L (f + q)) : HS f n i M := by
  refine ⟨h1, fun p q a b c => ?_, fun p q a b c => ?_⟩
  · rw [h.out _ (by omega), h.out _ (by omega)]; exact ht p q a b c
  · rw [h.out (f + q) (by omega)]
    refine h.all (fun x => x ≤ gi L (f + q)) (fun k k1 k2 => ?_) (f + p) (by omega) (by omega)
    have := hc (k - f) q (by omega) b c
    rwa [show f + (k - f) = k by omega] at this
theorem hs_end {f n : Nat} {L : List Int} (h : HS f n 0 L) : SR f (f + n) L := fun i j h1 h2 h3 => by
  have := h.tail (i - f) (j - f) (Nat.zero_le _) (by omega) (by omega)
  rwa [show f + (i - f) = i by omega, show f + (j - f) = j by omega] at this
theorem hs_start {f n : Nat} {L : List Int} (h : HP f 0 n L) : HS f n n L := ⟨h, fun p q a b c => by omega, fun p q a b c => by omega⟩
structure PI (a b i j : Nat) (x : Int) (L : List Int) : Prop where
  piv : gi L a = x
  lt : ∀ k, a < k → k < i → gi L k < x
  ge : ∀ k, j < k → k < b → x ≤ gi L k
theorem pi_swap {a b i j : Nat} {x : Int} {L : List Int} (h : PI a b i j x L) (hb : b ≤ L.length) (ha : a < i) (hij : i < j) (hj : j < b) (hi : x ≤ gi L i) (hl : gi L j < x) : PI a b (i + 1) (j - 1) x (swp L i j) := by
  have g := fun k => gi_swp (L := L) (i := i) (j := j) (k := k) (by omega) (by omega)
  refine ⟨?_, fun k h1 h2 => ?_, fun k h1 h2 => ?_⟩
  · rw [g, if_neg (by omega), if_neg (by omega)]; exact h.piv
  · rw [g, if_neg (by omega)]
    by_cases q : k = i
    · rw [if_pos q]; exact hl
    · rw [if_neg q]; exact h.lt k h1 (by omega)
  · rw [g]
    by_cases q : k = j
    · rw [if_pos q]; exact hi
    · rw [if_neg q, if_neg (by omega)]; exact h.ge k (by omega) h2
def Split (a b m : Nat) (L : List Int) : Prop := (∀ k, a ≤ k → k < m → gi L k ≤ gi L m) ∧ (∀ k, m < k → k < b → gi L m ≤ gi L k)
theorem pi_end {a b i j : Nat} {x : Int} {L : List Int} (h : PI a b i j x L) (hb : b ≤ L.length) (ha : a ≤ j) (hij : j < i) (hi : i ≤ j + 1) (hj : j < b) : Split a b j (swp L j a) := by
  have g := fun k => gi_swp (L := L) (i := j) (j := a) (k := k) (by omega) (by omega)
  have gm : gi (swp L j a) j = x := by
    rw [g]
    by_cases q : j = a
    · rw [if_pos q, q]; exact h.piv
    · rw [if_neg q, if_pos rfl]; exact h.piv
  refine ⟨fun k h1 h2 => ?_, fun k h1 h2 => ?_⟩
  · rw [gm, g]
    by_cases q : k = a
    · rw [if_pos q]; exact Int.le_of_lt (h.lt j (by omega) (by omega))
    · rw [if_neg q, if_neg (by omega)]; exact Int.le_of_lt (h.lt k (by omega) (by omega))
  · rw [gm, g, if_neg (by omega), if_neg (by omega)]; exact h.ge k h1 h2
structure PE (a b i j : Nat) (x : Int) (L : List Int) : Prop where
  piv : gi L a = x
  le : ∀ k, a < k → k < i → gi L k ≤ x
  gt : ∀ k, j < k → k < b → x < gi L k
theorem pe_swap {a b i j : Nat} {x : Int} {L : List Int} (h : PE a b i j x L) (hb : b ≤ L.length) (ha : a < i) (hij : i < j) (hj : j < b) (hi : x < gi L i) (hl : gi L j ≤ x) : PE a b (i + 1) (j - 1) x (swp L i j) := by
  have g := fun k => gi_swp (L := L) (i := i) (j := j) (k := k) (by omega) (by omega)
  refine ⟨?_, fun k h1 h2 => ?_, fun k h1 h2 => ?_⟩
  · rw [g, if_neg (by omega), if_neg (by omega)]; exact h.piv
  · rw [g, if_neg (by omega)]
    by_cases q : k = i
    · rw [if_pos q]; exact hl
    · rw [if_neg q]; exact h.le k h1 (by omega)
  · rw [g]
    by_cases q : k = j
    · rw [if_pos q]; exact hi
    · rw [if_neg q, if_neg (by omega)]; exact h.gt k (by omega) h2
structure Todo (a0 b0 a b : Nat) (L0 L : List Int) : Prop where
  rp : RP a0 b0 L0 L
  lo : a0 ≤ a
  hi : b ≤ b0
  done : ∀ L', RP a b L L' → SR a b L' → SR a0 b0 L'
  pred : a = 0 ∨ ∀ k, a ≤ k → k < b → gi L (a - 1) ≤ gi L k
theorem Todo.start {a b : Nat} {L : List Int} (h : a = 0 ∨ ∀ k, a ≤ k → k < b → gi L (a - 1) ≤ gi L k) : Todo a b a b L L := ⟨RP.refl _ _ _, Nat.le_refl _, Nat.le_refl _, fun _ _ h => h, h⟩
theorem Todo.move {a0 b0 a b : Nat} {L0 L M : List Int} (h : Todo a0 b0 a b L0 L) (r : RP a b L M) : Todo a0 b0 a b L0 M :=
  ⟨h.rp.trans (r.wide h.lo h.hi), h.lo, h.hi, fun L' q1 q2 => h.done L' (r.trans q1) q2, by
    rcases h.pred with q | q
    · exact .inl q
    · by_cases h0 : a = 0
      · exact .inl h0
      · refine .inr ?_
        rw [r.out (a - 1) (by omega)]
        exact r.all (fun x => gi L (a - 1) ≤ x) q⟩
theorem Todo.sorted {a0 b0 a b : Nat} {L0 L : List Int} (h : Todo a0 b0 a b L0 L) (s : SR a b L) : SR a0 b0 L := h.done L (RP.refl _ _ _) s
theorem Todo.equal {a0 b0 a b m : Nat} {L0 L M : List Int} {x : Int} (h : Todo a0 b0 a b L0 L) (r : RP a b L M) (h1 : a < m) (h2 : m ≤ b) (h0 : ¬ a = 0) (hx : x ≤ gi L (a - 1)) (hle : ∀ k, a ≤ k → k < m → gi M k ≤ x) (hgt : ∀ k, m ≤ k → k < b → x < gi M k) : Todo a0 b0 m b L0 M := by
  have t := h.move r
  have hp := t.pred.resolve_left h0
  rw [r.out (a - 1) (by omega)] at hp
  have heq : ∀ k, a ≤ k → k < m → gi M k = x := fun k q1 q2 => by
    have := hp k q1 (by omega)
    have := hle k q1 q2
    omega
  refine ⟨t.rp, by have := t.lo; omega, t.hi, fun L' q1 q2 => t.done L' (q1.wide (by omega) (Nat.le_refl _)) ?_, .inr fun k q1 q2 => ?_⟩
  · have hgt' : ∀ k, m ≤ k → k < b → x < gi L' k := q1.all (fun y => x < y) hgt
    intro i j i1 i2 i3
    by_cases c1 : j < m
    · rw [q1.out i (by omega), q1.out j (by omega), heq i i1 (by omega), heq j (by omega) c1]; exact Int.le_refl _
    · by_cases c2 : i < m
      · rw [q1.out i (by omega), heq i i1 c2]
        exact Int.le_of_lt (hgt' j (by omega) i3)
      · exact q2 i j (by omega) i2 i3
  · rw [heq (m - 1) (by omega) (by omega)]
    exact Int.le_of_lt (hgt k q1 q2)
theorem Todo.left {a0 b0 a b m : Nat} {L0 L M : List Int} (h : Todo a0 b0 a b L0 L) (hm1 : a ≤ m) (hm2 : m < b) (hs : Split a b m L) (r : RP a m L M) (s : SR a m M) : Todo a0 b0 (m + 1) b L0 M := by
  have t := h.move (r.wide (Nat.le_refl _) (by omega))
  have gm : gi M m = gi L m := r.out m (by omega)
  have g1 : ∀ k, a ≤ k → k < m → gi M k ≤ gi M m := by rw [gm]; exact r.all (fun y => y ≤ gi L m) hs.1
  have g2 : ∀ k, m < k → k < b → gi M m ≤ gi M k := fun k q1 q2 => by rw [gm, r.out k (by omega)]; exact hs.2 k q1 q2
  refine ⟨t.rp, by have := t.lo; omega, t.hi, fun L' q1 q2 => t.done L' (q1.wide (by omega) (Nat.le_refl _)) ?_, .inr fun k q1 q2 => ?_⟩
  · have g3 : ∀ k, m + 1 ≤ k → k < b → gi M m ≤ gi L' k := q1.all (fun y => gi M m ≤ y) fun k w1 w2 => g2 k (by omega) w2
    intro i j i1 i2 i3
    by_cases c1 : j < m
    · rw [q1.out i (by omega), q1.out j (by omega)]; exact s i j i1 i2 c1
    · by_cases c2 : j = m
      · subst c2; rw [q1.out i (by omega), q1.out j (by omega)]; exact g1 i i1 i2
      · by_cases c3 : i < m
        · rw [q1.out i (by omega)]
          have := g1 i i1 c3
          have := g3 j (by omega) i3
          omega
        · by_cases c4 : i = m
          · subst c4; rw [q1.out i (by omega)]; exact g3 j (by omega) i3
          · exact q2 i j (by omega) i2 i3
  · rw [show m + 1 - 1 = m by omega]; exact g2 k (by omega) q2
theorem Todo.right {a0 b0 a b m : Nat} {L0 L M : List Int} (h : Todo a0 b0 a b L0 L) (hm1 : a ≤ m) (hm2 : m < b) (hs : Split a b m L) (r : RP (m + 1) b L M) (s : SR (m + 1) b M) : Todo a0 b0 a m L0 M := by
  have t := h.move (r.wide (by omega) (Nat.le_refl _))
  have gm : gi M m = gi L m := r.out m (by omega)
  have g1 : ∀ k, a ≤ k → k < m → gi M k ≤ gi M m := fun k q1 q2 => by rw [gm, r.out k (by omega)]; exact hs.1 k q1 q2
  have g2 : ∀ k, m + 1 ≤ k → k < b → gi M m ≤ gi M k := by rw [gm]; exact r.all (fun y => gi L m ≤ y) fun k w1 w2 => hs.2 k (by omega) w2
  refine ⟨t.rp, t.lo, by have := t.hi; omega, fun L' q1 q2 => t.done L' (q1.wide (Nat.le_refl _) (by omega)) ?_, ?_⟩
  · have g3 : ∀ k, a ≤ k → k < m → gi L' k ≤ gi M m := q1.all (fun y => y ≤ gi M m) g1
    intro i j i1 i2 i3
    by_cases c1 : j < m
    · exact q2 i j i1 i2 c1
    · by_cases c3 : i < m
      · have h1 := g3 i i1 c3
        rw [q1.out j (by omega)]
        by_cases c2 : j = m
        · rw [c2]; exact h1
        · have := g2 j (by omega) i3
          omega
      · rw [q1.out i (by omega), q1.out j (by omega)]
        by_cases c4 : i = m
        · rw [c4]; exact g2 j (by omega) i3
        · exact s i j (by omega) i2 i3
  · rcases t.pred with q | q
    · exact .inl q
    · exact .inr fun k w1 w2 => q k w1 (by omega)
theorem split_pred {a b m : Nat} {L : List Int} (hs : Split a b m L) : m + 1 = 0 ∨ ∀ k, m + 1 ≤ k → k < b → gi L (m + 1 - 1) ≤ gi L k := .inr fun k h1 h2 => hs.2 k (by omega) h2
theorem left_pred {a b m : Nat} {L : List Int} (h : a = 0 ∨ ∀ k, a ≤ k → k < b → gi L (a - 1) ≤ gi L k) (hm : m ≤ b) : a = 0 ∨ ∀ k, a ≤ k → k < m → gi L (a - 1) ≤ gi L k := h.imp id fun q k h1 h2 => q k h1 (by omega)
end Srt
end Go.Lx
