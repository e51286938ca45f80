/- The periods of rings: the plain law. No condition but the sizes. -/
import Derived.Test.YtccknookhkahbaaGreatKeptS
import Derived.Test.YtccknookhkahbaaGreatIns
namespace Go.Proofs.YtccknookhkahbaaGreat
open Go.RowKit

def PerN (g : Nat → Nat) (k p : Nat) : Prop := 1 ≤ p ∧ gIt g k p = k ∧ ∀ q, 1 ≤ q → q < p → gIt g k q ≠ k
theorem perN_unique {g : Nat → Nat} {k p p' : Nat} (h : PerN g k p) (h' : PerN g k p') : p = p' := by
  rcases Nat.lt_trichotomy p p' with h1 | h1 | h1
  · exact absurd h.2.1 (h'.2.2 p h.1 h1)
  · exact h1
  · exact absurd h'.2.1 (h.2.2 p' h'.1 h1)
theorem perN_below {g : Nat → Nat} {k : Nat} : ∀ b, (∃ p, 1 ≤ p ∧ p ≤ b ∧ gIt g k p = k) → ∃ p, PerN g k p
  | 0, ⟨p, h1, h2, _⟩ => by omega
  | b + 1, ⟨p, h1, h2, h3⟩ => by
    by_cases h : ∃ q, 1 ≤ q ∧ q ≤ b ∧ gIt g k q = k
    · exact perN_below b h
    · refine ⟨p, h1, h3, fun q hq hqp e => h ⟨q, hq, by omega, e⟩⟩
theorem perN_ex {g : Nat → Nat} {k : Nat} (h : AgainN g k) : ∃ p, PerN g k p := by
  obtain ⟨p, hp, e⟩ := h
  exact perN_below p ⟨p, hp, Nat.le_refl _, e⟩
noncomputable def perOf (g : Nat → Nat) (k : Nat) : Nat := Classical.epsilon (PerN g k)
theorem perOf_spec {g : Nat → Nat} {k : Nat} (h : AgainN g k) : PerN g k (perOf g k) := Classical.epsilon_spec (perN_ex h)
theorem perN_le {g : Nat → Nat} {M k p : Nat} (hg : ∀ q, g q < M) (hk : k < M) (h : PerN g k p) : p ≤ M := by
  have hd : ((List.range p).map (gIt g k)).Nodup := by
    rw [List.nodup_iff_pairwise_ne, List.pairwise_map]
    refine List.Pairwise.imp_of_mem (R := (· < ·)) (fun {a b} ha hb hab e => ?_) List.pairwise_lt_range
    have hb2 := List.mem_range.1 hb
    have e2 : gIt g k (a + (p - b)) = gIt g k (b + (p - b)) := by rw [← gIt_shift, ← gIt_shift, e]
    rw [show b + (p - b) = p by omega, h.2.1] at e2
    exact h.2.2 (a + (p - b)) (by omega) (by omega) e2
  have := pigeon M _ hd (fun x hx => by
    obtain ⟨a, _, rfl⟩ := List.mem_map.1 hx
    exact gIt_lt hg hk a)
  simpa using this
theorem gIt_inj {o : ByteArray} {n m : Nat} (h : RFit o n m) {i : Nat} (hi : i < 2 ^ m) (a b : Nat) : gIt (nextB o n m) i a = gIt (nextB o n m) i b ↔ itr (ringB o 2 n) (wAt 2 m i) a = itr (ringB o 2 n) (wAt 2 m i) b := by
  rw [← gIt_nextB h i a, ← gIt_nextB h i b]
  refine ⟨fun e => by rw [e], fun e => ?_⟩
  have := congrArg (idxOf 2) e
  rwa [idx_wAt (by omega) m _ (gIt_lt (next_lt h) hi a), idx_wAt (by omega) m _ (gIt_lt (next_lt h) hi b)] at this
/-- A tail's period is the period of the number at which it begins. -/
theorem tail_per {o : ByteArray} {n m i t p : Nat} (h : RFit o n m) (hi : i < 2 ^ m) (hT : IsTail (ringB o 2 n) (wAt 2 m i) t p) : PerN (nextB o n m) (gIt (nextB o n m) i t) p := by
  refine ⟨hT.pos, ?_, fun q hq hqp e => ?_⟩
  · rw [gIt_shift, gIt_inj h hi]
    exact hT.eq
  · rw [gIt_shift, gIt_inj h hi (t + q) t] at e
    exact hT.new t (t + q) (by omega) (by omega) e.symm
noncomputable def tailP (f : List UInt8 → List UInt8) (l : List UInt8) : Nat := Classical.epsilon fun p => ∃ t, IsTail f l t p
theorem tailP_eq {f : List UInt8 → List UInt8} {l : List UInt8} {t p : Nat} (h : IsTail f l t p) : tailP f l = p := by
  obtain ⟨t', h'⟩ : ∃ t', IsTail f l t' (tailP f l) := Classical.epsilon_spec (p := fun p => ∃ t, IsTail f l t p) ⟨p, t, h⟩
  exact (isTail_unique h' h).2
/-- The periods of the first j rings' tails. -/
noncomputable def tps (o : ByteArray) (n m j : Nat) : List Int := (List.range j).map fun i => (tailP (ringB o 2 n) (wAt 2 m i) : Int)
theorem tps_len (o : ByteArray) (n m j : Nat) : (tps o n m j).length = j := by simp [tps]
theorem tps_succ (o : ByteArray) (n m j : Nat) : tps o n m (j + 1) = tps o n m j ++ [(tailP (ringB o 2 n) (wAt 2 m j) : Int)] := by simp [tps, List.range_succ]
/-- The periods of those of the first j that are kept. -/
noncomputable def kps (g : Nat → Nat) (K : Nat → Bool) (j : Nat) : List Int := ((List.range j).filter K).map fun i => (perOf g i : Int)
theorem kps_yes {g : Nat → Nat} {K : Nat → Bool} {j : Nat} (h : K j = true) : kps g K (j + 1) = kps g K j ++ [(perOf g j : Int)] := by simp [kps, List.range_succ, List.filter_append, h]
theorem kps_no {g : Nat → Nat} {K : Nat → Bool} {j : Nat} (h : K j = false) : kps g K (j + 1) = kps g K j := by simp [kps, List.range_succ, List.filter_append, h]
theorem kps_len (g : Nat → Nat) (K : Nat → Bool) (j : Nat) : (kps g K j).length ≤ j := by simp only [kps, List.length_map]; exact kp_le K j
/-- Every ring has a tail. -/
def Tails (o : ByteArray) (n m : Nat) : Prop := ∀ i, i < 2 ^ m → ∃ t p, IsTail (ringB o 2 n) (wAt 2 m i) t p
theorem periods_law {o : ByteArray} {n m : Nat} {K : Nat → Bool} (h : RFit o n m) (HT : Tails o n m) (h1 : ∀ i, i < 2 ^ m → AgainN (nextB o n m) i → K i = true) (h2 : ∀ i, i < 2 ^ m → K i = true → hitK (nextB o n m) K (2 ^ m) i = true) :
    insAll ltI (kps (nextB o n m) K (2 ^ m)) = distinctI (tps o n m (2 ^ m)) := by
  refine insAll_distinctI _ _ fun x => ?_
  constructor
  · intro hx
    obtain ⟨i, hi, rfl⟩ := List.mem_map.1 hx
    obtain ⟨hi1, hk⟩ := List.mem_filter.1 hi
    have hi2 := List.mem_range.1 hi1
    have ha := keep_again (next_lt h) h2 hi2 hk
    obtain ⟨t, p, hT⟩ := HT i hi2
    have ht0 := (again_iff hT).1 (per_iff.1 ((againN_per h hi2).1 ha))
    subst ht0
    have := perN_unique (perOf_spec ha) (tail_per h hi2 hT)
    exact List.mem_map.2 ⟨i, List.mem_range.2 hi2, by rw [tailP_eq hT, this]⟩
  · intro hx
    obtain ⟨i, hi, rfl⟩ := List.mem_map.1 hx
    have hi2 := List.mem_range.1 hi
    obtain ⟨t, p, hT⟩ := HT i hi2
    have hp := tail_per h hi2 hT
    have hlt := gIt_lt (next_lt h) hi2 t
    have ha : AgainN (nextB o n m) (gIt (nextB o n m) i t) := ⟨p, hp.1, hp.2.1⟩
    exact List.mem_map.2 ⟨_, List.mem_filter.2 ⟨List.mem_range.2 hlt, h1 _ hlt ha⟩, by rw [tailP_eq hT, perN_unique (perOf_spec ha) hp]⟩
theorem tail_ex {f : List UInt8 → List UInt8} {l : List UInt8} : ∀ n, ¬ Fresh f l n → ∃ t p, IsTail f l t p
  | 0, h => absurd (fun i j _ hj => absurd hj (Nat.not_lt_zero _)) h
  | n + 1, h => by
    rcases Classical.em (Fresh f l n) with hf | hf
    · obtain ⟨i, hi, e⟩ : ∃ i, i < n ∧ itr f l i = itr f l n := Classical.byContradiction fun hne => h fun i j hij hj e => by
        rcases Nat.lt_or_ge j n with h1 | h1
        · exact hf i j hij h1 e
        · obtain rfl : j = n := by omega
          exact hne ⟨i, hij, e⟩
      exact ⟨i, n - i, ⟨by omega, by rw [show i + (n - i) = n by omega]; exact e.symm, by rw [show i + (n - i) = n by omega]; exact hf⟩⟩
    · exact tail_ex n hf
theorem tails_all {o : ByteArray} {n m : Nat} (h : RFit o n m) : Tails o n m := fun i _ => by
  refine tail_ex (2 ^ m + 1) fun hf => ?_
  have := fresh_le (k := 2) (L := m) (by omega) (fun q => by
    have hw := ring_words (k := 2) (n := n) (o := o) (l := wAt 2 m i) (by omega) h.n1 h.lo (by rw [h.os]; exact Nat.le_refl _) (wAt_lets (k := 2) (by omega) m i) (by rw [wAt_len]; exact h.m1) q
    rw [wAt_len] at hw
    exact hw) hf
  omega
end Go.Proofs.YtccknookhkahbaaGreat
