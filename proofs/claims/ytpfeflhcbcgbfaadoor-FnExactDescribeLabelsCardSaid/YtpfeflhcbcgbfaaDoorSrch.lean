/- The search for the shortest word without a source: sets of ends, letters in order. Plain law. No condition. -/
import Derived.Test.YtpfeflhcbcgbfaaDoorIntsIn
import Derived.Test.YtpfeflhcbcgbfaaDoorNumber
import Derived.Test.YtpfeflhcbcgbfaaDoorAll
namespace Go.Proofs.YtpfeflhcbcgbfaaDoor
open Go.ChangeShapes Go.WideShapes Go.ChangeAt Go.RowKit
open Go.ChangeMaps (open_string shut_string)

/-- A code that came in. -/
def CodeIn (v : Value) : Prop := ∃ k n o, v = .agg #[.int .i64 k, .int .i64 n, .string o] ∧ o.size ≤ maxLen

end Go.Proofs.YtpfeflhcbcgbfaaDoor
namespace Go.Proofs.YtpfeflhcbcgbfaaDoor
open Go.RowKit

def giveB (o : ByteArray) (q : Nat) : UInt8 := o.data.toList.getD q 0
theorem giveB_at {o : ByteArray} {q : Nat} (h : q < o.size) : giveB o q = o[q] := by
  unfold giveB; rw [List.getD_eq_getElem?_getD, byte_at o q h]; rfl
theorem one_ext {o : ByteArray} {q : Nat} (h : q < o.size) : o.extract q (q + 1) = ⟨#[giveB o q]⟩ := by
  rw [giveB_at h]
  have h' : q < o.data.size := h
  apply ByteArray.ext
  rw [ByteArray.data_extract]
  apply Array.ext
  · simp; omega
  · intro i h1 h2
    have hi : i = 0 := by simp at h2; omega
    subst hi
    simp
    rfl
theorem idx_bd {k : Nat} {l : List UInt8} (hl : lets k l = true) (hk : k ≤ 3) : idxOf k l < k ^ l.length := by
  have := idxOf_lt hl hk l.length (Nat.le_refl _)
  rwa [List.take_length] at this

/-- What a code is, as facts. -/
theorem code_facts {k n : Int} {o : ByteArray} (h : isCode k n o = true) : ∃ kk nn : Nat, k = kk ∧ n = nn ∧ (kk = 2 ∨ kk = 3) ∧ (1 ≤ nn ∧ nn ≤ 4) ∧ kk ^ nn ≤ 27 ∧ o.size = kk ^ nn ∧ lets kk o.data.toList = true := by
  simp only [isCode, Bool.and_eq_true, decide_eq_true_eq] at h
  obtain ⟨⟨h1, h2, h3, h4⟩, h5⟩ := h
  obtain ⟨kk, rfl⟩ : ∃ kk : Nat, k = kk := ⟨k.toNat, by omega⟩
  obtain ⟨nn, rfl⟩ : ∃ nn : Nat, n = nn := ⟨n.toNat, by omega⟩
  rw [Int.toNat_natCast, Int.toNat_natCast] at h3 h4
  exact ⟨kk, nn, rfl, rfl, by omega, by omega, h3, h4, h5⟩

end Go.Proofs.YtpfeflhcbcgbfaaDoor
namespace Go.Proofs.YtpfeflhcbcgbfaaDoor
open Go.RowKit

/-- One place of the search: the letters below a tried; what is found, and the list of sets with their words. -/
def srchIn (st : Nat → Nat → Nat) (p : Nat × List UInt8) (xs : List (Nat × List UInt8)) : Nat → Option (List UInt8) × List (Nat × List UInt8)
  | 0 => (none, xs)
  | a + 1 => match srchIn st p xs a with
    | (some r, ys) => (some r, ys)
    | (none, ys) => if st p.1 a = 0 then (some (p.2 ++ [letB a]), ys) else if st p.1 a ∈ ys.map (·.1) then (none, ys) else (none, ys ++ [(st p.1 a, p.2 ++ [letB a])])
/-- The search through the first k places. -/
def srchTo (st : Nat → Nat → Nat) (K full : Nat) : Nat → Option (List UInt8) × List (Nat × List UInt8)
  | 0 => (none, [(full, [])])
  | k + 1 => match srchTo st K full k with
    | (some r, ys) => (some r, ys)
    | (none, ys) => match ys[k]? with
      | some p => srchIn st p ys K
      | none => (none, ys)
/-- The set that a word leads to. -/
def reachW (st : Nat → Nat → Nat) (full : Nat) (w : List UInt8) : Nat := w.foldl (fun s c => st s (c.toNat - 97)) full
theorem reachW_snoc (st : Nat → Nat → Nat) (full : Nat) (w : List UInt8) (c : UInt8) : reachW st full (w ++ [c]) = st (reachW st full w) (c.toNat - 97) := by simp [reachW]
theorem letB_sub {a : Nat} (h : a < 100) : (letB a).toNat - 97 = a := by unfold letB; rw [UInt8.toNat_ofNat']; omega
/-- What holds of a list of sets with their words: each set is what its word leads to, none is empty, the sets are different. -/
structure SrchOk (st : Nat → Nat → Nat) (K full : Nat) (ys : List (Nat × List UInt8)) : Prop where
  reach : ∀ p ∈ ys, reachW st full p.2 = p.1 ∧ p.1 ≠ 0 ∧ ∀ c ∈ p.2, ∃ a, a < K ∧ c = letB a
  new : (ys.map (·.1)).Nodup
  start : (full, []) ∈ ys
theorem srchIn_ok {st : Nat → Nat → Nat} {K full : Nat} (hK : K ≤ 3) {p : Nat × List UInt8} {xs : List (Nat × List UInt8)} (h : SrchOk st K full xs) (hp : p ∈ xs) :
    ∀ a, a ≤ K → match srchIn st p xs a with
      | (some r, _) => reachW st full r = 0 ∧ ∀ c ∈ r, ∃ a, a < K ∧ c = letB a
      | (none, ys) => SrchOk st K full ys ∧ (∃ zs, ys = xs ++ zs) ∧ ∀ b, b < a → st p.1 b ≠ 0 ∧ st p.1 b ∈ ys.map (·.1)
  | 0, _ => ⟨h, ⟨[], by simp⟩, fun b hb => by omega⟩
  | a + 1, ha => by
    have ih := srchIn_ok hK h hp a (by omega)
    unfold srchIn
    cases hs : srchIn st p xs a with
    | mk f ys =>
      rw [hs] at ih
      cases f with
      | some r => exact ih
      | none =>
        obtain ⟨h1, ⟨zs, hz⟩, h3⟩ := ih
        have hpy : p ∈ ys := by rw [hz]; exact List.mem_append_left _ hp
        have hr := h1.reach p hpy
        have hstep : reachW st full (p.2 ++ [letB a]) = st p.1 a := by rw [reachW_snoc, hr.1, letB_sub (by omega)]
        have hlet : ∀ c ∈ p.2 ++ [letB a], ∃ b, b < K ∧ c = letB b := fun c hc => by
          rcases List.mem_append.1 hc with hc | hc
          · exact hr.2.2 c hc
          · exact ⟨a, by omega, by simpa using hc⟩
        simp only
        by_cases h0 : st p.1 a = 0
        · rw [if_pos h0]
          exact ⟨by rw [hstep, h0], hlet⟩
        · rw [if_neg h0]
          by_cases hm : st p.1 a ∈ ys.map (·.1)
          · rw [if_pos hm]
            refine ⟨h1, ⟨zs, hz⟩, fun b hb => ?_⟩
            by_cases hba : b = a
            · rw [hba]; exact ⟨h0, hm⟩
            · exact h3 b (by omega)
          · rw [if_neg hm]
            refine ⟨⟨fun q hq => ?_, ?_, List.mem_append_left _ h1.start⟩, ⟨zs ++ [(st p.1 a, p.2 ++ [letB a])], by rw [hz, List.append_assoc]⟩, fun b hb => ?_⟩
            · rcases List.mem_append.1 hq with hq | hq
              · exact h1.reach q hq
              · simp at hq
                subst hq
                exact ⟨hstep, h0, hlet⟩
            · rw [List.map_append, List.nodup_append]
              refine ⟨h1.new, by simp, fun x hx y hy => ?_⟩
              simp at hy
              subst hy
              exact fun e => hm (e ▸ hx)
            · by_cases hba : b = a
              · rw [hba]; exact ⟨h0, by simp⟩
              · have := h3 b (by omega)
                exact ⟨this.1, by rw [List.map_append]; exact List.mem_append_left _ this.2⟩
theorem srchTo_ok {st : Nat → Nat → Nat} {K full : Nat} (hK : K ≤ 3) (hf : full ≠ 0) : ∀ k, match srchTo st K full k with
      | (some r, _) => reachW st full r = 0 ∧ ∀ c ∈ r, ∃ a, a < K ∧ c = letB a
      | (none, ys) => SrchOk st K full ys ∧ ∀ q, q < k → ∀ p, ys[q]? = some p → ∀ b, b < K → st p.1 b ≠ 0 ∧ st p.1 b ∈ ys.map (·.1)
  | 0 => ⟨⟨fun p hp => by
      simp at hp
      subst hp
      exact ⟨rfl, hf, fun c hc => by cases hc⟩, by simp, by simp⟩, fun q hq => by omega⟩
  | k + 1 => by
    have ih := srchTo_ok (st := st) hK hf k
    unfold srchTo
    cases hs : srchTo st K full k with
    | mk f ys =>
      rw [hs] at ih
      cases f with
      | some r => exact ih
      | none =>
        obtain ⟨h1, h2⟩ := ih
        simp only
        cases hg : ys[k]? with
        | none =>
          refine ⟨h1, fun q hq p hp => ?_⟩
          by_cases hqk : q = k
          · rw [hqk, hg] at hp; cases hp
          · exact h2 q (by omega) p hp
        | some p =>
          have h3 := srchIn_ok hK h1 (List.mem_of_getElem? hg) K (Nat.le_refl _)
          simp only
          cases hr : srchIn st p ys K with
          | mk f' zs =>
            rw [hr] at h3
            cases f' with
            | some r => exact h3
            | none =>
              obtain ⟨h4, ⟨us, hu⟩, h5⟩ := h3
              refine ⟨h4, fun q hq p' hp' => ?_⟩
              have hl : k < ys.length := (List.getElem?_eq_some_iff.1 hg).1
              rw [hu, List.getElem?_append_left (by omega)] at hp'
              by_cases hqk : q = k
              · subst hqk
                rw [hg] at hp'
                injection hp' with hp'
                subst hp'
                exact h5
              · intro b hb
                have := h2 q (by omega) p' hp' b hb
                exact ⟨this.1, by rw [hu, List.map_append]; exact List.mem_append_left _ this.2⟩
/-- Nothing found: no word of the letters leads to the empty set. -/
theorem srch_none {st : Nat → Nat → Nat} {K full : Nat} (hK : K ≤ 3) (hf : full ≠ 0) {k : Nat} {ys : List (Nat × List UInt8)} (h : srchTo st K full k = (none, ys)) (hk : ys.length ≤ k) (w : List UInt8) (hw : ∀ c ∈ w, ∃ a, a < K ∧ c = letB a) : reachW st full w ≠ 0 := by
  have h0 := srchTo_ok (st := st) hK hf k
  rw [h] at h0
  obtain ⟨h1, h2⟩ := h0
  have hcl : ∀ s, s ∈ ys.map (·.1) → s ≠ 0 ∧ ∀ b, b < K → st s b ≠ 0 ∧ st s b ∈ ys.map (·.1) := fun s hs => by
    obtain ⟨p, hp, rfl⟩ := List.mem_map.1 hs
    obtain ⟨q, hq, e⟩ := List.getElem_of_mem hp
    exact ⟨(h1.reach p hp).2.1, h2 q (by omega) p (List.getElem?_eq_some_iff.2 ⟨hq, e⟩)⟩
  have key : ∀ (w : List UInt8) (s : Nat), s ∈ ys.map (·.1) → (∀ c ∈ w, ∃ a, a < K ∧ c = letB a) → w.foldl (fun s c => st s (c.toNat - 97)) s ∈ ys.map (·.1) := fun w => by
    induction w with
    | nil => intro s hs _; exact hs
    | cons c w ih =>
      intro s hs hw
      obtain ⟨a, ha, hc⟩ := hw c (by simp)
      show w.foldl _ (st s (c.toNat - 97)) ∈ _
      refine ih _ ?_ fun d hd => hw d (by simp [hd])
      rw [hc, letB_sub (by omega)]
      exact ((hcl s hs).2 a ha).2
  exact (hcl _ (key w full (List.mem_map.2 ⟨_, h1.start, rfl⟩) hw)).1
theorem srch_some {st : Nat → Nat → Nat} {K full : Nat} (hK : K ≤ 3) (hf : full ≠ 0) {k : Nat} {r : List UInt8} {ys : List (Nat × List UInt8)} (h : srchTo st K full k = (some r, ys)) : reachW st full r = 0 ∧ ∀ c ∈ r, ∃ a, a < K ∧ c = letB a := by
  have h0 := srchTo_ok (st := st) hK hf k
  rw [h] at h0
  exact h0
def bitOn (s v : Nat) : Bool := decide (s / 2 ^ v % 2 = 1)
theorem bitOn_test (s v : Nat) : bitOn s v = s.testBit v := by unfold bitOn; rw [Nat.testBit_eq_decide_div_mod_eq]
/-- The ends reached with a letter from the end v, of a set s, by the first x letters. -/
def stX (o : ByteArray) (L n a s v : Nat) : Nat → Nat → Nat
  | 0, acc => acc
  | x + 1, acc => if (bitOn s v && decide (giveB o (v * L + x) = letB a)) = true then stX o L n a s v x acc ||| 2 ^ ((v * L + x) % n) else stX o L n a s v x acc
def stV (o : ByteArray) (L n a s : Nat) : Nat → Nat
  | 0 => 0
  | v + 1 => stX o L n a s v L (stV o L n a s v)
/-- The set of ends reached from a set with a letter. -/
def stepS (o : ByteArray) (L n s a : Nat) : Nat := stV o L n a s n
theorem stX_bit {o : ByteArray} {L n a s v acc j : Nat} : ∀ {x : Nat}, (stX o L n a s v x acc).testBit j = true ↔ acc.testBit j = true ∨ (s.testBit v = true ∧ ∃ y, y < x ∧ giveB o (v * L + y) = letB a ∧ (v * L + y) % n = j)
  | 0 => by simp [stX]
  | x + 1 => by
    unfold stX
    rw [bitOn_test]
    by_cases h : (s.testBit v && decide (giveB o (v * L + x) = letB a)) = true
    · rw [if_pos h, Nat.testBit_or, Nat.testBit_two_pow, Bool.or_eq_true, stX_bit, decide_eq_true_eq]
      rw [Bool.and_eq_true, decide_eq_true_eq] at h
      constructor
      · rintro ((h1 | ⟨h1, y, hy, h2⟩) | h1)
        · exact .inl h1
        · exact .inr ⟨h1, y, by omega, h2⟩
        · exact .inr ⟨h.1, x, by omega, h.2, h1⟩
      · rintro (h1 | ⟨h1, y, hy, h2, h3⟩)
        · exact .inl (.inl h1)
        · by_cases hyx : y = x
          · subst hyx; exact .inr h3
          · exact .inl (.inr ⟨h1, y, by omega, h2, h3⟩)
    · rw [if_neg h, stX_bit]
      rw [Bool.and_eq_true, decide_eq_true_eq] at h
      constructor
      · rintro (h1 | ⟨h1, y, hy, h2⟩)
        · exact .inl h1
        · exact .inr ⟨h1, y, by omega, h2⟩
      · rintro (h1 | ⟨h1, y, hy, h2, h3⟩)
        · exact .inl h1
        · by_cases hyx : y = x
          · subst hyx; exact absurd ⟨h1, h2⟩ h
          · exact .inr ⟨h1, y, by omega, h2, h3⟩
theorem stV_bit {o : ByteArray} {L n a s j : Nat} : ∀ {m : Nat}, (stV o L n a s m).testBit j = true ↔ ∃ v y, v < m ∧ y < L ∧ s.testBit v = true ∧ giveB o (v * L + y) = letB a ∧ (v * L + y) % n = j
  | 0 => by simp [stV]
  | m + 1 => by
    unfold stV
    rw [stX_bit, stV_bit]
    constructor
    · rintro (⟨v, y, hv, hy, h⟩ | ⟨h1, y, hy, h2⟩)
      · exact ⟨v, y, by omega, hy, h⟩
      · exact ⟨m, y, by omega, hy, h1, h2⟩
    · rintro ⟨v, y, hv, hy, h1, h2⟩
      by_cases hvm : v = m
      · subst hvm; exact .inr ⟨h1, y, hy, h2⟩
      · exact .inl ⟨v, y, by omega, hy, h1, h2⟩
theorem stX_lt {o : ByteArray} {L n a s v acc : Nat} (hn : 0 < n) (h : acc < 2 ^ n) : ∀ x, stX o L n a s v x acc < 2 ^ n
  | 0 => h
  | x + 1 => by
    unfold stX
    have ih := stX_lt (o := o) (L := L) (a := a) (s := s) (v := v) hn h x
    split
    · exact Nat.or_lt_two_pow ih (Nat.pow_lt_pow_right (by omega) (Nat.mod_lt _ hn))
    · exact ih
theorem stV_lt {o : ByteArray} {L n a s : Nat} (hn : 0 < n) : ∀ m, stV o L n a s m < 2 ^ n
  | 0 => Nat.pow_pos (by omega)
  | m + 1 => stX_lt hn (stV_lt hn m) L
theorem stepS_lt {o : ByteArray} {L n s a : Nat} (hn : 0 < n) : stepS o L n s a < 2 ^ n := stV_lt hn n
theorem ne_zero_bit {s n : Nat} (h : s < 2 ^ n) : s ≠ 0 ↔ ∃ j, j < n ∧ s.testBit j = true := by
  constructor
  · intro h0
    refine Classical.byContradiction fun hne => h0 ?_
    refine Nat.eq_of_testBit_eq fun i => ?_
    rw [Nat.zero_testBit]
    cases hi : s.testBit i
    · rfl
    · by_cases hin : i < n
      · exact absurd ⟨i, hin, hi⟩ hne
      · rw [Nat.testBit_lt_two_pow (Nat.lt_of_lt_of_le h (Nat.pow_le_pow_right (by omega) (by omega)))] at hi
        cases hi
  · rintro ⟨j, _, hj⟩ rfl
    rw [Nat.zero_testBit] at hj; cases hj
end Go.Proofs.YtpfeflhcbcgbfaaDoor
