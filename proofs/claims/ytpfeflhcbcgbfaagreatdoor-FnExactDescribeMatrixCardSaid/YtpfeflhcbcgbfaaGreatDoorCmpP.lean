/- What reaches what is closed; components counted: plain laws. -/
import Derived.Test.YtpfeflhcbcgbfaaGreatDoorReach
namespace Go.Proofs.YtpfeflhcbcgbfaaGreatDoor
open Go.RowKit
theorem iter_ind {α : Type} {f : Nat → α → α} {P : Nat → α → Prop} {n : Nat} (h : ∀ k a, k < n → P k a → P (k + 1) (f k a)) : ∀ j, j ≤ n → ∀ a, P 0 a → P j (iter f j a)
  | 0, _, a, h0 => h0
  | j + 1, hj, a, h0 => by
    have := h j (iter f j a) (by omega) (iter_ind h j (by omega) a h0)
    exact this
def wrV (s : List (List Int)) (k p q : Nat) : Int := max (at2 s p q) (min (at2 s p k) (at2 s k q))
def wrH (s : List (List Int)) (k i j p q : Nat) : Int := if p < i ∨ (p = i ∧ q < j) then wrV s k p q else at2 s p q
theorem wrH_k1 (s : List (List Int)) (k i j p : Nat) : wrH s k i j p k = at2 s p k := by
  unfold wrH wrV
  split <;> omega
theorem wrH_k2 (s : List (List Int)) (k i j q : Nat) : wrH s k i j k q = at2 s k q := by
  unfold wrH wrV
  split <;> omega
theorem wrCell_at {s : List (List Int)} {n k i : Nat} (hk : k < n) (hi : i < n) : ∀ j a, j < n → (Rect a n n ∧ ∀ p q, p < n → q < n → at2 a p q = wrH s k i j p q) → (Rect (wrCell k i j a) n n ∧ ∀ p q, p < n → q < n → at2 (wrCell k i j a) p q = wrH s k i (j + 1) p q) := by
  rintro j a hj ⟨hR, ha⟩
  unfold wrCell
  refine ⟨hR.put2 _ _ _, fun p q hp hq => ?_⟩
  by_cases e : i = p ∧ j = q
  · obtain ⟨rfl, rfl⟩ := e
    rw [put2_same hR hi hj, ha i j hi hj, ha i k hi hk, ha k j hk hj, wrH_k1, wrH_k2]
    unfold wrH
    rw [if_neg (by omega), if_pos (by omega)]
    rfl
  · rw [put2_other _ (by omega), ha p q hp hq]
    unfold wrH
    by_cases h2 : p < i ∨ (p = i ∧ q < j)
    · rw [if_pos h2, if_pos (by omega)]
    · rw [if_neg h2, if_neg (by omega)]
theorem wrRow_at {s : List (List Int)} {n k : Nat} (hk : k < n) : ∀ i a, i < n → (Rect a n n ∧ ∀ p q, p < n → q < n → at2 a p q = wrH s k i 0 p q) → (Rect (wrRow n k i a) n n ∧ ∀ p q, p < n → q < n → at2 (wrRow n k i a) p q = wrH s k (i + 1) 0 p q) := by
  rintro i a hi h
  have h2 := iter_ind (f := wrCell k i) (P := fun j a => Rect a n n ∧ ∀ p q, p < n → q < n → at2 a p q = wrH s k i j p q) (n := n) (fun j a hj ha => wrCell_at hk hi j a hj ha) n (Nat.le_refl _) a h
  refine ⟨h2.1, fun p q hp hq => ?_⟩
  have h3 := h2.2 p q hp hq
  unfold wrRow
  rw [h3]
  unfold wrH
  by_cases h4 : p < i ∨ (p = i ∧ q < n)
  · rw [if_pos h4, if_pos (by omega)]
  · rw [if_neg h4, if_neg (by omega)]
theorem wrTab_at {s : List (List Int)} {n k : Nat} (hk : k < n) (hR : Rect s n n) : Rect (wrTab n k s) n n ∧ ∀ p q, p < n → q < n → at2 (wrTab n k s) p q = wrV s k p q := by
  have h := iter_ind (f := wrRow n k) (P := fun i a => Rect a n n ∧ ∀ p q, p < n → q < n → at2 a p q = wrH s k i 0 p q) (n := n) (fun i a hi ha => wrRow_at hk i a hi ha) n (Nat.le_refl _) s ⟨hR, fun p q _ _ => by unfold wrH; rw [if_neg (by omega)]⟩
  refine ⟨h.1, fun p q hp hq => ?_⟩
  have h3 := h.2 p q hp hq
  unfold wrTab
  rw [h3]
  unfold wrH
  rw [if_pos (by omega)]
def TR (n k : Nat) (s : List (List Int)) : Prop := Bits s n ∧ ∀ m i j, m < k → i < n → j < n → at2 s i m = 1 → at2 s m j = 1 → at2 s i j = 1
theorem TR_step {n k : Nat} {s : List (List Int)} (hk : k < n) (h : TR n k s) : TR n (k + 1) (wrTab n k s) := by
  obtain ⟨hb, ht⟩ := h
  have hw := wrTab_at hk hb.rect
  have hb2 : Bits (wrTab n k s) n := wrRow_bits hk hb n (Nat.le_refl _)
  refine ⟨hb2, fun m i j hm hi hj h1 h2 => ?_⟩
  have hmn : m < n := by omega
  rw [hw.2 i m hi hmn] at h1
  rw [hw.2 m j hmn hj] at h2
  rw [hw.2 i j hi hj]
  unfold wrV at *
  have bij := hb.bit i j hi hj
  have bik := hb.bit i k hi hk
  have bkj := hb.bit k j hk hj
  have bim := hb.bit i m hi hmn
  have bkm := hb.bit k m hk hmn
  have bmk := hb.bit m k hmn hk
  have bmj := hb.bit m j hmn hj
  have bkk := hb.bit k k hk hk
  by_cases hmk : m < k
  · have t1 := ht m i j hmk hi hj
    have t2 := ht m i k hmk hi hk
    have t3 := ht m k j hmk hk hj
    omega
  · have : m = k := by omega
    subst this
    omega
theorem reach_trans {M : List (List Int)} {n : Nat} (hM : ∀ i j, i < n → j < n → 0 ≤ at2 M i j) {i m j : Nat} (hi : i < n) (hm : m < n) (hj : j < n) (h1 : at2 (reachOf M n) i m = 1) (h2 : at2 (reachOf M n) m j = 1) : at2 (reachOf M n) i j = 1 :=
  (iter_ind (f := wrTab n) (P := fun k s => TR n k s) (n := n) (fun k a hk ha => TR_step hk ha) n (Nat.le_refl _) (bitTab M n) ⟨bitTab_bits hM, fun m i j hm => by omega⟩).2 m i j hm hi hj h1 h2
/-! Components. -/
def mutB (R : List (List Int)) (i j : Nat) : Bool := decide (at2 R i j = 1) && decide (at2 R j i = 1)
def leadB (R : List (List Int)) (i : Nat) : Bool := mutB R i i && (List.range i).all fun j => !mutB R i j
def cmpN (R : List (List Int)) (j : Nat) : Nat := ((List.range j).filter (leadB R)).length
def seenR (R : List (List Int)) (i j : Nat) : Bool := (List.range i).any fun k => leadB R k && mutB R k j
theorem mut_symm (R : List (List Int)) (i j : Nat) : mutB R i j = mutB R j i := by
  unfold mutB
  exact Bool.and_comm _ _
theorem mut_iff {R : List (List Int)} {i j : Nat} : mutB R i j = true ↔ at2 R i j = 1 ∧ at2 R j i = 1 := by
  unfold mutB
  rw [Bool.and_eq_true, decide_eq_true_iff, decide_eq_true_iff]
theorem mut_trans {M : List (List Int)} {n i j k : Nat} (hM : ∀ i j, i < n → j < n → 0 ≤ at2 M i j) (hi : i < n) (hj : j < n) (hk : k < n) (h1 : mutB (reachOf M n) i j = true) (h2 : mutB (reachOf M n) j k = true) : mutB (reachOf M n) i k = true := by
  rw [mut_iff] at *
  exact ⟨reach_trans hM hi hj hk h1.1 h2.1, reach_trans hM hk hj hi h2.2 h1.2⟩
theorem lead_iff {R : List (List Int)} {i : Nat} : leadB R i = true ↔ mutB R i i = true ∧ ∀ j, j < i → mutB R i j = false := by
  unfold leadB
  rw [Bool.and_eq_true, List.all_eq_true]
  constructor
  · rintro ⟨h1, h2⟩
    exact ⟨h1, fun j hj => by have := h2 j (List.mem_range.2 hj); simpa using this⟩
  · rintro ⟨h1, h2⟩
    exact ⟨h1, fun j hj => by rw [h2 j (List.mem_range.1 hj)]; rfl⟩
theorem seen_lead {M : List (List Int)} {n : Nat} (hM : ∀ i j, i < n → j < n → 0 ≤ at2 M i j) : ∀ i, i < n → (!seenR (reachOf M n) i i && mutB (reachOf M n) i i) = leadB (reachOf M n) i := by
  intro i hi
  rw [Bool.eq_iff_iff, Bool.and_eq_true, lead_iff]
  constructor
  · rintro ⟨h1, h2⟩
    refine ⟨h2, fun j hj => ?_⟩
    cases hm : mutB (reachOf M n) i j with
    | false => rfl
    | true =>
      exfalso
      have hex : ∃ k, k < i ∧ mutB (reachOf M n) i k = true := ⟨j, hj, hm⟩
      have hmin : ∃ k, (k < i ∧ mutB (reachOf M n) i k = true) ∧ ∀ k', k' < k → ¬ (k' < i ∧ mutB (reachOf M n) i k' = true) := by
        obtain ⟨k, hk⟩ := hex
        induction k using Nat.strongRecOn with
        | _ k ih =>
          by_cases hc : ∃ k', k' < k ∧ (k' < i ∧ mutB (reachOf M n) i k' = true)
          · obtain ⟨k', hk1, hk2⟩ := hc
            exact ih k' hk1 hk2
          · exact ⟨k, hk, fun k' hk' hp => hc ⟨k', hk', hp⟩⟩
      obtain ⟨k, ⟨hk, hmk⟩, hleast⟩ := hmin
      have hkn : k < n := by omega
      have hks : mutB (reachOf M n) k i = true := by rw [mut_symm]; exact hmk
      have hlead : leadB (reachOf M n) k = true := lead_iff.2 ⟨mut_trans hM hkn hi hkn hks hmk, fun l hl => by
        cases hml : mutB (reachOf M n) k l with
        | false => rfl
        | true => exact absurd ⟨by omega, mut_trans hM hi hkn (by omega) hmk hml⟩ (hleast l hl)⟩
      have hs : seenR (reachOf M n) i i = true := List.any_eq_true.2 ⟨k, List.mem_range.2 hk, by rw [hlead, hks]; rfl⟩
      rw [hs] at h1
      cases h1
  · rintro ⟨h1, h2⟩
    refine ⟨?_, h1⟩
    cases hs : seenR (reachOf M n) i i with
    | false => rfl
    | true =>
      exfalso
      obtain ⟨k, hk, hkk⟩ := List.any_eq_true.1 hs
      rw [Bool.and_eq_true] at hkk
      have := h2 k (List.mem_range.1 hk)
      rw [mut_symm] at this
      rw [this] at hkk
      cases hkk.2
theorem cmpN_yes {R : List (List Int)} {j : Nat} (h : leadB R j = true) : cmpN R (j + 1) = cmpN R j + 1 := by simp [cmpN, List.range_succ, List.filter_append, h]
theorem cmpN_no {R : List (List Int)} {j : Nat} (h : leadB R j = false) : cmpN R (j + 1) = cmpN R j := by simp [cmpN, List.range_succ, List.filter_append, h]
theorem cmpN_le (R : List (List Int)) (j : Nat) : cmpN R j ≤ j := by
  have := List.length_filter_le (leadB R) (List.range j)
  rw [List.length_range] at this
  exact this
/-- The row of those mutual with a vertex: its first one. -/
def mutL (R : List (List Int)) (i j : Nat) : List Nat := (List.range j).filter (mutB R i)
theorem mutL_yes {R : List (List Int)} {i j : Nat} (h : mutB R i j = true) : mutL R i (j + 1) = mutL R i j ++ [j] := by simp [mutL, List.range_succ, List.filter_append, h]
theorem mutL_no {R : List (List Int)} {i j : Nat} (h : mutB R i j = false) : mutL R i (j + 1) = mutL R i j := by simp [mutL, List.range_succ, List.filter_append, h]
theorem mutL_le (R : List (List Int)) (i j : Nat) : (mutL R i j).length ≤ j := by
  have := List.length_filter_le (mutB R i) (List.range j)
  rw [List.length_range] at this
  exact this
theorem mutL_lead {R : List (List Int)} {i n : Nat} (hi : i < n) : leadB R i = decide ((mutL R i n)[0]? = some i) := by
  rw [Bool.eq_iff_iff, lead_iff, decide_eq_true_iff]
  unfold mutL
  rw [← List.head?_eq_getElem?, List.head?_filter, List.find?_range_eq_some]
  constructor
  · rintro ⟨h1, h2⟩
    exact ⟨h1, List.mem_range.2 hi, fun j hj => by rw [h2 j hj]; rfl⟩
  · rintro ⟨h1, _, h2⟩
    exact ⟨h1, fun j hj => by have := h2 j hj; simpa using this⟩
end Go.Proofs.YtpfeflhcbcgbfaaGreatDoor
