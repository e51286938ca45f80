/- How many different values a list holds: plain laws of sorting and of dropping what comes again. No condition. -/
import Derived.Lib.SlicesCompact
namespace Go.Proofs.YtpfeflhcbcgbfaaDoor
open Go.Lib Go.Sort

theorem nodup_le {α : Type} [DecidableEq α] : ∀ (l m : List α), l.Nodup → (∀ x ∈ l, x ∈ m) → l.length ≤ m.length
  | [], _, _, _ => Nat.zero_le _
  | x :: l, m, hd, hs => by
    have hx : x ∈ m := hs x (by simp)
    rw [List.nodup_cons] at hd
    have h1 := nodup_le l (m.erase x) hd.2 (fun y hy => (List.mem_erase_of_ne (fun e : y = x => hd.1 (by rw [← e]; exact hy))).2 (hs y (by simp [hy])))
    rw [List.length_erase_of_mem hx] at h1
    have : 0 < m.length := List.length_pos_of_mem hx
    simp
    omega
theorem nodup_eq {α : Type} [DecidableEq α] {l m : List α} (hl : l.Nodup) (hm : m.Nodup) (h : ∀ x, x ∈ l ↔ x ∈ m) : l.length = m.length :=
  Nat.le_antisymm (nodup_le l m hl fun x hx => (h x).1 hx) (nodup_le m l hm fun x hx => (h x).2 hx)
/-- Of a list in order what is kept are its different values. -/
theorem compactUp_facts {α : Type} [Inhabited α] [DecidableEq α] (le : α → α → Prop) (hanti : ∀ a b, le a b → le b a → a = b) (d : Array α) (hs : ∀ i j, i < j → j < d.size → le d[i]! d[j]!) :
    ∀ m, m ≤ d.size → (compactUpTo d m).Nodup ∧ ∀ x, x ∈ compactUpTo d m ↔ ∃ j, j < m ∧ d[j]! = x
  | 0, _ => by simp [compactUpTo]
  | m + 1, hm => by
    obtain ⟨h1, h2⟩ := compactUp_facts le hanti d hs m (by omega)
    rw [compactUpTo_succ]
    cases hk : keeps d m
    · have hz : m ≠ 0 ∧ d[m]! = d[m - 1]! := by
        unfold keeps at hk
        rw [decide_eq_false_iff_not] at hk
        refine ⟨fun e => hk (Or.inl e), Classical.byContradiction fun e => hk (Or.inr e)⟩
      simp only [Bool.false_eq_true, if_false, List.append_nil]
      refine ⟨h1, fun x => (h2 x).trans ⟨?_, ?_⟩⟩
      · rintro ⟨j, hj, e⟩; exact ⟨j, by omega, e⟩
      · rintro ⟨j, hj, e⟩
        rcases Nat.lt_or_ge j m with h | h
        · exact ⟨j, h, e⟩
        · obtain rfl : j = m := by omega
          exact ⟨j - 1, by omega, by rw [← hz.2]; exact e⟩
    · have hnew : ∀ j, j < m → d[j]! ≠ d[m]! := by
        intro j hj e
        unfold keeps at hk
        rw [decide_eq_true_eq] at hk
        rcases hk with hk | hk
        · omega
        · apply hk
          rcases Nat.lt_or_ge j (m - 1) with h | h
          · have a := hs j (m - 1) h (by omega)
            have b := hs (m - 1) m (by omega) (by omega)
            rw [e] at a
            exact hanti _ _ a b
          · obtain rfl : j = m - 1 := by omega
            exact e.symm
      simp only [if_true]
      refine ⟨List.nodup_append.2 ⟨h1, by simp, fun a ha b hb => ?_⟩, fun x => ?_⟩
      · simp at hb
        obtain ⟨j, hj, e⟩ := (h2 a).1 ha
        rw [hb, ← e]
        exact hnew j hj
      · rw [List.mem_append, h2 x, List.mem_singleton]
        constructor
        · rintro (⟨j, hj, e⟩ | e)
          · exact ⟨j, by omega, e⟩
          · exact ⟨m, by omega, e.symm⟩
        · rintro ⟨j, hj, e⟩
          rcases Nat.lt_or_ge j m with h | h
          · exact Or.inl ⟨j, h, e⟩
          · obtain rfl : j = m := by omega
            exact Or.inr e.symm
theorem compact_facts {α : Type} [Inhabited α] [DecidableEq α] (le : α → α → Prop) (hanti : ∀ a b, le a b → le b a → a = b) (zs : List α) (hs : zs.Pairwise le) :
    (compact zs).Nodup ∧ ∀ x, x ∈ compact zs ↔ x ∈ zs := by
  have h := compactUp_facts le hanti zs.toArray (fun i j hij hj => by
    have hj' : j < zs.length := by simpa using hj
    rw [getElem!_pos _ i (by simp; omega), getElem!_pos _ j hj]
    exact List.pairwise_iff_getElem.1 hs i j (by omega) hj' hij) zs.length (by simp)
  refine ⟨h.1, fun x => (h.2 x).trans ?_⟩
  rw [List.mem_iff_getElem]
  constructor
  · rintro ⟨j, hj, e⟩
    rw [getElem!_pos _ j (by simpa using hj)] at e
    exact ⟨j, hj, by simpa using e⟩
  · rintro ⟨j, hj, e⟩
    refine ⟨j, hj, ?_⟩
    rw [getElem!_pos _ j (by simpa using hj)]
    simpa using e
/-- Sorted, then without what comes again: each value once. -/
def distinct (ss : List (List UInt8)) : List (List UInt8) := compact (ss.mergeSort fun x y => decide (x ≤ y))
theorem distinct_facts (ss : List (List UInt8)) : (distinct ss).Nodup ∧ ∀ x, x ∈ distinct ss ↔ x ∈ ss := by
  have hp := List.pairwise_mergeSort (le := fun x y : List UInt8 => decide (x ≤ y)) (fun a b c h1 h2 => by
    rw [decide_eq_true_eq] at *; exact List.le_trans h1 h2) (fun a b => by
    rw [Bool.or_eq_true, decide_eq_true_eq, decide_eq_true_eq]; exact List.le_total a b) ss
  have h := compact_facts (fun a b : List UInt8 => decide (a ≤ b) = true) (fun a b h1 h2 => by
    rw [decide_eq_true_eq] at *; exact List.le_antisymm h1 h2) _ hp
  exact ⟨h.1, fun x => (h.2 x).trans List.mem_mergeSort⟩
def distinctI (zs : List Int) : List Int := compact (zs.mergeSort fun x y => decide (x ≤ y))
theorem distinctI_facts (zs : List Int) : (distinctI zs).Nodup ∧ ∀ x, x ∈ distinctI zs ↔ x ∈ zs := by
  have hp := List.pairwise_mergeSort (le := fun x y : Int => decide (x ≤ y)) (fun a b c h1 h2 => by
    rw [decide_eq_true_eq] at *; omega) (fun a b => by
    rw [Bool.or_eq_true, decide_eq_true_eq, decide_eq_true_eq]; omega) zs
  have h := compact_facts (fun a b : Int => decide (a ≤ b) = true) (fun a b h1 h2 => by
    rw [decide_eq_true_eq] at *; omega) _ hp
  exact ⟨h.1, fun x => (h.2 x).trans List.mem_mergeSort⟩
end Go.Proofs.YtpfeflhcbcgbfaaDoor
