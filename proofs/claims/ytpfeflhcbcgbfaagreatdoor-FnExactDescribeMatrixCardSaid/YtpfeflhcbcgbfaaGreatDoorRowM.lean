/- A row more, wherever it lies; all values of a list by a function that may have none. No condition. -/
import Derived.Test.YtpfeflhcbcgbfaaGreatDoorZero
namespace Go.Proofs.YtpfeflhcbcgbfaaGreatDoor
open Go.RowKit

theorem below_none {w w' : World} (h : Below w.heap.size w w') : w.grownBy w' none := ⟨h.os, h.tape, h.output, h.size, fun k hk _ => h.block k hk⟩
/-- A row more, that lies where the rows ahead of it do not. -/
theorem TRows.moreAt {T0 : TypeId} {w w' : World} {base c g0 : Nat} {vs : List Value} {rows : List (List Int)} {r : List Int} (h : TRows T0 w base vs rows) (hg : w.grownBy w' none) (hg0 : w.heap.size ≤ g0) (ho : w'.ownsRow base T0 1 (.slice (some ⟨g0, 0, none⟩) r.length c) r.length (intVals r)) :
    TRows T0 w' base (vs ++ [.slice (some ⟨g0, 0, none⟩) r.length c]) (rows ++ [r]) := by
  have hlen := h.len
  refine ⟨by simp [hlen], fun i x r' hx hr => ?_, fun i j x y g hx hy hgx hgy => ?_⟩
  · by_cases hi : i < vs.length
    · rw [List.getElem?_append_left hi] at hx
      rw [List.getElem?_append_left (by omega)] at hr
      exact (h.own i x r' hx hr).kept hg (by cases hv : x.ownBlock <;> simp)
    · rw [List.getElem?_append_right (by omega)] at hx
      rw [List.getElem?_append_right (by omega)] at hr
      have hi0 : i - vs.length = 0 := by
        rcases Nat.eq_zero_or_pos (i - vs.length) with h0 | h0
        · exact h0
        · rw [List.getElem?_eq_none (by simp; omega)] at hx; cases hx
      rw [hi0] at hx
      rw [← hlen, hi0] at hr
      simp only [List.getElem?_cons_zero, Option.some.injEq] at hx hr
      subst hx hr
      exact ho
  · have key : ∀ k z, (vs ++ [Value.slice (some ⟨g0, 0, none⟩) r.length c])[k]? = some z → z.ownBlock = some g → (k < vs.length ∧ vs[k]? = some z ∧ g < w.heap.size) ∨ (k = vs.length ∧ g = g0) := by
      intro k z hz hzg
      by_cases hk : k < vs.length
      · rw [List.getElem?_append_left hk] at hz
        obtain ⟨r2, hr2⟩ := get_some (l := rows) (n := k) (by omega)
        exact Or.inl ⟨hk, hz, ((h.own k z r2 hz hr2).lt g hzg).2⟩
      · rw [List.getElem?_append_right (by omega)] at hz
        have hi0 : k - vs.length = 0 := by
          rcases Nat.eq_zero_or_pos (k - vs.length) with h0 | h0
          · exact h0
          · rw [List.getElem?_eq_none (by simp; omega)] at hz; cases hz
        rw [hi0] at hz
        simp only [List.getElem?_cons_zero, Option.some.injEq] at hz
        subst hz
        simp only [Value.ownBlock, Option.some.injEq] at hzg
        exact Or.inr ⟨by omega, hzg.symm⟩
    rcases key i x hx hgx with ⟨h1, h2, h3⟩ | ⟨h1, h2⟩ <;> rcases key j y hy hgy with ⟨h4, h5, h6⟩ | ⟨h4, h5⟩
    · exact h.apart i j x y g h2 h5 hgx hgy
    · omega
    · omega
    · omega
/-- All values of a list by a function, if it has one for each. -/
def allO {α β : Type} (f : α → Option β) : List α → Option (List β)
  | [] => some []
  | x :: xs => match f x, allO f xs with
    | some y, some ys => some (y :: ys)
    | _, _ => none
theorem allO_snoc {α β : Type} {f : α → Option β} {x : α} {y : β} : ∀ {l : List α} {ys : List β}, allO f l = some ys → f x = some y → allO f (l ++ [x]) = some (ys ++ [y])
  | [], ys, h, hy => by
    simp only [allO, Option.some.injEq] at h
    subst h
    simp [allO, hy]
  | z :: l, ys, h, hy => by
    simp only [allO] at h
    cases hz : f z with
    | none => rw [hz] at h; simp at h
    | some u =>
      rw [hz] at h
      cases hl : allO f l with
      | none => rw [hl] at h; simp at h
      | some us =>
        rw [hl] at h
        simp only [Option.some.injEq] at h
        subst h
        have := allO_snoc hl hy
        simp [allO, hz, this]
theorem allO_bad {α β : Type} {f : α → Option β} {x : α} (hx : f x = none) : ∀ {l : List α}, x ∈ l → allO f l = none
  | z :: l, h => by
    rcases List.mem_cons.1 h with e | h
    · subst e
      simp [allO, hx]
    · have := allO_bad hx h
      simp only [allO]
      rw [this]
      cases f z <;> rfl
theorem allO_len {α β : Type} {f : α → Option β} : ∀ {l : List α} {ys : List β}, allO f l = some ys → ys.length = l.length
  | [], ys, h => by simp only [allO, Option.some.injEq] at h; subst h; rfl
  | z :: l, ys, h => by
    simp only [allO] at h
    cases hz : f z with
    | none => rw [hz] at h; simp at h
    | some u =>
      rw [hz] at h
      cases hl : allO f l with
      | none => rw [hl] at h; simp at h
      | some us =>
        rw [hl] at h
        simp only [Option.some.injEq] at h
        subst h
        have := allO_len hl
        simp [this]
theorem allO_take {α β : Type} {f : α → Option β} {l : List α} {j : Nat} {x : α} {y : β} {ys : List β} (h : allO f (l.take j) = some ys) (hx : l[j]? = some x) (hy : f x = some y) : allO f (l.take (j + 1)) = some (ys ++ [y]) := by
  rw [List.take_add_one, hx]
  exact allO_snoc h hy
theorem allO_at {α β : Type} {f : α → Option β} : ∀ {l : List α} {ys : List β} {i : Nat} {x : α} {y : β}, allO f l = some ys → l[i]? = some x → ys[i]? = some y → f x = some y
  | [], _, _, _, _, _, hx, _ => by simp at hx
  | z :: l, ys, i, x, y, h, hx, hy => by
    simp only [allO] at h
    cases hz : f z with
    | none => rw [hz] at h; simp at h
    | some u =>
      rw [hz] at h
      cases hl : allO f l with
      | none => rw [hl] at h; simp at h
      | some us =>
        rw [hl] at h
        simp only [Option.some.injEq] at h
        subst h
        match i with
        | 0 =>
          simp at hx hy
          rw [← hx, ← hy]
          exact hz
        | i + 1 => exact allO_at hl (by simpa using hx) (by simpa using hy)
end Go.Proofs.YtpfeflhcbcgbfaaGreatDoor
