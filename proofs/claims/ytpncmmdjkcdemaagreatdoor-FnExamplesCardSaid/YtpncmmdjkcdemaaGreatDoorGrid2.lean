/- Marks in tables of the call's own. Conditions: sizes within the reach. -/
import Derived.Test.YtpncmmdjkcdemaaGreatDoorGrid
namespace Go.Proofs.YtpncmmdjkcdemaaGreatDoor
open Go.RowKit

def markRow (k n : Nat) : List Int := (List.range n).map fun i => ((k + i : Nat) : Int)
theorem markRow_len (k n : Nat) : (markRow k n).length = n := by simp [markRow]
theorem markRow_vals (k n : Nat) : intVals (markRow k n) = marks k n := by simp [intVals, markRow, marks]
def cells (rows : List (List Int)) : Nat := (rows.map List.length).sum
def markTab : Nat → List (List Int) → List (List Int)
  | _, [] => []
  | k, r :: rs => markRow k r.length :: markTab (k + r.length) rs
theorem markTab_len (rows : List (List Int)) : ∀ k, (markTab k rows).length = rows.length := by
  induction rows with
  | nil => intro k; rfl
  | cons r rs ih => intro k; simp [markTab, ih]
theorem markTab_snoc (rs : List (List Int)) (r : List Int) : ∀ k, markTab k (rs ++ [r]) = markTab k rs ++ [markRow (k + cells rs) r.length] := by
  induction rs with
  | nil => intro k; simp [markTab, cells]
  | cons q qs ih => intro k; simp [markTab, ih, cells, Nat.add_assoc]
theorem cells_take {rows : List (List Int)} {i : Nat} {r : List Int} (h : rows[i]? = some r) : cells (rows.take (i + 1)) = cells (rows.take i) + r.length := by
  rw [List.take_add_one, h]; simp [cells]
theorem cells_le (rows : List (List Int)) (i : Nat) : cells (rows.take i) ≤ cells rows := by
  have := congrArg cells (List.take_append_drop i rows)
  simp only [cells, List.map_append, List.sum_append] at this ⊢
  omega
theorem cells_row {rows : List (List Int)} {i : Nat} {r : List Int} (h : rows[i]? = some r) : cells (rows.take i) + r.length ≤ cells rows := by
  have := cells_take h
  have := cells_le rows (i + 1)
  omega
def mt (k : Nat) (rows : List (List Int)) (i : Nat) : List (List Int) := markTab k (rows.take i) ++ rows.drop i
theorem mt_zero (k : Nat) (rows : List (List Int)) : mt k rows 0 = rows := by simp [mt, markTab]
theorem mt_all (k : Nat) (rows : List (List Int)) : mt k rows rows.length = markTab k rows := by simp [mt]
theorem mt_pre {rows : List (List Int)} {i : Nat} {r : List Int} (h : rows[i]? = some r) (k : Nat) : (markTab k (rows.take i)).length = i := by
  have hl : i < rows.length := by
    rcases Nat.lt_or_ge i rows.length with h1 | h1
    · exact h1
    · rw [List.getElem?_eq_none h1] at h; cases h
  rw [markTab_len]; simp; omega
theorem mt_get {rows : List (List Int)} {i : Nat} {r : List Int} (h : rows[i]? = some r) (k : Nat) : (mt k rows i)[i]? = some r := by
  have hl := mt_pre h k
  unfold mt
  rw [List.getElem?_append_right (by omega), hl, Nat.sub_self, List.getElem?_drop]
  simpa using h
theorem mt_step {rows : List (List Int)} {i : Nat} {r : List Int} (h : rows[i]? = some r) (k : Nat) : (mt k rows i).set i (markRow (k + cells (rows.take i)) r.length) = mt k rows (i + 1) := by
  have hl := mt_pre h k
  have hlt : i < rows.length := by
    rcases Nat.lt_or_ge i rows.length with h1 | h1
    · exact h1
    · rw [List.getElem?_eq_none h1] at h; cases h
  unfold mt
  rw [List.set_append_right _ _ (by omega), hl, Nat.sub_self, List.take_add_one, h]
  have hd : rows.drop i = rows[i] :: rows.drop (i + 1) := List.drop_eq_getElem_cons hlt
  rw [hd, List.set_cons_zero]
  simp [markTab_snoc]
theorem markTab_get {rows : List (List Int)} {i : Nat} {r : List Int} (h : rows[i]? = some r) (k : Nat) : (markTab k rows)[i]? = some (markRow (k + cells (rows.take i)) r.length) := by
  induction rows generalizing i k with
  | nil => simp at h
  | cons q qs ih =>
    match i with
    | 0 => simp at h; subst h; simp [markTab, cells]
    | i + 1 =>
      simp only [List.getElem?_cons_succ] at h
      simp only [markTab, List.getElem?_cons_succ, ih h, List.take_succ_cons]
      simp [cells, Nat.add_assoc]

/-- A row changed by a callee. -/
theorem TRows.changed {T0 : TypeId} {w w' : World} {base i : Nat} {vs : List Value} {rows : List (List Int)} {r r' : List Int} {x : Value} (h : TRows T0 w base vs rows) (hr : rows[i]? = some r) (hx : vs[i]? = some x)
    (hg : w.grownBy w' x.ownBlock) (ho : w'.ownsRow base T0 1 x r'.length (intVals r')) : TRows T0 w' base vs (rows.set i r') := by
  refine ⟨by simp [h.len], fun k y q hy hq => ?_, h.apart⟩
  by_cases hk : k = i
  · subst hk
    rw [hx] at hy
    simp only [Option.some.injEq] at hy
    subst hy
    rw [List.getElem?_set] at hq
    have hl : k < rows.length := by
      rcases Nat.lt_or_ge k rows.length with h1 | h1
      · exact h1
      · rw [List.getElem?_eq_none h1] at hr; cases hr
    simp only [hl, if_true, Option.some.injEq] at hq
    subst hq
    exact ho
  · rw [List.getElem?_set, if_neg (fun h => hk h.symm)] at hq
    refine (h.own k y q hy hq).kept hg ?_
    cases hyb : y.ownBlock with
    | none => exact Or.inl rfl
    | some b => exact Or.inr fun hh => hk (h.apart k i y _ b hy hx hyb hh.symm)

