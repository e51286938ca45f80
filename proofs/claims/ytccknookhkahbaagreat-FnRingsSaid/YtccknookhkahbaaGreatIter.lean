/- Tables as plain data: cells put in nested rounds. No condition. -/
import Derived.Test.YtccknookhkahbaaGreatMul
namespace Go.Proofs.YtccknookhkahbaaGreat
open Go.RowKit

/-- A row of a table that reads. -/
theorem tab_row {w : World} {a : Option Addr} {n i : Nat} {rows : List (List Int)} (h : TabAt w a n rows) (hi : i < n) {r : List Int} (hr : rows[i]? = some r) :
    ∃ b off a' c, a = some ⟨b, off, none⟩ ∧ b < w.heap.size ∧ w.cell? ⟨b, off + i, none⟩ = some (.slice a' r.length c) ∧ RowAt w a' r.length (intVals r) := by
  obtain ⟨vs, h1, h2, h3⟩ := h
  obtain ⟨b, off, rfl, hb, hc⟩ := h1.at_ (by omega)
  obtain ⟨x, hx⟩ := get_some (l := vs) (n := i) (by rw [h1.len]; exact hi)
  obtain ⟨a', c', rfl, hr'⟩ := h3 i x r hx hr
  exact ⟨b, off, a', c', rfl, hb, hc i _ hx, hr'⟩
theorem at2_row {rows : List (List Int)} {i : Nat} {r : List Int} (h : rows[i]? = some r) (k : Nat) : at2 rows i k = at0 r k := by rw [at2, List.getD_eq_getElem?_getD, h]; rfl
end Go.Proofs.YtccknookhkahbaaGreat
namespace Go.Proofs.YtccknookhkahbaaGreat
open Go.RowKit

/-- Rounds 0, 1, .. n - 1. -/
def iter {α : Type} (f : Nat → α → α) : Nat → α → α | 0, a => a | k + 1, a => f k (iter f k a)
theorem iter_inv {α : Type} {f : Nat → α → α} {P : α → Prop} (n : Nat) (h : ∀ k a, k < n → P a → P (f k a)) : ∀ k, k ≤ n → ∀ a, P a → P (iter f k a)
  | 0, _, _, ha => ha
  | k + 1, hk, a, ha => h k _ hk (iter_inv n h k (by omega) a ha)
theorem iter_ext {α : Type} {f g : Nat → α → α} {P : α → Prop} (n : Nat) (hP : ∀ k a, k < n → P a → P (f k a)) (h : ∀ k a, k < n → P a → f k a = g k a) : ∀ k, k ≤ n → ∀ a, P a → iter f k a = iter g k a
  | 0, _, _, _ => rfl
  | k + 1, hk, a, ha => by
    show f k (iter f k a) = g k (iter g k a)
    rw [← iter_ext n hP h k (by omega) a ha]
    exact h k _ hk (iter_inv n hP k (by omega) a ha)

def put2 (R : List (List Int)) (i j : Nat) (u : Int) : List (List Int) := R.set i ((R.getD i []).set j u)
/-- n rows of m numbers. -/
structure Rect (R : List (List Int)) (n m : Nat) : Prop where
  len : R.length = n
  row : ∀ r ∈ R, r.length = m
theorem Rect.get {R : List (List Int)} {n m i : Nat} (h : Rect R n m) (hi : i < n) : ∃ r, R[i]? = some r ∧ r.length = m ∧ R.getD i [] = r := by
  obtain ⟨r, hr⟩ := get_some (l := R) (n := i) (by rw [h.len]; exact hi)
  exact ⟨r, hr, h.row r (List.mem_of_getElem? hr), by rw [List.getD_eq_getElem?_getD, hr]; rfl⟩
theorem Rect.put2 {R : List (List Int)} {n m : Nat} (h : Rect R n m) (i j : Nat) (u : Int) : Rect (put2 R i j u) n m := by
  refine ⟨by simp [Proofs.YtccknookhkahbaaGreat.put2, h.len], fun r hr => ?_⟩
  unfold Proofs.YtccknookhkahbaaGreat.put2 at hr
  rcases List.mem_or_eq_of_mem_set hr with h1 | h1
  · exact h.row r h1
  · by_cases hi : i < n
    · obtain ⟨q, hq, hl, he⟩ := h.get hi
      rw [h1, he, List.length_set, hl]
    · rw [List.set_eq_of_length_le (by rw [h.len]; omega)] at hr
      exact h.row r hr
theorem put2_same {R : List (List Int)} {n m i j : Nat} (h : Rect R n m) (hi : i < n) (hj : j < m) (u : Int) : at2 (put2 R i j u) i j = u := by
  obtain ⟨q, hq, hl, he⟩ := h.get hi
  unfold put2 at2
  rw [he, List.getD_eq_getElem?_getD, List.getElem?_set, if_pos rfl, if_pos (by rw [h.len]; exact hi), Option.getD_some]
  exact at0_get (by rw [List.getElem?_set, if_pos rfl, if_pos (by omega)])
theorem put2_other {R : List (List Int)} {i j p q : Nat} (u : Int) (hne : i ≠ p ∨ j ≠ q) : at2 (put2 R i j u) p q = at2 R p q := by
  unfold put2 at2
  by_cases hp : i = p
  · subst hp
    rw [List.getD_eq_getElem?_getD, List.getElem?_set, if_pos rfl]
    by_cases hl : i < R.length
    · rw [if_pos hl, Option.getD_some]
      unfold at0
      rw [List.getD_eq_getElem?_getD, List.getElem?_set, if_neg (by rcases hne with h | h; exact absurd rfl h; exact h), ← List.getD_eq_getElem?_getD]
    · rw [if_neg hl, List.getD_eq_getElem?_getD, List.getElem?_eq_none (by omega)]
  · rw [List.getD_eq_getElem?_getD, List.getElem?_set, if_neg hp, ← List.getD_eq_getElem?_getD]
theorem zero_rect (n m : Nat) : Rect (zeroTab n m) n m := ⟨zeroTab_len n m, fun r hr => by rw [List.eq_of_mem_replicate hr, List.length_replicate]⟩
theorem zero_at (n m i j : Nat) : at2 (zeroTab n m) i j = 0 := by
  unfold at2 zeroTab at0
  rw [List.getD_eq_getElem?_getD, List.getD_eq_getElem?_getD, List.getElem?_replicate]
  split
  · rw [Option.getD_some, List.getElem?_replicate]; split <;> rfl
  · rfl
theorem rect_ext {R S : List (List Int)} {n m : Nat} (hR : Rect R n m) (hS : Rect S n m) (h : ∀ i j, i < n → j < m → at2 R i j = at2 S i j) : R = S := by
  refine List.ext_getElem (by rw [hR.len, hS.len]) fun i h1 h2 => ?_
  have hi : i < n := by rw [← hR.len]; exact h1
  refine List.ext_getElem (by rw [hR.row _ (List.getElem_mem h1), hS.row _ (List.getElem_mem h2)]) fun j h3 h4 => ?_
  have hj : j < m := by rw [← hR.row _ (List.getElem_mem h1)]; exact h3
  have e := h i j hi hj
  rw [at2_row (List.getElem?_eq_getElem h1) j, at2_row (List.getElem?_eq_getElem h2) j, at0_get (List.getElem?_eq_getElem h3), at0_get (List.getElem?_eq_getElem h4)] at e
  exact e

/-- A cell of a table of the call's own: what it holds, and the table with another number there. -/
theorem grid_cell {T1 T0 : TypeId} {w : World} {base gv n m cv : Nat} {R : List (List Int)} (h : TGrid T1 T0 w base (.slice (some ⟨gv, 0, none⟩) n cv) R) (hT : T1 ≠ T0) (hR : Rect R n m) {i j : Nat} (hi : i < n) (hj : j < m) :
    ∃ g c, w.cell? ⟨gv, i, none⟩ = some (.slice (some ⟨g, 0, none⟩) m c) ∧ w.cell? ⟨g, j, none⟩ = some (.int .i64 (at2 R i j)) ∧ w.frozen? ⟨g, j, none⟩ = false ∧ base ≤ g ∧
      (∀ u, TGrid T1 T0 (w.setCell ⟨g, j, none⟩ (.int .i64 u)) base (.slice (some ⟨gv, 0, none⟩) n cv) (put2 R i j u) ∧ w.grownBy (w.setCell ⟨g, j, none⟩ (.int .i64 u)) (some g)) := by
  obtain ⟨vs, ho, hrs⟩ := h
  rw [hR.len] at ho
  obtain ⟨r, hr, hl, he⟩ := hR.get hi
  obtain ⟨x, hx⟩ := get_some (l := vs) (n := i) (by rw [ho.1]; omega)
  have hrow := hrs.own i x r hx hr
  rw [hl] at hrow
  obtain ⟨g, c, rfl, hbg, hgl⟩ := own_form hrow (by omega)
  refine ⟨g, c, (ho.cellAt i (by omega)).trans hx, ?_, hrow.frozenAt j, hbg, fun u => ?_⟩
  · rw [at2_row hr]
    exact (hrow.cellAt j (by omega)).trans (intVals_get (at0_some (by omega)))
  · have h1 := hrs.stored hr (by rw [hl]; exact hx) j u
    refine ⟨⟨vs, ?_, ?_⟩, h1.2⟩
    · rw [show (put2 R i j u).length = n by simp [put2, hR.len]]
      exact ho.kept h1.2 (owns_ne ho hrow hT)
    · unfold put2
      rw [he]
      exact h1.1
theorem grid_form {T1 T0 : TypeId} {w : World} {base n : Nat} {v : Value} {R : List (List Int)} (h : TGrid T1 T0 w base v R) (hn : R.length = n) (h0 : 0 < n) : ∃ gv cv, v = .slice (some ⟨gv, 0, none⟩) n cv ∧ base ≤ gv ∧ gv < w.heap.size := by
  obtain ⟨vs, ho, _⟩ := h
  rw [hn] at ho
  exact own_form ho h0
theorem grid_tab {T1 T0 : TypeId} {w : World} {base gv n m cv : Nat} {R : List (List Int)} (h : TGrid T1 T0 w base (.slice (some ⟨gv, 0, none⟩) n cv) R) (hR : Rect R n m) (hn : n ≤ 1000000) (hm : m ≤ 1000000) : TabAt w (some ⟨gv, 0, none⟩) n R := by
  obtain ⟨a, c, he, ht⟩ := grid_tabAt h (by rw [hR.len]; omega) (fun r hr => by rw [hR.row r hr]; omega)
  rw [hR.len] at he ht
  simp only [Value.slice.injEq, true_and] at he
  rw [← he.1] at ht
  exact ht
/-- A cell of a table that reads. -/
theorem rect_cell {w : World} {a : Option Addr} {n m i j : Nat} {R : List (List Int)} (h : TabAt w a n R) (hR : Rect R n m) (hi : i < n) (hj : j < m) :
    ∃ b off b2 off2 c, a = some ⟨b, off, none⟩ ∧ b < w.heap.size ∧ w.cell? ⟨b, off + i, none⟩ = some (.slice (some ⟨b2, off2, none⟩) m c) ∧ b2 < w.heap.size ∧ w.cell? ⟨b2, off2 + j, none⟩ = some (.int .i64 (at2 R i j)) := by
  obtain ⟨r, hr, hl, he⟩ := hR.get hi
  obtain ⟨b, off, b2, off2, c, h1, h2, h3, h4, h5⟩ := tab_cell h hi hr (j := j) (by omega)
  exact ⟨b, off, b2, off2, c, h1, h2, by rw [← hl]; exact h3, h4, h5⟩
/-- A row of a table that reads. -/
theorem rect_row {w : World} {a : Option Addr} {n m i : Nat} {R : List (List Int)} (h : TabAt w a n R) (hR : Rect R n m) (hi : i < n) :
    ∃ b off a' c r, a = some ⟨b, off, none⟩ ∧ b < w.heap.size ∧ w.cell? ⟨b, off + i, none⟩ = some (.slice a' m c) ∧ RowAt w a' m (intVals r) ∧ R[i]? = some r ∧ ∀ j, at2 R i j = at0 r j := by
  obtain ⟨vs, h1, h2, h3⟩ := h
  obtain ⟨r, hr, hl, he⟩ := hR.get hi
  obtain ⟨b, off, rfl, hb, hc⟩ := h1.at_ (by omega)
  obtain ⟨x, hx⟩ := get_some (l := vs) (n := i) (by rw [h1.len]; exact hi)
  obtain ⟨a', c', rfl, hr'⟩ := h3 i x r hx hr
  rw [hl] at hr'
  exact ⟨b, off, a', c', r, rfl, hb, by rw [← hl]; exact hc i _ hx, hr', hr, fun j => at2_row hr j⟩
end Go.Proofs.YtccknookhkahbaaGreat
