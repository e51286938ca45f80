import Derived.Test.YtpncmmdjkcdemaaGreatDoorZero
import Derived.Test.YtpncmmdjkcdemaaGreatDoorTable
namespace Go.Proofs.YtpncmmdjkcdemaaGreatDoor
open Go.RowKit

def sumTo (f : Nat → Int) : Nat → Int | 0 => 0 | k + 1 => sumTo f k + f k
theorem sumTo_bd {f : Nat → Int} {n : Nat} {B : Int} (h : ∀ k, k < n → 0 ≤ f k ∧ f k ≤ B) : ∀ k, k ≤ n → 0 ≤ sumTo f k ∧ sumTo f k ≤ k * B
  | 0, _ => by simp [sumTo]
  | k + 1, hk => by
    have h1 := sumTo_bd h k (by omega)
    have h2 := h k (by omega)
    have e : ((k + 1 : Nat) : Int) * B = k * B + B := by rw [Int.natCast_add, Int.add_mul]; simp
    rw [e]
    unfold sumTo
    omega
def at0 (xs : List Int) (k : Nat) : Int := xs.getD k 0
theorem at0_get {xs : List Int} {k : Nat} {x : Int} (h : xs[k]? = some x) : at0 xs k = x := by rw [at0, List.getD_eq_getElem?_getD, h]; rfl
theorem at0_some {xs : List Int} {k : Nat} (h : k < xs.length) : xs[k]? = some (at0 xs k) := by obtain ⟨x, hx⟩ := get_some h; rw [hx, at0_get hx]
theorem prod_bd {x y X Y : Int} (hx : 0 ≤ x ∧ x ≤ X) (hy : 0 ≤ y ∧ y ≤ Y) : 0 ≤ x * y ∧ x * y ≤ X * Y :=
  ⟨Int.mul_nonneg hx.1 hy.1, Int.mul_le_mul hx.2 hy.2 hy.1 (Int.le_trans hx.1 hx.2)⟩
end Go.Proofs.YtpncmmdjkcdemaaGreatDoor
namespace Go.Proofs.YtpncmmdjkcdemaaGreatDoor
open Go.RowKit

def at2 (rows : List (List Int)) (i j : Nat) : Int := at0 (rows.getD i []) j
/-- The cell (p, q) of a product, of the first k members of its sum. -/
def mulTo (A B : List (List Int)) (p q k : Nat) : Int := sumTo (fun t => at2 A p t * at2 B t q) k
def muCell (A B : List (List Int)) (m i j k p q : Nat) : Int := if p < i then mulTo A B p q m else if p = i then (if q < j then mulTo A B p q m else if q = j then mulTo A B p q k else 0) else 0
def muRow (A B : List (List Int)) (m c i j k p : Nat) : List Int := (List.range c).map (muCell A B m i j k p)
def muAt (A B : List (List Int)) (m c i j k : Nat) : List (List Int) := (List.range A.length).map (muRow A B m c i j k)
/-- The product of two tables, c columns wide. -/
def muOf (A B : List (List Int)) (c : Nat) : List (List Int) := (List.range A.length).map fun p => (List.range c).map fun q => mulTo A B p q B.length
theorem mu_len (A B : List (List Int)) (m c i j k : Nat) : (muAt A B m c i j k).length = A.length := by simp [muAt]
theorem muRow_len (A B : List (List Int)) (m c i j k p : Nat) : (muRow A B m c i j k p).length = c := by simp [muRow]
theorem mu_row {A B : List (List Int)} {m c i j k p : Nat} (h : p < A.length) : (muAt A B m c i j k)[p]? = some (muRow A B m c i j k p) := by simp [muAt, h]
theorem mu_cell {A B : List (List Int)} {m c i j k p q : Nat} (h : q < c) : (muRow A B m c i j k p)[q]? = some (muCell A B m i j k p q) := by simp [muRow, h]
theorem mu_ext {A B : List (List Int)} {m c i j k i' j' k' : Nat} (h : ∀ p q, p < A.length → q < c → muCell A B m i j k p q = muCell A B m i' j' k' p q) : muAt A B m c i j k = muAt A B m c i' j' k' := by
  unfold muAt
  refine List.map_congr_left fun p hp => ?_
  unfold muRow
  exact List.map_congr_left fun q hq => h p q (List.mem_range.1 hp) (List.mem_range.1 hq)
theorem mu_zero (A B : List (List Int)) (m c : Nat) : muAt A B m c 0 0 0 = zeroTab A.length c := by
  refine List.ext_getElem (by simp [muAt, zeroTab]) fun p h1 h2 => ?_
  simp only [muAt, zeroTab, List.getElem_map, List.getElem_range, List.getElem_replicate]
  refine List.ext_getElem (by simp [muRow]) fun q h3 h4 => ?_
  simp only [muRow, List.getElem_map, List.getElem_range, List.getElem_replicate]
  unfold muCell
  rw [if_neg (Nat.not_lt_zero _)]
  by_cases hp : p = 0
  · rw [if_pos hp, if_neg (Nat.not_lt_zero _)]
    by_cases hq : q = 0
    · rw [if_pos hq]; rfl
    · rw [if_neg hq]
  · rw [if_neg hp]
theorem mu_nextj (A B : List (List Int)) (m c i j : Nat) : muAt A B m c i j m = muAt A B m c i (j + 1) 0 := mu_ext fun p q _ _ => by
  unfold muCell
  by_cases h1 : p < i
  · rw [if_pos h1, if_pos h1]
  · rw [if_neg h1, if_neg h1]
    by_cases h2 : p = i
    · rw [if_pos h2, if_pos h2]
      by_cases h3 : q < j
      · rw [if_pos h3, if_pos (by omega)]
      · rw [if_neg h3]
        by_cases h4 : q = j
        · rw [if_pos h4, if_pos (by omega)]
        · rw [if_neg h4, if_neg (by omega)]
          by_cases h5 : q = j + 1
          · rw [if_pos h5]; rfl
          · rw [if_neg h5]
    · rw [if_neg h2, if_neg h2]
theorem mu_nexti (A B : List (List Int)) (m c i : Nat) : muAt A B m c i c 0 = muAt A B m c (i + 1) 0 0 := mu_ext fun p q _ hq => by
  unfold muCell
  by_cases h1 : p < i
  · rw [if_pos h1, if_pos (by omega)]
  · rw [if_neg h1]
    by_cases h2 : p = i
    · rw [if_pos h2, if_pos hq, if_pos (by omega)]
    · rw [if_neg h2, if_neg (by omega)]
      by_cases h5 : p = i + 1
      · rw [if_pos h5, if_neg (Nat.not_lt_zero _)]
        by_cases h6 : q = 0
        · rw [if_pos h6]; rfl
        · rw [if_neg h6]
      · rw [if_neg h5]
theorem mu_end (A B : List (List Int)) (c : Nat) : muAt A B B.length c A.length 0 0 = muOf A B c := by
  unfold muAt muOf
  refine List.map_congr_left fun p hp => ?_
  unfold muRow
  refine List.map_congr_left fun q _ => ?_
  unfold muCell
  rw [if_pos (List.mem_range.1 hp)]
theorem mu_here (A B : List (List Int)) (m i j k : Nat) : muCell A B m i j k i j = mulTo A B i j k := by
  unfold muCell
  rw [if_neg (Nat.lt_irrefl _), if_pos rfl, if_neg (Nat.lt_irrefl _), if_pos rfl]
theorem mu_step {A B : List (List Int)} {m c i j k : Nat} (hi : i < A.length) (hj : j < c) :
    (muAt A B m c i j k).set i ((muRow A B m c i j k i).set j (mulTo A B i j k + at2 A i k * at2 B k j)) = muAt A B m c i j (k + 1) := by
  refine List.ext_getElem (by simp [mu_len]) fun p h1 h2 => ?_
  rw [mu_len] at h2
  have e2 : (muAt A B m c i j (k + 1))[p] = muRow A B m c i j (k + 1) p := by simp [muAt]
  rw [List.getElem_set, e2]
  by_cases hp : i = p
  · subst hp
    rw [if_pos rfl]
    refine List.ext_getElem (by simp [muRow_len]) fun q h3 h4 => ?_
    rw [muRow_len] at h4
    have e4 : (muRow A B m c i j (k + 1) i)[q] = muCell A B m i j (k + 1) i q := by simp [muRow]
    rw [List.getElem_set, e4]
    by_cases hq : j = q
    · subst hq
      rw [if_pos rfl, mu_here]; rfl
    · rw [if_neg hq]
      have e6 : (muRow A B m c i j k i)[q]'(by rw [muRow_len]; exact h4) = muCell A B m i j k i q := by simp [muRow]
      rw [e6]
      unfold muCell
      rw [if_neg (Nat.lt_irrefl _), if_neg (Nat.lt_irrefl _), if_pos rfl, if_pos rfl]
      by_cases h5 : q < j
      · rw [if_pos h5, if_pos h5]
      · rw [if_neg h5, if_neg h5, if_neg (Ne.symm hq), if_neg (Ne.symm hq)]
  · rw [if_neg hp]
    have e5 : (muAt A B m c i j k)[p]'(by rw [mu_len]; exact h2) = muRow A B m c i j k p := by simp [muAt]
    rw [e5]
    unfold muRow
    refine List.map_congr_left fun q _ => ?_
    unfold muCell
    by_cases h1 : p < i
    · rw [if_pos h1, if_pos h1]
    · rw [if_neg h1, if_neg h1, if_neg (Ne.symm hp), if_neg (Ne.symm hp)]

/-- A cell of a table that reads. -/
theorem tab_cell {w : World} {a : Option Addr} {n i j : Nat} {rows : List (List Int)} (h : TabAt w a n rows) (hi : i < n) {r : List Int} (hr : rows[i]? = some r) (hj : j < r.length) :
    ∃ b off b2 off2 c, a = some ⟨b, off, none⟩ ∧ b < w.heap.size ∧ w.cell? ⟨b, off + i, none⟩ = some (.slice (some ⟨b2, off2, none⟩) r.length c) ∧ b2 < w.heap.size ∧ w.cell? ⟨b2, off2 + j, none⟩ = some (.int .i64 (at2 rows i j)) := by
  obtain ⟨vs, h1, h2, h3⟩ := h
  obtain ⟨b, off, rfl, hb, hc⟩ := h1.at_ (by omega)
  obtain ⟨x, hx⟩ := get_some (l := vs) (n := i) (by rw [h1.len]; exact hi)
  obtain ⟨a', c', rfl, hr'⟩ := h3 i x r hx hr
  obtain ⟨b2, off2, rfl, hb2, hc2⟩ := hr'.at_ (by omega)
  refine ⟨b, off, b2, off2, c', rfl, hb, hc i _ hx, hb2, hc2 j _ (intVals_get ?_)⟩
  rw [at2, List.getD_eq_getElem?_getD, hr]
  exact at0_some hj

