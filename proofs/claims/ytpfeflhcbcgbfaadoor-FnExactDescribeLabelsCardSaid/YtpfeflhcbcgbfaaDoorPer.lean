/- Periods of matrices: both functions. Conditions: sizes within the reach. -/
import Derived.StillTailTactics
import Derived.Test.YtpfeflhcbcgbfaaDoorIter
import Derived.Test.YtpfeflhcbcgbfaaDoorNumber
namespace Go.Proofs.YtpfeflhcbcgbfaaDoor
open Go.RowKit

def rowOk (n : Nat) (r : List Int) : Bool := decide (r.length = n) && r.all (fun x => inB x 0 1000000)
/-- What a matrix is. -/
def isMat (M : List (List Int)) : Bool := M.all (rowOk M.length) && inB M.length 1 9
theorem isMat_facts {M : List (List Int)} {n : Nat} (h : isMat M = true) (hn : M.length = n) : (1 ≤ n ∧ n ≤ 9) ∧ Rect M n n ∧ ∀ i j, 0 ≤ at2 M i j ∧ at2 M i j ≤ 1000000 := by
  unfold isMat at h
  rw [Bool.and_eq_true, inB_iff] at h
  obtain ⟨h1, h2⟩ := h
  rw [List.all_eq_true] at h1
  refine ⟨by omega, ⟨hn, fun r hr => ?_⟩, fun i j => ?_⟩
  · have := h1 r hr
    unfold rowOk at this
    rw [Bool.and_eq_true, decide_eq_true_eq] at this
    omega
  · unfold at2 at0
    rw [List.getD_eq_getElem?_getD, List.getD_eq_getElem?_getD]
    cases hr : M[i]? with
    | none => simp
    | some r =>
      rw [Option.getD_some]
      cases hx : r[j]? with
      | none => simp
      | some x =>
        rw [Option.getD_some]
        have := h1 r (List.mem_of_getElem? hr)
        unfold rowOk at this
        rw [Bool.and_eq_true, List.all_eq_true] at this
        exact inB_iff.1 (this.2 x (List.mem_of_getElem? hx))
theorem isMat_mk {M : List (List Int)} {n : Nat} (h1 : 1 ≤ n ∧ n ≤ 9) (hR : Rect M n n) (h2 : ∀ i j, i < n → j < n → 0 ≤ at2 M i j ∧ at2 M i j ≤ 1000000) : isMat M = true := by
  unfold isMat
  rw [Bool.and_eq_true, inB_iff, hR.len, List.all_eq_true]
  refine ⟨fun r hr => ?_, by omega⟩
  unfold rowOk
  rw [Bool.and_eq_true, decide_eq_true_eq, List.all_eq_true]
  refine ⟨hR.row r hr, fun x hx => ?_⟩
  obtain ⟨i, hi, rfl⟩ := List.mem_iff_getElem.1 hr
  obtain ⟨j, hj, rfl⟩ := List.mem_iff_getElem.1 hx
  have h3 := h2 i j (by rw [← hR.len]; exact hi) (by rw [← hR.row _ hr]; exact hj)
  rw [at2_row (List.getElem?_eq_getElem hi) j, at0_get (List.getElem?_eq_getElem hj)] at h3
  exact inB_iff.2 h3
theorem rowOk_len {n : Nat} {r : List Int} (h : r.length ≠ n) : rowOk n r = false := by unfold rowOk; simp [h]
theorem rowOk_bad {n j : Nat} {r : List Int} {x : Int} (h : r[j]? = some x) (hx : inB x 0 1000000 = false) : rowOk n r = false := by
  unfold rowOk; rw [all_stop (p := fun x => inB x 0 1000000) h hx, Bool.and_false]
theorem rowOk_yes {n : Nat} {r : List Int} (h : r.length = n) (hx : r.all (fun x => inB x 0 1000000) = true) : rowOk n r = true := by unfold rowOk; rw [hx]; simp [h]
theorem isMat_bad {M : List (List Int)} {n k : Nat} {r : List Int} (hn : M.length = n) (h : M[k]? = some r) (hr : rowOk n r = false) : isMat M = false := by
  unfold isMat; rw [all_stop h (by rw [hn]; exact hr), Bool.false_and]
theorem isMat_end {M : List (List Int)} {n k : Nat} (hn : M.length = n) (h : (M.take k).all (rowOk n) = true) (hk : n ≤ k) : isMat M = inB n 1 9 := by
  unfold isMat; rw [hn, all_end h (by omega), Bool.true_and]

end Go.Proofs.YtpfeflhcbcgbfaaDoor
namespace Go.Proofs.YtpfeflhcbcgbfaaDoor
open Go.RowKit

def btCell (M : List (List Int)) (i j : Nat) (s : List (List Int)) : List (List Int) := put2 s i j (min (at2 M i j) 1)
def btRow (M : List (List Int)) (n i : Nat) (s : List (List Int)) : List (List Int) := iter (btCell M i) n s
def bitTab (M : List (List Int)) (n : Nat) : List (List Int) := iter (btRow M n) n (zeroTab n n)
def wrCell (k i j : Nat) (s : List (List Int)) : List (List Int) := put2 s i j (max (at2 s i j) (min (at2 s i k) (at2 s k j)))
def wrRow (n k i : Nat) (s : List (List Int)) : List (List Int) := iter (wrCell k i) n s
def wrTab (n k : Nat) (s : List (List Int)) : List (List Int) := iter (wrRow n k) n s
/-- Which vertices reach which. -/
def reachOf (M : List (List Int)) (n : Nat) : List (List Int) := iter (wrTab n) n (bitTab M n)

/-- A table of ones and zeros. -/
structure Bits (s : List (List Int)) (n : Nat) : Prop where
  rect : Rect s n n
  bit : ∀ i j, i < n → j < n → at2 s i j = 0 ∨ at2 s i j = 1
theorem Bits.put {s : List (List Int)} {n i j : Nat} {u : Int} (h : Bits s n) (hi : i < n) (hj : j < n) (hu : u = 0 ∨ u = 1) : Bits (put2 s i j u) n := by
  refine ⟨h.rect.put2 _ _ _, fun p q hp hq => ?_⟩
  by_cases e : i = p ∧ j = q
  · obtain ⟨rfl, rfl⟩ := e
    rw [put2_same h.rect hi hj]; exact hu
  · rw [put2_other u (by omega)]; exact h.bit p q hp hq
theorem zero_bits (n : Nat) : Bits (zeroTab n n) n := ⟨zero_rect n n, fun i j _ _ => .inl (zero_at n n i j)⟩
theorem btCell_bits {M s : List (List Int)} {n i : Nat} (hM : ∀ i j, i < n → j < n → 0 ≤ at2 M i j) (hi : i < n) (h : Bits s n) (j : Nat) (hj : j ≤ n) : Bits (iter (btCell M i) j s) n :=
  iter_inv (P := fun s => Bits s n) n (fun k a hk ha => ha.put hi hk (by have := hM i k hi hk; omega)) j hj s h
theorem btRow_bits {M s : List (List Int)} {n : Nat} (hM : ∀ i j, i < n → j < n → 0 ≤ at2 M i j) (h : Bits s n) (i : Nat) (hi : i ≤ n) : Bits (iter (btRow M n) i s) n :=
  iter_inv (P := fun s => Bits s n) n (fun k a hk ha => btCell_bits hM hk ha n (Nat.le_refl _)) i hi s h
theorem bit_wr {x y z : Int} (hx : x = 0 ∨ x = 1) (hy : y = 0 ∨ y = 1) (hz : z = 0 ∨ z = 1) : max x (min y z) = 0 ∨ max x (min y z) = 1 := by omega
theorem bit_ops {x y z : Int} (hx : x = 0 ∨ x = 1) (hy : y = 0 ∨ y = 1) (hz : z = 0 ∨ z = 1) : bits BinOp.or IntKind.i64 x (bits BinOp.and IntKind.i64 y z) = max x (min y z) := by
  rcases hx with rfl | rfl <;> rcases hy with rfl | rfl <;> rcases hz with rfl | rfl <;> decide
theorem wrCell_bits {s : List (List Int)} {n k i : Nat} (hk : k < n) (hi : i < n) (h : Bits s n) (j : Nat) (hj : j ≤ n) : Bits (iter (wrCell k i) j s) n :=
  iter_inv (P := fun s => Bits s n) n (fun q a hq ha => ha.put hi hq (bit_wr (ha.bit i q hi hq) (ha.bit i k hi hk) (ha.bit k q hk hq))) j hj s h
theorem wrRow_bits {s : List (List Int)} {n k : Nat} (hk : k < n) (h : Bits s n) (i : Nat) (hi : i ≤ n) : Bits (iter (wrRow n k) i s) n :=
  iter_inv (P := fun s => Bits s n) n (fun q a hq ha => wrCell_bits hk hq ha n (Nat.le_refl _)) i hi s h
theorem wrTab_bits {s : List (List Int)} {n : Nat} (h : Bits s n) (k : Nat) (hk : k ≤ n) : Bits (iter (wrTab n) k s) n :=
  iter_inv (P := fun s => Bits s n) n (fun q a hq ha => wrRow_bits hq ha n (Nat.le_refl _)) k hk s h
theorem bitTab_bits {M : List (List Int)} {n : Nat} (hM : ∀ i j, i < n → j < n → 0 ≤ at2 M i j) : Bits (bitTab M n) n := btRow_bits hM (zero_bits n) n (Nat.le_refl _)
theorem reachOf_bits {M : List (List Int)} {n : Nat} (hM : ∀ i j, i < n → j < n → 0 ≤ at2 M i j) : Bits (reachOf M n) n := wrTab_bits (bitTab_bits hM) n (Nat.le_refl _)

end Go.Proofs.YtpfeflhcbcgbfaaDoor
namespace Go.Proofs.YtpfeflhcbcgbfaaDoor
open Go.RowKit

/-- A number is not in a list. -/
def lacks (xs : List Int) (y : Int) : Bool := xs.all fun x => !(y == x)
def IdxPostI (xs : List Int) (y : Int) (w : World) (e : Ending) (w' : World) : Prop := w = w' ∧ ∃ r : Int, e = .returned (.int .i64 r) ∧ decide (0 ≤ r) = !lacks xs y
/-- All rows lack 0. -/
def noZero (R : List (List Int)) : Bool := R.all fun r => lacks r 0
theorem reach_len {M : List (List Int)} {n : Nat} (hM : ∀ i j, i < n → j < n → 0 ≤ at2 M i j) : (reachOf M n).length = n ∧ ∀ r ∈ reachOf M n, r.length ≤ 140737488351232 → r.length = n :=
  ⟨(reachOf_bits hM).rect.len, fun r hr _ => (reachOf_bits hM).rect.row r hr⟩
/-- Irreducible tables. -/
def isIrr (M : List (List Int)) : Bool := isMat M && noZero (reachOf M M.length)
end Go.Proofs.YtpfeflhcbcgbfaaDoor
namespace Go.Proofs.YtpfeflhcbcgbfaaDoor
open Go.RowKit

/-- The table of a function. -/
def tabF (n m : Nat) (f : Nat → Nat → Int) : List (List Int) := (List.range n).map fun p => (List.range m).map (f p)
theorem tabF_rect (n m : Nat) (f : Nat → Nat → Int) : Rect (tabF n m f) n m := ⟨by simp [tabF], fun r hr => by
  simp only [tabF, List.mem_map, List.mem_range] at hr
  obtain ⟨p, _, rfl⟩ := hr
  simp⟩
theorem tabF_at {n m : Nat} (f : Nat → Nat → Int) {i j : Nat} (hi : i < n) (hj : j < m) : at2 (tabF n m f) i j = f i j := by
  rw [at2_row (r := (List.range m).map (f i)) (by simp [tabF, hi])]
  exact at0_get (by simp [hj])
theorem tabF_ext {n m : Nat} {f g : Nat → Nat → Int} (h : ∀ p q, p < n → q < m → f p q = g p q) : tabF n m f = tabF n m g :=
  List.map_congr_left fun p hp => List.map_congr_left fun q hq => h p q (List.mem_range.1 hp) (List.mem_range.1 hq)
theorem tabF_zero (n m : Nat) : tabF n m (fun _ _ => 0) = zeroTab n m :=
  rect_ext (tabF_rect n m _) (zero_rect n m) fun i j hi hj => by rw [tabF_at _ hi hj, zero_at]
theorem tabF_of {R : List (List Int)} {n m : Nat} (h : Rect R n m) : R = tabF n m (at2 R) :=
  rect_ext h (tabF_rect n m _) fun i j hi hj => (tabF_at _ hi hj).symm
theorem tabF_put {n m i j : Nat} {f g : Nat → Nat → Int} {u : Int} (hi : i < n) (hj : j < m) (hu : g i j = u) (h : ∀ p q, p < n → q < m → (p ≠ i ∨ q ≠ j) → g p q = f p q) : put2 (tabF n m f) i j u = tabF n m g := by
  have hR := tabF_rect n m f
  have hS := tabF_rect n m g
  refine rect_ext (n := n) (m := m) (hR.put2 i j u) hS fun p q hp hq => ?_
  rw [tabF_at g hp hq]
  by_cases e : i = p ∧ j = q
  · obtain ⟨rfl, rfl⟩ := e
    rw [put2_same hR hi hj, hu]
  · have e2 : i ≠ p ∨ j ≠ q := by omega
    rw [put2_other u e2, tabF_at f hp hq, h p q hp hq (by omega)]

/-- Ones on the diagonal. -/
def unitF (t : Nat) (p q : Nat) : Int := if p = q ∧ p < t then 1 else 0
def unitTab (n : Nat) : List (List Int) := tabF n n (unitF n)
theorem unit_zero (n : Nat) : tabF n n (unitF 0) = zeroTab n n := by
  rw [← tabF_zero]; exact tabF_ext fun p q _ _ => by unfold unitF; rw [if_neg (by omega)]
theorem unit_step {n k : Nat} (h : k < n) : put2 (tabF n n (unitF k)) k k 1 = tabF n n (unitF (k + 1)) :=
  tabF_put h h (by unfold unitF; rw [if_pos (by omega)]) fun p q _ _ hne => by
    unfold unitF
    by_cases e : p = q ∧ p < k
    · rw [if_pos e, if_pos (by omega)]
    · rw [if_neg e, if_neg (by omega)]

/-- The greatest of the first k numbers of bits. -/
def orTo (f : Nat → Int) : Nat → Int | 0 => 0 | k + 1 => max (orTo f k) (f k)
theorem orTo_bit {f : Nat → Int} {n : Nat} (h : ∀ k, k < n → f k = 0 ∨ f k = 1) : ∀ k, k ≤ n → orTo f k = 0 ∨ orTo f k = 1
  | 0, _ => .inl rfl
  | k + 1, hk => by have h1 := orTo_bit h k (by omega); have h2 := h k (by omega); unfold orTo; omega
/-- One member: an arc more at k. -/
def stM (H M : List (List Int)) (p q k : Nat) : Int := min (at2 H p k) (min (at2 M k q) 1)
def stepF (H M : List (List Int)) (n p q : Nat) : Int := orTo (stM H M p q) n
def stepTab (H M : List (List Int)) (n : Nat) : List (List Int) := tabF n n (stepF H M n)
theorem stM_bit {H M : List (List Int)} {n : Nat} (hH : Bits H n) (hM : ∀ i j, i < n → j < n → 0 ≤ at2 M i j) {p q k : Nat} (hp : p < n) (hq : q < n) (hk : k < n) : stM H M p q k = 0 ∨ stM H M p q k = 1 := by
  have h1 := hH.bit p k hp hk
  have h2 := hM k q hk hq
  unfold stM; omega
theorem step_bits {H M : List (List Int)} {n : Nat} (hH : Bits H n) (hM : ∀ i j, i < n → j < n → 0 ≤ at2 M i j) : Bits (stepTab H M n) n :=
  ⟨tabF_rect n n _, fun i j hi hj => by rw [stepTab, tabF_at _ hi hj]; exact orTo_bit (fun k hk => stM_bit hH hM hi hj hk) n (Nat.le_refl _)⟩
/-- The program's order: rows, members, columns. -/
def stI (H M : List (List Int)) (n i k j p q : Nat) : Int := if p < i then stepF H M n p q else if p = i then (if q < j then orTo (stM H M p q) (k + 1) else orTo (stM H M p q) k) else 0
/-- The reference's: rows, columns, members. -/
def stS (H M : List (List Int)) (n i j k p q : Nat) : Int := if p < i then stepF H M n p q else if p = i then (if q < j then stepF H M n p q else if q = j then orTo (stM H M p q) k else 0) else 0
theorem stI_zero (H M : List (List Int)) (n : Nat) : tabF n n (stI H M n 0 0 0) = zeroTab n n := by
  rw [← tabF_zero]; exact tabF_ext fun p q _ _ => by
    unfold stI
    rw [if_neg (Nat.not_lt_zero _)]
    by_cases e : p = 0
    · rw [if_pos e, if_neg (Nat.not_lt_zero _)]; rfl
    · rw [if_neg e]
theorem stI_step {H M : List (List Int)} {n i k j : Nat} (hi : i < n) (hj : j < n) : put2 (tabF n n (stI H M n i k j)) i j (max (stI H M n i k j i j) (stM H M i j k)) = tabF n n (stI H M n i k (j + 1)) :=
  tabF_put hi hj (by
    unfold stI
    rw [if_neg (Nat.lt_irrefl _), if_pos rfl, if_pos (by omega), if_neg (Nat.lt_irrefl _), if_pos rfl, if_neg (Nat.lt_irrefl _)]; rfl) fun p q _ _ hne => by
    unfold stI
    by_cases h1 : p < i
    · rw [if_pos h1, if_pos h1]
    · rw [if_neg h1, if_neg h1]
      by_cases h2 : p = i
      · rw [if_pos h2, if_pos h2]
        by_cases h3 : q < j
        · rw [if_pos h3, if_pos (by omega)]
        · rw [if_neg h3, if_neg (by omega)]
      · rw [if_neg h2, if_neg h2]
theorem stI_nextk (H M : List (List Int)) (n i k : Nat) : tabF n n (stI H M n i k n) = tabF n n (stI H M n i (k + 1) 0) := tabF_ext fun p q _ hq => by
  unfold stI
  by_cases h1 : p < i
  · rw [if_pos h1, if_pos h1]
  · rw [if_neg h1, if_neg h1]
    by_cases h2 : p = i
    · rw [if_pos h2, if_pos h2, if_pos hq, if_neg (Nat.not_lt_zero _)]
    · rw [if_neg h2, if_neg h2]
theorem stI_nexti (H M : List (List Int)) (n i : Nat) : tabF n n (stI H M n i n 0) = tabF n n (stI H M n (i + 1) 0 0) := tabF_ext fun p q _ hq => by
  unfold stI
  by_cases h1 : p < i
  · rw [if_pos h1, if_pos (by omega)]
  · rw [if_neg h1]
    by_cases h2 : p = i
    · rw [if_pos h2, if_neg (Nat.not_lt_zero _), if_pos (by omega)]; rfl
    · rw [if_neg h2, if_neg (by omega)]
      by_cases h3 : p = i + 1
      · rw [if_pos h3, if_neg (Nat.not_lt_zero _)]; rfl
      · rw [if_neg h3]
theorem stI_end (H M : List (List Int)) (n : Nat) : tabF n n (stI H M n n 0 0) = stepTab H M n := tabF_ext fun p q hp _ => by
  unfold stI; rw [if_pos hp]
theorem stS_zero (H M : List (List Int)) (n : Nat) : tabF n n (stS H M n 0 0 0) = zeroTab n n := by
  rw [← tabF_zero]; exact tabF_ext fun p q _ _ => by
    unfold stS
    rw [if_neg (Nat.not_lt_zero _)]
    by_cases e : p = 0
    · rw [if_pos e, if_neg (Nat.not_lt_zero _)]
      by_cases e2 : q = 0
      · rw [if_pos e2]; rfl
      · rw [if_neg e2]
    · rw [if_neg e]
theorem stS_here (H M : List (List Int)) (n i j k : Nat) : stS H M n i j k i j = orTo (stM H M i j) k := by
  unfold stS; rw [if_neg (Nat.lt_irrefl _), if_pos rfl, if_neg (Nat.lt_irrefl _), if_pos rfl]
theorem stS_step {H M : List (List Int)} {n i k j : Nat} (hi : i < n) (hj : j < n) : put2 (tabF n n (stS H M n i j k)) i j (max (stS H M n i j k i j) (stM H M i j k)) = tabF n n (stS H M n i j (k + 1)) :=
  tabF_put hi hj (by rw [stS_here, stS_here]; rfl) fun p q _ _ hne => by
    unfold stS
    by_cases h1 : p < i
    · rw [if_pos h1, if_pos h1]
    · rw [if_neg h1, if_neg h1]
      by_cases h2 : p = i
      · rw [if_pos h2, if_pos h2]
        by_cases h3 : q < j
        · rw [if_pos h3, if_pos h3]
        · rw [if_neg h3, if_neg h3, if_neg (by omega), if_neg (by omega)]
      · rw [if_neg h2, if_neg h2]
theorem stS_nextj (H M : List (List Int)) (n i j : Nat) : tabF n n (stS H M n i j n) = tabF n n (stS H M n i (j + 1) 0) := tabF_ext fun p q _ _ => by
  unfold stS
  by_cases h1 : p < i
  · rw [if_pos h1, if_pos h1]
  · rw [if_neg h1, if_neg h1]
    by_cases h2 : p = i
    · rw [if_pos h2, if_pos h2]
      by_cases h3 : q < j
      · rw [if_pos h3, if_pos (by omega)]
      · rw [if_neg h3]
        by_cases h4 : q = j
        · rw [if_pos h4, if_pos (by omega)]; rfl
        · rw [if_neg h4, if_neg (by omega)]
          by_cases h5 : q = j + 1
          · rw [if_pos h5]; rfl
          · rw [if_neg h5]
    · rw [if_neg h2, if_neg h2]
theorem stS_nexti (H M : List (List Int)) (n i : Nat) : tabF n n (stS H M n i n 0) = tabF n n (stS H M n (i + 1) 0 0) := tabF_ext fun p q _ hq => by
  unfold stS
  by_cases h1 : p < i
  · rw [if_pos h1, if_pos (by omega)]
  · rw [if_neg h1]
    by_cases h2 : p = i
    · rw [if_pos h2, if_pos hq, if_pos (by omega)]
    · rw [if_neg h2, if_neg (by omega)]
      by_cases h3 : p = i + 1
      · rw [if_pos h3, if_neg (Nat.not_lt_zero _)]
        by_cases h6 : q = 0
        · rw [if_pos h6]; rfl
        · rw [if_neg h6]
      · rw [if_neg h3]
theorem stS_end (H M : List (List Int)) (n : Nat) : tabF n n (stS H M n n 0 0) = stepTab H M n := tabF_ext fun p q hp _ => by
  unfold stS; rw [if_pos hp]
theorem min3if (x y : Int) : min x (min y 1) = (if 1 < if y < x then y else x then 1 else if y < x then y else x) := by
  by_cases h : y < x
  · simp only [h, if_true]; split <;> omega
  · simp only [h, if_false]; split <;> omega

end Go.Proofs.YtpfeflhcbcgbfaaDoor
