/- What a matrix is: both functions. Conditions: sizes within the reach. -/
import Derived.Test.YtcmmlldincflkaaDoorIter
namespace Go.Proofs.YtcmmlldincflkaaDoor
open Go.RowKit

def rowOk (n : Nat) (r : List Int) : Bool := decide (r.length = n) && r.all (fun x => inB x 0 1000000)
/-- What a matrix is. -/
def isMat (M : List (List Int)) : Bool := M.all (rowOk M.length) && inB M.length 1 9
theorem isMat_facts {M : List (List Int)} {n : Nat} (h : isMat M = true) (hn : M.length = n) : (1 ≤ n ∧ n ≤ 9) ∧ Rect M n n ∧ ∀ i j, 0 ≤ at2 M i j ∧ at2 M i j ≤ 1000000 := by
  unfold isMat at h
  rw [Bool.and_eq_true, inB_iff] at h
  obtain ⟨h1, h2⟩ := h
  rw [List.all_eq_true] at h1
  refine ⟨by omega, ⟨hn, fun r hr => ?_⟩, fun i j => ?_⟩
  · have := h1 r hr
    unfold rowOk at this
    rw [Bool.and_eq_true, decide_eq_true_eq] at this
    omega
  · unfold at2 at0
    rw [List.getD_eq_getElem?_getD, List.getD_eq_getElem?_getD]
    cases hr : M[i]? with
    | none => simp
    | some r =>
      rw [Option.getD_some]
      cases hx : r[j]? with
      | none => simp
      | some x =>
        rw [Option.getD_some]
        have := h1 r (List.mem_of_getElem? hr)
        unfold rowOk at this
        rw [Bool.and_eq_true, List.all_eq_true] at this
        exact inB_iff.1 (this.2 x (List.mem_of_getElem? hx))
theorem isMat_mk {M : List (List Int)} {n : Nat} (h1 : 1 ≤ n ∧ n ≤ 9) (hR : Rect M n n) (h2 : ∀ i j, i < n → j < n → 0 ≤ at2 M i j ∧ at2 M i j ≤ 1000000) : isMat M = true := by
  unfold isMat
  rw [Bool.and_eq_true, inB_iff, hR.len, List.all_eq_true]
  refine ⟨fun r hr => ?_, by omega⟩
  unfold rowOk
  rw [Bool.and_eq_true, decide_eq_true_eq, List.all_eq_true]
  refine ⟨hR.row r hr, fun x hx => ?_⟩
  obtain ⟨i, hi, rfl⟩ := List.mem_iff_getElem.1 hr
  obtain ⟨j, hj, rfl⟩ := List.mem_iff_getElem.1 hx
  have h3 := h2 i j (by rw [← hR.len]; exact hi) (by rw [← hR.row _ hr]; exact hj)
  rw [at2_row (List.getElem?_eq_getElem hi) j, at0_get (List.getElem?_eq_getElem hj)] at h3
  exact inB_iff.2 h3
theorem rowOk_len {n : Nat} {r : List Int} (h : r.length ≠ n) : rowOk n r = false := by unfold rowOk; simp [h]
theorem rowOk_bad {n j : Nat} {r : List Int} {x : Int} (h : r[j]? = some x) (hx : inB x 0 1000000 = false) : rowOk n r = false := by
  unfold rowOk; rw [all_stop (p := fun x => inB x 0 1000000) h hx, Bool.and_false]
theorem rowOk_yes {n : Nat} {r : List Int} (h : r.length = n) (hx : r.all (fun x => inB x 0 1000000) = true) : rowOk n r = true := by unfold rowOk; rw [hx]; simp [h]
theorem isMat_bad {M : List (List Int)} {n k : Nat} {r : List Int} (hn : M.length = n) (h : M[k]? = some r) (hr : rowOk n r = false) : isMat M = false := by
  unfold isMat; rw [all_stop h (by rw [hn]; exact hr), Bool.false_and]
theorem isMat_end {M : List (List Int)} {n k : Nat} (hn : M.length = n) (h : (M.take k).all (rowOk n) = true) (hk : n ≤ k) : isMat M = inB n 1 9 := by
  unfold isMat; rw [hn, all_end h (by omega), Bool.true_and]

end Go.Proofs.YtcmmlldincflkaaDoor
