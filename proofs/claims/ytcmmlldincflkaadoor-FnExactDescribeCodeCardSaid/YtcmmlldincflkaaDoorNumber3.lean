/- The number of a code: the reference's function. Conditions: sizes within the reach. -/
import Derived.Test.YtcmmlldincflkaaDoorNumber
namespace Go.Proofs.YtcmmlldincflkaaDoor
open Go.RowKit

theorem add_bit : ∀ j : Nat, j < 8 → ∀ m : Nat, m < 128 →
    wrap64 ((m : Int) + wrap64 (1 * 2 ^ j)) = ((m + 2 ^ j : Nat) : Int) ∧ wrap64 ((m : Int) + wrap64 (0 * 2 ^ j)) = (m : Int) := by decide +kernel
theorem num_step2 {o : ByteArray} (hl : lets 2 o.data.toList = true) {j m : Nat} (h : j < o.size) (h8 : j < 8) (hm : m = numOf o.data.toList j) :
    wrap64 ((m : Int) + wrap64 ((if (o[j].toNat : Int) = 98 then 1 else 0) * 2 ^ j)) = ((numOf o.data.toList (j + 1) : Nat) : Int) := by
  have h2 := numOf_lt o.data.toList j
  rw [← hm] at h2
  have h3 : (2 : Nat) ^ j ≤ 2 ^ 7 := Nat.pow_le_pow_right (by omega) (by omega)
  have hb := add_bit j h8 m (by omega)
  have hg : o.data.toList.getD j 0 = o[j] := by rw [List.getD_eq_getElem?_getD, byte_at o j h]; rfl
  rw [numOf_succ, ← hm, hg]
  rcases lets2 hl h with h4 | h4
  · have h5 : ¬ o[j] = 98 := fun h => by rw [h] at h4; simp at h4
    rw [h4, if_neg h5, if_neg (by decide)]; exact hb.2
  · have h5 : o[j] = 98 := UInt8.toNat_inj.1 h4
    rw [h4, if_pos h5, if_pos (by decide)]; exact hb.1

end Go.Proofs.YtcmmlldincflkaaDoor
