/- Words of k letters: at an index, their index, all of them. Conditions: at most 3 letters, at most 16 places. -/
import Derived.Test.YtpncmmdjkcdemaaGreatDoorLaw2
namespace Go.Proofs.YtpncmmdjkcdemaaGreatDoor
open Go.RowKit

/-- The letter number x. -/
def letB (x : Nat) : UInt8 := UInt8.ofNat (97 + x)
theorem letB_nat {x : Nat} (h : x < 100) : ((letB x).toNat : Int) = 97 + (x : Int) := by unfold letB; simp [UInt8.toNat_ofNat']; omega
/-- The word of n letters with an index. -/
def wAt (k : Nat) : Nat → Nat → List UInt8 | 0, _ => [] | n + 1, x => wAt k n (x / k) ++ [letB (x % k)]
theorem wAt_len (k : Nat) : ∀ n x, (wAt k n x).length = n
  | 0, _ => rfl
  | n + 1, x => by simp [wAt, wAt_len k n]
theorem infoU8b : (Tryz.prog.info? 5).map (fun i => (i.zero, i.size, i.bytes)) = some (some (.int .u8 0), 1, 1) := by kernel_rfl
theorem infoStr3 : (Tryz.prog.info? 9).map (fun i => (i.zero, i.size, i.bytes)) = some (some (.string ByteArray.empty), 1, 16) := by kernel_rfl
theorem set_zero (d : Nat) (S : List Value) (z u : Value) : (List.replicate (d + 1) z ++ S).set d u = List.replicate d z ++ u :: S := by
  rw [List.replicate_succ', List.append_assoc, List.set_append_right _ _ (by simp)]
  simp
theorem byteVals_cons (c : UInt8) (l : List UInt8) : byteVals (c :: l) = .int .u8 (c.toNat : Int) :: byteVals l := rfl

/-- The index of a word. -/
def idxOf (k : Nat) (l : List UInt8) : Nat := l.foldl (fun a c => a * k + (c.toNat - 97)) 0
theorem idxOf_take {k : Nat} {l : List UInt8} {j : Nat} {c : UInt8} (h : l[j]? = some c) : idxOf k (l.take (j + 1)) = idxOf k (l.take j) * k + (c.toNat - 97) := by
  rw [List.take_add_one, h]; simp [idxOf, List.foldl_append]
theorem idxOf_lt {k : Nat} {l : List UInt8} (hl : lets k l = true) (hk : k ≤ 3) : ∀ j, j ≤ l.length → idxOf k (l.take j) < k ^ j
  | 0, _ => by simp [idxOf]
  | j + 1, h => by
    obtain ⟨c, hc⟩ := get_some (l := l) (n := j) (by omega)
    have ih := idxOf_lt hl hk j (by omega)
    have h1 := List.all_eq_true.1 hl c (List.mem_of_getElem? hc)
    rw [inB_iff] at h1
    rw [idxOf_take hc, Nat.pow_succ]
    have h2 : (idxOf k (l.take j) + 1) * k ≤ k ^ j * k := Nat.mul_le_mul_right _ ih
    rw [Nat.add_mul] at h2
    omega

