/- Codes: powers, what a code is, and its number. Conditions: sizes within the reach. -/
import Derived.Test.YtpncmmdjkcdemaaGreatDoorRule
namespace Go.Proofs.YtpncmmdjkcdemaaGreatDoor
open Go.RowKit

def powN (k n : Nat) : Nat := k ^ n
theorem powN_succ (k n : Nat) : powN k (n + 1) = powN k n * k := rfl
theorem powN_le : ∀ k : Nat, k ≤ 3 → ∀ j : Nat, j ≤ 4 → powN k j ≤ 81 := by decide

/-- What a code is. -/
def isCode (k n : Int) (o : ByteArray) : Bool :=
  decide ((k = 2 ∨ k = 3) ∧ (1 ≤ n ∧ n ≤ 4) ∧ powN k.toNat n.toNat ≤ 27 ∧ o.size = powN k.toNat n.toNat) && lets k o.data.toList

