/- Bits of words of 64. No condition. -/
import Derived.Test.YtpncmmdjkcdemaaGreatDoorBase
import Derived.Laws.Bits64b
namespace Go.Proofs.YtpncmmdjkcdemaaGreatDoor

theorem mask_nat (x : Int) (m : Nat) (hm : m < 9223372036854775808) : ∃ n : Nat, bits BinOp.and IntKind.i64 x (m : Int) = (n : Int) ∧ n ≤ m := by
  have h2 : (BitVec.ofInt 64 (m : Int)).toNat = m := by
    rw [BitVec.ofInt_natCast, BitVec.toNat_ofNat]; exact Nat.mod_eq_of_lt (by omega)
  have hle : (BitVec.ofInt 64 x).toNat &&& m ≤ m := Nat.and_le_right
  refine ⟨(BitVec.ofInt 64 x).toNat &&& m, ?_, hle⟩
  show IntKind.i64.wrap ((BitVec.ofInt 64 x &&& BitVec.ofInt 64 (m : Int)).toNat : Int) = _
  rw [BitVec.toNat_and, h2]
  generalize (BitVec.ofInt 64 x).toNat &&& m = n at hle
  simp only [IntKind.wrap, IntKind.bits, IntKind.signed]
  simp
  split <;> omega
theorem mask255 (x : Int) : ∃ n : Nat, bits BinOp.and IntKind.i64 x 255 = (n : Int) ∧ n ≤ 255 := mask_nat x 255 (by omega)
end Go.Proofs.YtpncmmdjkcdemaaGreatDoor
