/- Codes: powers, what a code is, and its number. Conditions: sizes within the reach. -/
import Derived.Test.YtpncmmdjkcdemaaDoorRule
namespace Go.Proofs.YtpncmmdjkcdemaaDoor
open Go.RowKit

def powN (k n : Nat) : Nat := k ^ n
theorem powN_succ (k n : Nat) : powN k (n + 1) = powN k n * k := rfl
theorem powN_le : ∀ k : Nat, k ≤ 3 → ∀ j : Nat, j ≤ 4 → powN k j ≤ 81 := by decide

set_option maxHeartbeats 1000000 in
theorem spec_l11Power_c (k n : Nat) (hk : k ≤ 3) (hn : n ≤ 4) (w : World) :
    Calls Tryd.prog 52 #[.int .i64 k, .int .i64 n] w fun e w' => e = .returned (.int .i64 (powN k n : Int)) ∧ w = w' := by
  go_enter Tryd.func52, Tryd.ntmps52
  go_wp2
  go_loop [5, 6] (fun o i => ∃ j q : Nat, j ≤ n ∧ i = .int .i64 j ∧ o = .int .i64 q ∧ Hid (q = powN k j)) (fun _ i => n - (intOf i).toNat)
  case atStart => exact ⟨0, 1, by omega, rfl, rfl, rfl⟩
  case round =>
    obtain ⟨j, q, hj, rfl, rfl, H⟩ := hrel
    by_cases hlt : j < n
    · have hq1 := powN_le k hk j (by omega)
      have hq2 := powN_le k hk (j + 1) (by omega)
      rw [powN_succ, ← H.out] at hq2
      rw [← H.out] at hq1
      have hmul : (0 : Int) ≤ (q : Int) * k ∧ (q : Int) * k ≤ 81 := by
        have : ((q * k : Nat) : Int) ≤ 81 := by omega
        rw [Int.natCast_mul] at this
        exact ⟨by rw [← Int.natCast_mul]; omega, this⟩
      go_wp2
      go_round
      case rel => exact ⟨j + 1, q * k, by omega, by go_num, by go_num, by show _ = _; rw [H.out, powN_succ]⟩
      case measure => simp [intOf]; omega
    · obtain rfl : j = n := by omega
      go_wp2
      go_ret
      exact ⟨ret_int (by rw [H.out]), rfl⟩

/-- What a code is. -/
def isCode (k n : Int) (o : ByteArray) : Bool :=
  decide ((k = 2 ∨ k = 3) ∧ (1 ≤ n ∧ n ≤ 4) ∧ powN k.toNat n.toNat ≤ 27 ∧ o.size = powN k.toNat n.toNat) && lets k o.data.toList

