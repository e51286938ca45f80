/- Small functions of the reference: a bit, the lesser, the greater. No condition. -/
import Derived.Test.YtcfjchaklgjmkaaBase
namespace Go.Proofs.Ytcfjchaklgjmkaa
open Go.RowKit

set_option maxHeartbeats 400000 in
theorem l1Bit_c (b : Bool) (w : World) : Calls Try.prog 53 #[.bool b] w fun e w' => e = .returned (.int .i64 (if b then 1 else 0)) ∧ w = w' := by
  cases b <;> {
    go_enter Try.func53, Try.ntmps53
    go_wp2
    go_ret
    exact ⟨rfl, rfl⟩ }

set_option maxHeartbeats 400000 in
theorem l1Min_c (a b : Int) (w : World) : Calls Try.prog 64 #[.int .i64 a, .int .i64 b] w fun e w' => e = .returned (.int .i64 (min a b)) ∧ w = w' := by
  by_cases h : a < b <;> {
    go_enter Try.func64, Try.ntmps64
    go_wp2
    go_ret
    exact ⟨ret_int (by omega), rfl⟩ }
set_option maxHeartbeats 400000 in
theorem l1Max_c (a b : Int) (w : World) : Calls Try.prog 79 #[.int .i64 a, .int .i64 b] w fun e w' => e = .returned (.int .i64 (max a b)) ∧ w = w' := by
  by_cases h : b < a <;> {
    go_enter Try.func79, Try.ntmps79
    go_wp2
    go_ret
    exact ⟨ret_int (by omega), rfl⟩ }
end Go.Proofs.Ytcfjchaklgjmkaa
