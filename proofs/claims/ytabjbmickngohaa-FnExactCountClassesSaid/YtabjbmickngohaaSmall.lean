/- Small functions of the reference: a bit, the lesser, the greater. No condition. -/
import Derived.Test.YtabjbmickngohaaBase
namespace Go.Proofs.Ytabjbmickngohaa
open Go.RowKit

set_option maxHeartbeats 400000 in
theorem l1Bit_c (b : Bool) (w : World) : Calls Try.prog 49 #[.bool b] w fun e w' => e = .returned (.int .i64 (if b then 1 else 0)) ∧ w = w' := by
  cases b <;> {
    go_enter Try.func49, Try.ntmps49
    go_wp2
    go_ret
    exact ⟨rfl, rfl⟩ }

set_option maxHeartbeats 400000 in
theorem l1Max_c (a b : Int) (w : World) : Calls Try.prog 106 #[.int .i64 a, .int .i64 b] w fun e w' => e = .returned (.int .i64 (max a b)) ∧ w = w' := by
  by_cases h : b < a <;> {
    go_enter Try.func106, Try.ntmps106
    go_wp2
    go_ret
    exact ⟨ret_int (by omega), rfl⟩ }
end Go.Proofs.Ytabjbmickngohaa
