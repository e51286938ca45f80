/- Small functions of the reference: a bit, the lesser, the greater. No condition. -/
import Derived.Test.YtiigfnlkilfomaaBase
namespace Go.Proofs.Ytiigfnlkilfomaa
open Go.RowKit

set_option maxHeartbeats 400000 in
theorem l1Bit_c (b : Bool) (w : World) : Calls Try.prog 38 #[.bool b] w fun e w' => e = .returned (.int .i64 (if b then 1 else 0)) ∧ w = w' := by
  cases b <;> {
    go_enter Try.func38, Try.ntmps38
    go_wp2
    go_ret
    exact ⟨rfl, rfl⟩ }

