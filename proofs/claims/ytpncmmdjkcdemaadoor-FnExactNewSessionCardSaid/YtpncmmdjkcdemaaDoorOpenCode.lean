/- A code that came in, and what the laws do with it. No condition. -/
import Derived.Test.YtpncmmdjkcdemaaDoorOpen
import Derived.Test.YtpncmmdjkcdemaaDoorRule
namespace Go.Proofs.YtpncmmdjkcdemaaDoor
open Go.ChangeShapes Go.WideShapes Go.ChangeAt Go.RowKit
open Go.ChangeMaps (open_string shut_string)

/-- A code that came in. -/
def CodeIn (v : Value) : Prop := ∃ k n o, v = .agg #[.int .i64 k, .int .i64 n, .string o] ∧ o.size ≤ maxLen

