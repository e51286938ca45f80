/- Long words, told by one name. Conditions: sizes within the reach. -/
import Derived.Test.YtpncmmdjkcdemaaDoorLaw2
namespace Go.Proofs.YtpncmmdjkcdemaaDoor
open Go.RowKit

/-- A long word of k letters. -/
def longB (k : Int) (s : ByteArray) : Bool := lets k s.data.toList && decide (s.size ≤ 300)
theorem longB_iff {k : Int} {s : ByteArray} : longB k s = true ↔ lets k s.data.toList = true ∧ s.size ≤ 300 := by simp [longB]

end Go.Proofs.YtpncmmdjkcdemaaDoor
