/- The number of a code: both exported functions. Conditions: sizes within the reach. -/
import Derived.Test.YtcmmlldincflkaaDoorNumber
namespace Go.Proofs.YtcmmlldincflkaaDoor
open Go.RowKit

end Go.Proofs.YtcmmlldincflkaaDoor
