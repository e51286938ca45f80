/- Small functions of the reference: a bit, the lesser, the greater. No condition. -/
import Derived.Test.YtpncmmdjkcdemaaDoorBase
namespace Go.Proofs.YtpncmmdjkcdemaaDoor
open Go.RowKit

