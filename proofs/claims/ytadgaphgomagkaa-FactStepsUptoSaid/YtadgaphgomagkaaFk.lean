/- The reference's records are written. -/
import Derived.Test.YtadgaphgomagkaaFj
namespace Go.Proofs.Ytadgaphgomagkaa
open Go.RowKit
set_option maxHeartbeats 1000000
set_option maxRecDepth 100000

end Go.Proofs.Ytadgaphgomagkaa
