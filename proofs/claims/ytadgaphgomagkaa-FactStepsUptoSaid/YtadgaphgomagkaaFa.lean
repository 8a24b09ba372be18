/- The codec's small functions. -/
import Derived.Test.YtadgaphgomagkaaRows
import Derived.Test.YtadgaphgomagkaaWa
import Derived.Test.YtadgaphgomagkaaPa
namespace Go.Proofs.Ytadgaphgomagkaa
open Go.RowKit

theorem slB : SlT Try.prog 35 5 (.int .u8 0) 1 1 := ⟨Try.underlying35, by kernel_rfl, rfl, by decide⟩

end Go.Proofs.Ytadgaphgomagkaa
