/- Records are written. -/
import Derived.Test.YtadgaphgomagkaaFi
namespace Go.Proofs.Ytadgaphgomagkaa
open Go.RowKit
set_option maxHeartbeats 1000000
set_option maxRecDepth 100000

theorem slBB : SlT Try.prog 99 35 (.slice none 0 0) 1 24 := ⟨Try.underlying99, by kernel_rfl, rfl, by decide⟩

/-- a record -/
def recB (seq : Nat) (x : List UInt8) : List UInt8 := numB x.length ++ (lowB (crcB (lowB seq 8 ++ x)) 4 ++ (lowB seq 8 ++ x))

end Go.Proofs.Ytadgaphgomagkaa
