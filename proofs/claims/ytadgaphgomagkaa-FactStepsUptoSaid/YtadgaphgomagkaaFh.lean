/- Parts and records are written. -/
import Derived.Test.YtadgaphgomagkaaFg
namespace Go.Proofs.Ytadgaphgomagkaa
open Go.RowKit
set_option maxHeartbeats 1000000
set_option maxRecDepth 100000

/-- parts that are not too many -/
def joinOk (ps : List Sb) : Bool := decide (ps = [] ∨ (ps.length ≤ 1000 ∧ (flat ps).length ≤ 65536))
def joinL (ps : List Sb) : List UInt8 := if joinOk ps then flat ps else []
theorem flat_take_le (ps : List Sb) (k : Nat) : (flat (ps.take k)).length ≤ (flat ps).length := by
  have h : flat ps = flat (ps.take k) ++ flat (ps.drop k) := by
    unfold flat
    rw [← List.flatMap_append, List.take_append_drop]
  rw [h, List.length_append]
  omega
end Go.Proofs.Ytadgaphgomagkaa
