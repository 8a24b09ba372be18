/-
  No cell of these rows narrows 'for every input' (looked for: loops, veiled, ifaces, maps, wideKeys, modest, calm, conditions, laid).
  DERIVED. THE GIVEN ROWS OF THIS SEAT. 10 by the template 'for every input the law returns true; each argument reads behind the call as it read before'; 0 by the template 'total and deterministic' (their statements: YtadgaphgomagkaaTotals.lean).
  GIVEN WITH THE SEED: the statements are not yours to turn. If you find one false, say at which input.
  Laid BY PROGRAM, IN A SANDBOX (cutbox-rows.mjs): the forced cells as the released guide's own fill.sh prints them over the translation e5298ccb9d0b4a9c… (all of the seat's roots in one cut). By AI agents, Wed Nov 11 2026. No macro, syntax, notation, axiom, sorry.
-/
import Derived.Test.YtadgaphgomagkaaChecked
import GoSem.Claim
import GoSem.ClaimJoined
import GoSem.ClaimMapViews
import Derived.JoinedTies
import Derived.KernelRfl
namespace Go.Proofs.Ytadgaphgomagkaa
/- THE CELL 'sum', in the pinned program and in every row, IS THE sha256 OF THE DUMP (.gsa) THAT YtadgaphgomagkaaProg.lean LOADS. Nothing in Lean hashes anything: it is a label: what it is worth is what the hold of that sum in a sandbox is worth. -/
noncomputable def Try.pinned : Pinned := { name := "ytadgaphgomagkaa", sum := "e5298ccb9d0b4a9cd885cd4c183bdbf16078238f8dbafab74c2dfc4df194ea52", checked := Try.checked }
namespace Rows
def none {H : Type} : Left H := { results := [], args := [] }

/-- 'flintlaw4.NvramFronts': WHATEVER THE INPUT: true; the input reads as it did. -/
def nvramFrontsSpec : ChangeSpec := { name := "nvramFronts", fn := fun _ => fun
  | [d1, d2, d3] => { results := [.lit (.bool true)], args := [d1, d2, d3] }
  | _ => none }
def nvramFrontsRow : OpenClaim := { program := "ytadgaphgomagkaa", sum := "e5298ccb9d0b4a9cd885cd4c183bdbf16078238f8dbafab74c2dfc4df194ea52", func := "flint/flintlaw4.NvramFronts", spec := "nvramFronts", unfollowed := true, recurses := true, apart := false }
def NvramFrontsSaid : Prop := nvramFrontsRow.holds Try.pinned (OpenSpec.ofChange nvramFrontsSpec)

/-- ITS FALSE NEIGHBOUR: 'it returns false'. Refute it at one input. -/
def nvramFrontsWrong : ChangeSpec := { name := "nvramFronts", fn := fun _ => fun
  | [d1, d2, d3] => { results := [.lit (.bool false)], args := [d1, d2, d3] }
  | _ => none }
def NvramFrontsWrongFalsely : Prop := nvramFrontsRow.holds Try.pinned (OpenSpec.ofChange nvramFrontsWrong)

/-- 'flintlaw4.NvramPlays': WHATEVER THE INPUT: true; the input reads as it did. -/
def nvramPlaysSpec : ChangeSpec := { name := "nvramPlays", fn := fun _ => fun
  | [d1, d2, d3, d4] => { results := [.lit (.bool true)], args := [d1, d2, d3, d4] }
  | _ => none }
def nvramPlaysRow : OpenClaim := { program := "ytadgaphgomagkaa", sum := "e5298ccb9d0b4a9cd885cd4c183bdbf16078238f8dbafab74c2dfc4df194ea52", func := "flint/flintlaw4.NvramPlays", spec := "nvramPlays", unfollowed := true, recurses := true, apart := false }
def NvramPlaysSaid : Prop := nvramPlaysRow.holds Try.pinned (OpenSpec.ofChange nvramPlaysSpec)

/-- ITS FALSE NEIGHBOUR: 'it returns false'. Refute it at one input. -/
def nvramPlaysWrong : ChangeSpec := { name := "nvramPlays", fn := fun _ => fun
  | [d1, d2, d3, d4] => { results := [.lit (.bool false)], args := [d1, d2, d3, d4] }
  | _ => none }
def NvramPlaysWrongFalsely : Prop := nvramPlaysRow.holds Try.pinned (OpenSpec.ofChange nvramPlaysWrong)

/-- 'flintlaw11.FactBuilds': WHATEVER THE INPUT: true; the input reads as it did. -/
def factBuildsSpec : ChangeSpec := { name := "factBuilds", fn := fun _ => fun
  | [d1, d2] => { results := [.lit (.bool true)], args := [d1, d2] }
  | _ => none }
def factBuildsRow : OpenClaim := { program := "ytadgaphgomagkaa", sum := "e5298ccb9d0b4a9cd885cd4c183bdbf16078238f8dbafab74c2dfc4df194ea52", func := "flint/flintlaw11.FactBuilds", spec := "factBuilds", unfollowed := true, recurses := true, apart := false }
def FactBuildsSaid : Prop := factBuildsRow.holds Try.pinned (OpenSpec.ofChange factBuildsSpec)

/-- ITS FALSE NEIGHBOUR: 'it returns false'. Refute it at one input. -/
def factBuildsWrong : ChangeSpec := { name := "factBuilds", fn := fun _ => fun
  | [d1, d2] => { results := [.lit (.bool false)], args := [d1, d2] }
  | _ => none }
def FactBuildsWrongFalsely : Prop := factBuildsRow.holds Try.pinned (OpenSpec.ofChange factBuildsWrong)

/-- 'flintlaw11.FactBits': WHATEVER THE INPUT: true; the input reads as it did. -/
def factBitsSpec : ChangeSpec := { name := "factBits", fn := fun _ => fun
  | [d1, d2, d3, d4] => { results := [.lit (.bool true)], args := [d1, d2, d3, d4] }
  | _ => none }
def factBitsRow : OpenClaim := { program := "ytadgaphgomagkaa", sum := "e5298ccb9d0b4a9cd885cd4c183bdbf16078238f8dbafab74c2dfc4df194ea52", func := "flint/flintlaw11.FactBits", spec := "factBits", unfollowed := true, recurses := true, apart := false }
def FactBitsSaid : Prop := factBitsRow.holds Try.pinned (OpenSpec.ofChange factBitsSpec)

/-- ITS FALSE NEIGHBOUR: 'it returns false'. Refute it at one input. -/
def factBitsWrong : ChangeSpec := { name := "factBits", fn := fun _ => fun
  | [d1, d2, d3, d4] => { results := [.lit (.bool false)], args := [d1, d2, d3, d4] }
  | _ => none }
def FactBitsWrongFalsely : Prop := factBitsRow.holds Try.pinned (OpenSpec.ofChange factBitsWrong)

/-- 'flintlaw11.FactOwn': WHATEVER THE INPUT: true; the input reads as it did. -/
def factOwnSpec : ChangeSpec := { name := "factOwn", fn := fun _ => fun
  | [d1, d2] => { results := [.lit (.bool true)], args := [d1, d2] }
  | _ => none }
def factOwnRow : OpenClaim := { program := "ytadgaphgomagkaa", sum := "e5298ccb9d0b4a9cd885cd4c183bdbf16078238f8dbafab74c2dfc4df194ea52", func := "flint/flintlaw11.FactOwn", spec := "factOwn", unfollowed := true, recurses := true, apart := false }
def FactOwnSaid : Prop := factOwnRow.holds Try.pinned (OpenSpec.ofChange factOwnSpec)

/-- ITS FALSE NEIGHBOUR: 'it returns false'. Refute it at one input. -/
def factOwnWrong : ChangeSpec := { name := "factOwn", fn := fun _ => fun
  | [d1, d2] => { results := [.lit (.bool false)], args := [d1, d2] }
  | _ => none }
def FactOwnWrongFalsely : Prop := factOwnRow.holds Try.pinned (OpenSpec.ofChange factOwnWrong)

/-- 'flintlaw11.FactRanges': WHATEVER THE INPUT: true; the input reads as it did. -/
def factRangesSpec : ChangeSpec := { name := "factRanges", fn := fun _ => fun
  | [d1, d2, d3] => { results := [.lit (.bool true)], args := [d1, d2, d3] }
  | _ => none }
def factRangesRow : OpenClaim := { program := "ytadgaphgomagkaa", sum := "e5298ccb9d0b4a9cd885cd4c183bdbf16078238f8dbafab74c2dfc4df194ea52", func := "flint/flintlaw11.FactRanges", spec := "factRanges", unfollowed := true, recurses := true, apart := false }
def FactRangesSaid : Prop := factRangesRow.holds Try.pinned (OpenSpec.ofChange factRangesSpec)

/-- ITS FALSE NEIGHBOUR: 'it returns false'. Refute it at one input. -/
def factRangesWrong : ChangeSpec := { name := "factRanges", fn := fun _ => fun
  | [d1, d2, d3] => { results := [.lit (.bool false)], args := [d1, d2, d3] }
  | _ => none }
def FactRangesWrongFalsely : Prop := factRangesRow.holds Try.pinned (OpenSpec.ofChange factRangesWrong)

/-- 'flintlaw11.FactOpens': WHATEVER THE INPUT: true; the input reads as it did. -/
def factOpensSpec : ChangeSpec := { name := "factOpens", fn := fun _ => fun
  | [d1, d2, d3] => { results := [.lit (.bool true)], args := [d1, d2, d3] }
  | _ => none }
def factOpensRow : OpenClaim := { program := "ytadgaphgomagkaa", sum := "e5298ccb9d0b4a9cd885cd4c183bdbf16078238f8dbafab74c2dfc4df194ea52", func := "flint/flintlaw11.FactOpens", spec := "factOpens", unfollowed := true, recurses := true, apart := false }
def FactOpensSaid : Prop := factOpensRow.holds Try.pinned (OpenSpec.ofChange factOpensSpec)

/-- ITS FALSE NEIGHBOUR: 'it returns false'. Refute it at one input. -/
def factOpensWrong : ChangeSpec := { name := "factOpens", fn := fun _ => fun
  | [d1, d2, d3] => { results := [.lit (.bool false)], args := [d1, d2, d3] }
  | _ => none }
def FactOpensWrongFalsely : Prop := factOpensRow.holds Try.pinned (OpenSpec.ofChange factOpensWrong)

/-- 'flintlaw11.FactBack': WHATEVER THE INPUT: true; the input reads as it did. -/
def factBackSpec : ChangeSpec := { name := "factBack", fn := fun _ => fun
  | [d1, d2, d3, d4] => { results := [.lit (.bool true)], args := [d1, d2, d3, d4] }
  | _ => none }
def factBackRow : OpenClaim := { program := "ytadgaphgomagkaa", sum := "e5298ccb9d0b4a9cd885cd4c183bdbf16078238f8dbafab74c2dfc4df194ea52", func := "flint/flintlaw11.FactBack", spec := "factBack", unfollowed := true, recurses := true, apart := false }
def FactBackSaid : Prop := factBackRow.holds Try.pinned (OpenSpec.ofChange factBackSpec)

/-- ITS FALSE NEIGHBOUR: 'it returns false'. Refute it at one input. -/
def factBackWrong : ChangeSpec := { name := "factBack", fn := fun _ => fun
  | [d1, d2, d3, d4] => { results := [.lit (.bool false)], args := [d1, d2, d3, d4] }
  | _ => none }
def FactBackWrongFalsely : Prop := factBackRow.holds Try.pinned (OpenSpec.ofChange factBackWrong)

/-- 'flintlaw11.FactMerges': WHATEVER THE INPUT: true; the input reads as it did. -/
def factMergesSpec : ChangeSpec := { name := "factMerges", fn := fun _ => fun
  | [d1, d2, d3] => { results := [.lit (.bool true)], args := [d1, d2, d3] }
  | _ => none }
def factMergesRow : OpenClaim := { program := "ytadgaphgomagkaa", sum := "e5298ccb9d0b4a9cd885cd4c183bdbf16078238f8dbafab74c2dfc4df194ea52", func := "flint/flintlaw11.FactMerges", spec := "factMerges", unfollowed := true, recurses := true, apart := false }
def FactMergesSaid : Prop := factMergesRow.holds Try.pinned (OpenSpec.ofChange factMergesSpec)

/-- ITS FALSE NEIGHBOUR: 'it returns false'. Refute it at one input. -/
def factMergesWrong : ChangeSpec := { name := "factMerges", fn := fun _ => fun
  | [d1, d2, d3] => { results := [.lit (.bool false)], args := [d1, d2, d3] }
  | _ => none }
def FactMergesWrongFalsely : Prop := factMergesRow.holds Try.pinned (OpenSpec.ofChange factMergesWrong)

/-- 'flintlaw11.FactSteps': WHATEVER THE INPUT: true; the input reads as it did. -/
def factStepsSpec : ChangeSpec := { name := "factSteps", fn := fun _ => fun
  | [d1, d2, d3] => { results := [.lit (.bool true)], args := [d1, d2, d3] }
  | _ => none }
def factStepsRow : OpenClaim := { program := "ytadgaphgomagkaa", sum := "e5298ccb9d0b4a9cd885cd4c183bdbf16078238f8dbafab74c2dfc4df194ea52", func := "flint/flintlaw11.FactSteps", spec := "factSteps", unfollowed := true, recurses := true, apart := false }
def FactStepsSaid : Prop := factStepsRow.holds Try.pinned (OpenSpec.ofChange factStepsSpec)

/-- ITS FALSE NEIGHBOUR: 'it returns false'. Refute it at one input. -/
def factStepsWrong : ChangeSpec := { name := "factSteps", fn := fun _ => fun
  | [d1, d2, d3] => { results := [.lit (.bool false)], args := [d1, d2, d3] }
  | _ => none }
def FactStepsWrongFalsely : Prop := factStepsRow.holds Try.pinned (OpenSpec.ofChange factStepsWrong)

/- THE SECOND FORM. 'bulk': how many values and letters a reading holds, each counted each time it is reached (what is shared counts as often as it is met; a slice's spare places count too). A statement '..UptoSaid' is the law's where the arguments, and the package variables that the reading takes, are together of bulk at most 1048576: NARROWER than '..Said'. Prove '..Said' where nothing that the law and all that it calls make is longer than what came in: it says more and counts as full. Else prove '..UptoSaid'. A law counts once. -/
mutual
def uptoBulk {H : Type} : DataW H → Nat
  | .lit (.string bytes) => bytes.length + 1
  | .lit _ => 1
  | .nil => 1
  | .ptr d => uptoBulk d + 1
  | .slice elems spare => uptoBulkAll elems + uptoBulkAll spare + 1
  | .agg parts => uptoBulkAll parts + 1
  | .iface _ d => uptoBulk d + 1
  | .map entries => uptoBulkEntries entries + 1
  | .held _ => 1
def uptoBulkAll {H : Type} : List (DataW H) → Nat
  | [] => 0
  | d :: r => uptoBulk d + uptoBulkAll r
def uptoBulkEntries {H : Type} : List (Lit × DataW H) → Nat
  | [] => 0
  | x :: r => uptoBulkEntry x + uptoBulkEntries r
def uptoBulkEntry {H : Type} : Lit × DataW H → Nat
  | (.string bytes, d) => bytes.length + uptoBulk d + 1
  | (_, d) => uptoBulk d + 1
 end
def uptoSmall : (H : Type) → List (DataW H) → Bool := fun _ ds => decide (uptoBulkAll ds ≤ 1048576)
def OpenSpec.upto (s : _root_.Go.ChangeSpec) : _root_.Go.OpenSpec := { _root_.Go.OpenSpec.ofChange s with cond := some uptoSmall }

/-- 'flintlaw4.NvramFronts', WHERE WHAT IT READS IS OF BULK AT MOST 1048576: true; the input reads as it did. -/
def nvramFrontsUptoRow : OpenClaim := { program := "ytadgaphgomagkaa", sum := "e5298ccb9d0b4a9cd885cd4c183bdbf16078238f8dbafab74c2dfc4df194ea52", func := "flint/flintlaw4.NvramFronts", spec := "nvramFronts", unfollowed := true, recurses := true, apart := false, narrowed := true }
def NvramFrontsUptoSaid : Prop := nvramFrontsUptoRow.holds Try.pinned (OpenSpec.upto nvramFrontsSpec)

/-- 'flintlaw4.NvramPlays', WHERE WHAT IT READS IS OF BULK AT MOST 1048576: true; the input reads as it did. -/
def nvramPlaysUptoRow : OpenClaim := { program := "ytadgaphgomagkaa", sum := "e5298ccb9d0b4a9cd885cd4c183bdbf16078238f8dbafab74c2dfc4df194ea52", func := "flint/flintlaw4.NvramPlays", spec := "nvramPlays", unfollowed := true, recurses := true, apart := false, narrowed := true }
def NvramPlaysUptoSaid : Prop := nvramPlaysUptoRow.holds Try.pinned (OpenSpec.upto nvramPlaysSpec)

/-- 'flintlaw11.FactBuilds', WHERE WHAT IT READS IS OF BULK AT MOST 1048576: true; the input reads as it did. -/
def factBuildsUptoRow : OpenClaim := { program := "ytadgaphgomagkaa", sum := "e5298ccb9d0b4a9cd885cd4c183bdbf16078238f8dbafab74c2dfc4df194ea52", func := "flint/flintlaw11.FactBuilds", spec := "factBuilds", unfollowed := true, recurses := true, apart := false, narrowed := true }
def FactBuildsUptoSaid : Prop := factBuildsUptoRow.holds Try.pinned (OpenSpec.upto factBuildsSpec)

/-- 'flintlaw11.FactBits', WHERE WHAT IT READS IS OF BULK AT MOST 1048576: true; the input reads as it did. -/
def factBitsUptoRow : OpenClaim := { program := "ytadgaphgomagkaa", sum := "e5298ccb9d0b4a9cd885cd4c183bdbf16078238f8dbafab74c2dfc4df194ea52", func := "flint/flintlaw11.FactBits", spec := "factBits", unfollowed := true, recurses := true, apart := false, narrowed := true }
def FactBitsUptoSaid : Prop := factBitsUptoRow.holds Try.pinned (OpenSpec.upto factBitsSpec)

/-- 'flintlaw11.FactOwn', WHERE WHAT IT READS IS OF BULK AT MOST 1048576: true; the input reads as it did. -/
def factOwnUptoRow : OpenClaim := { program := "ytadgaphgomagkaa", sum := "e5298ccb9d0b4a9cd885cd4c183bdbf16078238f8dbafab74c2dfc4df194ea52", func := "flint/flintlaw11.FactOwn", spec := "factOwn", unfollowed := true, recurses := true, apart := false, narrowed := true }
def FactOwnUptoSaid : Prop := factOwnUptoRow.holds Try.pinned (OpenSpec.upto factOwnSpec)

/-- 'flintlaw11.FactRanges', WHERE WHAT IT READS IS OF BULK AT MOST 1048576: true; the input reads as it did. -/
def factRangesUptoRow : OpenClaim := { program := "ytadgaphgomagkaa", sum := "e5298ccb9d0b4a9cd885cd4c183bdbf16078238f8dbafab74c2dfc4df194ea52", func := "flint/flintlaw11.FactRanges", spec := "factRanges", unfollowed := true, recurses := true, apart := false, narrowed := true }
def FactRangesUptoSaid : Prop := factRangesUptoRow.holds Try.pinned (OpenSpec.upto factRangesSpec)

/-- 'flintlaw11.FactOpens', WHERE WHAT IT READS IS OF BULK AT MOST 1048576: true; the input reads as it did. -/
def factOpensUptoRow : OpenClaim := { program := "ytadgaphgomagkaa", sum := "e5298ccb9d0b4a9cd885cd4c183bdbf16078238f8dbafab74c2dfc4df194ea52", func := "flint/flintlaw11.FactOpens", spec := "factOpens", unfollowed := true, recurses := true, apart := false, narrowed := true }
def FactOpensUptoSaid : Prop := factOpensUptoRow.holds Try.pinned (OpenSpec.upto factOpensSpec)

/-- 'flintlaw11.FactBack', WHERE WHAT IT READS IS OF BULK AT MOST 1048576: true; the input reads as it did. -/
def factBackUptoRow : OpenClaim := { program := "ytadgaphgomagkaa", sum := "e5298ccb9d0b4a9cd885cd4c183bdbf16078238f8dbafab74c2dfc4df194ea52", func := "flint/flintlaw11.FactBack", spec := "factBack", unfollowed := true, recurses := true, apart := false, narrowed := true }
def FactBackUptoSaid : Prop := factBackUptoRow.holds Try.pinned (OpenSpec.upto factBackSpec)

/-- 'flintlaw11.FactMerges', WHERE WHAT IT READS IS OF BULK AT MOST 1048576: true; the input reads as it did. -/
def factMergesUptoRow : OpenClaim := { program := "ytadgaphgomagkaa", sum := "e5298ccb9d0b4a9cd885cd4c183bdbf16078238f8dbafab74c2dfc4df194ea52", func := "flint/flintlaw11.FactMerges", spec := "factMerges", unfollowed := true, recurses := true, apart := false, narrowed := true }
def FactMergesUptoSaid : Prop := factMergesUptoRow.holds Try.pinned (OpenSpec.upto factMergesSpec)

/-- 'flintlaw11.FactSteps', WHERE WHAT IT READS IS OF BULK AT MOST 1048576: true; the input reads as it did. -/
def factStepsUptoRow : OpenClaim := { program := "ytadgaphgomagkaa", sum := "e5298ccb9d0b4a9cd885cd4c183bdbf16078238f8dbafab74c2dfc4df194ea52", func := "flint/flintlaw11.FactSteps", spec := "factSteps", unfollowed := true, recurses := true, apart := false, narrowed := true }
def FactStepsUptoSaid : Prop := factStepsUptoRow.holds Try.pinned (OpenSpec.upto factStepsSpec)

end Rows
end Go.Proofs.Ytadgaphgomagkaa
