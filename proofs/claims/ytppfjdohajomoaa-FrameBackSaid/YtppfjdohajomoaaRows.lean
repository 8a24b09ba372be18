/-
  No cell of these rows narrows 'for every input' (looked for: loops, veiled, ifaces, maps, wideKeys, modest, calm, conditions, laid).
  DERIVED. THE GIVEN ROWS OF THIS SEAT. 12 by the template 'for every input the law returns true; each argument reads behind the call as it read before'; 0 by the template 'total and deterministic' (their statements: YtppfjdohajomoaaTotals.lean).
  GIVEN WITH THE SEED: the statements are not yours to turn. If you find one false, say at which input.
  Laid BY PROGRAM, IN A SANDBOX (cutbox-rows.mjs): the forced cells as the released guide's own fill.sh prints them over the translation 399fc0df5fa0c924… (all of the seat's roots in one cut). By AI agents, Wed Nov 11 2026. No macro, syntax, notation, axiom, sorry.
-/
import Derived.Test.YtppfjdohajomoaaChecked
import GoSem.Claim
import GoSem.ClaimJoined
import GoSem.ClaimMapViews
import Derived.JoinedTies
import Derived.KernelRfl
namespace Go.Proofs.Ytppfjdohajomoaa
/- THE CELL 'sum', in the pinned program and in every row, IS THE sha256 OF THE DUMP (.gsa) THAT YtppfjdohajomoaaProg.lean LOADS. Nothing in Lean hashes anything: it is a label: what it is worth is what the hold of that sum in a sandbox is worth. -/
noncomputable def Try.pinned : Pinned := { name := "ytppfjdohajomoaa", sum := "399fc0df5fa0c924805f2d16c0871c7c1e47f8e35448baafde31a1aba03e7d50", checked := Try.checked }
namespace Rows
def none {H : Type} : Left H := { results := [], args := [] }

/-- 'flintlaw14.MediumChains': WHATEVER THE INPUT: true; the input reads as it did. -/
def mediumChainsSpec : ChangeSpec := { name := "mediumChains", fn := fun _ => fun
  | [d1, d2, d3] => { results := [.lit (.bool true)], args := [d1, d2, d3] }
  | _ => none }
def mediumChainsRow : OpenClaim := { program := "ytppfjdohajomoaa", sum := "399fc0df5fa0c924805f2d16c0871c7c1e47f8e35448baafde31a1aba03e7d50", func := "flint/flintlaw14.MediumChains", spec := "mediumChains", unfollowed := true, recurses := true, apart := false }
def MediumChainsSaid : Prop := mediumChainsRow.holds Try.pinned (OpenSpec.ofChange mediumChainsSpec)

/-- ITS FALSE NEIGHBOUR: 'it returns false'. Refute it at one input. -/
def mediumChainsWrong : ChangeSpec := { name := "mediumChains", fn := fun _ => fun
  | [d1, d2, d3] => { results := [.lit (.bool false)], args := [d1, d2, d3] }
  | _ => none }
def MediumChainsWrongFalsely : Prop := mediumChainsRow.holds Try.pinned (OpenSpec.ofChange mediumChainsWrong)

/-- 'flintlaw1.FrameSums': WHATEVER THE INPUT: true; the input reads as it did. -/
def frameSumsSpec : ChangeSpec := { name := "frameSums", fn := fun _ => fun
  | [d] => { results := [.lit (.bool true)], args := [d] }
  | _ => none }
def frameSumsRow : OpenClaim := { program := "ytppfjdohajomoaa", sum := "399fc0df5fa0c924805f2d16c0871c7c1e47f8e35448baafde31a1aba03e7d50", func := "flint/flintlaw1.FrameSums", spec := "frameSums", apart := false }
def FrameSumsSaid : Prop := frameSumsRow.holds Try.pinned (OpenSpec.ofChange frameSumsSpec)

/-- ITS FALSE NEIGHBOUR: 'it returns false'. Refute it at one input. -/
def frameSumsWrong : ChangeSpec := { name := "frameSums", fn := fun _ => fun
  | [d] => { results := [.lit (.bool false)], args := [d] }
  | _ => none }
def FrameSumsWrongFalsely : Prop := frameSumsRow.holds Try.pinned (OpenSpec.ofChange frameSumsWrong)

/-- 'flintlaw1.FramePages': WHATEVER THE INPUT: true; the input reads as it did. -/
def framePagesSpec : ChangeSpec := { name := "framePages", fn := fun _ => fun
  | [d1, d2, d3, d4, d5] => { results := [.lit (.bool true)], args := [d1, d2, d3, d4, d5] }
  | _ => none }
def framePagesRow : OpenClaim := { program := "ytppfjdohajomoaa", sum := "399fc0df5fa0c924805f2d16c0871c7c1e47f8e35448baafde31a1aba03e7d50", func := "flint/flintlaw1.FramePages", spec := "framePages", apart := false }
def FramePagesSaid : Prop := framePagesRow.holds Try.pinned (OpenSpec.ofChange framePagesSpec)

/-- ITS FALSE NEIGHBOUR: 'it returns false'. Refute it at one input. -/
def framePagesWrong : ChangeSpec := { name := "framePages", fn := fun _ => fun
  | [d1, d2, d3, d4, d5] => { results := [.lit (.bool false)], args := [d1, d2, d3, d4, d5] }
  | _ => none }
def FramePagesWrongFalsely : Prop := framePagesRow.holds Try.pinned (OpenSpec.ofChange framePagesWrong)

/-- 'flintlaw1.FrameGrows': WHATEVER THE INPUT: true; the input reads as it did. -/
def frameGrowsSpec : ChangeSpec := { name := "frameGrows", fn := fun _ => fun
  | [d1, d2] => { results := [.lit (.bool true)], args := [d1, d2] }
  | _ => none }
def frameGrowsRow : OpenClaim := { program := "ytppfjdohajomoaa", sum := "399fc0df5fa0c924805f2d16c0871c7c1e47f8e35448baafde31a1aba03e7d50", func := "flint/flintlaw1.FrameGrows", spec := "frameGrows", apart := false }
def FrameGrowsSaid : Prop := frameGrowsRow.holds Try.pinned (OpenSpec.ofChange frameGrowsSpec)

/-- ITS FALSE NEIGHBOUR: 'it returns false'. Refute it at one input. -/
def frameGrowsWrong : ChangeSpec := { name := "frameGrows", fn := fun _ => fun
  | [d1, d2] => { results := [.lit (.bool false)], args := [d1, d2] }
  | _ => none }
def FrameGrowsWrongFalsely : Prop := frameGrowsRow.holds Try.pinned (OpenSpec.ofChange frameGrowsWrong)

/-- 'flintlaw14.MediumApart': WHATEVER THE INPUT: true; the input reads as it did. -/
def mediumApartSpec : ChangeSpec := { name := "mediumApart", fn := fun _ => fun
  | [d1, d2, d3, d4, d5] => { results := [.lit (.bool true)], args := [d1, d2, d3, d4, d5] }
  | _ => none }
def mediumApartRow : OpenClaim := { program := "ytppfjdohajomoaa", sum := "399fc0df5fa0c924805f2d16c0871c7c1e47f8e35448baafde31a1aba03e7d50", func := "flint/flintlaw14.MediumApart", spec := "mediumApart", unfollowed := true, recurses := true, apart := false }
def MediumApartSaid : Prop := mediumApartRow.holds Try.pinned (OpenSpec.ofChange mediumApartSpec)

/-- ITS FALSE NEIGHBOUR: 'it returns false'. Refute it at one input. -/
def mediumApartWrong : ChangeSpec := { name := "mediumApart", fn := fun _ => fun
  | [d1, d2, d3, d4, d5] => { results := [.lit (.bool false)], args := [d1, d2, d3, d4, d5] }
  | _ => none }
def MediumApartWrongFalsely : Prop := mediumApartRow.holds Try.pinned (OpenSpec.ofChange mediumApartWrong)

/-- 'flintlaw1.FrameWrites': WHATEVER THE INPUT: true; the input reads as it did. -/
def frameWritesSpec : ChangeSpec := { name := "frameWrites", fn := fun _ => fun
  | [d1, d2, d3, d4, d5] => { results := [.lit (.bool true)], args := [d1, d2, d3, d4, d5] }
  | _ => none }
def frameWritesRow : OpenClaim := { program := "ytppfjdohajomoaa", sum := "399fc0df5fa0c924805f2d16c0871c7c1e47f8e35448baafde31a1aba03e7d50", func := "flint/flintlaw1.FrameWrites", spec := "frameWrites", apart := false }
def FrameWritesSaid : Prop := frameWritesRow.holds Try.pinned (OpenSpec.ofChange frameWritesSpec)

/-- ITS FALSE NEIGHBOUR: 'it returns false'. Refute it at one input. -/
def frameWritesWrong : ChangeSpec := { name := "frameWrites", fn := fun _ => fun
  | [d1, d2, d3, d4, d5] => { results := [.lit (.bool false)], args := [d1, d2, d3, d4, d5] }
  | _ => none }
def FrameWritesWrongFalsely : Prop := frameWritesRow.holds Try.pinned (OpenSpec.ofChange frameWritesWrong)

/-- 'flintlaw3.ZonePower': WHATEVER THE INPUT: true; the input reads as it did. -/
def zonePowerSpec : ChangeSpec := { name := "zonePower", fn := fun _ => fun
  | [d1, d2] => { results := [.lit (.bool true)], args := [d1, d2] }
  | _ => none }
def zonePowerRow : OpenClaim := { program := "ytppfjdohajomoaa", sum := "399fc0df5fa0c924805f2d16c0871c7c1e47f8e35448baafde31a1aba03e7d50", func := "flint/flintlaw3.ZonePower", spec := "zonePower", unfollowed := true, recurses := true, apart := false }
def ZonePowerSaid : Prop := zonePowerRow.holds Try.pinned (OpenSpec.ofChange zonePowerSpec)

/-- ITS FALSE NEIGHBOUR: 'it returns false'. Refute it at one input. -/
def zonePowerWrong : ChangeSpec := { name := "zonePower", fn := fun _ => fun
  | [d1, d2] => { results := [.lit (.bool false)], args := [d1, d2] }
  | _ => none }
def ZonePowerWrongFalsely : Prop := zonePowerRow.holds Try.pinned (OpenSpec.ofChange zonePowerWrong)

/-- 'flintlaw3.ZoneFronts': WHATEVER THE INPUT: true; the input reads as it did. -/
def zoneFrontsSpec : ChangeSpec := { name := "zoneFronts", fn := fun _ => fun
  | [d1, d2, d3] => { results := [.lit (.bool true)], args := [d1, d2, d3] }
  | _ => none }
def zoneFrontsRow : OpenClaim := { program := "ytppfjdohajomoaa", sum := "399fc0df5fa0c924805f2d16c0871c7c1e47f8e35448baafde31a1aba03e7d50", func := "flint/flintlaw3.ZoneFronts", spec := "zoneFronts", unfollowed := true, recurses := true, apart := false }
def ZoneFrontsSaid : Prop := zoneFrontsRow.holds Try.pinned (OpenSpec.ofChange zoneFrontsSpec)

/-- ITS FALSE NEIGHBOUR: 'it returns false'. Refute it at one input. -/
def zoneFrontsWrong : ChangeSpec := { name := "zoneFronts", fn := fun _ => fun
  | [d1, d2, d3] => { results := [.lit (.bool false)], args := [d1, d2, d3] }
  | _ => none }
def ZoneFrontsWrongFalsely : Prop := zoneFrontsRow.holds Try.pinned (OpenSpec.ofChange zoneFrontsWrong)

/-- 'flintlaw1.FrameReads': WHATEVER THE INPUT: true; the input reads as it did. -/
def frameReadsSpec : ChangeSpec := { name := "frameReads", fn := fun _ => fun
  | [d1, d2] => { results := [.lit (.bool true)], args := [d1, d2] }
  | _ => none }
def frameReadsRow : OpenClaim := { program := "ytppfjdohajomoaa", sum := "399fc0df5fa0c924805f2d16c0871c7c1e47f8e35448baafde31a1aba03e7d50", func := "flint/flintlaw1.FrameReads", spec := "frameReads", unfollowed := true, recurses := true, apart := false }
def FrameReadsSaid : Prop := frameReadsRow.holds Try.pinned (OpenSpec.ofChange frameReadsSpec)

/-- ITS FALSE NEIGHBOUR: 'it returns false'. Refute it at one input. -/
def frameReadsWrong : ChangeSpec := { name := "frameReads", fn := fun _ => fun
  | [d1, d2] => { results := [.lit (.bool false)], args := [d1, d2] }
  | _ => none }
def FrameReadsWrongFalsely : Prop := frameReadsRow.holds Try.pinned (OpenSpec.ofChange frameReadsWrong)

/-- 'flintlaw1.FrameBack': WHATEVER THE INPUT: true; the input reads as it did. -/
def frameBackSpec : ChangeSpec := { name := "frameBack", fn := fun _ => fun
  | [d1, d2, d3, d4, d5] => { results := [.lit (.bool true)], args := [d1, d2, d3, d4, d5] }
  | _ => none }
def frameBackRow : OpenClaim := { program := "ytppfjdohajomoaa", sum := "399fc0df5fa0c924805f2d16c0871c7c1e47f8e35448baafde31a1aba03e7d50", func := "flint/flintlaw1.FrameBack", spec := "frameBack", unfollowed := true, recurses := true, apart := false }
def FrameBackSaid : Prop := frameBackRow.holds Try.pinned (OpenSpec.ofChange frameBackSpec)

/-- ITS FALSE NEIGHBOUR: 'it returns false'. Refute it at one input. -/
def frameBackWrong : ChangeSpec := { name := "frameBack", fn := fun _ => fun
  | [d1, d2, d3, d4, d5] => { results := [.lit (.bool false)], args := [d1, d2, d3, d4, d5] }
  | _ => none }
def FrameBackWrongFalsely : Prop := frameBackRow.holds Try.pinned (OpenSpec.ofChange frameBackWrong)

/-- 'flintlaw1.FrameBits': WHATEVER THE INPUT: true; the input reads as it did. -/
def frameBitsSpec : ChangeSpec := { name := "frameBits", fn := fun _ => fun
  | [d1, d2, d3] => { results := [.lit (.bool true)], args := [d1, d2, d3] }
  | _ => none }
def frameBitsRow : OpenClaim := { program := "ytppfjdohajomoaa", sum := "399fc0df5fa0c924805f2d16c0871c7c1e47f8e35448baafde31a1aba03e7d50", func := "flint/flintlaw1.FrameBits", spec := "frameBits", unfollowed := true, recurses := true, apart := false }
def FrameBitsSaid : Prop := frameBitsRow.holds Try.pinned (OpenSpec.ofChange frameBitsSpec)

/-- ITS FALSE NEIGHBOUR: 'it returns false'. Refute it at one input. -/
def frameBitsWrong : ChangeSpec := { name := "frameBits", fn := fun _ => fun
  | [d1, d2, d3] => { results := [.lit (.bool false)], args := [d1, d2, d3] }
  | _ => none }
def FrameBitsWrongFalsely : Prop := frameBitsRow.holds Try.pinned (OpenSpec.ofChange frameBitsWrong)

/-- 'flintlaw3.ZonePlays': WHATEVER THE INPUT: true; the input reads as it did. -/
def zonePlaysSpec : ChangeSpec := { name := "zonePlays", fn := fun _ => fun
  | [d1, d2, d3, d4, d5] => { results := [.lit (.bool true)], args := [d1, d2, d3, d4, d5] }
  | _ => none }
def zonePlaysRow : OpenClaim := { program := "ytppfjdohajomoaa", sum := "399fc0df5fa0c924805f2d16c0871c7c1e47f8e35448baafde31a1aba03e7d50", func := "flint/flintlaw3.ZonePlays", spec := "zonePlays", unfollowed := true, recurses := true, apart := false }
def ZonePlaysSaid : Prop := zonePlaysRow.holds Try.pinned (OpenSpec.ofChange zonePlaysSpec)

/-- ITS FALSE NEIGHBOUR: 'it returns false'. Refute it at one input. -/
def zonePlaysWrong : ChangeSpec := { name := "zonePlays", fn := fun _ => fun
  | [d1, d2, d3, d4, d5] => { results := [.lit (.bool false)], args := [d1, d2, d3, d4, d5] }
  | _ => none }
def ZonePlaysWrongFalsely : Prop := zonePlaysRow.holds Try.pinned (OpenSpec.ofChange zonePlaysWrong)

/- THE SECOND FORM. 'bulk': how many values and letters a reading holds, each counted each time it is reached (what is shared counts as often as it is met; a slice's spare places count too). A statement '..UptoSaid' is the law's where the arguments, and the package variables that the reading takes, are together of bulk at most 1048576: NARROWER than '..Said'. Prove '..Said' where nothing that the law and all that it calls make is longer than what came in: it says more and counts as full. Else prove '..UptoSaid'. A law counts once. -/
mutual
def uptoBulk {H : Type} : DataW H → Nat
  | .lit (.string bytes) => bytes.length + 1
  | .lit _ => 1
  | .nil => 1
  | .ptr d => uptoBulk d + 1
  | .slice elems spare => uptoBulkAll elems + uptoBulkAll spare + 1
  | .agg parts => uptoBulkAll parts + 1
  | .iface _ d => uptoBulk d + 1
  | .map entries => uptoBulkEntries entries + 1
  | .held _ => 1
def uptoBulkAll {H : Type} : List (DataW H) → Nat
  | [] => 0
  | d :: r => uptoBulk d + uptoBulkAll r
def uptoBulkEntries {H : Type} : List (Lit × DataW H) → Nat
  | [] => 0
  | x :: r => uptoBulkEntry x + uptoBulkEntries r
def uptoBulkEntry {H : Type} : Lit × DataW H → Nat
  | (.string bytes, d) => bytes.length + uptoBulk d + 1
  | (_, d) => uptoBulk d + 1
 end
def uptoSmall : (H : Type) → List (DataW H) → Bool := fun _ ds => decide (uptoBulkAll ds ≤ 1048576)
def OpenSpec.upto (s : _root_.Go.ChangeSpec) : _root_.Go.OpenSpec := { _root_.Go.OpenSpec.ofChange s with cond := some uptoSmall }

/-- 'flintlaw14.MediumChains', WHERE WHAT IT READS IS OF BULK AT MOST 1048576: true; the input reads as it did. -/
def mediumChainsUptoRow : OpenClaim := { program := "ytppfjdohajomoaa", sum := "399fc0df5fa0c924805f2d16c0871c7c1e47f8e35448baafde31a1aba03e7d50", func := "flint/flintlaw14.MediumChains", spec := "mediumChains", unfollowed := true, recurses := true, apart := false, narrowed := true }
def MediumChainsUptoSaid : Prop := mediumChainsUptoRow.holds Try.pinned (OpenSpec.upto mediumChainsSpec)

/-- 'flintlaw1.FrameSums', WHERE WHAT IT READS IS OF BULK AT MOST 1048576: true; the input reads as it did. -/
def frameSumsUptoRow : OpenClaim := { program := "ytppfjdohajomoaa", sum := "399fc0df5fa0c924805f2d16c0871c7c1e47f8e35448baafde31a1aba03e7d50", func := "flint/flintlaw1.FrameSums", spec := "frameSums", apart := false, narrowed := true }
def FrameSumsUptoSaid : Prop := frameSumsUptoRow.holds Try.pinned (OpenSpec.upto frameSumsSpec)

/-- 'flintlaw1.FramePages', WHERE WHAT IT READS IS OF BULK AT MOST 1048576: true; the input reads as it did. -/
def framePagesUptoRow : OpenClaim := { program := "ytppfjdohajomoaa", sum := "399fc0df5fa0c924805f2d16c0871c7c1e47f8e35448baafde31a1aba03e7d50", func := "flint/flintlaw1.FramePages", spec := "framePages", apart := false, narrowed := true }
def FramePagesUptoSaid : Prop := framePagesUptoRow.holds Try.pinned (OpenSpec.upto framePagesSpec)

/-- 'flintlaw1.FrameGrows', WHERE WHAT IT READS IS OF BULK AT MOST 1048576: true; the input reads as it did. -/
def frameGrowsUptoRow : OpenClaim := { program := "ytppfjdohajomoaa", sum := "399fc0df5fa0c924805f2d16c0871c7c1e47f8e35448baafde31a1aba03e7d50", func := "flint/flintlaw1.FrameGrows", spec := "frameGrows", apart := false, narrowed := true }
def FrameGrowsUptoSaid : Prop := frameGrowsUptoRow.holds Try.pinned (OpenSpec.upto frameGrowsSpec)

/-- 'flintlaw14.MediumApart', WHERE WHAT IT READS IS OF BULK AT MOST 1048576: true; the input reads as it did. -/
def mediumApartUptoRow : OpenClaim := { program := "ytppfjdohajomoaa", sum := "399fc0df5fa0c924805f2d16c0871c7c1e47f8e35448baafde31a1aba03e7d50", func := "flint/flintlaw14.MediumApart", spec := "mediumApart", unfollowed := true, recurses := true, apart := false, narrowed := true }
def MediumApartUptoSaid : Prop := mediumApartUptoRow.holds Try.pinned (OpenSpec.upto mediumApartSpec)

/-- 'flintlaw1.FrameWrites', WHERE WHAT IT READS IS OF BULK AT MOST 1048576: true; the input reads as it did. -/
def frameWritesUptoRow : OpenClaim := { program := "ytppfjdohajomoaa", sum := "399fc0df5fa0c924805f2d16c0871c7c1e47f8e35448baafde31a1aba03e7d50", func := "flint/flintlaw1.FrameWrites", spec := "frameWrites", apart := false, narrowed := true }
def FrameWritesUptoSaid : Prop := frameWritesUptoRow.holds Try.pinned (OpenSpec.upto frameWritesSpec)

/-- 'flintlaw3.ZonePower', WHERE WHAT IT READS IS OF BULK AT MOST 1048576: true; the input reads as it did. -/
def zonePowerUptoRow : OpenClaim := { program := "ytppfjdohajomoaa", sum := "399fc0df5fa0c924805f2d16c0871c7c1e47f8e35448baafde31a1aba03e7d50", func := "flint/flintlaw3.ZonePower", spec := "zonePower", unfollowed := true, recurses := true, apart := false, narrowed := true }
def ZonePowerUptoSaid : Prop := zonePowerUptoRow.holds Try.pinned (OpenSpec.upto zonePowerSpec)

/-- 'flintlaw3.ZoneFronts', WHERE WHAT IT READS IS OF BULK AT MOST 1048576: true; the input reads as it did. -/
def zoneFrontsUptoRow : OpenClaim := { program := "ytppfjdohajomoaa", sum := "399fc0df5fa0c924805f2d16c0871c7c1e47f8e35448baafde31a1aba03e7d50", func := "flint/flintlaw3.ZoneFronts", spec := "zoneFronts", unfollowed := true, recurses := true, apart := false, narrowed := true }
def ZoneFrontsUptoSaid : Prop := zoneFrontsUptoRow.holds Try.pinned (OpenSpec.upto zoneFrontsSpec)

/-- 'flintlaw1.FrameReads', WHERE WHAT IT READS IS OF BULK AT MOST 1048576: true; the input reads as it did. -/
def frameReadsUptoRow : OpenClaim := { program := "ytppfjdohajomoaa", sum := "399fc0df5fa0c924805f2d16c0871c7c1e47f8e35448baafde31a1aba03e7d50", func := "flint/flintlaw1.FrameReads", spec := "frameReads", unfollowed := true, recurses := true, apart := false, narrowed := true }
def FrameReadsUptoSaid : Prop := frameReadsUptoRow.holds Try.pinned (OpenSpec.upto frameReadsSpec)

/-- 'flintlaw1.FrameBack', WHERE WHAT IT READS IS OF BULK AT MOST 1048576: true; the input reads as it did. -/
def frameBackUptoRow : OpenClaim := { program := "ytppfjdohajomoaa", sum := "399fc0df5fa0c924805f2d16c0871c7c1e47f8e35448baafde31a1aba03e7d50", func := "flint/flintlaw1.FrameBack", spec := "frameBack", unfollowed := true, recurses := true, apart := false, narrowed := true }
def FrameBackUptoSaid : Prop := frameBackUptoRow.holds Try.pinned (OpenSpec.upto frameBackSpec)

/-- 'flintlaw1.FrameBits', WHERE WHAT IT READS IS OF BULK AT MOST 1048576: true; the input reads as it did. -/
def frameBitsUptoRow : OpenClaim := { program := "ytppfjdohajomoaa", sum := "399fc0df5fa0c924805f2d16c0871c7c1e47f8e35448baafde31a1aba03e7d50", func := "flint/flintlaw1.FrameBits", spec := "frameBits", unfollowed := true, recurses := true, apart := false, narrowed := true }
def FrameBitsUptoSaid : Prop := frameBitsUptoRow.holds Try.pinned (OpenSpec.upto frameBitsSpec)

/-- 'flintlaw3.ZonePlays', WHERE WHAT IT READS IS OF BULK AT MOST 1048576: true; the input reads as it did. -/
def zonePlaysUptoRow : OpenClaim := { program := "ytppfjdohajomoaa", sum := "399fc0df5fa0c924805f2d16c0871c7c1e47f8e35448baafde31a1aba03e7d50", func := "flint/flintlaw3.ZonePlays", spec := "zonePlays", unfollowed := true, recurses := true, apart := false, narrowed := true }
def ZonePlaysUptoSaid : Prop := zonePlaysUptoRow.holds Try.pinned (OpenSpec.upto zonePlaysSpec)

end Rows
end Go.Proofs.Ytppfjdohajomoaa
