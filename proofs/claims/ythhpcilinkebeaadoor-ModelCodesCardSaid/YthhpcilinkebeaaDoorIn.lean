/- The tables of unicode/utf8, as the rows list them. -/
import Derived.Test.YthhpcilinkebeaaDoorIm
import Derived.Test.YthhpcilinkebeaaDoorCards
import Derived.Lib.LaidU8T
import Derived.PinnedBridge
namespace Go.Proofs.YthhpcilinkebeaaDoor
open Go.RowKit Go.Lib Go.Shelf
set_option maxRecDepth 100000

theorem u8extra : U8Extra Tryd.prog Tryd.laysValid_ren := ⟨by kernel_rfl, by kernel_rfl, by kernel_rfl, by kernel_rfl, by kernel_rfl, by kernel_rfl, by kernel_rfl⟩
theorem tabs_laid {w : World} (h : laidMetH Tryd.prog Rows.modelSnapsRow.laid w) : Tabs w := by
  have h0 : laidMet Tryd.prog Rows.modelSnapsRow.laid w := h
  obtain ⟨ps, hl, _⟩ := h0
  have hr := LaidVars_reads hl
  refine utf8Tabs_of_readsT (U8Types.of196 Tryd.laysValid) u8extra ?_ ?_
  · have := hr "unicode/utf8.first" Rows.laid_unicode_utf8_first (by simp [Rows.modelSnapsRow])
    rwa [show Rows.laid_unicode_utf8_first = firstData from Pinned.utf8First_eq] at this
  · exact hr "unicode/utf8.acceptRanges" acceptData (by
      have e : (Rows.laid_unicode_utf8_acceptRanges : DataW Unit) = acceptData := by kernel_rfl
      rw [← e]; simp [Rows.modelSnapsRow])
end Go.Proofs.YthhpcilinkebeaaDoor
