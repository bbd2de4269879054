/- The tables of UTF-8, as a row lists them. -/
import Derived.Test.YtkeieeogkeonfaaGreatDoorTextI
import Derived.Test.YtkeieeogkeonfaaGreatDoorLaid
import Derived.Lib.LaidU8T
namespace Go.Proofs.YtkeieeogkeonfaaGreatDoor
open Go.RowKit Go.Lib Go.Shelf

theorem first_data : Go.Pinned.utf8First = firstData := by kernel_rfl
theorem accept_data : (Rows.laid_unicode_utf8_acceptRanges : DataW Unit) = acceptData := by kernel_rfl
theorem tabs_of {w : World} (h3 : VarReads Tryz.prog w "unicode/utf8.first" Go.Pinned.utf8First) (h4 : VarReads Tryz.prog w "unicode/utf8.acceptRanges" Rows.laid_unicode_utf8_acceptRanges) : Tabs w := by
  rw [first_data] at h3; rw [accept_data] at h4
  exact utf8Tabs_of_readsT (U8Types.of196 Tryz.laysValid) ⟨by kernel_rfl, by kernel_rfl, by kernel_rfl, by kernel_rfl, by kernel_rfl, by kernel_rfl, by kernel_rfl⟩ h3 h4
end Go.Proofs.YtkeieeogkeonfaaGreatDoor
