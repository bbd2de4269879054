/- The table of powers of ten, as a row lists it. -/
import Derived.Test.YtkeieeogkeonfaaGreatDoorDec
import Derived.Test.YtkeieeogkeonfaaGreatDoorLaid
import Derived.Lib.LaidU8T
namespace Go.Proofs.YtkeieeogkeonfaaGreatDoor
open Go.RowKit Go.Lib Go.Shelf

theorem ten_data : (Rows.laid_internal_strconv_uint64pow10 : DataW Unit) = tabData .u64 pow10Tab := by kernel_rfl
theorem tenTab_of {w : World} (h : VarReads Tryz.prog w "internal/strconv.uint64pow10" Rows.laid_internal_strconv_uint64pow10) : TenTab w := by
  rw [ten_data] at h
  obtain ⟨g', t', cs, fuel, p, hg', ht', hvar, hd⟩ := h
  obtain rfl := Option.some.inj (tenG.symm.trans hg')
  obtain rfl := Option.some.inj ((show (Tryz.prog.globals[3]?).map (·.type) = some 138 by kernel_rfl).symm.trans ht')
  unfold TenTab TabIs
  rw [hvar, ← cells_of_tab Tryz.underlying138 Tryz.underlying126 (by kernel_rfl) (by kernel_rfl) hd]
end Go.Proofs.YtkeieeogkeonfaaGreatDoor
