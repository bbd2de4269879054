/- The table of powers of ten, as a row lists it. -/
import Derived.Test.YtkeieeogkeonfaaDoorDec
import Derived.Test.YtkeieeogkeonfaaDoorLaid
import Derived.Lib.LaidU8T
namespace Go.Proofs.YtkeieeogkeonfaaDoor
open Go.RowKit Go.Lib Go.Shelf

theorem ten_data : (Rows.laid_internal_strconv_uint64pow10 : DataW Unit) = tabData .u64 pow10Tab := by kernel_rfl
theorem tenTab_of {w : World} (h : VarReads Tryd.prog w "internal/strconv.uint64pow10" Rows.laid_internal_strconv_uint64pow10) : TenTab w := by
  rw [ten_data] at h
  obtain ⟨g', t', cs, fuel, p, hg', ht', hvar, hd⟩ := h
  obtain rfl := Option.some.inj (tenG.symm.trans hg')
  obtain rfl := Option.some.inj ((show (Tryd.prog.globals[3]?).map (·.type) = some 164 by kernel_rfl).symm.trans ht')
  unfold TenTab TabIs
  rw [hvar, ← cells_of_tab Tryd.underlying164 Tryd.underlying152 (by kernel_rfl) (by kernel_rfl) hd]
end Go.Proofs.YtkeieeogkeonfaaDoor
