/- What the program's tables of UTF-8 and of powers of ten hold. -/
import Derived.Test.YtkeieeogkeonfaaDoorDec
import Derived.Test.YtkeieeogkeonfaaDoorTextI
namespace Go.Proofs.YtkeieeogkeonfaaDoor
open Go.RowKit
def PTab (w : World) : Prop := Tabs w ∧ TenTab w
theorem PTab.below {w w' : World} (h : PTab w) (hb : Below w.heap.size w w') : PTab w' := ⟨h.1.below hb, h.2.below hb⟩
end Go.Proofs.YtkeieeogkeonfaaDoor
