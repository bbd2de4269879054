/- The cell of the library that tells how long a text is for which it looks by another road. -/
import Derived.Test.YtkeieeogkeonfaaGreatDoorFind
namespace Go.Proofs.YtkeieeogkeonfaaGreatDoor
open Go.RowKit

/-- the cell that tells how long a text is for which the library looks by another road -/
def MaxCell (m : Int) (w : World) : Prop := w.cell? ⟨2, 0, none⟩ = some (.int .i64 m)
theorem MaxCell.lt {m : Int} {w : World} (h : MaxCell m w) : 2 < w.heap.size := cell_lt h
theorem MaxCell.below {m : Int} {w w' : World} (h : MaxCell m w) (hb : Below w.heap.size w w') : MaxCell m w' := by unfold MaxCell; rw [(bcell hb).1 _ _ h.lt]; exact h

end Go.Proofs.YtkeieeogkeonfaaGreatDoor
