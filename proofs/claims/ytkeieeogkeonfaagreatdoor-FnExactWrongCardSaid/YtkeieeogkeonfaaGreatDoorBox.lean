/- Boxes of one integer, and the two tables of UTF-8, over worlds in which some blocks may be written. -/
import Derived.Test.YtkeieeogkeonfaaGreatDoorKeep
import Derived.Test.YtkeieeogkeonfaaGreatDoorTextI
namespace Go.Proofs.YtkeieeogkeonfaaGreatDoor
open Go.RowKit

def intBox (w : World) (g : Nat) (n : Int) : Prop := w.heap[g]? = some (.cells #[.int .i64 n] 3 (0, 0))
theorem intBox.cell {w : World} {g : Nat} {n : Int} (h : intBox w g n) : w.cell? ⟨g, 0, none⟩ = some (.int .i64 n) := cell_of_one h
theorem intBox.free {w : World} {g : Nat} {n : Int} (h : intBox w g n) : w.frozen? ⟨g, 0, none⟩ = false := free_of_one h
theorem intBox.lt {w : World} {g : Nat} {n : Int} (h : intBox w g n) : g < w.heap.size := lt_of_block h
theorem intBox.below {w w' : World} {g : Nat} {n : Int} (h : intBox w g n) (hb : Below w.heap.size w w') : intBox w' g n := (hb.block g h.lt).trans h
theorem intBox.keep {S : Nat → Prop} {w w' : World} {g : Nat} {n : Int} (h : intBox w g n) (hk : Keep S w w') (hs : ¬ S g) : intBox w' g n := (hk.block g h.lt hs).trans h
/-- the program's two tables lie below N -/
def GlobN (N : Nat) : Prop := 0 < N ∧ 1 < N
theorem Tabs.keep {S : Nat → Prop} {w w' : World} {N : Nat} (h : Tabs w) (hg : GlobN N) (hk : Keep S w w') (hN : N ≤ w.heap.size) (hs : ∀ k, k < N → ¬ S k) : Tabs w' := h.below' (hk.below hN hs) hg.1 hg.2
end Go.Proofs.YtkeieeogkeonfaaGreatDoor
