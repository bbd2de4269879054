/- The box of a value in a local variable. -/
import Derived.Test.YtkeieeogkeonfaaDoorKeep
import Derived.Test.YtkeieeogkeonfaaDoorOwnSl
import Derived.Test.YtkeieeogkeonfaaDoorProg
namespace Go.Proofs.YtkeieeogkeonfaaDoor
open Go.RowKit

def valBox (w : World) (g : Nat) (k n e : Int) (s : List UInt8) (v : Value) : Prop := w.heap[g]? = some (.cells #[.int .i64 k, .int .i64 n, .int .i64 e, .string ⟨s.toArray⟩, v] 41 (0, 0))
theorem valBox.lt {w : World} {g : Nat} {k n e : Int} {s : List UInt8} {v : Value} (h : valBox w g k n e s v) : g < w.heap.size := heap_lt h
theorem valBox.cells {w : World} {g : Nat} {k n e : Int} {s : List UInt8} {v : Value} (h : valBox w g k n e s v) : w.cell? ⟨g, 0, none⟩ = some (.int .i64 k) ∧ w.cell? ⟨g, 1, none⟩ = some (.int .i64 n) ∧ w.cell? ⟨g, 2, none⟩ = some (.int .i64 e) ∧ w.cell? ⟨g, 3, none⟩ = some (.string ⟨s.toArray⟩) ∧ w.cell? ⟨g, 4, none⟩ = some v := by
  refine ⟨?_, ?_, ?_, ?_, ?_⟩ <;> (rw [cell_of_block h]; rfl)
theorem valBox.free {w : World} {g : Nat} {k n e : Int} {s : List UInt8} {v : Value} (h : valBox w g k n e s v) (o : Nat) : w.frozen? ⟨g, o, none⟩ = false := by simp [World.frozen?, show w.heap[g]? = _ from h]
theorem valBox.same {w w' : World} {g : Nat} {k n e : Int} {s : List UInt8} {v : Value} (h : valBox w g k n e s v) (hs : w'.heap[g]? = w.heap[g]?) : valBox w' g k n e s v := hs.trans h
theorem valBox.below {B : Nat} {w w' : World} {g : Nat} {k n e : Int} {s : List UInt8} {v : Value} (h : valBox w g k n e s v) (hb : Below B w w') (hg : g < B) : valBox w' g k n e s v := h.same (hb.block g hg)
theorem valBox.new {w : World} {k n e : Int} {s : List UInt8} {v : Value} : valBox (w.alloc (.cells #[.int .i64 k, .int .i64 n, .int .i64 e, .string ⟨s.toArray⟩, v] 41)) w.heap.size k n e s v := heap_alloc_new w _
theorem valBox.alloc {w : World} {g : Nat} {k n e : Int} {s : List UInt8} {v : Value} (h : valBox w g k n e s v) (o : Obj) : valBox (w.alloc o) g k n e s v := h.same (Below.heap_alloc _ _ _ h.lt)
theorem valBox.set4 {w : World} {g : Nat} {k n e : Int} {s : List UInt8} {v : Value} (h : valBox w g k n e s v) (u : Value) : valBox (w.setCell ⟨g, 4, none⟩ u) g k n e s u := by
  have := heap_setCell_at (o := 4) h u
  exact this
/-- from block B on anything may be new, and block g below it may be written -/
theorem Keep.belowB {S : Nat → Prop} {a b c : World} {B : Nat} (h : Keep S a b) (k : Below B b c) (hB : a.heap.size ≤ B) : Keep S a c :=
  ⟨k.os.trans h.os, k.tape.trans h.tape, k.output.trans h.output, Nat.le_trans h.size k.size, fun i hi hs => (k.block i (Nat.lt_of_lt_of_le hi hB)).trans (h.block i hi hs)⟩
end Go.Proofs.YtkeieeogkeonfaaDoor
