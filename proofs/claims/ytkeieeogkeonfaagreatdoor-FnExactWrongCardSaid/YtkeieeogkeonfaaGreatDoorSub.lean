/- Small laws on values that are read, and on made slices. No program in sight. -/
import Derived.Test.YtkeieeogkeonfaaGreatDoorData
import Derived.Test.YtkeieeogkeonfaaGreatDoorTree
import Derived.Test.YtkeieeogkeonfaaGreatDoorOwn
namespace Go.Proofs.YtkeieeogkeonfaaGreatDoor
open Go.RowKit

/-- make([]T, 0, n) -/
theorem run_mk0 {P : Program} {t e : TypeId} {size bytes : Nat} (T : ElemTy P t e size bytes) (n : Nat) (hn : n ≤ 4294967296) (hb : bytes ≤ 32768) :
    ∃ cs : Array Value, cs.size = n * size ∧ ∀ w : World, (Instr.makeSlice t (.int .i64 0) (.int .i64 (n : Nat))).run P w = .ok (.slice (some ⟨w.heap.size, 0, none⟩) 0 n) (w.alloc (.cells cs e)) := by
  obtain ⟨i, z, h1, h2, h3, h4, h5⟩ := T.info
  refine ⟨madeCells z.cells (n * i.size), ?_, fun w => ?_⟩
  · rw [size_madeCells, h3]
  · have := run_make (P := P) w t e i z T.under h1 h2 .i64 .i64 0 (n : Nat) (by omega) (by omega) (by
      rw [h4]; have := Nat.mul_le_mul hb hn; have h : ((bytes * n : Nat) : Int) ≤ ((32768 * 4294967296 : Nat) : Int) := by exact_mod_cast this
      rw [Int.natCast_mul] at h; exact Int.le_trans h (by decide)) (by omega)
    simpa using this
theorem V.cells_one {w : World} {x : V} {cs : List Value} (h : Rd w x.d cs) : ∀ u ∈ cs, u.oneCell' = true := by
  obtain ⟨k, n, e, s, a, l, c, rfl⟩ := V.form h
  intro u hu; simp at hu; rcases hu with rfl | rfl | rfl | rfl | rfl <;> rfl

theorem V.bulk_getB {ls : List V} {m : Nat} (h : ls.length + V.bulks ls ≤ m) (k : Nat) (hk : k < ls.length) : ls[k].bulk ≤ m := by
  have h1 := V.bulks_snoc ls k hk; have h2 := V.bulks_take ls (k + 1); omega
theorem V.ds_take (xs : List V) (j : Nat) (h : j < xs.length) : V.ds (xs.take (j + 1)) = V.ds (xs.take j) ++ [xs[j].d] := by
  rw [V.ds_map, V.ds_map, take_map_snoc V.d xs j h]
theorem V.ds_length (xs : List V) : (V.ds xs).length = xs.length := by rw [V.ds_map, List.length_map]
end Go.Proofs.YtkeieeogkeonfaaGreatDoor
