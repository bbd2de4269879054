/- Contract of the decoder's head. -/
import Derived.Test.YtimjpohfopnnpaaReadFrame
import Derived.Test.YtimjpohfopnnpaaGetLetter
namespace Go.Proofs.Ytimjpohfopnnpaa
open Go.RowKit

/-- the decoder's five cells -/
def Dec (w : World) (b : Nat) (s : List UInt8) (at' : Int) (lo : Bool) (cnt : Int) (bad : Bool) : Prop :=
  w.heap[b]? = some (.cells #[.string ⟨s.toArray⟩, .int .i64 at', .bool lo, .int .i64 cnt, .bool bad] 63 (0, 0))
theorem Dec.cells {w : World} {b : Nat} {s : List UInt8} {a : Int} {lo : Bool} {cnt : Int} {bad : Bool} (h : Dec w b s a lo cnt bad) :
    w.cell? ⟨b, 0, none⟩ = some (.string ⟨s.toArray⟩) ∧ w.cell? ⟨b, 1, none⟩ = some (.int .i64 a) ∧ w.cell? ⟨b, 2, none⟩ = some (.bool lo) ∧ w.cell? ⟨b, 3, none⟩ = some (.int .i64 cnt) ∧ w.cell? ⟨b, 4, none⟩ = some (.bool bad) ∧
    w.frozen? ⟨b, 1, none⟩ = false ∧ w.frozen? ⟨b, 3, none⟩ = false ∧ w.frozen? ⟨b, 4, none⟩ = false ∧ b < w.heap.size := by
  unfold Dec at h
  refine ⟨by rw [cell_of_block' h]; rfl, by rw [cell_of_block' h]; rfl, by rw [cell_of_block' h]; rfl, by rw [cell_of_block' h]; rfl, by rw [cell_of_block' h]; rfl, ?_, ?_, ?_, ?_⟩
  · simp [World.frozen?, h]
  · simp [World.frozen?, h]
  · simp [World.frozen?, h]
  · by_cases hlt : b < w.heap.size
    · exact hlt
    · simp [Array.getElem?_eq_none (Nat.not_lt.1 hlt)] at h

theorem Dec.at {w W : World} {b : Nat} {s : List UInt8} {a : Int} {lo : Bool} {cnt : Int} {bad : Bool} (h : Dec w b s a lo cnt bad) (hb : Below w.heap.size w W) : Dec W b s a lo cnt bad := by
  unfold Dec; rw [hb.block b h.cells.2.2.2.2.2.2.2.2]; exact h

set_option maxHeartbeats 1600000 in
theorem decHead_no (b : Nat) (s : List UInt8) (a cnt : Int) (bad : Bool) (w : World) (hD : Dec w b s a false cnt bad) (ha : i64ok a) (hl : s.length ≤ 9223372036854775000) (hno : bad = true ∨ getAt s a = none) :
    Calls Try.prog 37 #[.pointer (some ⟨b, 0, none⟩)] w fun e w' => e = .returned (.tuple #[.int .i64 (-1), .int .u64 0]) ∧ ∃ w1, Below w.heap.size w w1 ∧ w' = w1.setCell ⟨b, 4, none⟩ (.bool true) := by
  obtain ⟨c0, c1, c2, c3, c4, f1, f3, f4, hb⟩ := hD.cells
  have KD := Lib.hid (fun W (h : Below w.heap.size w W) => (hD.at h).cells)
  have hB := Below.refl w.heap.size w
  by_cases hbad : bad = true
  · subst hbad
    go_enter Try.func37, Try.ntmps37
    go_wp2_with fail
    go_region_held3 (fun W => W.cell? ⟨b, 0, none⟩ = some (.string ⟨s.toArray⟩) ∧ W.cell? ⟨b, 1, none⟩ = some (.int .i64 a))
      (first | exact ⟨(KD.out _ hB).1, (KD.out _ hB).2.1⟩ | exact ⟨(KD.out _ hB.drew).1, (KD.out _ hB.drew).2.1⟩)
      (first | (go_at_call 45; refine (getHead_impl s a _ ha hl).mono ?_; rintro e w1 ⟨rfl, hb1⟩; replace hB := below2 (by first | exact hB | exact hB.drew) hb1 (Nat.le_refl _)))
    obtain ⟨d0, d1, d2, d3, d4, g1, g3, g4, hb'⟩ := KD.out _ hB
    clear c0 c1 c2 c3 c4 f1 f3 f4
    go_wp2
    go_ret2
    exact ⟨rfl, _, hB, rfl⟩
  · have hnone : getAt s a = none := hno.resolve_left hbad
    obtain rfl : bad = false := by simpa using hbad
    have HN := Lib.hid hnone
    clear hnone hno hbad
    go_enter Try.func37, Try.ntmps37
    go_wp2_with fail
    go_region_held3 (fun W => W.cell? ⟨b, 0, none⟩ = some (.string ⟨s.toArray⟩) ∧ W.cell? ⟨b, 1, none⟩ = some (.int .i64 a))
      (first | exact ⟨(KD.out _ hB).1, (KD.out _ hB).2.1⟩ | exact ⟨(KD.out _ hB.drew).1, (KD.out _ hB.drew).2.1⟩)
      (first | (go_at_call 45; refine (getHead_impl s a _ ha hl).mono ?_; rw [HN.out]; simp only [hM, hN, hX]; rintro e w1 ⟨rfl, hb1⟩; replace hB := below2 (by first | exact hB | exact hB.drew) hb1 (Nat.le_refl _)))
    obtain ⟨d0, d1, d2, d3, d4, g1, g3, g4, hb'⟩ := KD.out _ hB
    clear c0 c1 c2 c3 c4 f1 f3 f4
    go_wp2
    go_ret2
    exact ⟨rfl, _, hB, rfl⟩

set_option maxHeartbeats 1600000 in
theorem decHead_yes (b : Nat) (s : List UInt8) (a cnt : Int) (m n x : Nat) (w : World) (hD : Dec w b s a false cnt false) (ha : i64ok a) (hl : s.length ≤ 9223372036854775000) (hyes : getAt s a = some (m, n, x)) :
    Calls Try.prog 37 #[.pointer (some ⟨b, 0, none⟩)] w fun e w' => e = .returned (.tuple #[.int .i64 m, .int .u64 n]) ∧ ∃ w1, Below w.heap.size w w1 ∧ w' = w1.setCell ⟨b, 1, none⟩ (.int .i64 (x : Nat)) := by
  obtain ⟨c0, c1, c2, c3, c4, f1, f3, f4, hb⟩ := hD.cells
  have KD := Lib.hid (fun W (h : Below w.heap.size w W) => (hD.at h).cells)
  have hB := Below.refl w.heap.size w
  have HN := Lib.hid hyes
  clear hyes
  have q : (0 : Int) ≤ x := by omega
  go_enter Try.func37, Try.ntmps37
  go_wp2_with fail
  go_region_held3 (fun W => W.cell? ⟨b, 0, none⟩ = some (.string ⟨s.toArray⟩) ∧ W.cell? ⟨b, 1, none⟩ = some (.int .i64 a))
    (first | exact ⟨(KD.out _ hB).1, (KD.out _ hB).2.1⟩ | exact ⟨(KD.out _ hB.drew).1, (KD.out _ hB.drew).2.1⟩)
    (first | (go_at_call 45; refine (getHead_impl s a _ ha hl).mono ?_; rw [HN.out]; simp only [hM, hN, hX]; rintro e w1 ⟨rfl, hb1⟩; replace hB := below2 (by first | exact hB | exact hB.drew) hb1 (Nat.le_refl _)))
  obtain ⟨d0, d1, d2, d3, d4, g1, g3, g4, hb'⟩ := KD.out _ hB
  clear c0 c1 c2 c3 c4 f1 f3 f4
  go_wp2
  go_ret2
  exact ⟨rfl, _, hB, rfl⟩
end Go.Proofs.Ytimjpohfopnnpaa
