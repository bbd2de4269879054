/- How a shape that comes in is read. -/
import Derived.Test.YtkeieeogkeonfaaGreatDoorRead
import Derived.Test.YtkeieeogkeonfaaGreatDoorRows
namespace Go.Proofs.YtkeieeogkeonfaaGreatDoor
open Go.RowKit

theorem cellsShape : Tryz.prog.cellsOf 28 = 6 := by kernel_rfl
theorem cellsStr : Tryz.prog.cellsOf 9 = 1 := by kernel_rfl
theorem cellsInt : Tryz.prog.cellsOf 3 = 1 := by kernel_rfl
theorem cellsStrs : Tryz.prog.cellsOf 25 = 1 := by kernel_rfl
theorem cellsShapes : Tryz.prog.cellsOf 26 = 1 := by kernel_rfl

theorem Sh.wfs_of : ∀ {xs : List Sh}, (∀ x ∈ xs, x.wf) → Sh.wfs xs
  | [], _ => trivial
  | x :: xs, h => ⟨h x (by simp), Sh.wfs_of fun y hy => h y (by simp [hy])⟩

set_option maxRecDepth 100000 in
theorem trod_shape {H : Type} {enc : TypeId × Value → H} {w : World} {base : Nat} {spare : Nat → Bool} {held : Bool} : ∀ (fuel : Nat) (cs : List Value) (y : DataW H × List MemPlace),
    DataW.trod enc Tryz.prog w base spare held fuel 28 cs = some y → ∃ sh : Sh, Rd w sh.d cs ∧ sh.wf := by
  intro fuel
  induction fuel using Nat.strongRecOn with
  | _ fuel ih =>
    intro cs y h
    obtain ⟨xs, n, rfl, _, hlen, hxl, hx⟩ := DataW.trod_struct Tryz.underlying28 h
    rw [cellsShape] at hlen
    match cs, hlen with
    | [v0, v1, v2, v3, v4, v5], _ =>
      have hs : xs.length = 6 := hxl
      match xs, hs with
      | [y0, y1, y2, y3, y4, y5], _ =>
        have h0 : DataW.trod enc Tryz.prog w base spare held n 3 (List.take (Tryz.prog.cellsOf 3) (List.drop 0 [v0, v1, v2, v3, v4, v5])) = some y0 := hx 0 _ rfl
        have h1 : DataW.trod enc Tryz.prog w base spare held n 3 (List.take (Tryz.prog.cellsOf 3) (List.drop 1 [v0, v1, v2, v3, v4, v5])) = some y1 := hx 1 _ rfl
        have h2 : DataW.trod enc Tryz.prog w base spare held n 3 (List.take (Tryz.prog.cellsOf 3) (List.drop 2 [v0, v1, v2, v3, v4, v5])) = some y2 := hx 2 _ rfl
        have h3 : DataW.trod enc Tryz.prog w base spare held n 25 (List.take (Tryz.prog.cellsOf 25) (List.drop 3 [v0, v1, v2, v3, v4, v5])) = some y3 := hx 3 _ rfl
        have h4 : DataW.trod enc Tryz.prog w base spare held n 3 (List.take (Tryz.prog.cellsOf 3) (List.drop 4 [v0, v1, v2, v3, v4, v5])) = some y4 := hx 4 _ rfl
        have h5 : DataW.trod enc Tryz.prog w base spare held n 26 (List.take (Tryz.prog.cellsOf 26) (List.drop 5 [v0, v1, v2, v3, v4, v5])) = some y5 := hx 5 _ rfl
        simp only [cellsInt, cellsStrs, cellsShapes, List.drop, List.take] at h0 h1 h2 h3 h4 h5
        obtain ⟨k, e0, w0⟩ := trod_i64 Tryz.underlying3 h0
        obtain ⟨l, e1, w1⟩ := trod_i64 Tryz.underlying3 h1
        obtain ⟨hi, e2, w2⟩ := trod_i64 Tryz.underlying3 h2
        obtain ⟨m, e4, w4⟩ := trod_i64 Tryz.underlying3 h4
        obtain ⟨ks, z3, e3, r3, w3, l3⟩ := trod_strs Tryz.underlying25 Tryz.underlying9 cellsStr h3
        obtain ⟨kids, z5, e5, r5, w5, l5⟩ := trod_sl (f := Sh.d) (ok := Sh.wf) Tryz.underlying26 cellsShape (by decide) Sh.width (fun j cs y hj hh => ih j (by omega) cs y hh) h5
        simp only [List.cons.injEq, and_true] at e0 e1 e2 e3 e4 e5
        subst e0 e1 e2 e3 e4 e5
        refine ⟨.mk k l hi ks m kids, ?_, w0, w1, w2, ⟨by unfold maxLen at l3; omega, w3⟩, w4, by unfold maxLen at l5; omega, Sh.wfs_of w5⟩
        rw [← Sh.ds_map] at r5
        simp only [Rd, Sh.d, RepC, RepCs, dI]
        exact ⟨_, _, rfl, rfl, rfl, _, _, rfl, rfl, rfl, _, _, rfl, rfl, rfl, [v3], [.int .i64 m, v5], rfl, rfl, r3, [.int .i64 m], [v5], rfl, rfl, rfl, [v5], [], rfl, rfl, by simpa only [Rd, RepC] using r5, rfl⟩
end Go.Proofs.YtkeieeogkeonfaaGreatDoor
