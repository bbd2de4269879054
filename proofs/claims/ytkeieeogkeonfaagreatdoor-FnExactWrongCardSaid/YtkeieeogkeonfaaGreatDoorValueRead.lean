/- How a value that comes in is read. -/
import Derived.Test.YtkeieeogkeonfaaGreatDoorRead
import Derived.Test.YtkeieeogkeonfaaGreatDoorRows
namespace Go.Proofs.YtkeieeogkeonfaaGreatDoor
open Go.RowKit

theorem cellsValue : Tryz.prog.cellsOf 24 = 5 := by kernel_rfl
theorem cellsStrV : Tryz.prog.cellsOf 9 = 1 := by kernel_rfl
theorem cellsIntV : Tryz.prog.cellsOf 3 = 1 := by kernel_rfl
theorem cellsValues : Tryz.prog.cellsOf 22 = 1 := by kernel_rfl

theorem V.wfs_of : ∀ {xs : List V}, (∀ x ∈ xs, x.wf) → V.wfs xs
  | [], _ => trivial
  | x :: xs, h => ⟨h x (by simp), V.wfs_of fun y hy => h y (by simp [hy])⟩

set_option maxRecDepth 100000 in
theorem trod_value {H : Type} {enc : TypeId × Value → H} {w : World} {base : Nat} {spare : Nat → Bool} {held : Bool} : ∀ (fuel : Nat) (cs : List Value) (y : DataW H × List MemPlace),
    DataW.trod enc Tryz.prog w base spare held fuel 24 cs = some y → ∃ sh : V, Rd w sh.d cs ∧ sh.wf := by
  intro fuel
  induction fuel using Nat.strongRecOn with
  | _ fuel ih =>
    intro cs y h
    obtain ⟨xs, n, rfl, _, hlen, hxl, hx⟩ := DataW.trod_struct Tryz.underlying24 h
    rw [cellsValue] at hlen
    match cs, hlen with
    | [v0, v1, v2, v3, v4], _ =>
      have hs : xs.length = 5 := hxl
      match xs, hs with
      | [y0, y1, y2, y3, y4], _ =>
        have h0 : DataW.trod enc Tryz.prog w base spare held n 3 (List.take (Tryz.prog.cellsOf 3) (List.drop 0 [v0, v1, v2, v3, v4])) = some y0 := hx 0 _ rfl
        have h1 : DataW.trod enc Tryz.prog w base spare held n 3 (List.take (Tryz.prog.cellsOf 3) (List.drop 1 [v0, v1, v2, v3, v4])) = some y1 := hx 1 _ rfl
        have h2 : DataW.trod enc Tryz.prog w base spare held n 3 (List.take (Tryz.prog.cellsOf 3) (List.drop 2 [v0, v1, v2, v3, v4])) = some y2 := hx 2 _ rfl
        have h3 : DataW.trod enc Tryz.prog w base spare held n 9 (List.take (Tryz.prog.cellsOf 9) (List.drop 3 [v0, v1, v2, v3, v4])) = some y3 := hx 3 _ rfl
        have h4 : DataW.trod enc Tryz.prog w base spare held n 22 (List.take (Tryz.prog.cellsOf 22) (List.drop 4 [v0, v1, v2, v3, v4])) = some y4 := hx 4 _ rfl
        simp only [cellsIntV, cellsStrV, cellsValues, List.drop, List.take] at h0 h1 h2 h3 h4
        obtain ⟨k, e0, w0⟩ := trod_i64 Tryz.underlying3 h0
        obtain ⟨m, e1, w1⟩ := trod_i64 Tryz.underlying3 h1
        obtain ⟨ee, e2, w2⟩ := trod_i64 Tryz.underlying3 h2
        obtain ⟨s, e3, w3⟩ := trod_str Tryz.underlying9 h3
        obtain ⟨kids, z4, e4, r4, w4, l4⟩ := trod_sl (f := V.d) (ok := V.wf) Tryz.underlying22 cellsValue (by decide) V.width (fun j cs y hj hh => ih j (by omega) cs y hh) h4
        simp only [List.cons.injEq, and_true] at e0 e1 e2 e3 e4
        subst e0 e1 e2 e3 e4
        refine ⟨.mk k m ee s kids, ?_, w0, w1, w2, w3, by unfold maxLen at l4; omega, V.wfs_of w4⟩
        rw [← V.ds_map] at r4
        simp only [Rd, V.d, RepC, RepCs, dI, dS]
        exact ⟨_, _, rfl, rfl, rfl, _, _, rfl, rfl, rfl, _, _, rfl, rfl, rfl, _, _, rfl, rfl, rfl, [v4], [], rfl, rfl, by simpa only [Rd, RepC] using r4, rfl⟩
end Go.Proofs.YtkeieeogkeonfaaGreatDoor
