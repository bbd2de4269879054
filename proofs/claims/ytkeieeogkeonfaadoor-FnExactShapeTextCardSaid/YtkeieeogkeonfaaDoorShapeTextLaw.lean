/- The walk of FnExactShapeText. -/
import Derived.Test.YtkeieeogkeonfaaDoorShTextTop
import Derived.Test.YtkeieeogkeonfaaDoorShapeRead
import Derived.Test.YtkeieeogkeonfaaDoorShapeEq
import Derived.Test.YtkeieeogkeonfaaDoorShapeTo
import Derived.Test.YtkeieeogkeonfaaDoorShapeOkS
import Derived.Deep.RegionHeld3
namespace Go.Proofs.YtkeieeogkeonfaaDoor
open Go.RowKit

set_option maxHeartbeats 4000000 in
set_option maxRecDepth 100000 in
theorem exactShapeText (x0 : Sh) (cs0 : List Value) (w : World) (hT : STab w) (r0 : Rd w x0.d cs0) (f0 : x0.wf) :
    Calls Tryd.prog 5 #[.agg cs0.toArray] w fun e w' => e = .returned (.bool true) ∧ Below w.heap.size w w' := by
  obtain ⟨kA0, lA0, hA0, aA0, nA0, cA0, mA0, bA0, pA0, qA0, rfl⟩ := Sh.form r0
  obtain ⟨W0, hW0⟩ : ∃ W0, W0 = (w.alloc (.cells #[.int .i64 kA0, .int .i64 lA0, .int .i64 hA0, .slice aA0 nA0 cA0, .int .i64 mA0, .slice bA0 pA0 qA0] 25)) := ⟨_, rfl⟩
  have HW := Lib.hid hW0
  have hA : Below w.heap.size w W0 := by rw [hW0]; exact ((Below.refl _ _).alloc (by simp <;> omega) _)
  have RX0 := Lib.hid (show ∀ W, Below W0.heap.size W0 W → Rd W x0.d [.int .i64 kA0, .int .i64 lA0, .int .i64 hA0, .slice aA0 nA0 cA0, .int .i64 mA0, .slice bA0 pA0 qA0] from fun W hb => r0.below (below2 hA hb (Nat.le_refl _)))
  have HT := Lib.hid (show ∀ W, Below W0.heap.size W0 W → STab W from fun W hb => hT.below (below2 hA hb (Nat.le_refl _)))
  have z0 : w.heap.size < W0.heap.size := by rw [hW0]; simp <;> omega
  have KB : Hid (∀ W, Below W0.heap.size W0 W → (W.cell? ⟨w.heap.size, 0, none⟩ = some (.int .i64 kA0) ∧ W.cell? ⟨w.heap.size, 1, none⟩ = some (.int .i64 lA0) ∧ W.cell? ⟨w.heap.size, 2, none⟩ = some (.int .i64 hA0) ∧ W.cell? ⟨w.heap.size, 3, none⟩ = some (.slice aA0 nA0 cA0) ∧ W.cell? ⟨w.heap.size, 4, none⟩ = some (.int .i64 mA0) ∧ W.cell? ⟨w.heap.size, 5, none⟩ = some (.slice bA0 pA0 qA0))) := by
    intro W hb
    obtain ⟨hc, _⟩ := bcell hb
    simp only [hc _ _ z0]
    subst hW0; simp [go_sem]
  clear hW0 hT r0
  have hB : Below W0.heap.size W0 W0 := Below.refl _ _
  go_enter Tryd.func5, Tryd.ntmps5
  go_wp2_with fail
  rw [← HW.out]
  refine (szShape_any x0 _ _ _ (RX0.out _ hB) f0 (by omega)).mono ?_
  by_cases s0 : x0.bulk ≤ 1048576
  · rw [take'_yes (by omega)]
    rintro e w1 ⟨rfl, hb1⟩
    replace hB := below2 hB hb1 (Nat.le_refl _)
    have y0 : x0.bulk ≤ 1048576 := by omega
    obtain ⟨c0_0, c0_1, c0_2, c0_3, c0_4, c0_5⟩ := KB.out _ hB
    go_wp2_with fail
    refine (toShape_any x0 _ _ (RX0.out _ hB) y0).mono ?_
    rintro e v0 ⟨ds0, rfl, hbv0, ho0⟩
    replace hB := below2 hB hbv0 (Nat.le_refl _)
    clear c0_0 c0_1 c0_2 c0_3 c0_4 c0_5
    obtain ⟨c0_0, c0_1, c0_2, c0_3, c0_4, c0_5⟩ := KB.out _ hB
    go_wp2_with fail
    refine (shapeText_spec x0 _ _ ho0.rd f0 (by omega)).mono ?_
    rintro e ws ⟨rfl, hbs⟩
    replace hB := below2 hB hbs (Nat.le_refl _)
    clear c0_0 c0_1 c0_2 c0_3 c0_4 c0_5
    obtain ⟨c0_0, c0_1, c0_2, c0_3, c0_4, c0_5⟩ := KB.out _ hB
    go_wp2_with fail
    refine (toShape_any x0 _ _ (RX0.out _ hB) y0).mono ?_
    rintro e u0 ⟨es0, rfl, hbu0, hu0⟩
    replace hB := below2 hB hbu0 (Nat.le_refl _)
    obtain ⟨kB0, lB0, hB0, aB0, nB0, cB0, mB0, bB0, pB0, qB0, rfl⟩ := Sh.form hu0.rd
    clear c0_0 c0_1 c0_2 c0_3 c0_4 c0_5
    obtain ⟨W1, hW1⟩ : ∃ W1, W1 = u0.alloc (.cells #[.int .i64 kB0, .int .i64 lB0, .int .i64 hB0, .slice aB0 nB0 cB0, .int .i64 mB0, .slice bB0 pB0 qB0] 29) := ⟨_, rfl⟩
    have HW1 := Lib.hid hW1
    have hB1 : Below W0.heap.size W0 W1 := by rw [hW1]; exact hB.alloc hB.size _
    have t1 : u0.heap.size < W1.heap.size := by rw [hW1]; simp
    have hX0 := Lib.hid (show ∀ W, Below W1.heap.size W1 W → Rd W x0.d [.int .i64 kB0, .int .i64 lB0, .int .i64 hB0, .slice aB0 nB0 cB0, .int .i64 mB0, .slice bB0 pB0 qB0] from fun W hb => (show Rd W1 x0.d [.int .i64 kB0, .int .i64 lB0, .int .i64 hB0, .slice aB0 nB0 cB0, .int .i64 mB0, .slice bB0 pB0 qB0] by rw [hW1]; exact hu0.rd.alloc _).below hb)
    have KB1 : Hid (∀ W, Below W1.heap.size W1 W → ((W.cell? ⟨w.heap.size, 0, none⟩ = some (.int .i64 kA0) ∧ W.cell? ⟨w.heap.size, 1, none⟩ = some (.int .i64 lA0) ∧ W.cell? ⟨w.heap.size, 2, none⟩ = some (.int .i64 hA0) ∧ W.cell? ⟨w.heap.size, 3, none⟩ = some (.slice aA0 nA0 cA0) ∧ W.cell? ⟨w.heap.size, 4, none⟩ = some (.int .i64 mA0) ∧ W.cell? ⟨w.heap.size, 5, none⟩ = some (.slice bA0 pA0 qA0))) ∧ (W.cell? ⟨u0.heap.size, 0, none⟩ = some (.int .i64 kB0) ∧ W.cell? ⟨u0.heap.size, 1, none⟩ = some (.int .i64 lB0) ∧ W.cell? ⟨u0.heap.size, 2, none⟩ = some (.int .i64 hB0) ∧ W.cell? ⟨u0.heap.size, 3, none⟩ = some (.slice aB0 nB0 cB0) ∧ W.cell? ⟨u0.heap.size, 4, none⟩ = some (.int .i64 mB0) ∧ W.cell? ⟨u0.heap.size, 5, none⟩ = some (.slice bB0 pB0 qB0))) := by
      intro W hb
      obtain ⟨hc, _⟩ := bcell hb
      refine ⟨KB.out _ (below2 hB1 hb (Nat.le_refl _)), ?_⟩
      simp only [hc _ _ t1]; subst hW1; simp [go_sem]
    clear hW1
    have hC1 : Below W1.heap.size W1 W1 := Below.refl _ _
    obtain ⟨⟨c0_0, c0_1, c0_2, c0_3, c0_4, c0_5⟩, ⟨d0_0, d0_1, d0_2, d0_3, d0_4, d0_5⟩⟩ := KB1.out _ hC1
    go_wp2_with fail
    rw [← HW1.out]
    refine (shapeText_impl x0 _ _ (hX0.out _ hC1) f0 (by omega) (HT.out _ (below2 hB1 hC1 (Nat.le_refl _)))).mono ?_
    rintro e wi ⟨rfl, hbi⟩
    replace hC1 := below2 hC1 hbi (Nat.le_refl _)
    clear c0_0 c0_1 c0_2 c0_3 c0_4 c0_5 d0_0 d0_1 d0_2 d0_3 d0_4 d0_5
    obtain ⟨⟨c0_0, c0_1, c0_2, c0_3, c0_4, c0_5⟩, ⟨d0_0, d0_1, d0_2, d0_3, d0_4, d0_5⟩⟩ := KB1.out _ hC1
    go_wp2_with fail
    clear c0_0 c0_1 c0_2 c0_3 c0_4 c0_5 d0_0 d0_1 d0_2 d0_3 d0_4 d0_5
    go_region_held3 (fun W => ((W.cell? ⟨w.heap.size, 0, none⟩ = some (.int .i64 kA0) ∧ W.cell? ⟨w.heap.size, 1, none⟩ = some (.int .i64 lA0) ∧ W.cell? ⟨w.heap.size, 2, none⟩ = some (.int .i64 hA0) ∧ W.cell? ⟨w.heap.size, 3, none⟩ = some (.slice aA0 nA0 cA0) ∧ W.cell? ⟨w.heap.size, 4, none⟩ = some (.int .i64 mA0) ∧ W.cell? ⟨w.heap.size, 5, none⟩ = some (.slice bA0 pA0 qA0))) ∧ (W.cell? ⟨u0.heap.size, 0, none⟩ = some (.int .i64 kB0) ∧ W.cell? ⟨u0.heap.size, 1, none⟩ = some (.int .i64 lB0) ∧ W.cell? ⟨u0.heap.size, 2, none⟩ = some (.int .i64 hB0) ∧ W.cell? ⟨u0.heap.size, 3, none⟩ = some (.slice aB0 nB0 cB0) ∧ W.cell? ⟨u0.heap.size, 4, none⟩ = some (.int .i64 mB0) ∧ W.cell? ⟨u0.heap.size, 5, none⟩ = some (.slice bB0 pB0 qB0))) (first | exact KB1.out _ hC1 | exact KB1.out _ hC1.drew)
      (first | (go_at_call 10; with_reducible refine (toShape_any x0 _ _ (by first | exact RX0.out _ (below2 hB1 hC1 (Nat.le_refl _)) | exact RX0.out _ (below2 hB1 hC1.drew (Nat.le_refl _))) y0).mono ?_; rintro e p0 ⟨ps0, rfl, hbp0, hop0⟩; replace hC1 := below2 (by first | exact hC1 | exact hC1.drew) hbp0 (Nat.le_refl _)) | (go_at_call 12; refine (eqShape_any x0 x0 _ _ _ (hX0.out _ hC1) hop0.rd y0 y0).mono ?_; rintro e q0 ⟨rfl, hbq0⟩; replace hC1 := below2 hC1 hbq0 (Nat.le_refl _)))
    go_wp2_with fail
    go_ret
    exact ⟨rfl, below2 hA (below2 hB1 hC1 (Nat.le_refl _)) (Nat.le_refl _)⟩
  · rw [take'_no (by omega)]
    rintro e w1 ⟨rfl, hb1⟩
    go_wp2
    go_ret
    exact ⟨rfl, below2 hA (below2 hB hb1 (Nat.le_refl _)) (Nat.le_refl _)⟩
theorem exactShapeTextW (x0 : Sh) (cs0 : List Value) (w : World) (hm : ∃ m, w.cell? ⟨2, 0, none⟩ = some (.int .i64 m)) (hT : Tabs w) (hTen : TenTab w) (r0 : Rd w x0.d cs0) (f0 : x0.wf) :
    Calls Tryd.prog 5 #[.agg cs0.toArray] w fun e w' => e = .returned (.bool true) ∧ Below w.heap.size w w' := exactShapeText x0 cs0 w ⟨hT, hTen, hm⟩ r0 f0
end Go.Proofs.YtkeieeogkeonfaaDoor
