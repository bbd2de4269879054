/- The walk of FnExactSameShape. -/
import Derived.Test.YtimjpohfopnnpaaShapeSameS
import Derived.Test.YtimjpohfopnnpaaShapeRead
import Derived.Deep.RegionHeld3
namespace Go.Proofs.Ytimjpohfopnnpaa
open Go.RowKit

set_option maxHeartbeats 4000000 in
theorem exactSameShape (x y : Sh) (cs ds : List Value) (w : World) (h : Rd w x.d cs) (h2 : Rd w y.d ds) (hwx : x.wf) (hwy : y.wf) :
    Calls Try.prog 4 #[.agg cs.toArray, .agg ds.toArray] w fun e w' => e = .returned (.bool true) ∧ Below w.heap.size w w' := by
  obtain ⟨k1, k2, k3, a4, n4, m4, k5, a6, n6, m6, rfl⟩ := Sh.form h
  obtain ⟨j1, j2, j3, b4, p4, q4, j5, b6, p6, q6, rfl⟩ := Sh.form h2
  obtain ⟨W0, hW0⟩ : ∃ W0, W0 = ((w.alloc (.cells #[.int .i64 k1, .int .i64 k2, .int .i64 k3, .slice a4 n4 m4, .int .i64 k5, .slice a6 n6 m6] 32)).alloc (.cells #[.int .i64 j1, .int .i64 j2, .int .i64 j3, .slice b4 p4 q4, .int .i64 j5, .slice b6 p6 q6] 32)) := ⟨_, rfl⟩
  have HW := Lib.hid hW0
  have hA2 : Below w.heap.size w W0 := by rw [hW0]; exact ((Below.refl _ _).alloc (Nat.le_refl _) _).alloc (by simp) _
  have RX : ∀ W, Below W0.heap.size W0 W → Rd W x.d [.int .i64 k1, .int .i64 k2, .int .i64 k3, .slice a4 n4 m4, .int .i64 k5, .slice a6 n6 m6] := fun W hb => h.below (below2 hA2 hb (Nat.le_refl _))
  have RY : ∀ W, Below W0.heap.size W0 W → Rd W y.d [.int .i64 j1, .int .i64 j2, .int .i64 j3, .slice b4 p4 q4, .int .i64 j5, .slice b6 p6 q6] := fun W hb => h2.below (below2 hA2 hb (Nat.le_refl _))
  have z1 : w.heap.size < W0.heap.size := by rw [hW0]; simp; omega
  have z2 : w.heap.size + 1 < W0.heap.size := by rw [hW0]; simp
  have KB : ∀ W, Below W0.heap.size W0 W → (W.cell? ⟨w.heap.size, 0, none⟩ = some (.int .i64 k1) ∧ W.cell? ⟨w.heap.size, 1, none⟩ = some (.int .i64 k2) ∧ W.cell? ⟨w.heap.size, 2, none⟩ = some (.int .i64 k3) ∧ W.cell? ⟨w.heap.size, 3, none⟩ = some (.slice a4 n4 m4) ∧ W.cell? ⟨w.heap.size, 4, none⟩ = some (.int .i64 k5) ∧ W.cell? ⟨w.heap.size, 5, none⟩ = some (.slice a6 n6 m6)
      ∧ W.cell? ⟨w.heap.size + 1, 0, none⟩ = some (.int .i64 j1) ∧ W.cell? ⟨w.heap.size + 1, 1, none⟩ = some (.int .i64 j2) ∧ W.cell? ⟨w.heap.size + 1, 2, none⟩ = some (.int .i64 j3) ∧ W.cell? ⟨w.heap.size + 1, 3, none⟩ = some (.slice b4 p4 q4) ∧ W.cell? ⟨w.heap.size + 1, 4, none⟩ = some (.int .i64 j5) ∧ W.cell? ⟨w.heap.size + 1, 5, none⟩ = some (.slice b6 p6 q6)) := by
    intro W hb
    obtain ⟨hc, _⟩ := bcell hb
    simp only [hc _ _ z1, hc _ _ z2]
    subst hW0
    simp
  have KB := Lib.hid KB
  have RX := Lib.hid RX
  have RY := Lib.hid RY
  clear hW0
  have hB : Below W0.heap.size W0 W0 := Below.refl _ _
  go_enter Try.func4, Try.ntmps4
  go_wp2_with fail
  rw [← HW.out]
  refine (szShape_any x _ _ _ (RX.out _ hB) hwx (by decide)).mono ?_
  by_cases hx : x.bulk ≤ 1048576
  · rw [take'_yes (by omega)]
    rintro e w1 ⟨rfl, hb1⟩
    replace hB := below2 hB hb1 (Nat.le_refl _)
    obtain ⟨f0, f1, f2, f3, f4, f5, g0, g1, g2, g3, g4, g5⟩ := KB.out _ hB
    go_wp2_with fail
    refine (szShape_any y _ _ _ (RY.out _ hB) hwy (by omega)).mono ?_
    by_cases hy : x.bulk + y.bulk ≤ 1048576
    · rw [take'_yes (by omega)]
      rintro e w2 ⟨rfl, hb2⟩
      replace hB := below2 hB hb2 (Nat.le_refl _)
      clear f0 f1 f2 f3 f4 f5 g0 g1 g2 g3 g4 g5
      have hx' : x.bulk ≤ 1048576 := by omega
      have hy' : y.bulk ≤ 1048576 := by omega
      go_wp2_with fail
      go_region_held3 (fun W => W.cell? ⟨w.heap.size, 0, none⟩ = some (.int .i64 k1) ∧ W.cell? ⟨w.heap.size, 1, none⟩ = some (.int .i64 k2) ∧ W.cell? ⟨w.heap.size, 2, none⟩ = some (.int .i64 k3) ∧ W.cell? ⟨w.heap.size, 3, none⟩ = some (.slice a4 n4 m4) ∧ W.cell? ⟨w.heap.size, 4, none⟩ = some (.int .i64 k5) ∧ W.cell? ⟨w.heap.size, 5, none⟩ = some (.slice a6 n6 m6)
      ∧ W.cell? ⟨w.heap.size + 1, 0, none⟩ = some (.int .i64 j1) ∧ W.cell? ⟨w.heap.size + 1, 1, none⟩ = some (.int .i64 j2) ∧ W.cell? ⟨w.heap.size + 1, 2, none⟩ = some (.int .i64 j3) ∧ W.cell? ⟨w.heap.size + 1, 3, none⟩ = some (.slice b4 p4 q4) ∧ W.cell? ⟨w.heap.size + 1, 4, none⟩ = some (.int .i64 j5) ∧ W.cell? ⟨w.heap.size + 1, 5, none⟩ = some (.slice b6 p6 q6))
        (first | exact KB.out _ hB | exact KB.out _ hB.drew)
        (first | (go_at_call 12; with_reducible refine (toShape_any x _ _ (by first | exact RX.out _ hB | exact RX.out _ hB.drew) hx').mono ?_; rintro e w3 ⟨cs1, rfl, hb3, hown3⟩; replace hB := below2 (by first | exact hB | exact hB.drew) hb3 (Nat.le_refl _)) | (go_at_call 12; with_reducible refine (toShape_any y _ _ (by first | exact RY.out _ hB | exact RY.out _ hB.drew) hy').mono ?_; rintro e w4 ⟨cs2, rfl, hb4, hown4⟩; replace hB := below2 (by first | exact hB | exact hB.drew) hb4 (Nat.le_refl _)) | (go_at_call 11; refine (sameShape_spec x y _ _ _ (hown3.rd.below hb4) hown4.rd hx' hy').mono ?_; rintro e w5 ⟨rfl, hb5⟩; replace hB := below2 hB hb5 (Nat.le_refl _)))
      obtain ⟨f0, f1, f2, f3, f4, f5, g0, g1, g2, g3, g4, g5⟩ := KB.out _ hB
      go_wp2_with fail
      refine (toShape_any x _ _ (RX.out _ hB) hx').mono ?_
      rintro e w6 ⟨cs3, rfl, hb6, hown6⟩
      replace hB := below2 hB hb6 (Nat.le_refl _)
      obtain ⟨x1, x2, x3, xa, xn, xm, x5, xb, xp, xq, rfl⟩ := Sh.form hown6.rd
      clear f0 f1 f2 f3 f4 f5 g0 g1 g2 g3 g4 g5
      obtain ⟨f0, f1, f2, f3, f4, f5, g0, g1, g2, g3, g4, g5⟩ := KB.out _ hB
      have zz := hB.size
      have z3 : w.heap.size < w6.heap.size := by omega
      have z4 : w.heap.size + 1 < w6.heap.size := by omega
      go_wp2_with fail
      refine (toShape_any y _ _ (RY.out _ (hB.alloc zz (.cells #[.int .i64 x1, .int .i64 x2, .int .i64 x3, .slice xa xn xm, .int .i64 x5, .slice xb xp xq] 37))) hy').mono ?_
      rintro e w7 ⟨cs4, rfl, hb7, hown7⟩
      obtain ⟨y1, y2, y3, ya, yn, ym, y5, yb, yp, yq, rfl⟩ := Sh.form hown7.rd
      clear f0 f1 f2 f3 f4 f5 g0 g1 g2 g3 g4 g5
      have hc67 : w7.cell? ⟨w6.heap.size, 0, none⟩ = some (.int .i64 x1) ∧ w7.cell? ⟨w6.heap.size, 1, none⟩ = some (.int .i64 x2) ∧ w7.cell? ⟨w6.heap.size, 2, none⟩ = some (.int .i64 x3) ∧ w7.cell? ⟨w6.heap.size, 3, none⟩ = some (.slice xa xn xm) ∧ w7.cell? ⟨w6.heap.size, 4, none⟩ = some (.int .i64 x5) ∧ w7.cell? ⟨w6.heap.size, 5, none⟩ = some (.slice xb xp xq) := by
        obtain ⟨hc7, _⟩ := bcell hb7
        have hs7 := hb7.size
        simp at hs7
        simp [hc7]
      obtain ⟨W1, hW1⟩ : ∃ W1, W1 = w7.alloc (.cells #[.int .i64 y1, .int .i64 y2, .int .i64 y3, .slice ya yn ym, .int .i64 y5, .slice yb yp yq] 37) := ⟨_, rfl⟩
      have HW1 := Lib.hid hW1
      have hs7 := hb7.size
      simp at hs7
      have hB1 : Below W0.heap.size W0 W1 := by rw [hW1]; exact (below2 (hB.alloc zz _) hb7 (Nat.le_refl _)).alloc (by omega) _
      have e1 : w6.heap.size < W1.heap.size := by rw [hW1]; simp; omega
      have e2 : w7.heap.size < W1.heap.size := by rw [hW1]; simp
      have hX : Rd W1 x.d [.int .i64 x1, .int .i64 x2, .int .i64 x3, .slice xa xn xm, .int .i64 x5, .slice xb xp xq] := by rw [hW1]; exact ((hown6.rd.alloc _).below hb7).alloc _
      have hY : Rd W1 y.d [.int .i64 y1, .int .i64 y2, .int .i64 y3, .slice ya yn ym, .int .i64 y5, .slice yb yp yq] := by rw [hW1]; exact hown7.rd.alloc _
      have h67 : w6.heap.size < w7.heap.size := by omega
      have hcx : W1.cell? ⟨w6.heap.size, 0, none⟩ = some (.int .i64 x1) ∧ W1.cell? ⟨w6.heap.size, 1, none⟩ = some (.int .i64 x2) ∧ W1.cell? ⟨w6.heap.size, 2, none⟩ = some (.int .i64 x3) ∧ W1.cell? ⟨w6.heap.size, 3, none⟩ = some (.slice xa xn xm) ∧ W1.cell? ⟨w6.heap.size, 4, none⟩ = some (.int .i64 x5) ∧ W1.cell? ⟨w6.heap.size, 5, none⟩ = some (.slice xb xp xq) := by
        rw [hW1]
        simp only [World.cell?_alloc_past _ _ _ h67]
        exact hc67
      have hcy : W1.cell? ⟨w7.heap.size, 0, none⟩ = some (.int .i64 y1) ∧ W1.cell? ⟨w7.heap.size, 1, none⟩ = some (.int .i64 y2) ∧ W1.cell? ⟨w7.heap.size, 2, none⟩ = some (.int .i64 y3) ∧ W1.cell? ⟨w7.heap.size, 3, none⟩ = some (.slice ya yn ym) ∧ W1.cell? ⟨w7.heap.size, 4, none⟩ = some (.int .i64 y5) ∧ W1.cell? ⟨w7.heap.size, 5, none⟩ = some (.slice yb yp yq) := by
        subst hW1
        simp
      have KX : ∀ W, Below W1.heap.size W1 W → ((W.cell? ⟨w6.heap.size, 0, none⟩ = some (.int .i64 x1) ∧ W.cell? ⟨w6.heap.size, 1, none⟩ = some (.int .i64 x2) ∧ W.cell? ⟨w6.heap.size, 2, none⟩ = some (.int .i64 x3) ∧ W.cell? ⟨w6.heap.size, 3, none⟩ = some (.slice xa xn xm) ∧ W.cell? ⟨w6.heap.size, 4, none⟩ = some (.int .i64 x5) ∧ W.cell? ⟨w6.heap.size, 5, none⟩ = some (.slice xb xp xq)) ∧ (W.cell? ⟨w7.heap.size, 0, none⟩ = some (.int .i64 y1) ∧ W.cell? ⟨w7.heap.size, 1, none⟩ = some (.int .i64 y2) ∧ W.cell? ⟨w7.heap.size, 2, none⟩ = some (.int .i64 y3) ∧ W.cell? ⟨w7.heap.size, 3, none⟩ = some (.slice ya yn ym) ∧ W.cell? ⟨w7.heap.size, 4, none⟩ = some (.int .i64 y5) ∧ W.cell? ⟨w7.heap.size, 5, none⟩ = some (.slice yb yp yq))) := by
        intro W hb
        obtain ⟨hc, _⟩ := bcell hb
        constructor
        · simp only [hc _ _ e1]; exact hcx
        · simp only [hc _ _ e2]; exact hcy
      have KX := Lib.hid KX
      have hX := Lib.hid hX
      have hY := Lib.hid hY
      clear hW1 hcx hcy hB
      obtain ⟨d0, d1, d2, d3, d4, d5⟩ := hc67
      have hC : Below W1.heap.size W1 W1 := Below.refl _ _
      go_wp2_with fail
      rw [← HW1.out]
      clear d0 d1 d2 d3 d4 d5
      refine (sameShape_impl x y _ _ _ hX.out hY.out hx' hy').mono ?_
      rintro e w8 ⟨rfl, hb8⟩
      replace hC := below2 hC hb8 (Nat.le_refl _)
      obtain ⟨f0, f1, f2, f3, f4, f5, g0, g1, g2, g3, g4, g5⟩ := KB.out _ (below2 hB1 hC (Nat.le_refl _))
      obtain ⟨⟨d0, d1, d2, d3, d4, d5⟩, ⟨c0, c1, c2, c3, c4, c5⟩⟩ := KX.out _ hC
      go_wp2_with fail
      clear f0 f1 f2 f3 f4 f5 g0 g1 g2 g3 g4 g5 d0 d1 d2 d3 d4 d5 c0 c1 c2 c3 c4 c5
      have KK : ∀ W, Below W1.heap.size W1 W → ((W.cell? ⟨w.heap.size, 0, none⟩ = some (.int .i64 k1) ∧ W.cell? ⟨w.heap.size, 1, none⟩ = some (.int .i64 k2) ∧ W.cell? ⟨w.heap.size, 2, none⟩ = some (.int .i64 k3) ∧ W.cell? ⟨w.heap.size, 3, none⟩ = some (.slice a4 n4 m4) ∧ W.cell? ⟨w.heap.size, 4, none⟩ = some (.int .i64 k5) ∧ W.cell? ⟨w.heap.size, 5, none⟩ = some (.slice a6 n6 m6)
      ∧ W.cell? ⟨w.heap.size + 1, 0, none⟩ = some (.int .i64 j1) ∧ W.cell? ⟨w.heap.size + 1, 1, none⟩ = some (.int .i64 j2) ∧ W.cell? ⟨w.heap.size + 1, 2, none⟩ = some (.int .i64 j3) ∧ W.cell? ⟨w.heap.size + 1, 3, none⟩ = some (.slice b4 p4 q4) ∧ W.cell? ⟨w.heap.size + 1, 4, none⟩ = some (.int .i64 j5) ∧ W.cell? ⟨w.heap.size + 1, 5, none⟩ = some (.slice b6 p6 q6)) ∧ (W.cell? ⟨w6.heap.size, 0, none⟩ = some (.int .i64 x1) ∧ W.cell? ⟨w6.heap.size, 1, none⟩ = some (.int .i64 x2) ∧ W.cell? ⟨w6.heap.size, 2, none⟩ = some (.int .i64 x3) ∧ W.cell? ⟨w6.heap.size, 3, none⟩ = some (.slice xa xn xm) ∧ W.cell? ⟨w6.heap.size, 4, none⟩ = some (.int .i64 x5) ∧ W.cell? ⟨w6.heap.size, 5, none⟩ = some (.slice xb xp xq)) ∧ (W.cell? ⟨w7.heap.size, 0, none⟩ = some (.int .i64 y1) ∧ W.cell? ⟨w7.heap.size, 1, none⟩ = some (.int .i64 y2) ∧ W.cell? ⟨w7.heap.size, 2, none⟩ = some (.int .i64 y3) ∧ W.cell? ⟨w7.heap.size, 3, none⟩ = some (.slice ya yn ym) ∧ W.cell? ⟨w7.heap.size, 4, none⟩ = some (.int .i64 y5) ∧ W.cell? ⟨w7.heap.size, 5, none⟩ = some (.slice yb yp yq))) := fun W hb => ⟨KB.out _ (below2 hB1 hb (Nat.le_refl _)), KX.out _ hb⟩
      have KK := Lib.hid KK
      have LX : ∀ W, Below W1.heap.size W1 W → Rd W x.d [.int .i64 x1, .int .i64 x2, .int .i64 x3, .slice xa xn xm, .int .i64 x5, .slice xb xp xq] := fun W hb => hX.out.below hb
      have LY : ∀ W, Below W1.heap.size W1 W → Rd W y.d [.int .i64 y1, .int .i64 y2, .int .i64 y3, .slice ya yn ym, .int .i64 y5, .slice yb yp yq] := fun W hb => hY.out.below hb
      have LX := Lib.hid LX
      have LY := Lib.hid LY
      go_region_held3 (fun W => (W.cell? ⟨w.heap.size, 0, none⟩ = some (.int .i64 k1) ∧ W.cell? ⟨w.heap.size, 1, none⟩ = some (.int .i64 k2) ∧ W.cell? ⟨w.heap.size, 2, none⟩ = some (.int .i64 k3) ∧ W.cell? ⟨w.heap.size, 3, none⟩ = some (.slice a4 n4 m4) ∧ W.cell? ⟨w.heap.size, 4, none⟩ = some (.int .i64 k5) ∧ W.cell? ⟨w.heap.size, 5, none⟩ = some (.slice a6 n6 m6)
      ∧ W.cell? ⟨w.heap.size + 1, 0, none⟩ = some (.int .i64 j1) ∧ W.cell? ⟨w.heap.size + 1, 1, none⟩ = some (.int .i64 j2) ∧ W.cell? ⟨w.heap.size + 1, 2, none⟩ = some (.int .i64 j3) ∧ W.cell? ⟨w.heap.size + 1, 3, none⟩ = some (.slice b4 p4 q4) ∧ W.cell? ⟨w.heap.size + 1, 4, none⟩ = some (.int .i64 j5) ∧ W.cell? ⟨w.heap.size + 1, 5, none⟩ = some (.slice b6 p6 q6)) ∧ (W.cell? ⟨w6.heap.size, 0, none⟩ = some (.int .i64 x1) ∧ W.cell? ⟨w6.heap.size, 1, none⟩ = some (.int .i64 x2) ∧ W.cell? ⟨w6.heap.size, 2, none⟩ = some (.int .i64 x3) ∧ W.cell? ⟨w6.heap.size, 3, none⟩ = some (.slice xa xn xm) ∧ W.cell? ⟨w6.heap.size, 4, none⟩ = some (.int .i64 x5) ∧ W.cell? ⟨w6.heap.size, 5, none⟩ = some (.slice xb xp xq)) ∧ (W.cell? ⟨w7.heap.size, 0, none⟩ = some (.int .i64 y1) ∧ W.cell? ⟨w7.heap.size, 1, none⟩ = some (.int .i64 y2) ∧ W.cell? ⟨w7.heap.size, 2, none⟩ = some (.int .i64 y3) ∧ W.cell? ⟨w7.heap.size, 3, none⟩ = some (.slice ya yn ym) ∧ W.cell? ⟨w7.heap.size, 4, none⟩ = some (.int .i64 y5) ∧ W.cell? ⟨w7.heap.size, 5, none⟩ = some (.slice yb yp yq)))
        (first | exact KK.out _ hC | exact KK.out _ hC.drew)
        (first | (go_at_call 12; with_reducible refine (toShape_any x _ _ (by first | exact RX.out _ (below2 hB1 hC (Nat.le_refl _)) | exact RX.out _ (below2 hB1 hC.drew (Nat.le_refl _))) hx').mono ?_; rintro e w9 ⟨cs5, rfl, hb9, hown9⟩; replace hC := below2 (by first | exact hC | exact hC.drew) hb9 (Nat.le_refl _)) | (go_at_call 14; refine (eqShape_any x x _ _ _ (LX.out _ hC) hown9.rd hx' hx').mono ?_; rintro e w10 ⟨rfl, hb10⟩; replace hC := below2 hC hb10 (Nat.le_refl _)))
      go_wp2_with fail
      go_region_held3 (fun W => (W.cell? ⟨w.heap.size, 0, none⟩ = some (.int .i64 k1) ∧ W.cell? ⟨w.heap.size, 1, none⟩ = some (.int .i64 k2) ∧ W.cell? ⟨w.heap.size, 2, none⟩ = some (.int .i64 k3) ∧ W.cell? ⟨w.heap.size, 3, none⟩ = some (.slice a4 n4 m4) ∧ W.cell? ⟨w.heap.size, 4, none⟩ = some (.int .i64 k5) ∧ W.cell? ⟨w.heap.size, 5, none⟩ = some (.slice a6 n6 m6)
      ∧ W.cell? ⟨w.heap.size + 1, 0, none⟩ = some (.int .i64 j1) ∧ W.cell? ⟨w.heap.size + 1, 1, none⟩ = some (.int .i64 j2) ∧ W.cell? ⟨w.heap.size + 1, 2, none⟩ = some (.int .i64 j3) ∧ W.cell? ⟨w.heap.size + 1, 3, none⟩ = some (.slice b4 p4 q4) ∧ W.cell? ⟨w.heap.size + 1, 4, none⟩ = some (.int .i64 j5) ∧ W.cell? ⟨w.heap.size + 1, 5, none⟩ = some (.slice b6 p6 q6)) ∧ (W.cell? ⟨w6.heap.size, 0, none⟩ = some (.int .i64 x1) ∧ W.cell? ⟨w6.heap.size, 1, none⟩ = some (.int .i64 x2) ∧ W.cell? ⟨w6.heap.size, 2, none⟩ = some (.int .i64 x3) ∧ W.cell? ⟨w6.heap.size, 3, none⟩ = some (.slice xa xn xm) ∧ W.cell? ⟨w6.heap.size, 4, none⟩ = some (.int .i64 x5) ∧ W.cell? ⟨w6.heap.size, 5, none⟩ = some (.slice xb xp xq)) ∧ (W.cell? ⟨w7.heap.size, 0, none⟩ = some (.int .i64 y1) ∧ W.cell? ⟨w7.heap.size, 1, none⟩ = some (.int .i64 y2) ∧ W.cell? ⟨w7.heap.size, 2, none⟩ = some (.int .i64 y3) ∧ W.cell? ⟨w7.heap.size, 3, none⟩ = some (.slice ya yn ym) ∧ W.cell? ⟨w7.heap.size, 4, none⟩ = some (.int .i64 y5) ∧ W.cell? ⟨w7.heap.size, 5, none⟩ = some (.slice yb yp yq)))
        (first | exact KK.out _ hC | exact KK.out _ hC.drew)
        (first | (go_at_call 12; with_reducible refine (toShape_any y _ _ (by first | exact RY.out _ (below2 hB1 hC (Nat.le_refl _)) | exact RY.out _ (below2 hB1 hC.drew (Nat.le_refl _))) hy').mono ?_; rintro e w9 ⟨cs5, rfl, hb9, hown9⟩; replace hC := below2 (by first | exact hC | exact hC.drew) hb9 (Nat.le_refl _)) | (go_at_call 14; refine (eqShape_any y y _ _ _ (LY.out _ hC) hown9.rd hy' hy').mono ?_; rintro e w10 ⟨rfl, hb10⟩; replace hC := below2 hC hb10 (Nat.le_refl _)))
      go_wp2_with fail
      go_ret
      exact ⟨rfl, below2 hA2 (below2 hB1 hC (Nat.le_refl _)) (Nat.le_refl _)⟩
    · rw [take'_no (by omega)]
      rintro e w2 ⟨rfl, hb2⟩
      clear f0 f1 f2 f3 f4 f5 g0 g1 g2 g3 g4 g5
      go_wp2
      go_ret
      exact ⟨rfl, below2 hA2 (below2 hB hb2 (Nat.le_refl _)) (Nat.le_refl _)⟩
  · rw [take'_no (by omega)]
    rintro e w1 ⟨rfl, hb1⟩
    go_wp2
    go_ret
    exact ⟨rfl, below2 hA2 (below2 hB hb1 (Nat.le_refl _)) (Nat.le_refl _)⟩
theorem exactSameShape' (x : Sh) (cs : List Value) (y : Sh) (ds : List Value) (w : World) (h : Rd w x.d cs) (hwx : x.wf) (h2 : Rd w y.d ds) (hwy : y.wf) :
    Calls Try.prog 4 #[.agg ⟨cs⟩, .agg ⟨ds⟩] w fun e w' => e = .returned (.bool true) ∧ Below w.heap.size w w' := exactSameShape x y cs ds w h h2 hwx hwy
end Go.Proofs.Ytimjpohfopnnpaa
