/- How many marks a value takes, by its bulk. No program in sight. -/
import Derived.Test.YtkeieeogkeonfaaDoorMark
import Derived.Test.YtkeieeogkeonfaaDoorValueDef
import Derived.Test.YtkeieeogkeonfaaDoorValueRead
import Derived.Test.YtkeieeogkeonfaaDoorValueEq
import Derived.Test.YtkeieeogkeonfaaDoorMarkV
import Derived.Test.YtkeieeogkeonfaaDoorPTab
import Derived.Deep.RegionHeld3
import Derived.Test.YtkeieeogkeonfaaDoorPlainA
import Derived.Test.YtkeieeogkeonfaaDoorPlainAS
import Derived.Test.YtkeieeogkeonfaaDoorPlainDef
namespace Go.Proofs.YtkeieeogkeonfaaDoor
open Go.RowKit
mutual
theorem V.cnt_le : ∀ v : V, V.cnt v ≤ 4 + 4 * v.bulk
  | .mk _ _ _ s kids => by have := V.cnts_bd kids; simp only [V.cnt, V.bulk]; omega
theorem V.cnts_bd : ∀ vs : List V, V.cnts vs ≤ 4 * (vs.length + V.bulks vs)
  | [] => by simp [V.cnts]
  | v :: vs => by have := V.cnt_le v; have := V.cnts_bd vs; simp only [V.cnts, V.bulks, List.length_cons]; omega
end
theorem V.cnts_bulk (x : V) : V.cnts x.kids ≤ 4 * x.bulk := by
  obtain ⟨k, n, e, s, kids⟩ := x
  have := V.cnts_bd kids; simp only [V.kids, V.bulk]; omega
end Go.Proofs.YtkeieeogkeonfaaDoor

/- The walk of FnExactPlain. -/
namespace Go.Proofs.YtkeieeogkeonfaaDoor
open Go.RowKit

set_option maxHeartbeats 8000000 in
set_option maxRecDepth 100000 in
theorem lawPlain (x0 R : V) (cs0 : List Value) (w : World) (hT : PTab w) (r0 : Rd w x0.d cs0) (f0 : x0.wf) (hRb : x0.bulk ≤ 1048576 → R.bulk ≤ 1048576)
    (hS : ∀ (cs : List Value) (W : World), x0.bulk ≤ 1048576 → Rd W x0.d cs → PTab W → Calls Tryd.prog 16 #[.agg cs.toArray] W fun e w' => ∃ cs', e = .returned (.agg cs'.toArray) ∧ Below W.heap.size W w' ∧ Own W.heap.size w' R.d cs')
    (hI : ∀ (cs : List Value) (W : World), x0.bulk ≤ 1048576 → Rd W x0.d cs → PTab W → Calls Tryd.prog 18 #[.agg cs.toArray] W fun e w' => ∃ cs', e = .returned (.agg cs'.toArray) ∧ Below W.heap.size W w' ∧ Own W.heap.size w' R.d cs') :
    Calls Tryd.prog 4 #[.agg cs0.toArray] w fun e w' => e = .returned (.bool true) ∧ Below w.heap.size w w' := by
  obtain ⟨kA, lA, iA, sA, aA, nA, cA, rfl⟩ := V.form r0
  obtain ⟨W0, hW0⟩ : ∃ W0, W0 = (w.alloc (.cells #[.int .i64 kA, .int .i64 lA, .int .i64 iA, .string ⟨(sA : List UInt8).toArray⟩, .slice aA nA cA] 37)) := ⟨_, rfl⟩
  have HW := Lib.hid hW0
  have hA : Below w.heap.size w W0 := by rw [hW0]; exact ((Below.refl _ _).alloc (by simp <;> omega) _)
  have HRX := Lib.hid (show ∀ W, Below W0.heap.size W0 W → Rd W x0.d [.int .i64 kA, .int .i64 lA, .int .i64 iA, .string ⟨(sA : List UInt8).toArray⟩, .slice aA nA cA] from fun W hb => r0.below (below2 hA hb (Nat.le_refl _)))
  have HT := Lib.hid (show ∀ W, Below W0.heap.size W0 W → PTab W from fun W hb => hT.below (below2 hA hb (Nat.le_refl _)))
  have z0 : w.heap.size < W0.heap.size := by rw [hW0]; simp <;> omega
  have KA : Hid (∀ W, Below W0.heap.size W0 W → (W.cell? ⟨w.heap.size, 0, none⟩ = some (.int .i64 kA) ∧ W.cell? ⟨w.heap.size, 1, none⟩ = some (.int .i64 lA) ∧ W.cell? ⟨w.heap.size, 2, none⟩ = some (.int .i64 iA) ∧ W.cell? ⟨w.heap.size, 3, none⟩ = some (.string ⟨(sA : List UInt8).toArray⟩) ∧ W.cell? ⟨w.heap.size, 4, none⟩ = some (.slice aA nA cA))) := by
    intro W hb
    obtain ⟨hc, _⟩ := bcell hb
    simp only [hc _ _ z0]
    subst hW0; simp [go_sem]
  have HS := Lib.hid hS
  have HI := Lib.hid hI
  clear hW0 hT r0 hS hI
  have hB : Below W0.heap.size W0 W0 := Below.refl _ _
  go_enter Tryd.func4, Tryd.ntmps4
  go_wp2_with fail
  rw [← HW.out]
  refine (szValue_any x0 _ _ _ (HRX.out _ hB) f0 (by omega)).mono ?_
  by_cases s0 : x0.bulk ≤ 1048576
  case neg =>
    rw [take'_no (by omega)]
    rintro e w1 ⟨rfl, hb1⟩
    go_wp2
    go_ret
    exact ⟨rfl, below2 hA (below2 hB hb1 (Nat.le_refl _)) (Nat.le_refl _)⟩
  rw [take'_yes (by omega)]
  rintro e w1 ⟨rfl, hb1⟩
  replace hB := below2 hB hb1 (Nat.le_refl _)
  have y0 : x0.bulk ≤ 1048576 := by omega
  have yR := hRb y0
  have hcx := V.cnts_bulk x0
  have hcR := V.cnts_bulk R
  obtain ⟨p0, p1, p2, p3, p4⟩ := KA.out _ hB
  go_wp2_with fail
  refine (toValue_any x0 _ _ (HRX.out _ hB) y0).mono ?_
  rintro e v0 ⟨ds0, rfl, hbv0, ho0⟩
  replace hB := below2 hB hbv0 (Nat.le_refl _)
  clear p0 p1 p2 p3 p4
  obtain ⟨p0, p1, p2, p3, p4⟩ := KA.out _ hB
  go_wp2_with fail
  refine (HS.out _ _ y0 ho0.rd (HT.out _ hB)).mono ?_
  rintro e ws ⟨cs1, rfl, hbs, hR1⟩
  replace hB := below2 hB hbs (Nat.le_refl _)
  obtain ⟨kB, lB, iB, sB, aB, nB, cB, rfl⟩ := V.form hR1.rd
  obtain ⟨W1, hW1⟩ : ∃ W1, W1 = ws.alloc (.cells #[.int .i64 kB, .int .i64 lB, .int .i64 iB, .string ⟨(sB : List UInt8).toArray⟩, .slice aB nB cB] 41) := ⟨_, rfl⟩
  have HW1 := Lib.hid hW1
  have hB1 : Below W0.heap.size W0 W1 := by rw [hW1]; exact hB.alloc hB.size _
  have z1 : ws.heap.size + 1 = W1.heap.size := by rw [hW1]; simp
  have hRd1 : Rd W1 R.d [.int .i64 kB, .int .i64 lB, .int .i64 iB, .string ⟨(sB : List UInt8).toArray⟩, .slice aB nB cB] := by rw [hW1]; exact hR1.rd.alloc _
  have q4 : W1.cell? ⟨ws.heap.size, 0, none⟩ = some (.int .i64 kB) ∧ W1.cell? ⟨ws.heap.size, 1, none⟩ = some (.int .i64 lB) ∧ W1.cell? ⟨ws.heap.size, 2, none⟩ = some (.int .i64 iB) ∧ W1.cell? ⟨ws.heap.size, 3, none⟩ = some (.string ⟨(sB : List UInt8).toArray⟩) ∧ W1.cell? ⟨ws.heap.size, 4, none⟩ = some (.slice aB nB cB) := by rw [hW1]; simp
  have hz01 : w.heap.size < ws.heap.size := Nat.lt_of_lt_of_le z0 hB.size
  clear hW1 hR1 p0 p1 p2 p3 p4
  obtain ⟨p0, p1, p2, p3, p4⟩ := KA.out _ hB
  have KB1 : Hid (∀ W, Below W1.heap.size W1 W → (W.cell? ⟨w.heap.size, 0, none⟩ = some (.int .i64 kA) ∧ W.cell? ⟨w.heap.size, 1, none⟩ = some (.int .i64 lA) ∧ W.cell? ⟨w.heap.size, 2, none⟩ = some (.int .i64 iA) ∧ W.cell? ⟨w.heap.size, 3, none⟩ = some (.string ⟨(sA : List UInt8).toArray⟩) ∧ W.cell? ⟨w.heap.size, 4, none⟩ = some (.slice aA nA cA)) ∧ (W.cell? ⟨ws.heap.size, 0, none⟩ = some (.int .i64 kB) ∧ W.cell? ⟨ws.heap.size, 1, none⟩ = some (.int .i64 lB) ∧ W.cell? ⟨ws.heap.size, 2, none⟩ = some (.int .i64 iB) ∧ W.cell? ⟨ws.heap.size, 3, none⟩ = some (.string ⟨(sB : List UInt8).toArray⟩) ∧ W.cell? ⟨ws.heap.size, 4, none⟩ = some (.slice aB nB cB))) := by
    intro W hb
    refine ⟨KA.out _ (below2 hB1 hb (Nat.le_refl _)), ?_⟩
    obtain ⟨hc, _⟩ := bcell hb
    simp only [hc _ _ (show ws.heap.size < W1.heap.size by omega)]; exact q4
  have HR1 := Lib.hid (show ∀ W, Below W1.heap.size W1 W → Rd W R.d [.int .i64 kB, .int .i64 lB, .int .i64 iB, .string ⟨(sB : List UInt8).toArray⟩, .slice aB nB cB] from fun W hb => hRd1.below hb)
  have HRX1 := Lib.hid (show ∀ W, Below W1.heap.size W1 W → Rd W x0.d [.int .i64 kA, .int .i64 lA, .int .i64 iA, .string ⟨(sA : List UInt8).toArray⟩, .slice aA nA cA] from fun W hb => HRX.out _ (below2 hB1 hb (Nat.le_refl _)))
  have HT1 := Lib.hid (show ∀ W, Below W1.heap.size W1 W → PTab W from fun W hb => HT.out _ (below2 hB1 hb (Nat.le_refl _)))
  clear q4 hRd1 KA HRX HT hB
  have hC : Below W1.heap.size W1 W1 := Below.refl _ _
  go_wp2_with fail
  rw [← HW1.out]
  clear p0 p1 p2 p3 p4
  obtain ⟨⟨p0, p1, p2, p3, p4⟩, ⟨q0, q1, q2, q3, q4⟩⟩ := KB1.out _ hC
  refine (toValue_any x0 _ _ (HRX1.out _ hC) y0).mono ?_
  rintro e u0 ⟨es0, rfl, hbu0, hu0⟩
  replace hC := below2 hC hbu0 (Nat.le_refl _)
  obtain ⟨kC, lC, iC, sC, aC, nC, cC, rfl⟩ := V.form hu0.rd
  obtain ⟨W2, hW2⟩ : ∃ W2, W2 = u0.alloc (.cells #[.int .i64 kC, .int .i64 lC, .int .i64 iC, .string ⟨(sC : List UInt8).toArray⟩, .slice aC nC cC] 41) := ⟨_, rfl⟩
  have HW2 := Lib.hid hW2
  have hC2 : Below W1.heap.size W1 W2 := by rw [hW2]; exact hC.alloc hC.size _
  have z2 : u0.heap.size + 1 = W2.heap.size := by rw [hW2]; simp
  have q5 : W2.cell? ⟨u0.heap.size, 0, none⟩ = some (.int .i64 kC) ∧ W2.cell? ⟨u0.heap.size, 1, none⟩ = some (.int .i64 lC) ∧ W2.cell? ⟨u0.heap.size, 2, none⟩ = some (.int .i64 iC) ∧ W2.cell? ⟨u0.heap.size, 3, none⟩ = some (.string ⟨(sC : List UInt8).toArray⟩) ∧ W2.cell? ⟨u0.heap.size, 4, none⟩ = some (.slice aC nC cC) := by rw [hW2]; simp
  obtain ⟨fpx, nx, bx, tx⟩ := hu0
  have lx : ∀ b ∈ fpx, b < u0.heap.size := tx.lt
  have tx2 : TreeC W2 x0.d fpx [.int .i64 kC, .int .i64 lC, .int .i64 iC, .string ⟨(sC : List UInt8).toArray⟩, .slice aC nC cC] := by rw [hW2]; exact tx.frame fun b hb => Below.heap_alloc _ _ _ (lx b hb)
  have hz12 : W1.heap.size ≤ u0.heap.size := hC.size
  clear hW2 tx p0 p1 p2 p3 p4 q0 q1 q2 q3 q4
  have hD : Below W2.heap.size W2 W2 := Below.refl _ _
  obtain ⟨⟨p0, p1, p2, p3, p4⟩, ⟨q0, q1, q2, q3, q4⟩⟩ := KB1.out _ hC2
  obtain ⟨r0, r1, r2, r3, r4⟩ := q5
  go_wp2_with fail
  rw [← HW2.out]
  refine (HI.out _ _ y0 (Rd.of tx2.rep) (HT1.out _ hC2)).mono ?_
  rintro e wi ⟨gs, rfl, hbi, hgo⟩
  replace hD := below2 hD hbi (Nat.le_refl _)
  obtain ⟨kD, lD, iD, sD, aD, nD, cD, rfl⟩ := V.form hgo.rd
  obtain ⟨W3, hW3⟩ : ∃ W3, W3 = wi.alloc (.cells #[.int .i64 kD, .int .i64 lD, .int .i64 iD, .string ⟨(sD : List UInt8).toArray⟩, .slice aD nD cD] 41) := ⟨_, rfl⟩
  have HW3 := Lib.hid hW3
  have hD3 : Below W2.heap.size W2 W3 := by rw [hW3]; exact hD.alloc hD.size _
  have hC3 : Below W1.heap.size W1 W3 := below2 hC2 hD3 (Nat.le_refl _)
  have z3 : wi.heap.size + 1 = W3.heap.size := by rw [hW3]; simp
  have q6 : W3.cell? ⟨wi.heap.size, 0, none⟩ = some (.int .i64 kD) ∧ W3.cell? ⟨wi.heap.size, 1, none⟩ = some (.int .i64 lD) ∧ W3.cell? ⟨wi.heap.size, 2, none⟩ = some (.int .i64 iD) ∧ W3.cell? ⟨wi.heap.size, 3, none⟩ = some (.string ⟨(sD : List UInt8).toArray⟩) ∧ W3.cell? ⟨wi.heap.size, 4, none⟩ = some (.slice aD nD cD) := by rw [hW3]; simp
  have hz23 : W2.heap.size ≤ wi.heap.size := hD.size
  obtain ⟨fpg, ng, bg, tg⟩ := hgo
  have lg : ∀ b ∈ fpg, b < wi.heap.size := tg.lt
  have tg3 : TreeC W3 R.d fpg [.int .i64 kD, .int .i64 lD, .int .i64 iD, .string ⟨(sD : List UInt8).toArray⟩, .slice aD nD cD] := by rw [hW3]; exact tg.frame fun b hb => Below.heap_alloc _ _ _ (lg b hb)
  have tx3 : TreeC W3 x0.d fpx [.int .i64 kC, .int .i64 lC, .int .i64 iC, .string ⟨(sC : List UInt8).toArray⟩, .slice aC nC cC] := tx2.frame fun b hb => hD3.block b (by have := lx b hb; omega)
  clear hW3 tg tx2
  have hdis : ∀ b, b ∈ fpx → b ∈ fpg → False := fun b h1 h2 => by have := lx b h1; have := bg b h2; omega
  -- whatever is written in the two trees, the rest stands
  have KBW : ∀ W, Keep (fun b => b ∈ fpx ∨ b ∈ fpg) W3 W → Below W1.heap.size W1 W := fun W hk =>
    hC3.trans (hk.below (by omega) fun k hlt hs => by
      rcases hs with hs | hs
      · have := bx k hs; omega
      · have := bg k hs; omega)
  have KB : Hid (∀ W, Keep (fun b => b ∈ fpx ∨ b ∈ fpg) W3 W → (W.cell? ⟨w.heap.size, 0, none⟩ = some (.int .i64 kA) ∧ W.cell? ⟨w.heap.size, 1, none⟩ = some (.int .i64 lA) ∧ W.cell? ⟨w.heap.size, 2, none⟩ = some (.int .i64 iA) ∧ W.cell? ⟨w.heap.size, 3, none⟩ = some (.string ⟨(sA : List UInt8).toArray⟩) ∧ W.cell? ⟨w.heap.size, 4, none⟩ = some (.slice aA nA cA)) ∧ (W.cell? ⟨ws.heap.size, 0, none⟩ = some (.int .i64 kB) ∧ W.cell? ⟨ws.heap.size, 1, none⟩ = some (.int .i64 lB) ∧ W.cell? ⟨ws.heap.size, 2, none⟩ = some (.int .i64 iB) ∧ W.cell? ⟨ws.heap.size, 3, none⟩ = some (.string ⟨(sB : List UInt8).toArray⟩) ∧ W.cell? ⟨ws.heap.size, 4, none⟩ = some (.slice aB nB cB)) ∧ (W.cell? ⟨u0.heap.size, 0, none⟩ = some (.int .i64 kC) ∧ W.cell? ⟨u0.heap.size, 1, none⟩ = some (.int .i64 lC) ∧ W.cell? ⟨u0.heap.size, 2, none⟩ = some (.int .i64 iC) ∧ W.cell? ⟨u0.heap.size, 3, none⟩ = some (.string ⟨(sC : List UInt8).toArray⟩) ∧ W.cell? ⟨u0.heap.size, 4, none⟩ = some (.slice aC nC cC)) ∧ (W.cell? ⟨wi.heap.size, 0, none⟩ = some (.int .i64 kD) ∧ W.cell? ⟨wi.heap.size, 1, none⟩ = some (.int .i64 lD) ∧ W.cell? ⟨wi.heap.size, 2, none⟩ = some (.int .i64 iD) ∧ W.cell? ⟨wi.heap.size, 3, none⟩ = some (.string ⟨(sD : List UInt8).toArray⟩) ∧ W.cell? ⟨wi.heap.size, 4, none⟩ = some (.slice aD nD cD))) := by
    intro W hk
    obtain ⟨h1, h2⟩ := KB1.out _ (KBW W hk)
    refine ⟨h1, h2, ?_, ?_⟩
    · have hn : ¬ (u0.heap.size ∈ fpx ∨ u0.heap.size ∈ fpg) := by
        rintro (hs | hs)
        · have := lx _ hs; omega
        · have := bg _ hs; omega
      simp only [hk.cell (show u0.heap.size < W3.heap.size by omega) hn, (bcell hD3).1 _ _ (show u0.heap.size < W2.heap.size by omega)]
      exact ⟨r0, r1, r2, r3, r4⟩
    · have hn : ¬ (wi.heap.size ∈ fpx ∨ wi.heap.size ∈ fpg) := by
        rintro (hs | hs)
        · have := lx _ hs; omega
        · have := lg _ hs; omega
      simp only [hk.cell (show wi.heap.size < W3.heap.size by omega) hn]
      exact q6
  have HKW := Lib.hid KBW
  have HDIS := Lib.hid hdis
  have HR2 := Lib.hid (show ∀ W, Keep (fun b => b ∈ fpx ∨ b ∈ fpg) W3 W → Rd W R.d [.int .i64 kB, .int .i64 lB, .int .i64 iB, .string ⟨(sB : List UInt8).toArray⟩, .slice aB nB cB] from fun W hk => HR1.out _ (KBW W hk))
  have HX2 := Lib.hid (show ∀ W, Keep (fun b => b ∈ fpx ∨ b ∈ fpg) W3 W → Rd W x0.d [.int .i64 kA, .int .i64 lA, .int .i64 iA, .string ⟨(sA : List UInt8).toArray⟩, .slice aA nA cA] from fun W hk => HRX1.out _ (KBW W hk))
  have HT2 := Lib.hid (show ∀ W, Keep (fun b => b ∈ fpx ∨ b ∈ fpg) W3 W → PTab W from fun W hk => HT1.out _ (KBW W hk))
  have HFIN := Lib.hid (show ∀ W, Keep (fun b => b ∈ fpx ∨ b ∈ fpg) W3 W → Below w.heap.size w W from fun W hk => below2 hA (below2 hB1 (KBW W hk) (Nat.le_refl _)) (Nat.le_refl _))
  have TX3 := Lib.hid tx3
  have TG3 := Lib.hid tg3
  have HLX := Lib.hid lx
  have HLG := Lib.hid lg
  clear p0 p1 p2 p3 p4 q0 q1 q2 q3 q4
  obtain ⟨⟨p0, p1, p2, p3, p4⟩, ⟨q0, q1, q2, q3, q4⟩⟩ := KB1.out _ (below2 hC2 hD (Nat.le_refl _))
  have hz9 : ws.heap.size < wi.heap.size := by omega
  clear KBW hdis HR1 HRX1 HT1 KB1 q6 tx3 tg3 r0 r1 r2 r3 r4 lx lg bx bg
  have hE : Below W3.heap.size W3 W3 := Below.refl _ _
  go_wp2_with fail
  rw [← HW3.out]
  clear p0 p1 p2 p3 p4 q0 q1 q2 q3 q4
  obtain ⟨⟨p0, p1, p2, p3, p4⟩, ⟨q0, q1, q2, q3, q4⟩, ⟨r0, r1, r2, r3, r4⟩, ⟨t0, t1, t2, t3, t4⟩⟩ := KB.out _ (Keep.of_below hE)
  refine (eqValue_any R R _ _ _ ((Rd.of TG3.out.rep).below hE) (HR2.out _ (Keep.of_below hE)) yR yR).mono ?_
  rintro e w4 ⟨rfl, hb4⟩
  replace hE := below2 hE hb4 (Nat.le_refl _)
  rw [decide_eq_true rfl]
  clear p0 p1 p2 p3 p4 q0 q1 q2 q3 q4 r0 r1 r2 r3 r4 t0 t1 t2 t3 t4
  obtain ⟨⟨p0, p1, p2, p3, p4⟩, ⟨q0, q1, q2, q3, q4⟩, ⟨r0, r1, r2, r3, r4⟩, ⟨t0, t1, t2, t3, t4⟩⟩ := KB.out _ (Keep.of_below hE)
  go_wp2_with fail
  clear p0 p1 p2 p3 p4 q0 q1 q2 q3 q4 r0 r1 r2 r3 r4 t0 t1 t2 t3 t4
  go_region_held3 (fun W => (W.cell? ⟨w.heap.size, 0, none⟩ = some (.int .i64 kA) ∧ W.cell? ⟨w.heap.size, 1, none⟩ = some (.int .i64 lA) ∧ W.cell? ⟨w.heap.size, 2, none⟩ = some (.int .i64 iA) ∧ W.cell? ⟨w.heap.size, 3, none⟩ = some (.string ⟨(sA : List UInt8).toArray⟩) ∧ W.cell? ⟨w.heap.size, 4, none⟩ = some (.slice aA nA cA)) ∧ (W.cell? ⟨ws.heap.size, 0, none⟩ = some (.int .i64 kB) ∧ W.cell? ⟨ws.heap.size, 1, none⟩ = some (.int .i64 lB) ∧ W.cell? ⟨ws.heap.size, 2, none⟩ = some (.int .i64 iB) ∧ W.cell? ⟨ws.heap.size, 3, none⟩ = some (.string ⟨(sB : List UInt8).toArray⟩) ∧ W.cell? ⟨ws.heap.size, 4, none⟩ = some (.slice aB nB cB)) ∧ (W.cell? ⟨u0.heap.size, 0, none⟩ = some (.int .i64 kC) ∧ W.cell? ⟨u0.heap.size, 1, none⟩ = some (.int .i64 lC) ∧ W.cell? ⟨u0.heap.size, 2, none⟩ = some (.int .i64 iC) ∧ W.cell? ⟨u0.heap.size, 3, none⟩ = some (.string ⟨(sC : List UInt8).toArray⟩) ∧ W.cell? ⟨u0.heap.size, 4, none⟩ = some (.slice aC nC cC)) ∧ (W.cell? ⟨wi.heap.size, 0, none⟩ = some (.int .i64 kD) ∧ W.cell? ⟨wi.heap.size, 1, none⟩ = some (.int .i64 lD) ∧ W.cell? ⟨wi.heap.size, 2, none⟩ = some (.int .i64 iD) ∧ W.cell? ⟨wi.heap.size, 3, none⟩ = some (.string ⟨(sD : List UInt8).toArray⟩) ∧ W.cell? ⟨wi.heap.size, 4, none⟩ = some (.slice aD nD cD))) (first | exact KB.out _ (Keep.of_below hE) | exact KB.out _ (Keep.of_below hE.drew))
    (first | (go_at_call 17; with_reducible refine (toValue_any x0 _ _ (by first | exact HX2.out _ (Keep.of_below hE) | exact HX2.out _ (Keep.of_below hE.drew)) y0).mono ?_; rintro e p0 ⟨ps0, rfl, hbp0, hop0⟩; replace hE := below2 (by first | exact hE | exact hE.drew) hbp0 (Nat.le_refl _)) | (go_at_call 19; refine (eqValue_any x0 x0 _ _ _ ((Rd.of TX3.out.rep).below hE) hop0.rd y0 y0).mono ?_; rintro e q0 ⟨rfl, hbq0⟩; replace hE := below2 hE hbq0 (Nat.le_refl _)))
  go_wp2_with fail
  obtain ⟨⟨p0, p1, p2, p3, p4⟩, ⟨q0, q1, q2, q3, q4⟩, ⟨r0, r1, r2, r3, r4⟩, ⟨t0, t1, t2, t3, t4⟩⟩ := KB.out _ (Keep.of_below hE)
  obtain ⟨kx, hkx⟩ : ∃ kx, kx = 1 + V.cnts x0.kids := ⟨_, rfl⟩
  obtain ⟨kg, hkg⟩ : ∃ kg, kg = 1 + V.cnts R.kids := ⟨_, rfl⟩
  have HMX := fun W (hT : TreeC W x0.d fpx [.int .i64 kC, .int .i64 lC, .int .i64 iC, .string ⟨(sC : List UInt8).toArray⟩, .slice aC nC cC]) => Lib.hid (markValue_any x0 [.int .i64 kC, .int .i64 lC, .int .i64 iC, .string ⟨(sC : List UInt8).toArray⟩, .slice aC nC cC] 1 fpx W hT nx (by omega) (by omega) (by omega))
  have HMG := fun W (hT : TreeC W R.d fpg [.int .i64 kD, .int .i64 lD, .int .i64 iD, .string ⟨(sD : List UInt8).toArray⟩, .slice aD nD cD]) => Lib.hid (markValue_any R [.int .i64 kD, .int .i64 lD, .int .i64 iD, .string ⟨(sD : List UInt8).toArray⟩, .slice aD nD cD] 1 fpg W hT ng (by omega) (by omega) (by omega))
  have HHG := fun W (hT : Rd W (R.top 1).d [.int .i64 kD, .int .i64 lD, .int .i64 iD, .string ⟨(sD : List UInt8).toArray⟩, .slice aD nD cD]) => Lib.hid (heldValue_any R [.int .i64 kD, .int .i64 lD, .int .i64 iD, .string ⟨(sD : List UInt8).toArray⟩, .slice aD nD cD] 1 W hT (by omega) (by omega) (by omega))
  rw [← hkx] at HMX
  rw [← hkg] at HMG HHG
  have kx0 : ¬ (kx : Int) < 0 := by omega
  have kxd := decide_eq_false kx0
  have kg0 : ¬ (kg : Int) < 0 := by omega
  have kgd := decide_eq_false kg0
  clear hkx hkg
  have TXE := TX3.out.frame fun b hb => hE.block b (TX3.out.lt b hb)
  have TGE := TG3.out.frame fun b hb => hE.block b (TG3.out.lt b hb)
  refine (HMX _ TXE).out.mono ?_
  rintro e w5 ⟨rfl, hk5, -⟩
  have hK5 : Keep (fun b => b ∈ fpx ∨ b ∈ fpg) W3 w5 := (Keep.of_below hE).trans (hk5.mono fun k _ hx => .inl hx)
  have TG5 := TGE.frame fun b hb => hk5.block b (TGE.lt b hb) (fun hx => HDIS.out b hx hb)
  clear p0 p1 p2 p3 p4 q0 q1 q2 q3 q4 r0 r1 r2 r3 r4 t0 t1 t2 t3 t4
  obtain ⟨⟨p0, p1, p2, p3, p4⟩, ⟨q0, q1, q2, q3, q4⟩, ⟨r0, r1, r2, r3, r4⟩, ⟨t0, t1, t2, t3, t4⟩⟩ := KB.out _ hK5
  go_wp2_with fail
  refine (eqValue_any R R _ _ _ (Rd.of TG5.rep) (HR2.out _ hK5) yR yR).mono ?_
  rintro e w6 ⟨rfl, hb6⟩
  rw [decide_eq_true rfl]
  have hK6 := hK5.then hb6
  have TG6 := TG5.frame fun b hb => hb6.block b (TG5.lt b hb)
  clear p0 p1 p2 p3 p4 q0 q1 q2 q3 q4 r0 r1 r2 r3 r4 t0 t1 t2 t3 t4
  obtain ⟨⟨p0, p1, p2, p3, p4⟩, ⟨q0, q1, q2, q3, q4⟩, ⟨r0, r1, r2, r3, r4⟩, ⟨t0, t1, t2, t3, t4⟩⟩ := KB.out _ hK6
  go_wp2_with fail
  refine (HMG _ TG6).out.mono ?_
  rintro e w7 ⟨rfl, hk7, TG7⟩
  have hK7 : Keep (fun b => b ∈ fpx ∨ b ∈ fpg) W3 w7 := hK6.trans (hk7.mono fun k _ hx => .inr hx)
  clear TG5 TG6 TGE TXE hk5 hk7 hb6
  clear p0 p1 p2 p3 p4 q0 q1 q2 q3 q4 r0 r1 r2 r3 r4 t0 t1 t2 t3 t4
  obtain ⟨⟨p0, p1, p2, p3, p4⟩, ⟨q0, q1, q2, q3, q4⟩, ⟨r0, r1, r2, r3, r4⟩, ⟨t0, t1, t2, t3, t4⟩⟩ := KB.out _ hK7
  go_wp2_with fail
  refine (HHG _ (Rd.of TG7.rep)).out.mono ?_
  rintro e w8 ⟨rfl, hb8⟩
  have hK8 := hK7.then hb8
  have TG8 := TG7.frame fun b hb => hb8.block b (TG7.lt b hb)
  clear p0 p1 p2 p3 p4 q0 q1 q2 q3 q4 r0 r1 r2 r3 r4 t0 t1 t2 t3 t4
  obtain ⟨⟨p0, p1, p2, p3, p4⟩, ⟨q0, q1, q2, q3, q4⟩, ⟨r0, r1, r2, r3, r4⟩, ⟨t0, t1, t2, t3, t4⟩⟩ := KB.out _ hK8
  go_wp2_with fail
  refine (toValue_any x0 _ _ (HX2.out _ hK8) y0).mono ?_
  rintro e w9 ⟨zs0, rfl, hb9, hz9'⟩
  have hK9 := hK8.then hb9
  go_wp2_with fail
  refine (HI.out _ _ y0 hz9'.rd (HT2.out _ hK9)).mono ?_
  rintro e wx ⟨zs, rfl, hbx, hzo⟩
  have hKx := hK9.then hbx
  obtain ⟨kE, lE, iE, sE, aE, nE, cE, rfl⟩ := V.form hzo.rd
  have TGx := (TG8.frame fun b hb => hb9.block b (TG8.lt b hb))
  have TGy := (TGx.frame fun b hb => hbx.block b (TGx.lt b hb))
  have hzx : ws.heap.size < wx.heap.size := by have := hKx.size; omega
  clear p0 p1 p2 p3 p4 q0 q1 q2 q3 q4 r0 r1 r2 r3 r4 t0 t1 t2 t3 t4
  obtain ⟨⟨p0, p1, p2, p3, p4⟩, ⟨q0, q1, q2, q3, q4⟩, ⟨r0, r1, r2, r3, r4⟩, ⟨t0, t1, t2, t3, t4⟩⟩ := KB.out _ hKx
  obtain ⟨WE, hWE⟩ : ∃ WE, WE = wx.alloc (.cells #[.int .i64 kE, .int .i64 lE, .int .i64 iE, .string ⟨(sE : List UInt8).toArray⟩, .slice aE nE cE] 41) := ⟨_, rfl⟩
  have HWE := Lib.hid hWE
  have hKE : Keep (fun b => b ∈ fpx ∨ b ∈ fpg) W3 WE := by rw [hWE]; exact hKx.alloc _
  have hRE : Rd WE R.d [.int .i64 kE, .int .i64 lE, .int .i64 iE, .string ⟨(sE : List UInt8).toArray⟩, .slice aE nE cE] := by rw [hWE]; exact hzo.rd.alloc _
  have TGE := TGy.frame fun b hb => (show WE.heap[b]? = wx.heap[b]? by rw [hWE]; exact Below.heap_alloc _ _ _ (TGy.lt b hb))
  clear hWE TGx TGy TG8 TG7 hb8 hb9 hbx
  go_wp2_with fail
  rw [← HWE.out]
  refine (eqValue_any R R _ _ _ hRE (HR2.out _ hKE) yR yR).mono ?_
  rintro e wf ⟨rfl, hbf⟩
  rw [decide_eq_true rfl]
  have hKf := hKE.then hbf
  have TGf := TGE.frame fun b hb => hbf.block b (TGE.lt b hb)
  clear p0 p1 p2 p3 p4 q0 q1 q2 q3 q4 r0 r1 r2 r3 r4 t0 t1 t2 t3 t4
  obtain ⟨⟨p0, p1, p2, p3, p4⟩, ⟨q0, q1, q2, q3, q4⟩, ⟨r0, r1, r2, r3, r4⟩, ⟨t0, t1, t2, t3, t4⟩⟩ := KB.out _ hKf
  go_wp2_with fail
  refine (HHG _ (Rd.of TGf.rep)).out.mono ?_
  rintro e wg ⟨rfl, hbg⟩
  have hKg := hKf.then hbg
  go_wp2
  go_ret
  exact ⟨rfl, HFIN.out _ hKg⟩
end Go.Proofs.YtkeieeogkeonfaaDoor

/- The walk of FnExactPlain with both functions' contracts. -/
namespace Go.Proofs.YtkeieeogkeonfaaDoor
open Go.RowKit
theorem exactPlainW (x0 : V) (cs0 : List Value) (w : World) (hT : Tabs w) (hTen : TenTab w) (r0 : Rd w x0.d cs0) (f0 : x0.wf) :
    Calls Tryd.prog 4 #[.agg cs0.toArray] w fun e w' => e = .returned (.bool true) ∧ Below w.heap.size w w' :=
  lawPlain x0 x0.plainTop cs0 w ⟨hT, hTen⟩ r0 f0 V.plainTop_bulk
    (fun cs W hb h _ => specPlain_any x0 cs W h f0 hb)
    (fun cs W hb h hp => implPlain_any x0 cs W h f0 hb hp)
end Go.Proofs.YtkeieeogkeonfaaDoor
