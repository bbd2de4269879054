/- The text of a shape: the program's ShapeText. -/
import Derived.Test.YtkeieeogkeonfaaDoorShTextI
import Derived.Test.YtkeieeogkeonfaaDoorShTextT
import Derived.Test.YtkeieeogkeonfaaDoorShapeIs
namespace Go.Proofs.YtkeieeogkeonfaaDoor
open Go.RowKit

theorem TxI_all : ∀ n, TxI n
  | 0 => fun x cs d M w hn => absurd x.nodes_pos (by omega)
  | n + 1 => TxI_of (TxI_all n)
/-- what the program's tables hold -/
def STab (w : World) : Prop := Tabs w ∧ TenTab w ∧ ∃ M, MaxCell M w
theorem STab.below {w w' : World} (h : STab w) (hb : Below w.heap.size w w') : STab w' := ⟨h.1.below hb, h.2.1.below hb, h.2.2.imp fun M hM => hM.below hb⟩

set_option maxHeartbeats 400000 in
set_option maxRecDepth 10000 in
theorem shapeText_impl (x : Sh) (cs : List Value) (w : World) (h : Rd w x.d cs) (hwf : x.wf) (hbk : x.bulk ≤ 4294967295) (hT : STab w) :
    Calls Tryd.prog 23 #[.agg cs.toArray] w fun e w' => e = .returned (.string ⟨(Sh.shown x).toArray⟩) ∧ Below w.heap.size w w' := by
  obtain ⟨k, l, hi, a1, n1, c1, m, a2, n2, c2, rfl⟩ := Sh.form h
  obtain ⟨W0, hW0⟩ : ∃ W0, W0 = w.alloc (.cells #[.int .i64 k, .int .i64 l, .int .i64 hi, .slice a1 n1 c1, .int .i64 m, .slice a2 n2 c2] 29) := ⟨_, rfl⟩
  have HW := Lib.hid hW0
  have hA : Below w.heap.size w W0 := by rw [hW0]; exact (Below.refl _ _).alloc (Nat.le_refl _) _
  have hz : w.heap.size < W0.heap.size := by rw [hW0]; simp
  have KB : Hid (∀ W, Below W0.heap.size W0 W → W.cell? ⟨w.heap.size, 0, none⟩ = some (.int .i64 k) ∧ W.cell? ⟨w.heap.size, 1, none⟩ = some (.int .i64 l) ∧ W.cell? ⟨w.heap.size, 2, none⟩ = some (.int .i64 hi) ∧ W.cell? ⟨w.heap.size, 3, none⟩ = some (.slice a1 n1 c1) ∧ W.cell? ⟨w.heap.size, 4, none⟩ = some (.int .i64 m) ∧ W.cell? ⟨w.heap.size, 5, none⟩ = some (.slice a2 n2 c2)) := by
    intro W hb
    obtain ⟨hc, _⟩ := bcell hb
    simp only [hc _ _ hz]; subst hW0; simp
  have hB := Below.refl W0.heap.size W0
  have HS := Lib.hid (fun W (hb : Below W0.heap.size W0 W) => hT.below (below2 hA hb (Nat.le_refl _)))
  have HO := fun W (hb : Below W0.heap.size W0 W) => Lib.hid (shapeOk_impl x _ W (h.below (below2 hA hb (Nat.le_refl _))) hwf hbk (HS.out W hb).1)
  cases hv : x.ok with
  | true =>
    have HV := Lib.hid hv
    have hrt : Sh.right 8 x = true := by unfold Sh.ok at hv; rw [Bool.and_eq_true] at hv; exact hv.1
    have HX := fun W (hb : Below W0.heap.size W0 W) => Lib.hid (TxI_all x.nodes x _ 8 _ W (Nat.le_refl _) (h.below (below2 hA hb (Nat.le_refl _))) hwf hbk hrt (HS.out W hb).2.1 (HS.out W hb).2.2.choose_spec)
    rw [show Sh.shown x = Sh.text x by unfold Sh.shown; rw [hv, if_pos rfl]]
    clear hW0 h hv
    obtain ⟨p0, p1, p2, p3, p4, p5⟩ := KB.out _ hB
    go_enter Tryd.func23, Tryd.ntmps23
    go_wp2_with fail
    rw [← HW.out]
    go_wp2_with (first | (go_at_call 34; refine (HO _ hB).out.mono ?_; rw [HV.out]; rintro e1 w1 ⟨rfl, hb1⟩; obtain ⟨q0, q1, q2, q3, q4, q5⟩ := KB.out _ hb1) | (go_at_call 55; refine (HX _ hb1).out.mono ?_; rintro e1 w2 ⟨rfl, hb2⟩))
    go_ret
    exact ⟨rfl, below2 hA (below2 hb1 hb2 (Nat.le_refl _)) (Nat.le_refl _)⟩
  | false =>
    have HV := Lib.hid hv
    rw [show Sh.shown x = [] by unfold Sh.shown; rw [hv]; rfl]
    clear hW0 h hv
    obtain ⟨p0, p1, p2, p3, p4, p5⟩ := KB.out _ hB
    go_enter Tryd.func23, Tryd.ntmps23
    go_wp2_with fail
    rw [← HW.out]
    go_wp2_with (go_at_call 34; refine (HO _ hB).out.mono ?_; rw [HV.out]; rintro e1 w1 ⟨rfl, hb1⟩)
    go_ret
    exact ⟨rfl, below2 hA hb1 (Nat.le_refl _)⟩
end Go.Proofs.YtkeieeogkeonfaaDoor
