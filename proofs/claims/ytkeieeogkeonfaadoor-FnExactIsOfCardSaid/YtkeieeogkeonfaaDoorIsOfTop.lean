/- Whether a value is of a shape: the reference's IsOf. -/
import Derived.Test.YtkeieeogkeonfaaDoorWrongU
import Derived.Test.YtkeieeogkeonfaaDoorValueOkS
import Derived.Test.YtkeieeogkeonfaaDoorShapeOkS
import Derived.Test.YtkeieeogkeonfaaDoorWrongI
import Derived.Test.YtkeieeogkeonfaaDoorValueIs
import Derived.Test.YtkeieeogkeonfaaDoorShapeIs
import Derived.Test.YtkeieeogkeonfaaDoorValueSz
import Derived.Test.YtkeieeogkeonfaaDoorValueTo
import Derived.Test.YtkeieeogkeonfaaDoorValueEq
import Derived.Test.YtkeieeogkeonfaaDoorShapeSz
import Derived.Test.YtkeieeogkeonfaaDoorShapeTo
import Derived.Test.YtkeieeogkeonfaaDoorShapeEq
import Derived.Deep.RegionHeld3
import Derived.Test.YtkeieeogkeonfaaDoorValueRead
import Derived.Test.YtkeieeogkeonfaaDoorShapeRead
namespace Go.Proofs.YtkeieeogkeonfaaDoor
open Go.RowKit

def isOfB (x : V) (sh : Sh) : Bool := x.ok && (sh.ok && (wrg sh.nodes x sh).isNone)
set_option maxHeartbeats 1000000 in
set_option maxRecDepth 10000 in
theorem isOf_spec (x : V) (sh : Sh) (cs ch : List Value) (w : World) (hx : Rd w x.d cs) (hs : Rd w sh.d ch) (hxw : x.wf) (hsw : sh.wf) (hxb : x.bulk ≤ 4294967295) (hsb : sh.bulk ≤ 4294967295) :
    Calls Tryd.prog 26 #[.agg cs.toArray, .agg ch.toArray] w fun e w' => e = .returned (.bool (isOfB x sh)) ∧ Below w.heap.size w w' := by
  obtain ⟨k, n, e, s0, a1, n1, c1, rfl⟩ := V.form hx
  obtain ⟨k', l, hi, a4, n4, c4, m, a6, n6, c6, rfl⟩ := Sh.form hs
  obtain ⟨W0, hW0⟩ : ∃ W0, W0 = (w.alloc (.cells #[.int .i64 k, .int .i64 n, .int .i64 e, .string ⟨(s0 : List UInt8).toArray⟩, .slice a1 n1 c1] 41)).alloc (.cells #[.int .i64 k', .int .i64 l, .int .i64 hi, .slice a4 n4 c4, .int .i64 m, .slice a6 n6 c6] 29) := ⟨_, rfl⟩
  have HW := Lib.hid hW0
  have hA0 : Below w.heap.size w W0 := by rw [hW0]; exact ((Below.refl _ _).alloc (Nat.le_refl _) _).alloc (by simp) _
  have hz : W0.heap.size = w.heap.size + 2 := by rw [hW0]; simp
  have KB : Hid (∀ W, Below W0.heap.size W0 W → (W.cell? ⟨w.heap.size, 0, none⟩ = some (.int .i64 k) ∧ W.cell? ⟨w.heap.size, 1, none⟩ = some (.int .i64 n) ∧ W.cell? ⟨w.heap.size, 2, none⟩ = some (.int .i64 e) ∧ W.cell? ⟨w.heap.size, 3, none⟩ = some (.string ⟨(s0 : List UInt8).toArray⟩) ∧ W.cell? ⟨w.heap.size, 4, none⟩ = some (.slice a1 n1 c1)) ∧ (W.cell? ⟨w.heap.size + 1, 0, none⟩ = some (.int .i64 k') ∧ W.cell? ⟨w.heap.size + 1, 1, none⟩ = some (.int .i64 l) ∧ W.cell? ⟨w.heap.size + 1, 2, none⟩ = some (.int .i64 hi) ∧ W.cell? ⟨w.heap.size + 1, 3, none⟩ = some (.slice a4 n4 c4) ∧ W.cell? ⟨w.heap.size + 1, 4, none⟩ = some (.int .i64 m) ∧ W.cell? ⟨w.heap.size + 1, 5, none⟩ = some (.slice a6 n6 c6))) := by
    intro W hb
    obtain ⟨hc, _⟩ := bcell hb
    simp only [hc _ _ (show w.heap.size < W0.heap.size by omega), hc _ _ (show w.heap.size + 1 < W0.heap.size by omega)]
    subst hW0; simp [go_sem]
  have HRV := Lib.hid (show ∀ W, Below W0.heap.size W0 W → Rd W x.d [.int .i64 k, .int .i64 n, .int .i64 e, .string ⟨(s0 : List UInt8).toArray⟩, .slice a1 n1 c1] from fun W hb => hx.below (below2 hA0 hb (Nat.le_refl _)))
  have HRS := Lib.hid (show ∀ W, Below W0.heap.size W0 W → Rd W sh.d [.int .i64 k', .int .i64 l, .int .i64 hi, .slice a4 n4 c4, .int .i64 m, .slice a6 n6 c6] from fun W hb => hs.below (below2 hA0 hb (Nat.le_refl _)))
  have HB0 := Lib.hid (show ∀ W W2, Below W0.heap.size W0 W → Below W.heap.size W W2 → Below W0.heap.size W0 W2 from fun W W2 a b => below2 a b (Nat.le_refl _))
  have hB := Below.refl W0.heap.size W0
  have HO1 := fun W (hb : Below W0.heap.size W0 W) => Lib.hid (valueOk_spec x _ W (HRV.out _ hb) hxw hxb)
  have HO2 := fun W (hb : Below W0.heap.size W0 W) => Lib.hid (shapeOk_spec sh _ W (HRS.out _ hb) hsw hsb)
  obtain ⟨⟨p0, p1, p2, p3, p4⟩, q0, q1, q2, q3, q4, q5⟩ := KB.out _ hB
  clear hW0 hx hs
  cases hv : x.ok with
  | false =>
    have HV := Lib.hid hv
    have HF := Lib.hid (show isOfB x sh = false by unfold isOfB; rw [hv]; rfl)
    rw [HF.out]
    clear hv
    go_enter Tryd.func26, Tryd.ntmps26
    go_wp2_with fail
    rw [← HW.out]
    go_wp2_with (go_at_call 44; refine (HO1 _ hB).out.mono ?_; rw [HV.out]; rintro e1 w1 ⟨rfl, hb1⟩)
    go_ret
    exact ⟨rfl, below2 hA0 hb1 (Nat.le_refl _)⟩
  | true =>
    have HV := Lib.hid hv
    cases hh : sh.ok with
    | false =>
      have HH := Lib.hid hh
      have HF := Lib.hid (show isOfB x sh = false by unfold isOfB; rw [hv, hh]; rfl)
      rw [HF.out]
      clear hv hh
      go_enter Tryd.func26, Tryd.ntmps26
      go_wp2_with fail
      rw [← HW.out]
      go_wp2_with (first | (go_at_call 44; refine (HO1 _ hB).out.mono ?_; rw [HV.out]; rintro e1 w1 ⟨rfl, hb1⟩; obtain ⟨⟨p0, p1, p2, p3, p4⟩, q0, q1, q2, q3, q4, q5⟩ := KB.out _ hb1) | (go_at_call 30; refine (HO2 _ hb1).out.mono ?_; rw [HH.out]; rintro e1 w2 ⟨rfl, hb2⟩))
      go_ret
      exact ⟨rfl, below2 hA0 (HB0.out _ _ hb1 hb2) (Nat.le_refl _)⟩
    | true =>
      have HH := Lib.hid hh
      have hV2 := ok_right hv
      have hR2 := sh_ok_right hh
      obtain ⟨ow, how⟩ : ∃ ow, wrg sh.nodes x sh = ow := ⟨_, rfl⟩
      have HF := Lib.hid (show isOfB x sh = ow.isNone by unfold isOfB; rw [hv, hh, how]; rfl)
      rw [HF.out]
      have HX := fun W (hb : Below W0.heap.size W0 W) (vs : Value) (hvs : StrA W vs []) => Lib.hid (WrS_all sh.nodes (by have := hR2.2; omega) x sh [] _ _ vs 12 8 W (Nat.le_refl _) (HRV.out _ hb) (HRS.out _ hb) hvs hxw hsw hxb hsb hV2 hR2.1 (by have := hR2.2; simp; omega) (by simp))
      rw [how] at HX
      clear hv hh how
      go_enter Tryd.func26, Tryd.ntmps26
      go_wp2_with fail
      rw [← HW.out]
      cases ow with
      | none =>
        have HF3 := Lib.hid (show wrOutS [] none = .tuple #[.string ⟨#[]⟩, .bool false] from rfl)
        go_wp2_with (first | (go_at_call 44; refine (HO1 _ hB).out.mono ?_; rw [HV.out]; rintro e1 w1 ⟨rfl, hb1⟩; obtain ⟨⟨r0, r1, r2, r3, r4⟩, t0, t1, t2, t3, t4, t5⟩ := KB.out _ hb1; have hz1 := hb1.size) | (go_at_call 30; refine (HO2 _ hb1).out.mono ?_; rw [HH.out]; rintro e1 w2 ⟨rfl, hb2⟩; have hb12 := HB0.out _ _ hb1 hb2; obtain ⟨⟨p0, p1, p2, p3, p4⟩, q0, q1, q2, q3, q4, q5⟩ := KB.out _ hb12; have hz2 := hb12.size) | (go_at_call 58; refine (HX _ (hb12.alloc (by omega) _) _ StrA.empty).out.mono ?_; rw [HF3.out]; rintro e1 w3 ⟨rfl, hb3⟩))
        go_ret
        exact ⟨rfl, below2 hA0 (HB0.out _ _ (hb12.alloc (by omega) _) hb3) (Nat.le_refl _)⟩
      | some p =>
        have HF3 := Lib.hid (show wrOutS [] (some p) = .tuple #[.string ⟨(putPath ([] ++ p)).toArray⟩, .bool true] from rfl)
        go_wp2_with (first | (go_at_call 44; refine (HO1 _ hB).out.mono ?_; rw [HV.out]; rintro e1 w1 ⟨rfl, hb1⟩; obtain ⟨⟨r0, r1, r2, r3, r4⟩, t0, t1, t2, t3, t4, t5⟩ := KB.out _ hb1; have hz1 := hb1.size) | (go_at_call 30; refine (HO2 _ hb1).out.mono ?_; rw [HH.out]; rintro e1 w2 ⟨rfl, hb2⟩; have hb12 := HB0.out _ _ hb1 hb2; obtain ⟨⟨p0, p1, p2, p3, p4⟩, q0, q1, q2, q3, q4, q5⟩ := KB.out _ hb12; have hz2 := hb12.size) | (go_at_call 58; refine (HX _ (hb12.alloc (by omega) _) _ StrA.empty).out.mono ?_; rw [HF3.out]; rintro e1 w3 ⟨rfl, hb3⟩))
        go_ret
        exact ⟨rfl, below2 hA0 (HB0.out _ _ (hb12.alloc (by omega) _) hb3) (Nat.le_refl _)⟩
end Go.Proofs.YtkeieeogkeonfaaDoor

/- Whether a value is of a shape: the program's IsOf. -/
namespace Go.Proofs.YtkeieeogkeonfaaDoor
open Go.RowKit

/-- what the program's tables hold -/
def ITab (w : World) : Prop := Tabs w ∧ TenTab w
theorem ITab.below {w w' : World} (h : ITab w) (hb : Below w.heap.size w w') : ITab w' := ⟨h.1.below hb, h.2.below hb⟩

set_option maxHeartbeats 1000000 in
set_option maxRecDepth 10000 in
theorem isOf_impl (x : V) (sh : Sh) (cs ch : List Value) (w : World) (hx : Rd w x.d cs) (hs : Rd w sh.d ch) (hxw : x.wf) (hsw : sh.wf) (hxb : x.bulk ≤ 4294967295) (hsb : sh.bulk ≤ 4294967295) (hT : ITab w) :
    Calls Tryd.prog 27 #[.agg cs.toArray, .agg ch.toArray] w fun e w' => e = .returned (.bool (isOfB x sh)) ∧ Below w.heap.size w w' := by
  obtain ⟨k, n, e, s0, a1, n1, c1, rfl⟩ := V.form hx
  obtain ⟨k', l, hi, a4, n4, c4, m, a6, n6, c6, rfl⟩ := Sh.form hs
  obtain ⟨W0, hW0⟩ : ∃ W0, W0 = (w.alloc (.cells #[.int .i64 k, .int .i64 n, .int .i64 e, .string ⟨(s0 : List UInt8).toArray⟩, .slice a1 n1 c1] 41)).alloc (.cells #[.int .i64 k', .int .i64 l, .int .i64 hi, .slice a4 n4 c4, .int .i64 m, .slice a6 n6 c6] 29) := ⟨_, rfl⟩
  have HW := Lib.hid hW0
  have hA0 : Below w.heap.size w W0 := by rw [hW0]; exact ((Below.refl _ _).alloc (Nat.le_refl _) _).alloc (by simp) _
  have hz : W0.heap.size = w.heap.size + 2 := by rw [hW0]; simp
  have KB : Hid (∀ W, Below W0.heap.size W0 W → (W.cell? ⟨w.heap.size, 0, none⟩ = some (.int .i64 k) ∧ W.cell? ⟨w.heap.size, 1, none⟩ = some (.int .i64 n) ∧ W.cell? ⟨w.heap.size, 2, none⟩ = some (.int .i64 e) ∧ W.cell? ⟨w.heap.size, 3, none⟩ = some (.string ⟨(s0 : List UInt8).toArray⟩) ∧ W.cell? ⟨w.heap.size, 4, none⟩ = some (.slice a1 n1 c1)) ∧ (W.cell? ⟨w.heap.size + 1, 0, none⟩ = some (.int .i64 k') ∧ W.cell? ⟨w.heap.size + 1, 1, none⟩ = some (.int .i64 l) ∧ W.cell? ⟨w.heap.size + 1, 2, none⟩ = some (.int .i64 hi) ∧ W.cell? ⟨w.heap.size + 1, 3, none⟩ = some (.slice a4 n4 c4) ∧ W.cell? ⟨w.heap.size + 1, 4, none⟩ = some (.int .i64 m) ∧ W.cell? ⟨w.heap.size + 1, 5, none⟩ = some (.slice a6 n6 c6))) := by
    intro W hb
    obtain ⟨hc, _⟩ := bcell hb
    simp only [hc _ _ (show w.heap.size < W0.heap.size by omega), hc _ _ (show w.heap.size + 1 < W0.heap.size by omega)]
    subst hW0; simp [go_sem]
  have HRV := Lib.hid (show ∀ W, Below W0.heap.size W0 W → Rd W x.d [.int .i64 k, .int .i64 n, .int .i64 e, .string ⟨(s0 : List UInt8).toArray⟩, .slice a1 n1 c1] from fun W hb => hx.below (below2 hA0 hb (Nat.le_refl _)))
  have HRS := Lib.hid (show ∀ W, Below W0.heap.size W0 W → Rd W sh.d [.int .i64 k', .int .i64 l, .int .i64 hi, .slice a4 n4 c4, .int .i64 m, .slice a6 n6 c6] from fun W hb => hs.below (below2 hA0 hb (Nat.le_refl _)))
  have HTT := Lib.hid (show ∀ W, Below W0.heap.size W0 W → ITab W from fun W hb => hT.below (below2 hA0 hb (Nat.le_refl _)))
  have HB0 := Lib.hid (show ∀ W W2, Below W0.heap.size W0 W → Below W.heap.size W W2 → Below W0.heap.size W0 W2 from fun W W2 a b => below2 a b (Nat.le_refl _))
  have hB := Below.refl W0.heap.size W0
  have HO1 := fun W (hb : Below W0.heap.size W0 W) => Lib.hid (valueOk_impl x _ W (HRV.out _ hb) hxw hxb (HTT.out _ hb).1)
  have HO2 := fun W (hb : Below W0.heap.size W0 W) => Lib.hid (shapeOk_impl sh _ W (HRS.out _ hb) hsw hsb (HTT.out _ hb).1)
  obtain ⟨⟨p0, p1, p2, p3, p4⟩, q0, q1, q2, q3, q4, q5⟩ := KB.out _ hB
  clear hW0 hx hs hT
  cases hv : x.ok with
  | false =>
    have HV := Lib.hid hv
    have HF := Lib.hid (show isOfB x sh = false by unfold isOfB; rw [hv]; rfl)
    rw [HF.out]
    clear hv
    go_enter Tryd.func27, Tryd.ntmps27
    go_upto_region 1 with fail
    rw [← HW.out]
    go_wp2_with (go_at_call 48; with_reducible refine (HO1 _ hB).out.mono ?_; rw [HV.out]; rintro e1 w1 ⟨rfl, hb1⟩; obtain ⟨⟨r0, r1, r2, r3, r4⟩, t0, t1, t2, t3, t4, t5⟩ := KB.out _ hb1)
    go_ret
    exact ⟨rfl, below2 hA0 hb1 (Nat.le_refl _)⟩
  | true =>
    have HV := Lib.hid hv
    cases hh : sh.ok with
    | false =>
      have HH := Lib.hid hh
      have HF := Lib.hid (show isOfB x sh = false by unfold isOfB; rw [hv, hh]; rfl)
      rw [HF.out]
      clear hv hh
      go_enter Tryd.func27, Tryd.ntmps27
      go_upto_region 1 with fail
      rw [← HW.out]
      go_wp2_with (first | (go_at_call 48; with_reducible refine (HO1 _ hB).out.mono ?_; rw [HV.out]; rintro e1 w1 ⟨rfl, hb1⟩; obtain ⟨⟨r0, r1, r2, r3, r4⟩, t0, t1, t2, t3, t4, t5⟩ := KB.out _ hb1) | (go_at_call 34; with_reducible refine (HO2 _ hb1).out.mono ?_; rw [HH.out]; rintro e1 w2 ⟨rfl, hb2⟩; have hb12 := HB0.out _ _ hb1 hb2; obtain ⟨⟨x0, x1, x2, x3, x4⟩, y0, y1, y2, y3, y4, y5⟩ := KB.out _ hb12))
      go_ret
      exact ⟨rfl, below2 hA0 hb12 (Nat.le_refl _)⟩
    | true =>
      have HH := Lib.hid hh
      have hV2 := ok_right hv
      have hR2 := sh_ok_right hh
      have hN : sh.nodes ≤ 1000 := by have := hR2.2; omega
      have HF := Lib.hid (show isOfB x sh = (wrg sh.nodes x sh).isNone by unfold isOfB; rw [hv, hh]; rfl)
      rw [HF.out]
      have HX := fun W (hb : Below W0.heap.size W0 W) => Lib.hid (isOf_any (WrI_all sh.nodes hN) x sh _ _ 12 8 W (Nat.le_refl _) (HRV.out _ hb) (HRS.out _ hb) hxw hxb hV2 hsw hsb hR2.1 hN (HTT.out _ hb).2)
      obtain ⟨r, hr⟩ : ∃ r, (wrg sh.nodes x sh).isNone = r := ⟨_, rfl⟩
      rw [hr] at HX ⊢
      clear hv hh hr
      go_enter Tryd.func27, Tryd.ntmps27
      go_upto_region 1 with fail
      rw [← HW.out]
      go_wp2_with (first | (go_at_call 48; with_reducible refine (HO1 _ hB).out.mono ?_; rw [HV.out]; rintro e1 w1 ⟨rfl, hb1⟩; obtain ⟨⟨r0, r1, r2, r3, r4⟩, t0, t1, t2, t3, t4, t5⟩ := KB.out _ hb1) | (go_at_call 34; with_reducible refine (HO2 _ hb1).out.mono ?_; rw [HH.out]; rintro e1 w2 ⟨rfl, hb2⟩; have hb12 := HB0.out _ _ hb1 hb2; obtain ⟨⟨x0, x1, x2, x3, x4⟩, y0, y1, y2, y3, y4, y5⟩ := KB.out _ hb12) | (go_at_call 59; with_reducible refine (HX _ hb12).out.mono ?_; rintro e1 w3 ⟨rfl, hb3⟩))
      go_ret
      exact ⟨rfl, below2 hA0 (HB0.out _ _ hb12 hb3) (Nat.le_refl _)⟩
end Go.Proofs.YtkeieeogkeonfaaDoor

/- The walk of FnExactIsOf. -/
namespace Go.Proofs.YtkeieeogkeonfaaDoor
open Go.RowKit

set_option maxHeartbeats 4000000 in
set_option maxRecDepth 100000 in
theorem exactIsOf (x0 : V) (cs0 : List Value) (x1 : Sh) (cs1 : List Value) (w : World) (hT : ITab w) (r0 : Rd w x0.d cs0) (f0 : x0.wf) (r1 : Rd w x1.d cs1) (f1 : x1.wf) :
    Calls Tryd.prog 7 #[.agg cs0.toArray, .agg cs1.toArray] w fun e w' => e = .returned (.bool true) ∧ Below w.heap.size w w' := by
  obtain ⟨kA0, lA0, jA0, sA0, aA0, nA0, cA0, rfl⟩ := V.form r0
  obtain ⟨kA1, lA1, jA1, aA1, nA1, cA1, mA1, bA1, pA1, qA1, rfl⟩ := Sh.form r1
  obtain ⟨W0, hW0⟩ : ∃ W0, W0 = ((w.alloc (.cells #[.int .i64 kA0, .int .i64 lA0, .int .i64 jA0, .string ⟨(sA0 : List UInt8).toArray⟩, .slice aA0 nA0 cA0] 37)).alloc (.cells #[.int .i64 kA1, .int .i64 lA1, .int .i64 jA1, .slice aA1 nA1 cA1, .int .i64 mA1, .slice bA1 pA1 qA1] 25)) := ⟨_, rfl⟩
  have HW := Lib.hid hW0
  have hA : Below w.heap.size w W0 := by rw [hW0]; exact (((Below.refl _ _).alloc (by simp <;> omega) _).alloc (by simp <;> omega) _)
  have RX0 := Lib.hid (show ∀ W, Below W0.heap.size W0 W → Rd W x0.d [.int .i64 kA0, .int .i64 lA0, .int .i64 jA0, .string ⟨(sA0 : List UInt8).toArray⟩, .slice aA0 nA0 cA0] from fun W hb => r0.below (below2 hA hb (Nat.le_refl _)))
  have RX1 := Lib.hid (show ∀ W, Below W0.heap.size W0 W → Rd W x1.d [.int .i64 kA1, .int .i64 lA1, .int .i64 jA1, .slice aA1 nA1 cA1, .int .i64 mA1, .slice bA1 pA1 qA1] from fun W hb => r1.below (below2 hA hb (Nat.le_refl _)))
  have HT := Lib.hid (show ∀ W, Below W0.heap.size W0 W → ITab W from fun W hb => hT.below (below2 hA hb (Nat.le_refl _)))
  have z0 : w.heap.size < W0.heap.size := by rw [hW0]; simp <;> omega
  have z1 : w.heap.size + 1 < W0.heap.size := by rw [hW0]; simp <;> omega
  have KB : Hid (∀ W, Below W0.heap.size W0 W → (W.cell? ⟨w.heap.size, 0, none⟩ = some (.int .i64 kA0) ∧ W.cell? ⟨w.heap.size, 1, none⟩ = some (.int .i64 lA0) ∧ W.cell? ⟨w.heap.size, 2, none⟩ = some (.int .i64 jA0) ∧ W.cell? ⟨w.heap.size, 3, none⟩ = some (.string ⟨(sA0 : List UInt8).toArray⟩) ∧ W.cell? ⟨w.heap.size, 4, none⟩ = some (.slice aA0 nA0 cA0)) ∧ (W.cell? ⟨w.heap.size + 1, 0, none⟩ = some (.int .i64 kA1) ∧ W.cell? ⟨w.heap.size + 1, 1, none⟩ = some (.int .i64 lA1) ∧ W.cell? ⟨w.heap.size + 1, 2, none⟩ = some (.int .i64 jA1) ∧ W.cell? ⟨w.heap.size + 1, 3, none⟩ = some (.slice aA1 nA1 cA1) ∧ W.cell? ⟨w.heap.size + 1, 4, none⟩ = some (.int .i64 mA1) ∧ W.cell? ⟨w.heap.size + 1, 5, none⟩ = some (.slice bA1 pA1 qA1))) := by
    intro W hb
    obtain ⟨hc, _⟩ := bcell hb
    simp only [hc _ _ z0, hc _ _ z1]
    subst hW0; simp [go_sem]
  clear hW0 hT r0 r1
  have hB : Below W0.heap.size W0 W0 := Below.refl _ _
  go_enter Tryd.func7, Tryd.ntmps7
  go_wp2_with fail
  rw [← HW.out]
  refine (szValue_any x0 _ _ _ (RX0.out _ hB) f0 (by omega)).mono ?_
  by_cases s0 : x0.bulk ≤ 1048576
  · rw [take'_yes (by omega)]
    rintro e w1 ⟨rfl, hb1⟩
    replace hB := below2 hB hb1 (Nat.le_refl _)
    obtain ⟨⟨c0_0, c0_1, c0_2, c0_3, c0_4⟩, ⟨c1_0, c1_1, c1_2, c1_3, c1_4, c1_5⟩⟩ := KB.out _ hB
    go_wp2_with fail
    refine (szShape_any x1 _ _ _ (RX1.out _ hB) f1 (by omega)).mono ?_
    by_cases s1 : x0.bulk + x1.bulk ≤ 1048576
    · rw [take'_yes (by omega)]
      rintro e w2 ⟨rfl, hb2⟩
      replace hB := below2 hB hb2 (Nat.le_refl _)
      clear c0_0 c0_1 c0_2 c0_3 c0_4 c1_0 c1_1 c1_2 c1_3 c1_4 c1_5
      have y0 : x0.bulk ≤ 1048576 := by omega
      have y1 : x1.bulk ≤ 1048576 := by omega
      go_wp2_with fail
      go_region_held3 (fun W => (W.cell? ⟨w.heap.size, 0, none⟩ = some (.int .i64 kA0) ∧ W.cell? ⟨w.heap.size, 1, none⟩ = some (.int .i64 lA0) ∧ W.cell? ⟨w.heap.size, 2, none⟩ = some (.int .i64 jA0) ∧ W.cell? ⟨w.heap.size, 3, none⟩ = some (.string ⟨(sA0 : List UInt8).toArray⟩) ∧ W.cell? ⟨w.heap.size, 4, none⟩ = some (.slice aA0 nA0 cA0)) ∧ (W.cell? ⟨w.heap.size + 1, 0, none⟩ = some (.int .i64 kA1) ∧ W.cell? ⟨w.heap.size + 1, 1, none⟩ = some (.int .i64 lA1) ∧ W.cell? ⟨w.heap.size + 1, 2, none⟩ = some (.int .i64 jA1) ∧ W.cell? ⟨w.heap.size + 1, 3, none⟩ = some (.slice aA1 nA1 cA1) ∧ W.cell? ⟨w.heap.size + 1, 4, none⟩ = some (.int .i64 mA1) ∧ W.cell? ⟨w.heap.size + 1, 5, none⟩ = some (.slice bA1 pA1 qA1))) (first | exact KB.out _ hB | exact KB.out _ hB.drew)
        (first | (go_at_call 17; with_reducible refine (toValue_any x0 _ _ (by first | exact RX0.out _ hB | exact RX0.out _ hB.drew) y0).mono ?_; rintro e v0 ⟨ds0, rfl, hbv0, ho0⟩; replace hB := below2 (by first | exact hB | exact hB.drew) hbv0 (Nat.le_refl _)) | (go_at_call 10; with_reducible refine (toShape_any x1 _ _ (by first | exact RX1.out _ hB | exact RX1.out _ hB.drew) y1).mono ?_; rintro e v1 ⟨ds1, rfl, hbv1, ho1⟩; replace hB := below2 (by first | exact hB | exact hB.drew) hbv1 (Nat.le_refl _)) | (go_at_call 26; refine (isOf_spec x0 x1 _ _ _ (ho0.rd.below hbv1) ho1.rd f0 f1 (by omega) (by omega)).mono ?_; rintro e ws ⟨rfl, hbs⟩; replace hB := below2 hB hbs (Nat.le_refl _)))
      obtain ⟨⟨c0_0, c0_1, c0_2, c0_3, c0_4⟩, ⟨c1_0, c1_1, c1_2, c1_3, c1_4, c1_5⟩⟩ := KB.out _ hB
      go_wp2_with fail
      refine (toValue_any x0 _ _ (RX0.out _ hB) y0).mono ?_
      rintro e u0 ⟨es0, rfl, hbu0, hu0⟩
      replace hB := below2 hB hbu0 (Nat.le_refl _)
      obtain ⟨kB0, lB0, jB0, sB0, aB0, nB0, cB0, rfl⟩ := V.form hu0.rd
      clear c0_0 c0_1 c0_2 c0_3 c0_4 c1_0 c1_1 c1_2 c1_3 c1_4 c1_5
      obtain ⟨W1, hW1⟩ : ∃ W1, W1 = u0.alloc (.cells #[.int .i64 kB0, .int .i64 lB0, .int .i64 jB0, .string ⟨(sB0 : List UInt8).toArray⟩, .slice aB0 nB0 cB0] 41) := ⟨_, rfl⟩
      have HW1 := Lib.hid hW1
      have hB1 : Below W0.heap.size W0 W1 := by rw [hW1]; exact hB.alloc hB.size _
      have t1 : u0.heap.size < W1.heap.size := by rw [hW1]; simp
      have hX0 := Lib.hid (show ∀ W, Below W1.heap.size W1 W → Rd W x0.d [.int .i64 kB0, .int .i64 lB0, .int .i64 jB0, .string ⟨(sB0 : List UInt8).toArray⟩, .slice aB0 nB0 cB0] from fun W hb => (show Rd W1 x0.d [.int .i64 kB0, .int .i64 lB0, .int .i64 jB0, .string ⟨(sB0 : List UInt8).toArray⟩, .slice aB0 nB0 cB0] by rw [hW1]; exact hu0.rd.alloc _).below hb)
      have KB1 : Hid (∀ W, Below W1.heap.size W1 W → ((W.cell? ⟨w.heap.size, 0, none⟩ = some (.int .i64 kA0) ∧ W.cell? ⟨w.heap.size, 1, none⟩ = some (.int .i64 lA0) ∧ W.cell? ⟨w.heap.size, 2, none⟩ = some (.int .i64 jA0) ∧ W.cell? ⟨w.heap.size, 3, none⟩ = some (.string ⟨(sA0 : List UInt8).toArray⟩) ∧ W.cell? ⟨w.heap.size, 4, none⟩ = some (.slice aA0 nA0 cA0)) ∧ (W.cell? ⟨w.heap.size + 1, 0, none⟩ = some (.int .i64 kA1) ∧ W.cell? ⟨w.heap.size + 1, 1, none⟩ = some (.int .i64 lA1) ∧ W.cell? ⟨w.heap.size + 1, 2, none⟩ = some (.int .i64 jA1) ∧ W.cell? ⟨w.heap.size + 1, 3, none⟩ = some (.slice aA1 nA1 cA1) ∧ W.cell? ⟨w.heap.size + 1, 4, none⟩ = some (.int .i64 mA1) ∧ W.cell? ⟨w.heap.size + 1, 5, none⟩ = some (.slice bA1 pA1 qA1))) ∧ (W.cell? ⟨u0.heap.size, 0, none⟩ = some (.int .i64 kB0) ∧ W.cell? ⟨u0.heap.size, 1, none⟩ = some (.int .i64 lB0) ∧ W.cell? ⟨u0.heap.size, 2, none⟩ = some (.int .i64 jB0) ∧ W.cell? ⟨u0.heap.size, 3, none⟩ = some (.string ⟨(sB0 : List UInt8).toArray⟩) ∧ W.cell? ⟨u0.heap.size, 4, none⟩ = some (.slice aB0 nB0 cB0))) := by
        intro W hb
        obtain ⟨hc, _⟩ := bcell hb
        refine ⟨KB.out _ (below2 hB1 hb (Nat.le_refl _)), ?_⟩
        simp only [hc _ _ t1]; subst hW1; simp [go_sem]
      clear hW1
      have hC1 : Below W1.heap.size W1 W1 := Below.refl _ _
      obtain ⟨⟨c0_0, c0_1, c0_2, c0_3, c0_4⟩, ⟨c1_0, c1_1, c1_2, c1_3, c1_4, c1_5⟩⟩ := KB.out _ hB
      have zu0 : w.heap.size < u0.heap.size := Nat.lt_of_lt_of_le z0 hB.size
      have zu1 : w.heap.size + 1 < u0.heap.size := Nat.lt_of_lt_of_le z1 hB.size
      go_wp2_with fail
      rw [← HW1.out]
      refine (toShape_any x1 _ _ (RX1.out _ (below2 hB1 hC1 (Nat.le_refl _))) y1).mono ?_
      rintro e u1 ⟨es1, rfl, hbu1, hu1⟩
      replace hC1 := below2 hC1 hbu1 (Nat.le_refl _)
      have hE1 := hC1
      obtain ⟨kB1, lB1, jB1, aB1, nB1, cB1, mB1, bB1, pB1, qB1, rfl⟩ := Sh.form hu1.rd
      clear c0_0 c0_1 c0_2 c0_3 c0_4 c1_0 c1_1 c1_2 c1_3 c1_4 c1_5
      obtain ⟨W2, hW2⟩ : ∃ W2, W2 = u1.alloc (.cells #[.int .i64 kB1, .int .i64 lB1, .int .i64 jB1, .slice aB1 nB1 cB1, .int .i64 mB1, .slice bB1 pB1 qB1] 29) := ⟨_, rfl⟩
      have HW2 := Lib.hid hW2
      have hB2 : Below W0.heap.size W0 W2 := by rw [hW2]; exact (below2 hB1 hC1 (Nat.le_refl _)).alloc (below2 hB1 hC1 (Nat.le_refl _)).size _
      have hD2 : Below W1.heap.size W1 W2 := by rw [hW2]; exact hC1.alloc hC1.size _
      have t2 : u1.heap.size < W2.heap.size := by rw [hW2]; simp
      have hX1 := Lib.hid (show ∀ W, Below W2.heap.size W2 W → Rd W x1.d [.int .i64 kB1, .int .i64 lB1, .int .i64 jB1, .slice aB1 nB1 cB1, .int .i64 mB1, .slice bB1 pB1 qB1] from fun W hb => (show Rd W2 x1.d [.int .i64 kB1, .int .i64 lB1, .int .i64 jB1, .slice aB1 nB1 cB1, .int .i64 mB1, .slice bB1 pB1 qB1] by rw [hW2]; exact hu1.rd.alloc _).below hb)
      have KB2 : Hid (∀ W, Below W2.heap.size W2 W → (((W.cell? ⟨w.heap.size, 0, none⟩ = some (.int .i64 kA0) ∧ W.cell? ⟨w.heap.size, 1, none⟩ = some (.int .i64 lA0) ∧ W.cell? ⟨w.heap.size, 2, none⟩ = some (.int .i64 jA0) ∧ W.cell? ⟨w.heap.size, 3, none⟩ = some (.string ⟨(sA0 : List UInt8).toArray⟩) ∧ W.cell? ⟨w.heap.size, 4, none⟩ = some (.slice aA0 nA0 cA0)) ∧ (W.cell? ⟨w.heap.size + 1, 0, none⟩ = some (.int .i64 kA1) ∧ W.cell? ⟨w.heap.size + 1, 1, none⟩ = some (.int .i64 lA1) ∧ W.cell? ⟨w.heap.size + 1, 2, none⟩ = some (.int .i64 jA1) ∧ W.cell? ⟨w.heap.size + 1, 3, none⟩ = some (.slice aA1 nA1 cA1) ∧ W.cell? ⟨w.heap.size + 1, 4, none⟩ = some (.int .i64 mA1) ∧ W.cell? ⟨w.heap.size + 1, 5, none⟩ = some (.slice bA1 pA1 qA1))) ∧ (W.cell? ⟨u0.heap.size, 0, none⟩ = some (.int .i64 kB0) ∧ W.cell? ⟨u0.heap.size, 1, none⟩ = some (.int .i64 lB0) ∧ W.cell? ⟨u0.heap.size, 2, none⟩ = some (.int .i64 jB0) ∧ W.cell? ⟨u0.heap.size, 3, none⟩ = some (.string ⟨(sB0 : List UInt8).toArray⟩) ∧ W.cell? ⟨u0.heap.size, 4, none⟩ = some (.slice aB0 nB0 cB0))) ∧ (W.cell? ⟨u1.heap.size, 0, none⟩ = some (.int .i64 kB1) ∧ W.cell? ⟨u1.heap.size, 1, none⟩ = some (.int .i64 lB1) ∧ W.cell? ⟨u1.heap.size, 2, none⟩ = some (.int .i64 jB1) ∧ W.cell? ⟨u1.heap.size, 3, none⟩ = some (.slice aB1 nB1 cB1) ∧ W.cell? ⟨u1.heap.size, 4, none⟩ = some (.int .i64 mB1) ∧ W.cell? ⟨u1.heap.size, 5, none⟩ = some (.slice bB1 pB1 qB1))) := by
        intro W hb
        obtain ⟨hc, _⟩ := bcell hb
        refine ⟨KB1.out _ (below2 hD2 hb (Nat.le_refl _)), ?_⟩
        simp only [hc _ _ t2]; subst hW2; simp [go_sem]
      clear hW2
      have hC2 : Below W2.heap.size W2 W2 := Below.refl _ _
      obtain ⟨⟨⟨o0_0, o0_1, o0_2, o0_3, o0_4⟩, ⟨o1_0, o1_1, o1_2, o1_3, o1_4, o1_5⟩⟩, ⟨r0_0, r0_1, r0_2, r0_3, r0_4⟩⟩ := KB1.out _ hE1
      have zv0 : w.heap.size < u1.heap.size := Nat.lt_of_lt_of_le (Nat.lt_of_lt_of_le z0 hB1.size) hE1.size
      have zv1 : w.heap.size + 1 < u1.heap.size := Nat.lt_of_lt_of_le (Nat.lt_of_lt_of_le z1 hB1.size) hE1.size
      have zv9 : u0.heap.size < u1.heap.size := Nat.lt_of_lt_of_le t1 hE1.size
      obtain ⟨⟨⟨⟨c0_0, c0_1, c0_2, c0_3, c0_4⟩, ⟨c1_0, c1_1, c1_2, c1_3, c1_4, c1_5⟩⟩, ⟨d0_0, d0_1, d0_2, d0_3, d0_4⟩⟩, ⟨d1_0, d1_1, d1_2, d1_3, d1_4, d1_5⟩⟩ := KB2.out _ hC2
      go_wp2_with fail
      rw [← HW2.out]
      clear o0_0 o0_1 o0_2 o0_3 o0_4 o1_0 o1_1 o1_2 o1_3 o1_4 o1_5 r0_0 r0_1 r0_2 r0_3 r0_4
      refine (isOf_impl x0 x1 _ _ _ (hX0.out _ (below2 hD2 hC2 (Nat.le_refl _))) (hX1.out _ hC2) f0 f1 (by omega) (by omega) (HT.out _ (below2 hB2 hC2 (Nat.le_refl _)))).mono ?_
      rintro e wi ⟨rfl, hbi⟩
      replace hC2 := below2 hC2 hbi (Nat.le_refl _)
      clear c0_0 c0_1 c0_2 c0_3 c0_4 c1_0 c1_1 c1_2 c1_3 c1_4 c1_5 d0_0 d0_1 d0_2 d0_3 d0_4 d1_0 d1_1 d1_2 d1_3 d1_4 d1_5
      obtain ⟨⟨⟨⟨c0_0, c0_1, c0_2, c0_3, c0_4⟩, ⟨c1_0, c1_1, c1_2, c1_3, c1_4, c1_5⟩⟩, ⟨d0_0, d0_1, d0_2, d0_3, d0_4⟩⟩, ⟨d1_0, d1_1, d1_2, d1_3, d1_4, d1_5⟩⟩ := KB2.out _ hC2
      go_wp2_with fail
      clear c0_0 c0_1 c0_2 c0_3 c0_4 c1_0 c1_1 c1_2 c1_3 c1_4 c1_5 d0_0 d0_1 d0_2 d0_3 d0_4 d1_0 d1_1 d1_2 d1_3 d1_4 d1_5
      go_region_held3 (fun W => (((W.cell? ⟨w.heap.size, 0, none⟩ = some (.int .i64 kA0) ∧ W.cell? ⟨w.heap.size, 1, none⟩ = some (.int .i64 lA0) ∧ W.cell? ⟨w.heap.size, 2, none⟩ = some (.int .i64 jA0) ∧ W.cell? ⟨w.heap.size, 3, none⟩ = some (.string ⟨(sA0 : List UInt8).toArray⟩) ∧ W.cell? ⟨w.heap.size, 4, none⟩ = some (.slice aA0 nA0 cA0)) ∧ (W.cell? ⟨w.heap.size + 1, 0, none⟩ = some (.int .i64 kA1) ∧ W.cell? ⟨w.heap.size + 1, 1, none⟩ = some (.int .i64 lA1) ∧ W.cell? ⟨w.heap.size + 1, 2, none⟩ = some (.int .i64 jA1) ∧ W.cell? ⟨w.heap.size + 1, 3, none⟩ = some (.slice aA1 nA1 cA1) ∧ W.cell? ⟨w.heap.size + 1, 4, none⟩ = some (.int .i64 mA1) ∧ W.cell? ⟨w.heap.size + 1, 5, none⟩ = some (.slice bA1 pA1 qA1))) ∧ (W.cell? ⟨u0.heap.size, 0, none⟩ = some (.int .i64 kB0) ∧ W.cell? ⟨u0.heap.size, 1, none⟩ = some (.int .i64 lB0) ∧ W.cell? ⟨u0.heap.size, 2, none⟩ = some (.int .i64 jB0) ∧ W.cell? ⟨u0.heap.size, 3, none⟩ = some (.string ⟨(sB0 : List UInt8).toArray⟩) ∧ W.cell? ⟨u0.heap.size, 4, none⟩ = some (.slice aB0 nB0 cB0))) ∧ (W.cell? ⟨u1.heap.size, 0, none⟩ = some (.int .i64 kB1) ∧ W.cell? ⟨u1.heap.size, 1, none⟩ = some (.int .i64 lB1) ∧ W.cell? ⟨u1.heap.size, 2, none⟩ = some (.int .i64 jB1) ∧ W.cell? ⟨u1.heap.size, 3, none⟩ = some (.slice aB1 nB1 cB1) ∧ W.cell? ⟨u1.heap.size, 4, none⟩ = some (.int .i64 mB1) ∧ W.cell? ⟨u1.heap.size, 5, none⟩ = some (.slice bB1 pB1 qB1))) (first | exact KB2.out _ hC2 | exact KB2.out _ hC2.drew)
        (first | (go_at_call 17; with_reducible refine (toValue_any x0 _ _ (by first | exact RX0.out _ (below2 hB2 hC2 (Nat.le_refl _)) | exact RX0.out _ (below2 hB2 hC2.drew (Nat.le_refl _))) y0).mono ?_; rintro e p0 ⟨ps0, rfl, hbp0, hop0⟩; replace hC2 := below2 (by first | exact hC2 | exact hC2.drew) hbp0 (Nat.le_refl _)) | (go_at_call 19; refine (eqValue_any x0 x0 _ _ _ (hX0.out _ (below2 hD2 hC2 (Nat.le_refl _))) hop0.rd y0 y0).mono ?_; rintro e q0 ⟨rfl, hbq0⟩; replace hC2 := below2 hC2 hbq0 (Nat.le_refl _)))
      go_wp2_with fail
      go_region_held3 (fun W => (((W.cell? ⟨w.heap.size, 0, none⟩ = some (.int .i64 kA0) ∧ W.cell? ⟨w.heap.size, 1, none⟩ = some (.int .i64 lA0) ∧ W.cell? ⟨w.heap.size, 2, none⟩ = some (.int .i64 jA0) ∧ W.cell? ⟨w.heap.size, 3, none⟩ = some (.string ⟨(sA0 : List UInt8).toArray⟩) ∧ W.cell? ⟨w.heap.size, 4, none⟩ = some (.slice aA0 nA0 cA0)) ∧ (W.cell? ⟨w.heap.size + 1, 0, none⟩ = some (.int .i64 kA1) ∧ W.cell? ⟨w.heap.size + 1, 1, none⟩ = some (.int .i64 lA1) ∧ W.cell? ⟨w.heap.size + 1, 2, none⟩ = some (.int .i64 jA1) ∧ W.cell? ⟨w.heap.size + 1, 3, none⟩ = some (.slice aA1 nA1 cA1) ∧ W.cell? ⟨w.heap.size + 1, 4, none⟩ = some (.int .i64 mA1) ∧ W.cell? ⟨w.heap.size + 1, 5, none⟩ = some (.slice bA1 pA1 qA1))) ∧ (W.cell? ⟨u0.heap.size, 0, none⟩ = some (.int .i64 kB0) ∧ W.cell? ⟨u0.heap.size, 1, none⟩ = some (.int .i64 lB0) ∧ W.cell? ⟨u0.heap.size, 2, none⟩ = some (.int .i64 jB0) ∧ W.cell? ⟨u0.heap.size, 3, none⟩ = some (.string ⟨(sB0 : List UInt8).toArray⟩) ∧ W.cell? ⟨u0.heap.size, 4, none⟩ = some (.slice aB0 nB0 cB0))) ∧ (W.cell? ⟨u1.heap.size, 0, none⟩ = some (.int .i64 kB1) ∧ W.cell? ⟨u1.heap.size, 1, none⟩ = some (.int .i64 lB1) ∧ W.cell? ⟨u1.heap.size, 2, none⟩ = some (.int .i64 jB1) ∧ W.cell? ⟨u1.heap.size, 3, none⟩ = some (.slice aB1 nB1 cB1) ∧ W.cell? ⟨u1.heap.size, 4, none⟩ = some (.int .i64 mB1) ∧ W.cell? ⟨u1.heap.size, 5, none⟩ = some (.slice bB1 pB1 qB1))) (first | exact KB2.out _ hC2 | exact KB2.out _ hC2.drew)
        (first | (go_at_call 10; with_reducible refine (toShape_any x1 _ _ (by first | exact RX1.out _ (below2 hB2 hC2 (Nat.le_refl _)) | exact RX1.out _ (below2 hB2 hC2.drew (Nat.le_refl _))) y1).mono ?_; rintro e p1 ⟨ps1, rfl, hbp1, hop1⟩; replace hC2 := below2 (by first | exact hC2 | exact hC2.drew) hbp1 (Nat.le_refl _)) | (go_at_call 12; refine (eqShape_any x1 x1 _ _ _ (hX1.out _ hC2) hop1.rd y1 y1).mono ?_; rintro e q1 ⟨rfl, hbq1⟩; replace hC2 := below2 hC2 hbq1 (Nat.le_refl _)))
      go_wp2_with fail
      go_ret
      exact ⟨rfl, below2 hA (below2 hB2 hC2 (Nat.le_refl _)) (Nat.le_refl _)⟩
    · rw [take'_no (by omega)]
      rintro e w2 ⟨rfl, hb2⟩
      clear c0_0 c0_1 c0_2 c0_3 c0_4 c1_0 c1_1 c1_2 c1_3 c1_4 c1_5
      go_wp2
      go_ret
      exact ⟨rfl, below2 hA (below2 hB hb2 (Nat.le_refl _)) (Nat.le_refl _)⟩
  · rw [take'_no (by omega)]
    rintro e w1 ⟨rfl, hb1⟩
    go_wp2
    go_ret
    exact ⟨rfl, below2 hA (below2 hB hb1 (Nat.le_refl _)) (Nat.le_refl _)⟩
end Go.Proofs.YtkeieeogkeonfaaDoor

/- The walk of FnExactIsOf, under the facts on the program's tables one by one. -/
namespace Go.Proofs.YtkeieeogkeonfaaDoor
open Go.RowKit

theorem exactIsOfW (x0 : V) (cs0 : List Value) (x1 : Sh) (cs1 : List Value) (w : World) (hT : Tabs w) (hTen : TenTab w) (r0 : Rd w x0.d cs0) (f0 : x0.wf) (r1 : Rd w x1.d cs1) (f1 : x1.wf) :
    Calls Tryd.prog 7 #[.agg cs0.toArray, .agg cs1.toArray] w fun e w' => e = .returned (.bool true) ∧ Below w.heap.size w w' := exactIsOf x0 cs0 x1 cs1 w ⟨hT, hTen⟩ r0 f0 r1 f1
end Go.Proofs.YtkeieeogkeonfaaDoor
