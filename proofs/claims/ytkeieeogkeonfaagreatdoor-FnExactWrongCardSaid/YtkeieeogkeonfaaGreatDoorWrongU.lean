/- Whether a value is of a shape but for its parts: the reference's l15Self. -/
import Derived.Test.YtkeieeogkeonfaaGreatDoorSteps
import Derived.Test.YtkeieeogkeonfaaGreatDoorShapeTo
import Derived.Deep.DeepCutAuto
import Derived.Test.YtkeieeogkeonfaaGreatDoorDec
namespace Go.Proofs.YtkeieeogkeonfaaGreatDoor
open Go.RowKit

/-- what the reference's l15Wrong gives -/
def wrOutS (st : List (List UInt8)) : Option (List (List UInt8)) → Value
  | none => .tuple #[.string ⟨#[]⟩, .bool false]
  | some p => .tuple #[.string ⟨(putPath (st ++ p)).toArray⟩, .bool true]
def selfB (n : Nat) (v : V) (h : Sh) : Bool := if h.kind = 9 then h.kids.any (fun k => (wrg n v k).isNone) else heldB v h
def WrS (N : Nat) : Prop := ∀ (x : V) (sh : Sh) (st : List (List UInt8)) (cs ch : List Value) (vs : Value) (d d' : Int) (w : World), sh.nodes ≤ N → Rd w x.d cs → Rd w sh.d ch → StrA w vs st → x.wf → sh.wf → x.bulk ≤ 4294967295 → sh.bulk ≤ 4294967295 → V.rightBy pairsOk d x = true → Sh.right d' sh = true → st.length + N ≤ 1000 → (∀ s ∈ st, s.length ≤ 2000) →
  Calls Tryz.prog 17 #[.agg cs.toArray, .agg ch.toArray, vs] w fun e w' => e = .returned (wrOutS st (wrg N x sh)) ∧ Below w.heap.size w w'

set_option maxHeartbeats 4000000 in
set_option maxRecDepth 10000 in
theorem self_spec {N : Nat} (hWr : WrS N) (hN : N ≤ 1000) (x : V) (sh : Sh) (cs ch : List Value) (d d' : Int) (w : World) (hn : Sh.nodess sh.kids ≤ N) (hx : Rd w x.d cs) (hs : Rd w sh.d ch) (hxw : x.wf) (hsw : sh.wf) (hxb : x.bulk ≤ 4294967295) (hsb : sh.bulk ≤ 4294967295) (hV : V.rightBy pairsOk d x = true) (hR : Sh.right d' sh = true) :
    Calls Tryz.prog 32 #[.agg cs.toArray, .agg ch.toArray] w fun e w' => e = .returned (.bool (selfB N x sh)) ∧ Below w.heap.size w w' := by
  obtain ⟨k, n, e, s0, kids, v1, rfl, rfl, hvk⟩ := V.lay hx
  obtain ⟨k', l, hi, ks, m, hkids, u1, u2, rfl, rfl, hsk, hsh⟩ := Sh.lay hs
  obtain ⟨a1, c1, rfl⟩ := Rd.sl_form hvk
  obtain ⟨a4, c4, rfl⟩ := Rd.sl_form hsk
  obtain ⟨a6, c6, rfl⟩ := Rd.sl_form hsh
  rw [V.ds_length] at hvk hx ⊢
  rw [List.length_map] at hsk hs ⊢
  rw [Sh.ds_length] at hsh hs ⊢
  obtain ⟨x, hxe⟩ : ∃ x, x = V.mk k n e s0 kids := ⟨_, rfl⟩
  obtain ⟨sh, hse⟩ : ∃ sh, sh = Sh.mk k' l hi ks m hkids := ⟨_, rfl⟩
  have hself : Sh.self (.mk k' l hi ks m hkids) = true := by simp only [Sh.right, Bool.and_eq_true] at hR; exact hR.2.2
  rw [← hxe] at hx hxw hxb hV ⊢
  rw [← hse] at hs hsw hsb hR ⊢
  have HXE := Lib.hid hxe
  have HSE := Lib.hid hse
  obtain ⟨W0, hW0⟩ : ∃ W0, W0 = (w.alloc (.cells #[.int .i64 k, .int .i64 n, .int .i64 e, .string ⟨s0.toArray⟩, .slice a1 kids.length c1] 35)).alloc (.cells #[.int .i64 k', .int .i64 l, .int .i64 hi, .slice a4 ks.length c4, .int .i64 m, .slice a6 hkids.length c6] 39) := ⟨_, rfl⟩
  have HW := Lib.hid hW0
  have hA0 : Below w.heap.size w W0 := by rw [hW0]; exact ((Below.refl _ _).alloc (Nat.le_refl _) _).alloc (by simp) _
  have hz : W0.heap.size = w.heap.size + 2 := by rw [hW0]; simp
  have KB : Hid (∀ W, Below W0.heap.size W0 W → (W.cell? ⟨w.heap.size, 0, none⟩ = some (.int .i64 k) ∧ W.cell? ⟨w.heap.size, 1, none⟩ = some (.int .i64 n) ∧ W.cell? ⟨w.heap.size, 2, none⟩ = some (.int .i64 e) ∧ W.cell? ⟨w.heap.size, 3, none⟩ = some (.string ⟨s0.toArray⟩) ∧ W.cell? ⟨w.heap.size, 4, none⟩ = some (.slice a1 kids.length c1)) ∧ (W.cell? ⟨w.heap.size + 1, 0, none⟩ = some (.int .i64 k') ∧ W.cell? ⟨w.heap.size + 1, 1, none⟩ = some (.int .i64 l) ∧ W.cell? ⟨w.heap.size + 1, 2, none⟩ = some (.int .i64 hi) ∧ W.cell? ⟨w.heap.size + 1, 3, none⟩ = some (.slice a4 ks.length c4) ∧ W.cell? ⟨w.heap.size + 1, 4, none⟩ = some (.int .i64 m) ∧ W.cell? ⟨w.heap.size + 1, 5, none⟩ = some (.slice a6 hkids.length c6))) := by
    intro W hb
    obtain ⟨hc, _⟩ := bcell hb
    simp only [hc _ _ (show w.heap.size < W0.heap.size by omega), hc _ _ (show w.heap.size + 1 < W0.heap.size by omega)]
    subst hW0; simp [go_sem]
  have HRV := Lib.hid (show ∀ W, Below W0.heap.size W0 W → Rd W x.d [.int .i64 k, .int .i64 n, .int .i64 e, .string ⟨s0.toArray⟩, .slice a1 kids.length c1] from fun W hb => hx.below (below2 hA0 hb (Nat.le_refl _)))
  have HRS := Lib.hid (show ∀ W, Below W0.heap.size W0 W → Rd W sh.d [.int .i64 k', .int .i64 l, .int .i64 hi, .slice a4 ks.length c4, .int .i64 m, .slice a6 hkids.length c6] from fun W hb => hs.below (below2 hA0 hb (Nat.le_refl _)))
  have hB := Below.refl W0.heap.size W0
  obtain ⟨⟨p0, p1, p2, p3, p4⟩, q0, q1, q2, q3, q4, q5⟩ := KB.out _ hB
  have HSELF := Lib.hid hself
  clear hW0 hxe hse hx hs hself
  obtain ⟨r, hr⟩ : ∃ r, selfB N x sh = r := ⟨_, rfl⟩
  rw [hr]
  have HRR := Lib.hid hr; clear hr
  go_enter Tryz.func32, Tryz.ntmps32
  go_upto_region 1 with fail
  rw [← HW.out]
  by_cases hk0 : k' = 0
  · subst hk0
    have e00 : ((0 : Int) == 0) = true := rfl
    have HR := Lib.hid (show r = true by rw [← HRR.out, HXE.out, HSE.out]; rfl)
    go_wp2
    go_ret
    exact ⟨by rw [HR.out]; rfl, hA0⟩
  by_cases hk1 : k' = 1
  · subst hk1
    have e10 : ((1 : Int) == 0) = false := rfl; have e11 : ((1 : Int) == 1) = true := rfl
    have HR := Lib.hid (show r = decide (k = 0) by rw [← HRR.out, HXE.out, HSE.out]; rfl)
    by_cases hv0 : k = 0
    · subst hv0
      go_wp2
      go_ret
      exact ⟨by rw [HR.out]; rfl, hA0⟩
    · have hb0 : (k == 0) = false := (by simpa using hv0)
      have HR2 := Lib.hid (show r = false by rw [HR.out, decide_eq_false hv0]; try rfl)
      clear HR hv0
      go_wp2
      go_ret
      exact ⟨ret_bool (by rw [HR2.out]; try first | rfl | assumption), hA0⟩
  by_cases hk2 : k' = 2
  · subst hk2
    have e20 : ((2 : Int) == 0) = false := rfl; have e21 : ((2 : Int) == 1) = false := rfl; have e22 : ((2 : Int) == 2) = true := rfl
    have HR := Lib.hid (show r = (decide (k = 1) || decide (k = 2)) by rw [← HRR.out, HXE.out, HSE.out]; rfl)
    by_cases hv1 : k = 1
    · subst hv1
      go_wp2
      go_ret
      exact ⟨by rw [HR.out]; rfl, hA0⟩
    by_cases hv2 : k = 2
    · subst hv2
      go_wp2
      go_ret
      exact ⟨by rw [HR.out]; rfl, hA0⟩
    · have hb1 : (k == 1) = false := (by simpa using hv1); have hb2 : (k == 2) = false := (by simpa using hv2)
      have HR2 := Lib.hid (show r = false by rw [HR.out, decide_eq_false hv1, decide_eq_false hv2]; try rfl)
      clear HR hv1 hv2
      go_wp2
      go_ret
      exact ⟨ret_bool (by rw [HR2.out]; try first | rfl | assumption), hA0⟩
  by_cases hk3 : k' = 3
  · subst hk3
    have e30 : ((3 : Int) == 0) = false := rfl; have e31 : ((3 : Int) == 1) = false := rfl; have e32 : ((3 : Int) == 2) = false := rfl; have e33 : ((3 : Int) == 3) = true := rfl
    have HR := Lib.hid (show r = (decide (k = 3) && inR n l hi) by rw [← HRR.out, HXE.out, HSE.out]; rfl)
    by_cases hv : k = 3
    · subst hv
      have HR2 := Lib.hid (show r = inR n l hi by rw [HR.out]; simp)
      go_wp2_with (go_at_call 52; refine (l01In_any _ _ _ _).mono ?_; rintro e1 w1 ⟨rfl, rfl⟩)
      go_ret
      exact ⟨ret_bool HR2.out.symm, hA0⟩
    · have hb : (k == 3) = false := by simpa using hv
      have HR2 := Lib.hid (show r = false by rw [HR.out, decide_eq_false hv]; try rfl)
      clear HR hv
      go_wp2
      go_ret
      exact ⟨ret_bool (by rw [HR2.out]; try first | rfl | assumption), hA0⟩
  by_cases hk4 : k' = 4
  · subst hk4
    have e40 : ((4 : Int) == 0) = false := rfl; have e41 : ((4 : Int) == 1) = false := rfl; have e42 : ((4 : Int) == 2) = false := rfl; have e43 : ((4 : Int) == 3) = false := rfl; have e44 : ((4 : Int) == 4) = true := rfl
    have HR := Lib.hid (show r = (decide (k = 3) || decide (k = 4)) by rw [← HRR.out, HXE.out, HSE.out]; rfl)
    by_cases hv3 : k = 3
    · subst hv3
      go_wp2
      go_ret
      exact ⟨by rw [HR.out]; rfl, hA0⟩
    by_cases hv4 : k = 4
    · subst hv4
      go_wp2
      go_ret
      exact ⟨by rw [HR.out]; rfl, hA0⟩
    · have hb3 : (k == 3) = false := (by simpa using hv3); have hb4 : (k == 4) = false := (by simpa using hv4)
      have HR2 := Lib.hid (show r = false by rw [HR.out, decide_eq_false hv3, decide_eq_false hv4]; try rfl)
      clear HR hv3 hv4
      go_wp2
      go_ret
      exact ⟨ret_bool (by rw [HR2.out]; try first | rfl | assumption), hA0⟩
  by_cases hk5 : k' = 5
  · subst hk5
    have e50 : ((5 : Int) == 0) = false := rfl; have e51 : ((5 : Int) == 1) = false := rfl; have e52 : ((5 : Int) == 2) = false := rfl; have e53 : ((5 : Int) == 3) = false := rfl; have e54 : ((5 : Int) == 4) = false := rfl; have e55 : ((5 : Int) == 5) = true := rfl
    have HR := Lib.hid (show r = (decide (k = 5) && inR s0.length l hi) by rw [← HRR.out, HXE.out, HSE.out]; rfl)
    by_cases hv : k = 5
    · subst hv
      have HR2 := Lib.hid (show r = inR s0.length l hi by rw [HR.out]; simp)
      go_wp2_with (go_at_call 52; refine (l01In_any _ _ _ _).mono ?_; rintro e1 w1 ⟨rfl, rfl⟩)
      go_ret
      exact ⟨ret_bool HR2.out.symm, hA0⟩
    · have hb : (k == 5) = false := by simpa using hv
      have HR2 := Lib.hid (show r = false by rw [HR.out, decide_eq_false hv]; try rfl)
      clear HR hv
      go_wp2
      go_ret
      exact ⟨ret_bool (by rw [HR2.out]; try first | rfl | assumption), hA0⟩
  by_cases hk6 : k' = 6
  · subst hk6
    have e60 : ((6 : Int) == 0) = false := rfl; have e61 : ((6 : Int) == 1) = false := rfl; have e62 : ((6 : Int) == 2) = false := rfl; have e63 : ((6 : Int) == 3) = false := rfl; have e64 : ((6 : Int) == 4) = false := rfl; have e65 : ((6 : Int) == 5) = false := rfl; have e66 : ((6 : Int) == 6) = true := rfl
    have HR := Lib.hid (show r = (decide (k = 6) && inR s0.length l hi) by rw [← HRR.out, HXE.out, HSE.out]; rfl)
    by_cases hv : k = 6
    · subst hv
      have HR2 := Lib.hid (show r = inR s0.length l hi by rw [HR.out]; simp)
      go_wp2_with (go_at_call 52; refine (l01In_any _ _ _ _).mono ?_; rintro e1 w1 ⟨rfl, rfl⟩)
      go_ret
      exact ⟨ret_bool HR2.out.symm, hA0⟩
    · have hb : (k == 6) = false := by simpa using hv
      have HR2 := Lib.hid (show r = false by rw [HR.out, decide_eq_false hv]; try rfl)
      clear HR hv
      go_wp2
      go_ret
      exact ⟨ret_bool (by rw [HR2.out]; try first | rfl | assumption), hA0⟩
  by_cases hk7 : k' = 7
  · subst hk7
    have e70 : ((7 : Int) == 0) = false := rfl; have e71 : ((7 : Int) == 1) = false := rfl; have e72 : ((7 : Int) == 2) = false := rfl; have e73 : ((7 : Int) == 3) = false := rfl; have e74 : ((7 : Int) == 4) = false := rfl; have e75 : ((7 : Int) == 5) = false := rfl; have e76 : ((7 : Int) == 6) = false := rfl; have e77 : ((7 : Int) == 7) = true := rfl
    have HR := Lib.hid (show r = (decide (k = 7) && inR kids.length l hi) by rw [← HRR.out, HXE.out, HSE.out]; rfl)
    by_cases hv : k = 7
    · subst hv
      have HR2 := Lib.hid (show r = inR kids.length l hi by rw [HR.out]; simp)
      go_wp2_with (go_at_call 52; refine (l01In_any _ _ _ _).mono ?_; rintro e1 w1 ⟨rfl, rfl⟩)
      go_ret
      exact ⟨ret_bool HR2.out.symm, hA0⟩
    · have hb : (k == 7) = false := by simpa using hv
      have HR2 := Lib.hid (show r = false by rw [HR.out, decide_eq_false hv]; try rfl)
      clear HR hv
      go_wp2
      go_ret
      exact ⟨ret_bool (by rw [HR2.out]; try first | rfl | assumption), hA0⟩
  by_cases hk8 : k' = 8
  · subst hk8
    have e80 : ((8 : Int) == 0) = false := rfl; have e81 : ((8 : Int) == 1) = false := rfl; have e82 : ((8 : Int) == 2) = false := rfl; have e83 : ((8 : Int) == 3) = false := rfl; have e84 : ((8 : Int) == 4) = false := rfl; have e85 : ((8 : Int) == 5) = false := rfl; have e86 : ((8 : Int) == 6) = false := rfl; have e87 : ((8 : Int) == 7) = false := rfl
    have hHK := HSELF.out
    unfold Sh.self at hHK
    simp only [if_pos, Bool.and_eq_true, Sh.fields, decide_eq_true_eq] at hHK
    obtain ⟨hl0, hh0, hkeys, hkl, hm1, hm2⟩ := hHK
    clear hl0 hh0
    have HR := Lib.hid (show r = (x.texts && (allIn x.keys ks && allIn (ks.take m.toNat) x.keys)) by rw [← HRR.out, HSE.out]; rfl)
    have hkids : x.kids.length ≤ 4294967295 := by have := hxb; rw [HXE.out] at this ⊢; unfold V.bulk at this; simp only [V.kids]; omega
    have hkidb : ks.length ≤ 4294967295 := by have := hsb; rw [HSE.out] at this; unfold Sh.bulk at this; omega
    have HT := Lib.hid (texts_spec x _ W0 (HRV.out _ hB) hkids)
    have HH := fun W (hW : Below W0.heap.size W0 W) => Lib.hid (has_spec x sh _ _ W (HRV.out _ hW) (HRS.out _ hW) hkids (by rw [HSE.out]; exact hkidb) (by rw [HSE.out]; exact ⟨hm1, hm2⟩))
    rw [show sh.keys = ks by rw [HSE.out]; rfl, show sh.must = m by rw [HSE.out]; rfl] at HH
    clear hkeys hkl hm1 hm2
    cases htx : x.texts with
    | false =>
      have HR2 := Lib.hid (show r = false by rw [HR.out, htx]; rfl)
      rw [htx] at HT
      clear htx HR
      go_wp2_with (go_at_call 53; with_reducible refine HT.out.mono ?_; rintro e1 w1 ⟨rfl, hb1⟩)
      go_ret
      exact ⟨ret_bool (by rw [HR2.out]; try rfl), below2 hA0 hb1 (Nat.le_refl _)⟩
    | true =>
      have HR2 := Lib.hid (show r = (allIn x.keys ks && allIn (ks.take m.toNat) x.keys) by rw [HR.out, htx]; simp)
      rw [htx] at HT
      clear htx HR
      go_wp2_with (first | (go_at_call 53; with_reducible refine HT.out.mono ?_; rintro e1 w1 ⟨rfl, hb1⟩; obtain ⟨⟨p0', p1', p2', p3', p4'⟩, q0', q1', q2', q3', q4', q5'⟩ := KB.out _ hb1) | (go_at_call 54; with_reducible refine (HH _ hb1).out.mono ?_; rintro e1 w2 ⟨rfl, hb2⟩))
      go_ret
      exact ⟨ret_bool HR2.out.symm, below2 hA0 (below2 hb1 hb2 (Nat.le_refl _)) (Nat.le_refl _)⟩
  by_cases hk9 : k' = 9
  · subst hk9
    have e90 : ((9 : Int) == 0) = false := rfl; have e91 : ((9 : Int) == 1) = false := rfl; have e92 : ((9 : Int) == 2) = false := rfl; have e93 : ((9 : Int) == 3) = false := rfl; have e94 : ((9 : Int) == 4) = false := rfl; have e95 : ((9 : Int) == 5) = false := rfl; have e96 : ((9 : Int) == 6) = false := rfl; have e97 : ((9 : Int) == 7) = false := rfl; have e98 : ((9 : Int) == 8) = false := rfl
    have HR := Lib.hid (show r = hkids.any (fun y => (wrg N x y).isNone) by rw [← HRR.out, HSE.out]; rfl)
    have hrk : ∀ y ∈ hkids, Sh.right (d' - 1) y = true := by
      intro y hy; have := hR; rw [HSE.out] at this; simp only [Sh.right, Bool.and_eq_true] at this
      have h1 := this.1; rw [Sh.rights_all, List.all_eq_true] at h1; exact h1 y hy
    have hkw : Sh.wfs hkids := by have := hsw; rw [HSE.out] at this; unfold Sh.wf at this; exact this.2.2.2.2.2.2
    have hkb : hkids.length + Sh.bulks hkids ≤ 4294967295 := by have := hsb; rw [HSE.out] at this; unfold Sh.bulk at this; omega
    have hkn : Sh.nodess hkids ≤ N := hn
    obtain ⟨a6', c6', he, hg⟩ := hsh.shapes
    simp only [Value.slice.injEq, true_and] at he
    obtain ⟨rfl, rfl⟩ := he
    have HG := Lib.hid hg
    clear hg
    go_wp2
    clear p0 p1 p2 p3 p4 q0 q1 q2 q3 q4 q5
    go_loopw [5] (fun i wr' => ∃ j : Nat, j ≤ hkids.length ∧ i = .int .i64 j ∧ (hkids.take j).any (fun y => (wrg N x y).isNone) = false ∧ Below W0.heap.size W0 wr') (fun i _ => hkids.length - (intOf i).toNat)
    case atStart => exact ⟨0, Nat.zero_le _, rfl, by simp, hB⟩
    case round =>
      obtain ⟨j, hj, rfl, hany, hbel⟩ := hrel
      have HANY := Lib.hid hany; clear hany
      have i1 : (0 : Int) ≤ j := by omega
      obtain ⟨⟨p0, p1, p2, p3, p4⟩, q0, q1, q2, q3, q4, q5⟩ := KB.out _ hbel
      by_cases hlt : j < hkids.length
      · have i2 : (j : Int) < hkids.length := by omega
        obtain ⟨_, _, b, o, rfl, hb0, hcell⟩ := HG.out (by intro e; rw [e] at hlt; simp at hlt)
        obtain ⟨v0, v1, v2, v3, v4, v5, hr6, d0, d1, d2, d3, d4, d5⟩ := hcell j hlt
        obtain ⟨f1, f2, f3, g4, g5, g6, f5, h4, h5, h6, hcs⟩ := Sh.form hr6
        simp only [List.cons.injEq, and_true] at hcs
        obtain ⟨rfl, rfl, rfl, rfl, rfl, rfl⟩ := hcs
        have KE : Hid (∀ W, Below W0.heap.size W0 W → W.cell? ⟨b, o + j * 6, none⟩ = some (.int .i64 f1) ∧ W.cell? ⟨b, o + j * 6 + 1, none⟩ = some (.int .i64 f2) ∧ W.cell? ⟨b, o + j * 6 + 2, none⟩ = some (.int .i64 f3) ∧ W.cell? ⟨b, o + j * 6 + 3, none⟩ = some (.slice g4 g5 g6) ∧ W.cell? ⟨b, o + j * 6 + 4, none⟩ = some (.int .i64 f5) ∧ W.cell? ⟨b, o + j * 6 + 5, none⟩ = some (.slice h4 h5 h6)) := by
          intro W hW
          have hc := (bcell (below2 hA0 hW (Nat.le_refl _))).1
          exact ⟨by rw [hc _ _ hb0]; exact d0, by rw [hc _ _ hb0]; exact d1, by rw [hc _ _ hb0]; exact d2, by rw [hc _ _ hb0]; exact d3, by rw [hc _ _ hb0]; exact d4, by rw [hc _ _ hb0]; exact d5⟩
        have hHC := fun W (hW : Below W0.heap.size W0 W) (vs : Value) (hst : StrA W vs []) => Lib.hid (hWr x hkids[j] [] _ _ vs d (d' - 1) W (Nat.le_trans (Sh.nodes_get hkids j hlt) hkn) (HRV.out _ hW) (hr6.below (below2 hA0 hW (Nat.le_refl _))) hst hxw (Sh.wfs_get hkw j hlt) hxb (by have := Sh.bulk_in hkids j hlt; omega) hV (hrk _ (List.getElem_mem hlt)) (by simp; omega) (by simp))
        have HTAKE := Lib.hid (show (hkids.take (j + 1)).any (fun y => (wrg N x y).isNone) = (wrg N x hkids[j]).isNone by rw [List.take_succ_eq_append_getElem hlt, List.any_append, HANY.out]; simp)
        obtain ⟨ow, how⟩ : ∃ ow, wrg N x hkids[j] = ow := ⟨_, rfl⟩
        rw [how] at HTAKE
        have HOW := Lib.hid how
        rw [how] at hHC
        clear how d0 d1 d2 d3 d4 d5 hcell
        have hE := hbel
        go_wp2_with fail
        clear p0 p1 p2 p3 p4 q0 q1 q2 q3 q4 q5
        cases ow with
        | none =>
          rw [show wrOutS [] none = .tuple #[.string ⟨#[]⟩, .bool false] from rfl] at hHC
          have HF := Lib.hid (show r = true by rw [HR.out, List.any_eq_true]; exact ⟨hkids[j], List.getElem_mem hlt, by rw [HOW.out]; rfl⟩)
          go_region_held3 (fun W => (W.cell? ⟨w.heap.size, 0, none⟩ = some (.int .i64 k) ∧ W.cell? ⟨w.heap.size, 1, none⟩ = some (.int .i64 n) ∧ W.cell? ⟨w.heap.size, 2, none⟩ = some (.int .i64 e) ∧ W.cell? ⟨w.heap.size, 3, none⟩ = some (.string ⟨s0.toArray⟩) ∧ W.cell? ⟨w.heap.size, 4, none⟩ = some (.slice a1 kids.length c1)) ∧ W.cell? ⟨w.heap.size + 1, 5, none⟩ = some (.slice (some ⟨b, o, none⟩) hkids.length c6) ∧ (W.cell? ⟨b, o + j * 6, none⟩ = some (.int .i64 f1) ∧ W.cell? ⟨b, o + j * 6 + 1, none⟩ = some (.int .i64 f2) ∧ W.cell? ⟨b, o + j * 6 + 2, none⟩ = some (.int .i64 f3) ∧ W.cell? ⟨b, o + j * 6 + 3, none⟩ = some (.slice g4 g5 g6) ∧ W.cell? ⟨b, o + j * 6 + 4, none⟩ = some (.int .i64 f5) ∧ W.cell? ⟨b, o + j * 6 + 5, none⟩ = some (.slice h4 h5 h6)))
            (first | exact ⟨(KB.out _ (hE.alloc hE.size _).drew).1, (KB.out _ (hE.alloc hE.size _).drew).2.2.2.2.2.2, KE.out _ (hE.alloc hE.size _).drew⟩ | exact ⟨(KB.out _ hE).1, (KB.out _ hE).2.2.2.2.2.2, KE.out _ hE⟩ | exact ⟨(KB.out _ hE.drew).1, (KB.out _ hE.drew).2.2.2.2.2.2, KE.out _ hE.drew⟩ | exact ⟨(KB.out _ (hE.drew.alloc (by have := hE.size; simp; omega) _)).1, (KB.out _ (hE.drew.alloc (by have := hE.size; simp; omega) _)).2.2.2.2.2.2, KE.out _ (hE.drew.alloc (by have := hE.size; simp; omega) _)⟩ | exact ⟨(KB.out _ (hE.alloc (by have := hE.size; simp; omega) _)).1, (KB.out _ (hE.alloc (by have := hE.size; simp; omega) _)).2.2.2.2.2.2, KE.out _ (hE.alloc (by have := hE.size; simp; omega) _)⟩)
            (first | (go_at_call 17; with_reducible refine (hHC _ (by first | exact (hE.alloc hE.size _).drew | exact hE.drew.alloc (by have := hE.size; simp; omega) _ | exact hE.alloc (by have := hE.size; simp; omega) _) _ (by first | exact StrA.empty.drew | exact StrA.empty)).out.mono ?_; rintro e1 w2 ⟨rfl, hb2⟩; replace hE := below2 (by first | exact (hE.alloc hE.size _).drew | exact hE.drew.alloc (by have := hE.size; simp; omega) _ | exact hE.alloc (by have := hE.size; simp; omega) _) hb2 (Nat.le_refl _)))
          all_goals
            go_wp2
            go_ret
            exact ⟨by rw [HF.out]; rfl, below2 hA0 hE (Nat.le_refl _)⟩
        | some p =>
          rw [show wrOutS [] (some p) = .tuple #[.string ⟨(putPath ([] ++ p)).toArray⟩, .bool true] from rfl] at hHC
          have HT := Lib.hid (show (hkids.take (j + 1)).any (fun y => (wrg N x y).isNone) = false by rw [HTAKE.out]; rfl)
          go_region_held3 (fun W => (W.cell? ⟨w.heap.size, 0, none⟩ = some (.int .i64 k) ∧ W.cell? ⟨w.heap.size, 1, none⟩ = some (.int .i64 n) ∧ W.cell? ⟨w.heap.size, 2, none⟩ = some (.int .i64 e) ∧ W.cell? ⟨w.heap.size, 3, none⟩ = some (.string ⟨s0.toArray⟩) ∧ W.cell? ⟨w.heap.size, 4, none⟩ = some (.slice a1 kids.length c1)) ∧ W.cell? ⟨w.heap.size + 1, 5, none⟩ = some (.slice (some ⟨b, o, none⟩) hkids.length c6) ∧ (W.cell? ⟨b, o + j * 6, none⟩ = some (.int .i64 f1) ∧ W.cell? ⟨b, o + j * 6 + 1, none⟩ = some (.int .i64 f2) ∧ W.cell? ⟨b, o + j * 6 + 2, none⟩ = some (.int .i64 f3) ∧ W.cell? ⟨b, o + j * 6 + 3, none⟩ = some (.slice g4 g5 g6) ∧ W.cell? ⟨b, o + j * 6 + 4, none⟩ = some (.int .i64 f5) ∧ W.cell? ⟨b, o + j * 6 + 5, none⟩ = some (.slice h4 h5 h6)))
            (first | exact ⟨(KB.out _ (hE.alloc hE.size _).drew).1, (KB.out _ (hE.alloc hE.size _).drew).2.2.2.2.2.2, KE.out _ (hE.alloc hE.size _).drew⟩ | exact ⟨(KB.out _ hE).1, (KB.out _ hE).2.2.2.2.2.2, KE.out _ hE⟩ | exact ⟨(KB.out _ hE.drew).1, (KB.out _ hE.drew).2.2.2.2.2.2, KE.out _ hE.drew⟩ | exact ⟨(KB.out _ (hE.drew.alloc (by have := hE.size; simp; omega) _)).1, (KB.out _ (hE.drew.alloc (by have := hE.size; simp; omega) _)).2.2.2.2.2.2, KE.out _ (hE.drew.alloc (by have := hE.size; simp; omega) _)⟩ | exact ⟨(KB.out _ (hE.alloc (by have := hE.size; simp; omega) _)).1, (KB.out _ (hE.alloc (by have := hE.size; simp; omega) _)).2.2.2.2.2.2, KE.out _ (hE.alloc (by have := hE.size; simp; omega) _)⟩)
            (first | (go_at_call 17; with_reducible refine (hHC _ (by first | exact (hE.alloc hE.size _).drew | exact hE.drew.alloc (by have := hE.size; simp; omega) _ | exact hE.alloc (by have := hE.size; simp; omega) _) _ (by first | exact StrA.empty.drew | exact StrA.empty)).out.mono ?_; rintro e1 w2 ⟨rfl, hb2⟩; replace hE := below2 (by first | exact (hE.alloc hE.size _).drew | exact hE.drew.alloc (by have := hE.size; simp; omega) _ | exact hE.alloc (by have := hE.size; simp; omega) _) hb2 (Nat.le_refl _)))
          all_goals
            go_wp2
            go_roundw
            case rel => exact ⟨j + 1, by omega, by go_num, HT.out, hE⟩
            case measure => simp [intOf]; omega
      · obtain rfl : j = hkids.length := by omega
        have HF := Lib.hid (show r = false by rw [HR.out]; have := HANY.out; rwa [List.take_length] at this)
        have i2 : ¬ ((hkids.length : Int) < hkids.length) := by omega
        go_wp2
        go_ret
        exact ⟨by rw [HF.out]; rfl, below2 hA0 hbel (Nat.le_refl _)⟩
  · exfalso
    have := HSELF.out
    unfold Sh.self at this
    simp only at this
    rw [if_neg hk8, if_neg (by rintro (h | h | h) <;> first | exact hk3 h | exact hk5 h | exact hk6 h), if_neg hk7, if_neg hk9, if_neg (by rintro (h | h | h | h) <;> first | exact hk0 h | exact hk1 h | exact hk2 h | exact hk4 h)] at this
    cases this
end Go.Proofs.YtkeieeogkeonfaaGreatDoor

/- The way to what is wrong: the reference's l15Wrong. -/
namespace Go.Proofs.YtkeieeogkeonfaaGreatDoor
open Go.RowKit

theorem wr_self_no {N : Nat} {x : V} {sh : Sh} (h : selfB N x sh = false) : wrg (N + 1) x sh = some [] := by
  unfold selfB at h; rw [wrg]
  by_cases h9 : sh.kind = 9
  · rw [if_pos h9] at h ⊢; rw [if_neg (by rw [h]; decide)]
  · rw [if_neg h9] at h ⊢; rw [if_pos h]
theorem wr_self_yes {N : Nat} {x : V} {sh : Sh} (h : selfB N x sh = true) : wrg (N + 1) x sh = (if sh.kind = 7 then wrL (fun x => wrg N x (sh.kids.headD shNil)) 0 x.kids else if sh.kind = 8 then wrM (fun s y => wrg N y (sh.kids.getD (ixF sh.keys s 0).toNat shNil)) x.kids else none) := by
  unfold selfB at h; rw [wrg]
  by_cases h9 : sh.kind = 9
  · rw [if_pos h9] at h ⊢; rw [if_pos h, if_neg (by omega), if_neg (by omega)]
  · rw [if_neg h9] at h ⊢; rw [if_neg (by rw [h]; decide)]
theorem self_held {N : Nat} {x : V} {sh : Sh} (h : selfB N x sh = true) (hk : sh.kind = 8) : heldB x sh = true := by
  unfold selfB at h; rwa [if_neg (by omega)] at h
theorem wrOutS_cons {st : List (List UInt8)} {s : List UInt8} {p : List (List UInt8)} : wrOutS (st ++ [s]) (some p) = wrOutS st (some (s :: p)) := by
  unfold wrOutS; simp only [List.append_assoc, List.singleton_append]

set_option maxHeartbeats 4000000 in
set_option maxRecDepth 10000 in
theorem WrS_of {N : Nat} (hWr : WrS N) (hN : N + 1 ≤ 1000) : WrS (N + 1) := by
  intro x sh st cs ch vs d d' w hn hx hs hst hxw hsw hxb hsb hV hR hlen hsl
  obtain ⟨k, n, e, s0, kids, v1, rfl, rfl, hvk⟩ := V.lay hx
  obtain ⟨k', l, hi, ks, m, hkids, u1, u2, rfl, rfl, hsk, hsh⟩ := Sh.lay hs
  obtain ⟨a1, c1, rfl⟩ := Rd.sl_form hvk
  obtain ⟨a4, c4, rfl⟩ := Rd.sl_form hsk
  obtain ⟨a6, c6, rfl⟩ := Rd.sl_form hsh
  rw [V.ds_length] at hvk hx ⊢
  rw [List.length_map] at hsk hs ⊢
  rw [Sh.ds_length] at hsh hs ⊢
  obtain ⟨x, hxe⟩ : ∃ x, x = V.mk k n e s0 kids := ⟨_, rfl⟩
  obtain ⟨sh, hse⟩ : ∃ sh, sh = Sh.mk k' l hi ks m hkids := ⟨_, rfl⟩
  have hself : Sh.self (.mk k' l hi ks m hkids) = true := by simp only [Sh.right, Bool.and_eq_true] at hR; exact hR.2.2
  have hrk : ∀ y ∈ hkids, Sh.right (d' - 1) y = true := by
    intro y hy; simp only [Sh.right, Bool.and_eq_true] at hR; have h1 := hR.1; rw [Sh.rights_all, List.all_eq_true] at h1; exact h1 y hy
  have hvr : ∀ y ∈ kids, V.rightBy pairsOk (d - 1) y = true := by
    intro y hy; simp only [V.rightBy, Bool.and_eq_true] at hV; have h1 := hV.1; rw [V.rightsBy_all, List.all_eq_true] at h1; exact h1 y hy
  have hkw : Sh.wfs hkids := hsw.2.2.2.2.2.2
  have hvw : V.wfs kids := hxw.2.2.2.2.2
  have hkb : hkids.length + Sh.bulks hkids ≤ 4294967295 := by unfold Sh.bulk at hsb; omega
  have hkkb : ks.length ≤ 4294967295 := by unfold Sh.bulk at hsb; omega
  have hvb : kids.length + V.bulks kids ≤ 4294967295 := by unfold V.bulk at hxb; omega
  have hkn : Sh.nodess hkids ≤ N := by simp only [Sh.nodes] at hn; omega
  rw [← hxe] at hx hxw hxb hV ⊢
  rw [← hse] at hs hsw hsb hR ⊢
  have HXE := Lib.hid hxe
  have HSE := Lib.hid hse
  obtain ⟨W0, hW0⟩ : ∃ W0, W0 = (w.alloc (.cells #[.int .i64 k, .int .i64 n, .int .i64 e, .string ⟨s0.toArray⟩, .slice a1 kids.length c1] 35)).alloc (.cells #[.int .i64 k', .int .i64 l, .int .i64 hi, .slice a4 ks.length c4, .int .i64 m, .slice a6 hkids.length c6] 39) := ⟨_, rfl⟩
  have HW := Lib.hid hW0
  have hA0 : Below w.heap.size w W0 := by rw [hW0]; exact ((Below.refl _ _).alloc (Nat.le_refl _) _).alloc (by simp) _
  have hz : W0.heap.size = w.heap.size + 2 := by rw [hW0]; simp
  have KB : Hid (∀ W, Below W0.heap.size W0 W → (W.cell? ⟨w.heap.size, 0, none⟩ = some (.int .i64 k) ∧ W.cell? ⟨w.heap.size, 1, none⟩ = some (.int .i64 n) ∧ W.cell? ⟨w.heap.size, 2, none⟩ = some (.int .i64 e) ∧ W.cell? ⟨w.heap.size, 3, none⟩ = some (.string ⟨s0.toArray⟩) ∧ W.cell? ⟨w.heap.size, 4, none⟩ = some (.slice a1 kids.length c1)) ∧ (W.cell? ⟨w.heap.size + 1, 0, none⟩ = some (.int .i64 k') ∧ W.cell? ⟨w.heap.size + 1, 1, none⟩ = some (.int .i64 l) ∧ W.cell? ⟨w.heap.size + 1, 2, none⟩ = some (.int .i64 hi) ∧ W.cell? ⟨w.heap.size + 1, 3, none⟩ = some (.slice a4 ks.length c4) ∧ W.cell? ⟨w.heap.size + 1, 4, none⟩ = some (.int .i64 m) ∧ W.cell? ⟨w.heap.size + 1, 5, none⟩ = some (.slice a6 hkids.length c6))) := by
    intro W hb
    obtain ⟨hc, _⟩ := bcell hb
    simp only [hc _ _ (show w.heap.size < W0.heap.size by omega), hc _ _ (show w.heap.size + 1 < W0.heap.size by omega)]
    subst hW0; simp [go_sem]
  have HRV := Lib.hid (show ∀ W, Below W0.heap.size W0 W → Rd W x.d [.int .i64 k, .int .i64 n, .int .i64 e, .string ⟨s0.toArray⟩, .slice a1 kids.length c1] from fun W hb => hx.below (below2 hA0 hb (Nat.le_refl _)))
  have HRS := Lib.hid (show ∀ W, Below W0.heap.size W0 W → Rd W sh.d [.int .i64 k', .int .i64 l, .int .i64 hi, .slice a4 ks.length c4, .int .i64 m, .slice a6 hkids.length c6] from fun W hb => hs.below (below2 hA0 hb (Nat.le_refl _)))
  have HST := Lib.hid (show ∀ W, Below W0.heap.size W0 W → StrA W vs st from fun W hb => hst.below (below2 hA0 hb (Nat.le_refl _)))
  have HB0 := Lib.hid (show ∀ W W2, Below W0.heap.size W0 W → Below W.heap.size W W2 → Below W0.heap.size W0 W2 from fun W W2 a b => below2 a b (Nat.le_refl _))
  have HKS := Lib.hid (show ∀ W, Below W0.heap.size W0 W → StrRow W (.slice a4 ks.length c4) ks from fun W hb => (hsk.below (below2 hA0 hb (Nat.le_refl _))).strRow)
  obtain ⟨a1', c1', he1, hg1⟩ := hvk.values
  simp only [Value.slice.injEq, true_and] at he1
  obtain ⟨rfl, rfl⟩ := he1
  obtain ⟨a6', c6', he2, hg2⟩ := hsh.shapes
  simp only [Value.slice.injEq, true_and] at he2
  obtain ⟨rfl, rfl⟩ := he2
  have HG1 := Lib.hid hg1
  have HG2 := Lib.hid hg2
  have hB := Below.refl W0.heap.size W0
  have HSELF := Lib.hid hself
  have HS := fun W (hW : Below W0.heap.size W0 W) => Lib.hid (self_spec hWr (by omega) x sh _ _ d d' W (by rw [HSE.out]; exact hkn) (HRV.out _ hW) (HRS.out _ hW) hxw hsw hxb hsb hV hR)
  have HP := fun W (hW : Below W0.heap.size W0 W) => Lib.hid (putPath_spec st vs W (HST.out _ hW).row (by omega) (fun s hs => by have := hsl s hs; omega))
  obtain ⟨r, hr⟩ : ∃ r, wrOutS st (wrg (N + 1) x sh) = r := ⟨_, rfl⟩
  rw [hr]
  have HRR := Lib.hid hr
  clear hW0 hxe hse hx hs hself hr hst hg1 hg2 hvk hsk hsh
  cases hsf : selfB N x sh with
  | false =>
    have HF := Lib.hid (show r = .tuple #[.string ⟨(putPath st).toArray⟩, .bool true] by rw [← HRR.out, wr_self_no hsf]; simp [wrOutS])
    have HSF := Lib.hid hsf; clear hsf
    go_enter Tryz.func17, Tryz.ntmps17
    go_wp2_with fail
    rw [← HW.out]
    go_wp2_with (first | (go_at_call 32; refine (HS _ hB).out.mono ?_; rw [HSF.out]; rintro e1 w1 ⟨rfl, hb1⟩; obtain ⟨⟨p0, p1, p2, p3, p4⟩, q0, q1, q2, q3, q4, q5⟩ := KB.out _ hb1) | (go_at_call 33; refine (HP _ hb1).out.mono ?_; rintro e2 w2 ⟨rfl, hb2⟩))
    go_ret2
    exact ⟨congrArg Ending.returned HF.out.symm, below2 hA0 (HB0.out _ _ hb1 hb2) (Nat.le_refl _)⟩
  | true =>
    have HY := Lib.hid (wr_self_yes hsf)
    have HHB := Lib.hid (fun hk => self_held (x := x) (sh := sh) hsf hk)
    have HSF := Lib.hid hsf; clear hsf
    have hN2 : N ≤ 1000 := by omega
    go_enter Tryz.func17, Tryz.ntmps17
    go_wp2_with fail
    rw [← HW.out]
    go_wp2_with (go_at_call 32; refine (HS _ hB).out.mono ?_; rw [HSF.out]; rintro e1 w1 ⟨rfl, hb1⟩; obtain ⟨⟨p0, p1, p2, p3, p4⟩, q0, q1, q2, q3, q4, q5⟩ := KB.out _ hb1)
    by_cases hk7 : k' = 7
    · subst hk7
      obtain ⟨kid, rfl⟩ := sh_self7 HSELF.out
      simp only [List.length_singleton] at *
      have HW7 := Lib.hid (show wrg (N + 1) x sh = wrL (fun x => wrg N x kid) 0 kids by rw [HY.out, HSE.out, HXE.out, if_pos (show Sh.kind (.mk 7 l hi ks m [kid]) = 7 from rfl)]; rfl)
      obtain ⟨_, _, b2, o2, rfl, hbb2, hcell2⟩ := HG2.out (by simp)
      obtain ⟨v0, v1, v2, v3, v4, v5, hr6, d0, d1, d2, d3, d4, d5⟩ := hcell2 0 (by simp)
      obtain ⟨f1, f2, f3, t4, t5, t6, f5, h4, h5, h6, hcs⟩ := Sh.form hr6
      simp only [List.cons.injEq, and_true] at hcs
      obtain ⟨rfl, rfl, rfl, rfl, rfl, rfl⟩ := hcs
      simp only [Nat.zero_mul, Nat.add_zero, List.getElem_cons_zero] at hr6 d0 d1 d2 d3 d4 d5
      have KH : Hid (∀ W, Below W0.heap.size W0 W → W.cell? ⟨b2, o2, none⟩ = some (.int .i64 f1) ∧ W.cell? ⟨b2, o2 + 1, none⟩ = some (.int .i64 f2) ∧ W.cell? ⟨b2, o2 + 2, none⟩ = some (.int .i64 f3) ∧ W.cell? ⟨b2, o2 + 3, none⟩ = some (.slice t4 t5 t6) ∧ W.cell? ⟨b2, o2 + 4, none⟩ = some (.int .i64 f5) ∧ W.cell? ⟨b2, o2 + 5, none⟩ = some (.slice h4 h5 h6)) := by
        intro W hW
        have hc := (bcell (below2 hA0 hW (Nat.le_refl _))).1
        exact ⟨by rw [hc _ _ hbb2]; exact d0, by rw [hc _ _ hbb2]; exact d1, by rw [hc _ _ hbb2]; exact d2, by rw [hc _ _ hbb2]; exact d3, by rw [hc _ _ hbb2]; exact d4, by rw [hc _ _ hbb2]; exact d5⟩
      clear d0 d1 d2 d3 d4 d5 hcell2
      have HR6 := Lib.hid hr6
      clear hr6
      go_loopw [8] (fun i wr => ∃ j : Nat, j ≤ kids.length ∧ i = .int .i64 j ∧ wrL (fun x => wrg N x kid) j (kids.drop j) = wrg (N + 1) x sh ∧ Below W0.heap.size W0 wr) (fun i _ => kids.length - (intOf i).toNat)
      case atStart => exact ⟨0, Nat.zero_le _, rfl, by rw [HW7.out]; rfl, hb1⟩
      case round =>
        obtain ⟨j, hj, rfl, htot, hbel⟩ := hrel
        have HTOT := Lib.hid htot; clear htot
        have i1 : (0 : Int) ≤ j := by omega
        obtain ⟨⟨p0, p1, p2, p3, p4⟩, q0, q1, q2, q3, q4, q5⟩ := KB.out _ hbel
        by_cases hlt : j < kids.length
        · have i2 : (j : Int) < kids.length := by omega
          obtain ⟨_, _, b, o, rfl, hbb, hcell⟩ := HG1.out (by intro e; rw [e] at hlt; simp at hlt)
          obtain ⟨v0, v1, v2, v3, v4, hr5, d0, d1, d2, d3, d4⟩ := hcell j hlt
          obtain ⟨y1, y2, y3, y4, g4, g5, g6, hcs⟩ := V.form hr5
          simp only [List.cons.injEq, and_true] at hcs
          obtain ⟨rfl, rfl, rfl, rfl, rfl⟩ := hcs
          have KV : Hid (∀ W, Below W0.heap.size W0 W → W.cell? ⟨b, o + j * 5, none⟩ = some (.int .i64 y1) ∧ W.cell? ⟨b, o + j * 5 + 1, none⟩ = some (.int .i64 y2) ∧ W.cell? ⟨b, o + j * 5 + 2, none⟩ = some (.int .i64 y3) ∧ W.cell? ⟨b, o + j * 5 + 3, none⟩ = some (.string ⟨y4.toArray⟩) ∧ W.cell? ⟨b, o + j * 5 + 4, none⟩ = some (.slice g4 g5 g6)) := by
            intro W hW
            have hc := (bcell (below2 hA0 hW (Nat.le_refl _))).1
            exact ⟨by rw [hc _ _ hbb]; exact d0, by rw [hc _ _ hbb]; exact d1, by rw [hc _ _ hbb]; exact d2, by rw [hc _ _ hbb]; exact d3, by rw [hc _ _ hbb]; exact d4⟩
          clear d0 d1 d2 d3 d4 hcell
          have hj2 : i64ok (j : Int) := by unfold i64ok; omega
          obtain ⟨tx, htx⟩ : ∃ tx, Lib.itoa (j : Int) = tx := ⟨_, rfl⟩
          have htl : tx.length ≤ 2000 := by rw [← htx]; have := Lib.itoa_length_le (j : Int) hj2.1 hj2.2; omega
          have HD := fun W => Lib.hid (decText_spec (j : Int) W hj2)
          rw [htx] at HD
          have HSTEP := fun W (hW : Below W0.heap.size W0 W) => Lib.hid (l09Step_any st vs tx W (HST.out _ hW) (by omega))
          have HC := fun W (hW : Below W0.heap.size W0 W) (vt : Value) (hvt : StrA W vt (st ++ [tx])) => Lib.hid (hWr kids[j] kid (st ++ [tx]) _ _ vt (d - 1) (d' - 1) W (by simp only [Sh.nodess] at hkn; omega) (hr5.below (below2 hA0 hW (Nat.le_refl _))) (HR6.out.below (below2 hA0 hW (Nat.le_refl _))) hvt (V.wfs_get hvw j hlt) hkw.1 (by have := V.bulk_in kids j hlt; omega) (by simp only [Sh.bulks] at hkb; omega) (hvr _ (List.getElem_mem hlt)) (hrk _ (by simp)) (by simp; omega) (by intro s hs; rcases List.mem_append.1 hs with h | h; exact hsl s h; rw [List.mem_singleton.1 h]; exact htl))
          have HSTP := Lib.hid (wrL_step (f := fun x => wrg N x kid) hlt)
          obtain ⟨ow, how⟩ : ∃ ow, wrg N kids[j] kid = ow := ⟨_, rfl⟩
          have HOW := Lib.hid how
          rw [how] at HC
          clear how
          have hE := hbel
          have HTX := Lib.hid htx; clear htx
          go_wp2_with fail
          clear p0 p1 p2 p3 p4 q0 q1 q2 q3 q4 q5
          cases ow with
          | some p =>
            have HF := Lib.hid (show r = .tuple #[.string ⟨(putPath (st ++ tx :: p)).toArray⟩, .bool true] by rw [← HRR.out, ← HTOT.out, HSTP.out, HOW.out, HTX.out]; rfl)
            have HF2 := Lib.hid (show wrOutS (st ++ [tx]) (some p) = .tuple #[.string ⟨(putPath (st ++ [tx] ++ p)).toArray⟩, .bool true] from rfl)
            rw [HF2.out] at HC
            go_region_held3 (fun W => ((W.cell? ⟨w.heap.size, 0, none⟩ = some (.int .i64 k) ∧ W.cell? ⟨w.heap.size, 1, none⟩ = some (.int .i64 n) ∧ W.cell? ⟨w.heap.size, 2, none⟩ = some (.int .i64 e) ∧ W.cell? ⟨w.heap.size, 3, none⟩ = some (.string ⟨s0.toArray⟩) ∧ W.cell? ⟨w.heap.size, 4, none⟩ = some (.slice (some ⟨b, o, none⟩) kids.length c1)) ∧ (W.cell? ⟨w.heap.size + 1, 0, none⟩ = some (.int .i64 7) ∧ W.cell? ⟨w.heap.size + 1, 1, none⟩ = some (.int .i64 l) ∧ W.cell? ⟨w.heap.size + 1, 2, none⟩ = some (.int .i64 hi) ∧ W.cell? ⟨w.heap.size + 1, 3, none⟩ = some (.slice a4 ks.length c4) ∧ W.cell? ⟨w.heap.size + 1, 4, none⟩ = some (.int .i64 m) ∧ W.cell? ⟨w.heap.size + 1, 5, none⟩ = some (.slice (some ⟨b2, o2, none⟩) 1 c6))) ∧ (W.cell? ⟨b, o + j * 5, none⟩ = some (.int .i64 y1) ∧ W.cell? ⟨b, o + j * 5 + 1, none⟩ = some (.int .i64 y2) ∧ W.cell? ⟨b, o + j * 5 + 2, none⟩ = some (.int .i64 y3) ∧ W.cell? ⟨b, o + j * 5 + 3, none⟩ = some (.string ⟨y4.toArray⟩) ∧ W.cell? ⟨b, o + j * 5 + 4, none⟩ = some (.slice g4 g5 g6)) ∧ (W.cell? ⟨b2, o2, none⟩ = some (.int .i64 f1) ∧ W.cell? ⟨b2, o2 + 1, none⟩ = some (.int .i64 f2) ∧ W.cell? ⟨b2, o2 + 2, none⟩ = some (.int .i64 f3) ∧ W.cell? ⟨b2, o2 + 3, none⟩ = some (.slice t4 t5 t6) ∧ W.cell? ⟨b2, o2 + 4, none⟩ = some (.int .i64 f5) ∧ W.cell? ⟨b2, o2 + 5, none⟩ = some (.slice h4 h5 h6)))
              (first | exact ⟨KB.out _ hE, KV.out _ hE, KH.out _ hE⟩ | exact ⟨KB.out _ hE.drew, KV.out _ hE.drew, KH.out _ hE.drew⟩)
              (first | (go_at_call 35; with_reducible refine (HD _).out.mono ?_; rintro e1 w2 ⟨rfl, hb2⟩; replace hE := HB0.out _ _ (by first | exact hE | exact hE.drew) hb2) | (go_at_call 34; with_reducible refine (HSTEP _ (by first | exact hE | exact hE.drew)).out.mono ?_; rintro e1 w2 ⟨vt, rfl, hb2, hvt⟩; replace hE := HB0.out _ _ (by first | exact hE | exact hE.drew) hb2) | (go_at_call 17; with_reducible refine (HC _ (by first | exact hE | exact hE.drew) _ (by first | exact hvt | exact hvt.below (Below.refl _ _).drew)).out.mono ?_; rintro e1 w3 ⟨rfl, hb3⟩; replace hE := HB0.out _ _ (by first | exact hE | exact hE.drew) hb3))
            all_goals
              go_wp2
              go_ret2
              exact ⟨congrArg Ending.returned HF.out.symm, below2 hA0 hE (Nat.le_refl _)⟩
          | none =>
            have HT := Lib.hid (show wrL (fun x => wrg N x kid) (j + 1) (kids.drop (j + 1)) = wrg (N + 1) x sh by rw [← HTOT.out, HSTP.out, HOW.out])
            have HF2 := Lib.hid (show wrOutS (st ++ [tx]) none = .tuple #[.string ⟨#[]⟩, .bool false] from rfl)
            rw [HF2.out] at HC
            go_region_held3 (fun W => ((W.cell? ⟨w.heap.size, 0, none⟩ = some (.int .i64 k) ∧ W.cell? ⟨w.heap.size, 1, none⟩ = some (.int .i64 n) ∧ W.cell? ⟨w.heap.size, 2, none⟩ = some (.int .i64 e) ∧ W.cell? ⟨w.heap.size, 3, none⟩ = some (.string ⟨s0.toArray⟩) ∧ W.cell? ⟨w.heap.size, 4, none⟩ = some (.slice (some ⟨b, o, none⟩) kids.length c1)) ∧ (W.cell? ⟨w.heap.size + 1, 0, none⟩ = some (.int .i64 7) ∧ W.cell? ⟨w.heap.size + 1, 1, none⟩ = some (.int .i64 l) ∧ W.cell? ⟨w.heap.size + 1, 2, none⟩ = some (.int .i64 hi) ∧ W.cell? ⟨w.heap.size + 1, 3, none⟩ = some (.slice a4 ks.length c4) ∧ W.cell? ⟨w.heap.size + 1, 4, none⟩ = some (.int .i64 m) ∧ W.cell? ⟨w.heap.size + 1, 5, none⟩ = some (.slice (some ⟨b2, o2, none⟩) 1 c6))) ∧ (W.cell? ⟨b, o + j * 5, none⟩ = some (.int .i64 y1) ∧ W.cell? ⟨b, o + j * 5 + 1, none⟩ = some (.int .i64 y2) ∧ W.cell? ⟨b, o + j * 5 + 2, none⟩ = some (.int .i64 y3) ∧ W.cell? ⟨b, o + j * 5 + 3, none⟩ = some (.string ⟨y4.toArray⟩) ∧ W.cell? ⟨b, o + j * 5 + 4, none⟩ = some (.slice g4 g5 g6)) ∧ (W.cell? ⟨b2, o2, none⟩ = some (.int .i64 f1) ∧ W.cell? ⟨b2, o2 + 1, none⟩ = some (.int .i64 f2) ∧ W.cell? ⟨b2, o2 + 2, none⟩ = some (.int .i64 f3) ∧ W.cell? ⟨b2, o2 + 3, none⟩ = some (.slice t4 t5 t6) ∧ W.cell? ⟨b2, o2 + 4, none⟩ = some (.int .i64 f5) ∧ W.cell? ⟨b2, o2 + 5, none⟩ = some (.slice h4 h5 h6)))
              (first | exact ⟨KB.out _ hE, KV.out _ hE, KH.out _ hE⟩ | exact ⟨KB.out _ hE.drew, KV.out _ hE.drew, KH.out _ hE.drew⟩)
              (first | (go_at_call 35; with_reducible refine (HD _).out.mono ?_; rintro e1 w2 ⟨rfl, hb2⟩; replace hE := HB0.out _ _ (by first | exact hE | exact hE.drew) hb2) | (go_at_call 34; with_reducible refine (HSTEP _ (by first | exact hE | exact hE.drew)).out.mono ?_; rintro e1 w2 ⟨vt, rfl, hb2, hvt⟩; replace hE := HB0.out _ _ (by first | exact hE | exact hE.drew) hb2) | (go_at_call 17; with_reducible refine (HC _ (by first | exact hE | exact hE.drew) _ (by first | exact hvt | exact hvt.below (Below.refl _ _).drew)).out.mono ?_; rintro e1 w3 ⟨rfl, hb3⟩; replace hE := HB0.out _ _ (by first | exact hE | exact hE.drew) hb3))
            all_goals
              go_wp2
              go_roundw
              case rel => exact ⟨j + 1, by omega, by go_num, HT.out, hE⟩
              case measure => simp [intOf]; omega
        · obtain rfl : j = kids.length := by omega
          have HF := Lib.hid (show r = .tuple #[.string ⟨#[]⟩, .bool false] by rw [← HRR.out, ← HTOT.out, List.drop_length]; rfl)
          have i2 : ¬ ((kids.length : Int) < kids.length) := by omega
          go_wp2
          go_loopw [11] (fun i wr => i = .int .i64 0 ∧ Below W0.heap.size W0 wr) (fun _ _ => 0)
          case atStart => exact ⟨rfl, hbel⟩
          case round =>
            obtain ⟨rfl, hbel2⟩ := hrel
            obtain ⟨⟨p0, p1, p2, p3, p4⟩, q0, q1, q2, q3, q4, q5⟩ := KB.out _ hbel2
            go_wp2
            all_goals
              go_ret2
              exact ⟨congrArg Ending.returned HF.out.symm, below2 hA0 hbel2 (Nat.le_refl _)⟩
    by_cases hk8 : k' = 8
    · subst hk8
      have HW8 := Lib.hid (show wrg (N + 1) x sh = wrM (fun s y => wrg N y (hkids.getD (ixF ks s 0).toNat shNil)) kids by rw [HY.out, HSE.out, HXE.out, if_neg (show ¬ Sh.kind (.mk 8 l hi ks m hkids) = 7 by simp [Sh.kind]), if_pos (show Sh.kind (.mk 8 l hi ks m hkids) = 8 from rfl)]; rfl)
      have hkl : hkids.length = ks.length := (sh_self8 HSELF.out).2.1
      have HKEY : Hid (∀ j (h : 2 * j < kids.length), 2 * j + 1 < kids.length ∧ (kids[2 * j]).text ∈ ks) := by
        intro j h
        have h8 := HHB.out (by rw [HSE.out]; rfl)
        have := heldB_key (x := x) (h := sh) (by rw [HSE.out]; rfl) h8 j (by rw [HXE.out]; exact h)
        simp only [HXE.out, HSE.out, V.kids, Sh.keys] at this
        exact ⟨this.1, this.2.2⟩
      go_loopw [8] (fun i wr => i = .int .i64 0 ∧ Below W0.heap.size W0 wr) (fun _ _ => 0)
      case atStart => exact ⟨rfl, hb1⟩
      case round =>
        obtain ⟨rfl, hbelA⟩ := hrel
        obtain ⟨⟨p0, p1, p2, p3, p4⟩, q0, q1, q2, q3, q4, q5⟩ := KB.out _ hbelA
        by_cases hlt0 : (0 : Int) < kids.length
        · go_wp2
          go_loopw [11] (fun i wr => ∃ j : Nat, 2 * j ≤ kids.length ∧ i = .int .i64 ((2 * j : Nat) : Int) ∧ wrM (fun s y => wrg N y (hkids.getD (ixF ks s 0).toNat shNil)) (kids.drop (2 * j)) = wrg (N + 1) x sh ∧ Below W0.heap.size W0 wr) (fun i _ => kids.length - (intOf i).toNat)
          case atStart => exact ⟨0, Nat.zero_le _, rfl, by rw [HW8.out]; rfl, hbelA⟩
          case round =>
            obtain ⟨j, hj, rfl, htot, hbel⟩ := hrel
            have HTOT := Lib.hid htot; clear htot
            have i1 : (0 : Int) ≤ ((2 * j : Nat) : Int) := by omega
            obtain ⟨⟨p0, p1, p2, p3, p4⟩, q0, q1, q2, q3, q4, q5⟩ := KB.out _ hbel
            by_cases hlt : 2 * j < kids.length
            · obtain ⟨hlt2, hkin⟩ := HKEY.out j hlt
              have i2 : ((2 * j : Nat) : Int) < kids.length := by omega
              have i3 : ((2 * j : Nat) : Int) + 1 < kids.length := by omega
              have i4 : (0 : Int) ≤ ((2 * j : Nat) : Int) + 1 := by omega
              have i5 : IntKind.i64.wrap (((2 * j : Nat) : Int) + 1) = ((2 * j : Nat) : Int) + 1 := IntWalk.i64_in _ (by omega)
              have j3 : 2 * (j : Int) + 1 < kids.length := by omega
              have j4 : (0 : Int) ≤ 2 * (j : Int) + 1 := by omega
              have j5 : IntKind.i64.wrap (2 * (j : Int) + 1) = 2 * (j : Int) + 1 := IntWalk.i64_in _ (by omega)
              have j6 : (2 * (j : Int) + 1).toNat = 2 * j + 1 := by omega
              have i6 : (((2 * j : Nat) : Int) + 1).toNat = 2 * j + 1 := by omega
              have i7 : IntKind.i64.wrap (((2 * j : Nat) : Int) + 2) = ((2 * (j + 1) : Nat) : Int) := by rw [IntWalk.i64_in _ (by omega)]; omega
              obtain ⟨_, _, b, o, rfl, hbb, hcell⟩ := HG1.out (by intro e; rw [e] at hlt; simp at hlt)
              obtain ⟨z0, z1, z2, z3, z4, hrk5, e0, e1, e2, e3, e4⟩ := hcell (2 * j) hlt
              obtain ⟨_, _, _, ky, _, _, _, hkcs⟩ := V.form hrk5
              simp only [List.cons.injEq, and_true] at hkcs
              obtain ⟨_, _, _, rfl, _⟩ := hkcs
              obtain rfl : ky = (kids[2 * j]).text := by
                obtain ⟨_, _, _, s4', _, _, hxk, hcs', _⟩ := V.lay hrk5
                simp only [List.cons.injEq, and_true, Value.string.injEq] at hcs'
                have h4 := hcs'.2.2.2.1
                rw [hxk]; simp only [V.text]; simpa using h4
              clear hrk5 e0 e1 e2 e4
              obtain ⟨ky, hky⟩ : ∃ ky, (kids[2 * j]).text = ky := ⟨_, rfl⟩
              have HKY := Lib.hid hky
              rw [hky] at hkin e3
              clear hky
              obtain ⟨v0, v1, v2, v3, v4, hr5, d0, d1, d2, d3, d4⟩ := hcell (2 * j + 1) hlt2
              obtain ⟨y1, y2, y3, y4, g4, g5, g6, hcs⟩ := V.form hr5
              simp only [List.cons.injEq, and_true] at hcs
              obtain ⟨rfl, rfl, rfl, rfl, rfl⟩ := hcs
              obtain ⟨t, htk, htl⟩ : ∃ t : Nat, ixF ks ky 0 = (t : Int) ∧ t < ks.length := by
                have h1 := (ixF_mem ks ky 0).2 hkin
                rcases ixF_bd ks ky 0 with h2 | ⟨h2, h3⟩
                · omega
                · exact ⟨(ixF ks ky 0).toNat, by omega, by omega⟩
              have htl2 : t < hkids.length := by omega
              have t1 : (0 : Int) ≤ t := by omega
              have t2 : (t : Int) < hkids.length := by omega
              obtain ⟨_, _, b2, o2, rfl, hbb2, hcell2⟩ := HG2.out (by intro e; rw [e] at htl2; simp at htl2)
              obtain ⟨w0, w1', w2', w3', w4', w5', hr6, c0, c1, c2, c3, c4, c5⟩ := hcell2 t htl2
              obtain ⟨f1, f2, f3, t4, t5, t6, f5, h4, h5, h6, hcs⟩ := Sh.form hr6
              simp only [List.cons.injEq, and_true] at hcs
              obtain ⟨rfl, rfl, rfl, rfl, rfl, rfl⟩ := hcs
              have KV : Hid (∀ W, Below W0.heap.size W0 W → W.cell? ⟨b, o + 2 * j * 5 + 3, none⟩ = some (.string ⟨ky.toArray⟩) ∧ (W.cell? ⟨b, o + (2 * j + 1) * 5, none⟩ = some (.int .i64 y1) ∧ W.cell? ⟨b, o + (2 * j + 1) * 5 + 1, none⟩ = some (.int .i64 y2) ∧ W.cell? ⟨b, o + (2 * j + 1) * 5 + 2, none⟩ = some (.int .i64 y3) ∧ W.cell? ⟨b, o + (2 * j + 1) * 5 + 3, none⟩ = some (.string ⟨y4.toArray⟩) ∧ W.cell? ⟨b, o + (2 * j + 1) * 5 + 4, none⟩ = some (.slice g4 g5 g6)) ∧ (W.cell? ⟨b2, o2 + t * 6, none⟩ = some (.int .i64 f1) ∧ W.cell? ⟨b2, o2 + t * 6 + 1, none⟩ = some (.int .i64 f2) ∧ W.cell? ⟨b2, o2 + t * 6 + 2, none⟩ = some (.int .i64 f3) ∧ W.cell? ⟨b2, o2 + t * 6 + 3, none⟩ = some (.slice t4 t5 t6) ∧ W.cell? ⟨b2, o2 + t * 6 + 4, none⟩ = some (.int .i64 f5) ∧ W.cell? ⟨b2, o2 + t * 6 + 5, none⟩ = some (.slice h4 h5 h6))) := by
                intro W hW
                have hc := (bcell (below2 hA0 hW (Nat.le_refl _))).1
                exact ⟨by rw [hc _ _ hbb]; exact e3, ⟨by rw [hc _ _ hbb]; exact d0, by rw [hc _ _ hbb]; exact d1, by rw [hc _ _ hbb]; exact d2, by rw [hc _ _ hbb]; exact d3, by rw [hc _ _ hbb]; exact d4⟩, by rw [hc _ _ hbb2]; exact c0, by rw [hc _ _ hbb2]; exact c1, by rw [hc _ _ hbb2]; exact c2, by rw [hc _ _ hbb2]; exact c3, by rw [hc _ _ hbb2]; exact c4, by rw [hc _ _ hbb2]; exact c5⟩
              clear d0 d1 d2 d3 d4 e3 c0 c1 c2 c3 c4 c5 hcell hcell2
              have hkyl : ky.length ≤ 2000 := by
                have := (sh_self8 HSELF.out).1
                simp only [keysOk, Bool.and_eq_true, List.all_eq_true] at this
                have := this.1 ky hkin
                unfold keyOk at this; simp only [Bool.and_eq_true, decide_eq_true_eq] at this; omega
              have HAT := fun W (hW : Below W0.heap.size W0 W) => Lib.hid (l11At_any ks _ ky W (HKS.out _ hW) (by omega))
              rw [htk] at HAT
              have HSTEP := fun W (hW : Below W0.heap.size W0 W) => Lib.hid (l09Step_any st vs ky W (HST.out _ hW) (by omega))
              have HC := fun W (hW : Below W0.heap.size W0 W) (vt : Value) (hvt : StrA W vt (st ++ [ky])) => Lib.hid (hWr kids[2 * j + 1] hkids[t] (st ++ [ky]) _ _ vt (d - 1) (d' - 1) W (Nat.le_trans (Sh.nodes_get hkids t htl2) hkn) (hr5.below (below2 hA0 hW (Nat.le_refl _))) (hr6.below (below2 hA0 hW (Nat.le_refl _))) hvt (V.wfs_get hvw _ hlt2) (Sh.wfs_get hkw _ htl2) (by have := V.bulk_in kids _ hlt2; omega) (by have := Sh.bulk_in hkids t htl2; omega) (hvr _ (List.getElem_mem hlt2)) (hrk _ (List.getElem_mem htl2)) (by simp; omega) (by intro s hs; rcases List.mem_append.1 hs with h | h; exact hsl s h; rw [List.mem_singleton.1 h]; exact hkyl))
              have HSTP := Lib.hid (wrM_step (f := fun s y => wrg N y (hkids.getD (ixF ks s 0).toNat shNil)) hlt2)
              obtain ⟨ow, how⟩ : ∃ ow, wrg N kids[2 * j + 1] hkids[t] = ow := ⟨_, rfl⟩
              have HGD := Lib.hid (show wrg N kids[2 * j + 1] (hkids.getD (ixF ks (kids[2 * j]).text 0).toNat shNil) = ow by rw [HKY.out, htk, ← how]; simp [List.getD, List.getElem?_eq_getElem htl2])
              rw [how] at HC
              clear how htk hkin
              have hE := hbel
              have e3 := (KV.out _ hbel).1
              go_wp2_with fail
              clear e3
              clear p0 p1 p2 p3 p4 q0 q1 q2 q3 q4 q5
              cases ow with
              | some p =>
                have HF := Lib.hid (show r = .tuple #[.string ⟨(putPath (st ++ ky :: p)).toArray⟩, .bool true] by rw [← HRR.out, ← HTOT.out, HSTP.out, HGD.out, HKY.out]; rfl)
                have HF2 := Lib.hid (show wrOutS (st ++ [ky]) (some p) = .tuple #[.string ⟨(putPath (st ++ [ky] ++ p)).toArray⟩, .bool true] from rfl)
                rw [HF2.out] at HC
                go_region_held3 (fun W => ((W.cell? ⟨w.heap.size, 0, none⟩ = some (.int .i64 k) ∧ W.cell? ⟨w.heap.size, 1, none⟩ = some (.int .i64 n) ∧ W.cell? ⟨w.heap.size, 2, none⟩ = some (.int .i64 e) ∧ W.cell? ⟨w.heap.size, 3, none⟩ = some (.string ⟨s0.toArray⟩) ∧ W.cell? ⟨w.heap.size, 4, none⟩ = some (.slice (some ⟨b, o, none⟩) kids.length c1)) ∧ (W.cell? ⟨w.heap.size + 1, 0, none⟩ = some (.int .i64 8) ∧ W.cell? ⟨w.heap.size + 1, 1, none⟩ = some (.int .i64 l) ∧ W.cell? ⟨w.heap.size + 1, 2, none⟩ = some (.int .i64 hi) ∧ W.cell? ⟨w.heap.size + 1, 3, none⟩ = some (.slice a4 ks.length c4) ∧ W.cell? ⟨w.heap.size + 1, 4, none⟩ = some (.int .i64 m) ∧ W.cell? ⟨w.heap.size + 1, 5, none⟩ = some (.slice (some ⟨b2, o2, none⟩) hkids.length c6))) ∧ (W.cell? ⟨b, o + 2 * j * 5 + 3, none⟩ = some (.string ⟨ky.toArray⟩) ∧ (W.cell? ⟨b, o + (2 * j + 1) * 5, none⟩ = some (.int .i64 y1) ∧ W.cell? ⟨b, o + (2 * j + 1) * 5 + 1, none⟩ = some (.int .i64 y2) ∧ W.cell? ⟨b, o + (2 * j + 1) * 5 + 2, none⟩ = some (.int .i64 y3) ∧ W.cell? ⟨b, o + (2 * j + 1) * 5 + 3, none⟩ = some (.string ⟨y4.toArray⟩) ∧ W.cell? ⟨b, o + (2 * j + 1) * 5 + 4, none⟩ = some (.slice g4 g5 g6)) ∧ (W.cell? ⟨b2, o2 + t * 6, none⟩ = some (.int .i64 f1) ∧ W.cell? ⟨b2, o2 + t * 6 + 1, none⟩ = some (.int .i64 f2) ∧ W.cell? ⟨b2, o2 + t * 6 + 2, none⟩ = some (.int .i64 f3) ∧ W.cell? ⟨b2, o2 + t * 6 + 3, none⟩ = some (.slice t4 t5 t6) ∧ W.cell? ⟨b2, o2 + t * 6 + 4, none⟩ = some (.int .i64 f5) ∧ W.cell? ⟨b2, o2 + t * 6 + 5, none⟩ = some (.slice h4 h5 h6))))
                  (first | exact ⟨KB.out _ hE, KV.out _ hE⟩ | exact ⟨KB.out _ hE.drew, KV.out _ hE.drew⟩)
                  (first | (go_at_call 36; with_reducible refine (HAT _ (by first | exact hE | exact hE.drew)).out.mono ?_; rintro e1 w2 ⟨rfl, hb2⟩; replace hE := HB0.out _ _ (by first | exact hE | exact hE.drew) hb2) | (go_at_call 34; with_reducible refine (HSTEP _ (by first | exact hE | exact hE.drew)).out.mono ?_; rintro e1 w2 ⟨vt, rfl, hb2, hvt⟩; replace hE := HB0.out _ _ (by first | exact hE | exact hE.drew) hb2) | (go_at_call 17; with_reducible refine (HC _ (by first | exact hE | exact hE.drew) _ (by first | exact hvt | exact hvt.below (Below.refl _ _).drew)).out.mono ?_; rintro e1 w3 ⟨rfl, hb3⟩; replace hE := HB0.out _ _ (by first | exact hE | exact hE.drew) hb3))
                all_goals
                  go_wp2
                  go_ret2
                  exact ⟨congrArg Ending.returned HF.out.symm, below2 hA0 hE (Nat.le_refl _)⟩
              | none =>
                have HT := Lib.hid (show wrM (fun s y => wrg N y (hkids.getD (ixF ks s 0).toNat shNil)) (kids.drop (2 * (j + 1))) = wrg (N + 1) x sh by rw [← HTOT.out, HSTP.out, HGD.out])
                have HF2 := Lib.hid (show wrOutS (st ++ [ky]) none = .tuple #[.string ⟨#[]⟩, .bool false] from rfl)
                rw [HF2.out] at HC
                go_region_held3 (fun W => ((W.cell? ⟨w.heap.size, 0, none⟩ = some (.int .i64 k) ∧ W.cell? ⟨w.heap.size, 1, none⟩ = some (.int .i64 n) ∧ W.cell? ⟨w.heap.size, 2, none⟩ = some (.int .i64 e) ∧ W.cell? ⟨w.heap.size, 3, none⟩ = some (.string ⟨s0.toArray⟩) ∧ W.cell? ⟨w.heap.size, 4, none⟩ = some (.slice (some ⟨b, o, none⟩) kids.length c1)) ∧ (W.cell? ⟨w.heap.size + 1, 0, none⟩ = some (.int .i64 8) ∧ W.cell? ⟨w.heap.size + 1, 1, none⟩ = some (.int .i64 l) ∧ W.cell? ⟨w.heap.size + 1, 2, none⟩ = some (.int .i64 hi) ∧ W.cell? ⟨w.heap.size + 1, 3, none⟩ = some (.slice a4 ks.length c4) ∧ W.cell? ⟨w.heap.size + 1, 4, none⟩ = some (.int .i64 m) ∧ W.cell? ⟨w.heap.size + 1, 5, none⟩ = some (.slice (some ⟨b2, o2, none⟩) hkids.length c6))) ∧ (W.cell? ⟨b, o + 2 * j * 5 + 3, none⟩ = some (.string ⟨ky.toArray⟩) ∧ (W.cell? ⟨b, o + (2 * j + 1) * 5, none⟩ = some (.int .i64 y1) ∧ W.cell? ⟨b, o + (2 * j + 1) * 5 + 1, none⟩ = some (.int .i64 y2) ∧ W.cell? ⟨b, o + (2 * j + 1) * 5 + 2, none⟩ = some (.int .i64 y3) ∧ W.cell? ⟨b, o + (2 * j + 1) * 5 + 3, none⟩ = some (.string ⟨y4.toArray⟩) ∧ W.cell? ⟨b, o + (2 * j + 1) * 5 + 4, none⟩ = some (.slice g4 g5 g6)) ∧ (W.cell? ⟨b2, o2 + t * 6, none⟩ = some (.int .i64 f1) ∧ W.cell? ⟨b2, o2 + t * 6 + 1, none⟩ = some (.int .i64 f2) ∧ W.cell? ⟨b2, o2 + t * 6 + 2, none⟩ = some (.int .i64 f3) ∧ W.cell? ⟨b2, o2 + t * 6 + 3, none⟩ = some (.slice t4 t5 t6) ∧ W.cell? ⟨b2, o2 + t * 6 + 4, none⟩ = some (.int .i64 f5) ∧ W.cell? ⟨b2, o2 + t * 6 + 5, none⟩ = some (.slice h4 h5 h6))))
                  (first | exact ⟨KB.out _ hE, KV.out _ hE⟩ | exact ⟨KB.out _ hE.drew, KV.out _ hE.drew⟩)
                  (first | (go_at_call 36; with_reducible refine (HAT _ (by first | exact hE | exact hE.drew)).out.mono ?_; rintro e1 w2 ⟨rfl, hb2⟩; replace hE := HB0.out _ _ (by first | exact hE | exact hE.drew) hb2) | (go_at_call 34; with_reducible refine (HSTEP _ (by first | exact hE | exact hE.drew)).out.mono ?_; rintro e1 w2 ⟨vt, rfl, hb2, hvt⟩; replace hE := HB0.out _ _ (by first | exact hE | exact hE.drew) hb2) | (go_at_call 17; with_reducible refine (HC _ (by first | exact hE | exact hE.drew) _ (by first | exact hvt | exact hvt.below (Below.refl _ _).drew)).out.mono ?_; rintro e1 w3 ⟨rfl, hb3⟩; replace hE := HB0.out _ _ (by first | exact hE | exact hE.drew) hb3))
                all_goals
                  go_wp2
                  go_roundw
                  case rel => exact ⟨j + 1, by omega, by first | rfl | go_num, HT.out, hE⟩
                  case measure => simp [intOf]; omega
            · have hje : 2 * j = kids.length := by omega
              have HF := Lib.hid (show r = .tuple #[.string ⟨#[]⟩, .bool false] by rw [← HRR.out, ← HTOT.out, hje, List.drop_length]; rfl)
              have i2 : ¬ (((2 * j : Nat) : Int) < kids.length) := by omega
              clear hje
              go_wp2
              go_ret2
              exact ⟨congrArg Ending.returned HF.out.symm, below2 hA0 hbel (Nat.le_refl _)⟩
        · have hk0 : kids = [] := by apply List.eq_nil_of_length_eq_zero; omega
          have HF := Lib.hid (show r = .tuple #[.string ⟨#[]⟩, .bool false] by rw [← HRR.out, HW8.out, hk0]; rfl)
          clear hk0
          go_wp2
          go_loopw [11] (fun i wr => i = .int .i64 0 ∧ Below W0.heap.size W0 wr) (fun _ _ => 0)
          case atStart => exact ⟨rfl, hbelA⟩
          case round =>
            obtain ⟨rfl, hbel2⟩ := hrel
            obtain ⟨⟨p0, p1, p2, p3, p4⟩, q0, q1, q2, q3, q4, q5⟩ := KB.out _ hbel2
            go_wp2
            all_goals
              go_ret2
              exact ⟨congrArg Ending.returned HF.out.symm, below2 hA0 hbel2 (Nat.le_refl _)⟩
    · have HF := Lib.hid (show r = .tuple #[.string ⟨#[]⟩, .bool false] by
        rw [← HRR.out, HY.out, HSE.out, if_neg (show ¬ Sh.kind (.mk k' l hi ks m hkids) = 7 from hk7), if_neg (show ¬ Sh.kind (.mk k' l hi ks m hkids) = 8 from hk8)]; rfl)
      have b7 : (k' == 7) = false := by simpa using hk7
      have b8 : (k' == 8) = false := by simpa using hk8
      clear hk7 hk8
      go_loopw [8] (fun i wr => i = .int .i64 0 ∧ Below W0.heap.size W0 wr) (fun _ _ => 0)
      case atStart => exact ⟨rfl, hb1⟩
      case round =>
        obtain ⟨rfl, hbel⟩ := hrel
        obtain ⟨⟨p0, p1, p2, p3, p4⟩, q0, q1, q2, q3, q4, q5⟩ := KB.out _ hbel
        by_cases hlt : (0 : Int) < kids.length
        · go_wp2
          go_loopw [11] (fun i wr => i = .int .i64 0 ∧ Below W0.heap.size W0 wr) (fun _ _ => 0)
          case atStart => exact ⟨rfl, hbel⟩
          case round =>
            obtain ⟨rfl, hbel2⟩ := hrel
            obtain ⟨⟨p0, p1, p2, p3, p4⟩, q0, q1, q2, q3, q4, q5⟩ := KB.out _ hbel2
            go_wp2
            all_goals
              go_ret2
              exact ⟨congrArg Ending.returned HF.out.symm, below2 hA0 hbel2 (Nat.le_refl _)⟩
        · go_wp2
          go_loopw [11] (fun i wr => i = .int .i64 0 ∧ Below W0.heap.size W0 wr) (fun _ _ => 0)
          case atStart => exact ⟨rfl, hbel⟩
          case round =>
            obtain ⟨rfl, hbel2⟩ := hrel
            obtain ⟨⟨p0, p1, p2, p3, p4⟩, q0, q1, q2, q3, q4, q5⟩ := KB.out _ hbel2
            go_wp2
            all_goals
              go_ret2
              exact ⟨congrArg Ending.returned HF.out.symm, below2 hA0 hbel2 (Nat.le_refl _)⟩
end Go.Proofs.YtkeieeogkeonfaaGreatDoor

/- What the reference's l15Wrong gives, at every fuel; right values and shapes. -/
namespace Go.Proofs.YtkeieeogkeonfaaGreatDoor
open Go.RowKit

theorem WrS_all : ∀ N, N ≤ 1000 → WrS N
  | 0, _ => fun x sh st cs ch vs d d' w hn => absurd sh.nodes_pos (by omega)
  | N + 1, h => WrS_of (WrS_all N (by omega)) h
theorem ok_right {x : V} (h : x.ok = true) : V.rightBy pairsOk 12 x = true := by
  unfold V.ok at h; simp only [Bool.and_eq_true] at h; exact h.1
theorem sh_ok_right {x : Sh} (h : x.ok = true) : Sh.right 8 x = true ∧ x.nodes ≤ 100 := by
  unfold Sh.ok at h; simp only [Bool.and_eq_true, decide_eq_true_eq] at h; exact h
end Go.Proofs.YtkeieeogkeonfaaGreatDoor
