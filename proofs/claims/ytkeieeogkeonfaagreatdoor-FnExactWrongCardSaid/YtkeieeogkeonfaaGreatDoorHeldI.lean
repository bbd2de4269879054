/- The closures of the program's isHeld, and slices.ContainsFunc with them. -/
import Derived.Test.YtkeieeogkeonfaaGreatDoorTexts
import Derived.Test.YtkeieeogkeonfaaGreatDoorShapeForm
import Derived.Test.YtkeieeogkeonfaaGreatDoorShapeTo
import Derived.Test.YtkeieeogkeonfaaGreatDoorPrefS0
import Derived.Deep.DeepCutAuto
namespace Go.Proofs.YtkeieeogkeonfaaGreatDoor
open Go.RowKit

theorem allIn_snoc {a b : List (List UInt8)} {j : Nat} (h : j < a.length) (hp : allIn (a.take j) b = true) : allIn (a.take (j + 1)) b = decide (a[j] ∈ b) := by
  unfold allIn at hp ⊢
  rw [List.take_succ_eq_append_getElem h, List.all_append, hp]; simp
theorem allIn_stop {a b : List (List UInt8)} {j : Nat} (h : j < a.length) (hn : a[j] ∉ b) : allIn a b = false := by
  cases ht : allIn a b with
  | false => rfl
  | true => unfold allIn at ht; rw [List.all_eq_true] at ht; exact absurd (of_decide_eq_true (ht _ (List.getElem_mem h))) hn

set_option maxHeartbeats 400000 in
theorem held1_any (s : List UInt8) (hks : List (List UInt8)) (v2 : Value) (g : Nat) (w : World) (hc : w.cell? ⟨g, 3, none⟩ = some v2) (h2 : StrRow w v2 hks) (hl : hks.length ≤ 4294967295) :
    Calls Tryz.prog 66 #[.string ⟨s.toArray⟩, .pointer (some ⟨g, 0, none⟩)] w fun e w' => e = .returned (.bool (!decide (s ∈ hks))) ∧ Below w.heap.size w w' := by
  have HC := Lib.hid (contains_any hks v2 s w h2 (by omega))
  obtain ⟨r, hr⟩ : ∃ r, decide (s ∈ hks) = r := ⟨_, rfl⟩
  rw [hr] at HC ⊢
  clear hr h2
  go_enter Tryz.func66, Tryz.ntmps66
  go_wp2_with (go_at_call 67; refine HC.out.mono ?_; rintro e1 w1 ⟨rfl, hb1⟩)
  go_ret
  exact ⟨rfl, hb1⟩
set_option maxHeartbeats 800000 in
set_option maxRecDepth 10000 in
theorem heldIx1_any (ls hks : List (List UInt8)) (va v2 : Value) (g : Nat) (w : World) (h : StrRow w va ls) (hc : w.cell? ⟨g, 3, none⟩ = some v2) (h2 : StrRow w v2 hks) (hll : ls.length ≤ 4294967295) (hl : hks.length ≤ 4294967295) :
    Calls Tryz.prog 88 #[va, .func (.func 66) #[] #[.pointer (some ⟨g, 0, none⟩)]] w fun e w' => (∃ r : Int, e = .returned (.int .i64 r) ∧ decide (0 ≤ r) = !allIn ls hks) ∧ Below w.heap.size w w' := by
  obtain ⟨a, c, rfl, hg⟩ := h
  have hgs : g < w.heap.size := cell_lt hc
  obtain ⟨ok, hok⟩ : ∃ ok, allIn ls hks = ok := ⟨_, rfl⟩
  rw [hok]
  have HOK := Lib.hid hok; clear hok
  have HH := fun s W (hW : Below w.heap.size w W) => Lib.hid (held1_any s hks v2 g W (by rw [(bcell hW).1 _ _ hgs]; exact hc) (h2.below hW) hl)
  clear hc h2
  go_enter Tryz.func88, Tryz.ntmps88
  go_wp2
  go_loopw [8] (fun i wr => ∃ (k : Nat), k ≤ ls.length ∧ i = .int .i64 k ∧ allIn (ls.take k) hks = true ∧ Below w.heap.size w wr) (fun i _ => ls.length - (intOf i).toNat)
  case atStart => exact ⟨0, Nat.zero_le _, rfl, rfl, Below.refl _ _⟩
  case round =>
    obtain ⟨k, hk, rfl, hgd, hbel⟩ := hrel
    have HGD := Lib.hid hgd; clear hgd
    by_cases hlt : k < ls.length
    · obtain ⟨b, o, rfl, hcell⟩ := hg (by intro e; rw [e] at hlt; simp at hlt)
      have hd := hcell k hlt
      have hbb := cell_lt hd
      rw [← (bcell hbel).1 _ _ hbb] at hd
      have hi1 : (0 : Int) ≤ k := by omega
      have hi3 : (k : Int) < ls.length := by omega
      have HSN := Lib.hid (allIn_snoc hlt HGD.out)
      clear hcell hg
      by_cases hin : ls[k] ∈ hks
      · have HC := HH ls[k] _ hbel
        rw [decide_eq_true hin] at HC
        have HT := Lib.hid (show allIn (ls.take (k + 1)) hks = true by rw [HSN.out, decide_eq_true hin])
        clear hin
        go_wp2_with (go_at_call 66; refine HC.out.mono ?_; rintro e1 w1 ⟨rfl, hb1⟩)
        go_roundw
        case rel => exact ⟨k + 1, by omega, by go_num, HT.out, below2 hbel hb1 (Nat.le_refl _)⟩
        case measure => simp [intOf]; omega
      · have HC := HH ls[k] _ hbel
        rw [decide_eq_false hin] at HC
        have HF := Lib.hid (show ok = false by rw [← HOK.out]; exact allIn_stop hlt hin)
        clear hin
        go_wp2_with (go_at_call 66; refine HC.out.mono ?_; rintro e1 w1 ⟨rfl, hb1⟩)
        go_ret
        exact ⟨⟨_, rfl, by rw [HF.out]; simp⟩, below2 hbel hb1 (Nat.le_refl _)⟩
    · obtain rfl : k = ls.length := by omega
      have h1 := HGD.out
      rw [List.take_length] at h1
      have HF := Lib.hid (show ok = true by rw [← HOK.out]; exact h1)
      clear h1
      go_wp2
      go_ret
      exact ⟨⟨_, rfl, by rw [HF.out]; rfl⟩, hbel⟩
set_option maxHeartbeats 400000 in
theorem heldF1_any (ls hks : List (List UInt8)) (va v2 : Value) (g : Nat) (w : World) (h : StrRow w va ls) (hc : w.cell? ⟨g, 3, none⟩ = some v2) (h2 : StrRow w v2 hks) (hll : ls.length ≤ 4294967295) (hl : hks.length ≤ 4294967295) :
    Calls Tryz.prog 65 #[va, .func (.func 66) #[] #[.pointer (some ⟨g, 0, none⟩)]] w fun e w' => e = .returned (.bool (!allIn ls hks)) ∧ Below w.heap.size w w' := by
  have HC := Lib.hid (heldIx1_any ls hks va v2 g w h hc h2 hll hl)
  obtain ⟨ok, hok⟩ : ∃ ok, allIn ls hks = ok := ⟨_, rfl⟩
  rw [hok] at HC ⊢
  clear h hc h2 hok
  go_enter Tryz.func65, Tryz.ntmps65
  go_wp2_with (go_at_call 88; refine HC.out.mono ?_; rintro e1 w1 ⟨⟨r, rfl, hr⟩, hb1⟩; have HR := Lib.hid hr; clear hr)
  go_ret
  exact ⟨by rw [← HR.out]; rfl, hb1⟩

set_option maxHeartbeats 400000 in
theorem held2_any (s : List UInt8) (hks : List (List UInt8)) (v2 : Value) (g : Nat) (w : World) (hc : w.cell? ⟨g, 0, none⟩ = some v2) (h2 : StrRow w v2 hks) (hl : hks.length ≤ 4294967295) :
    Calls Tryz.prog 68 #[.string ⟨s.toArray⟩, .pointer (some ⟨g, 0, none⟩)] w fun e w' => e = .returned (.bool (!decide (s ∈ hks))) ∧ Below w.heap.size w w' := by
  have HC := Lib.hid (contains_any hks v2 s w h2 (by omega))
  obtain ⟨r, hr⟩ : ∃ r, decide (s ∈ hks) = r := ⟨_, rfl⟩
  rw [hr] at HC ⊢
  clear hr h2
  go_enter Tryz.func68, Tryz.ntmps68
  go_wp2_with (go_at_call 67; refine HC.out.mono ?_; rintro e1 w1 ⟨rfl, hb1⟩)
  go_ret
  exact ⟨rfl, hb1⟩
set_option maxHeartbeats 800000 in
set_option maxRecDepth 10000 in
theorem heldIx2_any (ls hks : List (List UInt8)) (va v2 : Value) (g : Nat) (w : World) (h : StrRow w va ls) (hc : w.cell? ⟨g, 0, none⟩ = some v2) (h2 : StrRow w v2 hks) (hll : ls.length ≤ 4294967295) (hl : hks.length ≤ 4294967295) :
    Calls Tryz.prog 88 #[va, .func (.func 68) #[] #[.pointer (some ⟨g, 0, none⟩)]] w fun e w' => (∃ r : Int, e = .returned (.int .i64 r) ∧ decide (0 ≤ r) = !allIn ls hks) ∧ Below w.heap.size w w' := by
  obtain ⟨a, c, rfl, hg⟩ := h
  have hgs : g < w.heap.size := cell_lt hc
  obtain ⟨ok, hok⟩ : ∃ ok, allIn ls hks = ok := ⟨_, rfl⟩
  rw [hok]
  have HOK := Lib.hid hok; clear hok
  have HH := fun s W (hW : Below w.heap.size w W) => Lib.hid (held2_any s hks v2 g W (by rw [(bcell hW).1 _ _ hgs]; exact hc) (h2.below hW) hl)
  clear hc h2
  go_enter Tryz.func88, Tryz.ntmps88
  go_wp2
  go_loopw [8] (fun i wr => ∃ (k : Nat), k ≤ ls.length ∧ i = .int .i64 k ∧ allIn (ls.take k) hks = true ∧ Below w.heap.size w wr) (fun i _ => ls.length - (intOf i).toNat)
  case atStart => exact ⟨0, Nat.zero_le _, rfl, rfl, Below.refl _ _⟩
  case round =>
    obtain ⟨k, hk, rfl, hgd, hbel⟩ := hrel
    have HGD := Lib.hid hgd; clear hgd
    by_cases hlt : k < ls.length
    · obtain ⟨b, o, rfl, hcell⟩ := hg (by intro e; rw [e] at hlt; simp at hlt)
      have hd := hcell k hlt
      have hbb := cell_lt hd
      rw [← (bcell hbel).1 _ _ hbb] at hd
      have hi1 : (0 : Int) ≤ k := by omega
      have hi3 : (k : Int) < ls.length := by omega
      have HSN := Lib.hid (allIn_snoc hlt HGD.out)
      clear hcell hg
      by_cases hin : ls[k] ∈ hks
      · have HC := HH ls[k] _ hbel
        rw [decide_eq_true hin] at HC
        have HT := Lib.hid (show allIn (ls.take (k + 1)) hks = true by rw [HSN.out, decide_eq_true hin])
        clear hin
        go_wp2_with (go_at_call 68; refine HC.out.mono ?_; rintro e1 w1 ⟨rfl, hb1⟩)
        go_roundw
        case rel => exact ⟨k + 1, by omega, by go_num, HT.out, below2 hbel hb1 (Nat.le_refl _)⟩
        case measure => simp [intOf]; omega
      · have HC := HH ls[k] _ hbel
        rw [decide_eq_false hin] at HC
        have HF := Lib.hid (show ok = false by rw [← HOK.out]; exact allIn_stop hlt hin)
        clear hin
        go_wp2_with (go_at_call 68; refine HC.out.mono ?_; rintro e1 w1 ⟨rfl, hb1⟩)
        go_ret
        exact ⟨⟨_, rfl, by rw [HF.out]; simp⟩, below2 hbel hb1 (Nat.le_refl _)⟩
    · obtain rfl : k = ls.length := by omega
      have h1 := HGD.out
      rw [List.take_length] at h1
      have HF := Lib.hid (show ok = true by rw [← HOK.out]; exact h1)
      clear h1
      go_wp2
      go_ret
      exact ⟨⟨_, rfl, by rw [HF.out]; rfl⟩, hbel⟩
set_option maxHeartbeats 400000 in
theorem heldF2_any (ls hks : List (List UInt8)) (va v2 : Value) (g : Nat) (w : World) (h : StrRow w va ls) (hc : w.cell? ⟨g, 0, none⟩ = some v2) (h2 : StrRow w v2 hks) (hll : ls.length ≤ 4294967295) (hl : hks.length ≤ 4294967295) :
    Calls Tryz.prog 65 #[va, .func (.func 68) #[] #[.pointer (some ⟨g, 0, none⟩)]] w fun e w' => e = .returned (.bool (!allIn ls hks)) ∧ Below w.heap.size w w' := by
  have HC := Lib.hid (heldIx2_any ls hks va v2 g w h hc h2 hll hl)
  obtain ⟨ok, hok⟩ : ∃ ok, allIn ls hks = ok := ⟨_, rfl⟩
  rw [hok] at HC ⊢
  clear h hc h2 hok
  go_enter Tryz.func65, Tryz.ntmps65
  go_wp2_with (go_at_call 88; refine HC.out.mono ?_; rintro e1 w1 ⟨⟨r, rfl, hr⟩, hb1⟩; have HR := Lib.hid hr; clear hr)
  go_ret
  exact ⟨by rw [← HR.out]; rfl, hb1⟩
end Go.Proofs.YtkeieeogkeonfaaGreatDoor

/- Whether a value is of a shape that is no choice, but for its parts: the program's isHeld. -/
namespace Go.Proofs.YtkeieeogkeonfaaGreatDoor
open Go.RowKit

set_option maxHeartbeats 4000000 in
set_option maxRecDepth 10000 in
theorem held_impl (x : V) (sh : Sh) (cs ch : List Value) (d d' : Int) (w : World) (hx : Rd w x.d cs) (hs : Rd w sh.d ch) (hxw : x.wf) (hsw : sh.wf) (hxb : x.bulk ≤ 4294967295) (hsb : sh.bulk ≤ 4294967295) (hV : V.rightBy pairsOk d x = true) (hR : Sh.right d' sh = true) (hk9 : sh.kind ≠ 9) :
    Calls Tryz.prog 42 #[.agg cs.toArray, .agg ch.toArray] w fun e w' => e = .returned (.bool (heldB x sh)) ∧ Below w.heap.size w w' := by
  obtain ⟨k, n, e, s0, kids, v1, rfl, rfl, hvk⟩ := V.lay hx
  obtain ⟨k', l, hi, ks, m, hkids, u1, u2, rfl, rfl, hsk, hsh⟩ := Sh.lay hs
  obtain ⟨a1, c1, rfl⟩ := Rd.sl_form hvk
  obtain ⟨a4, c4, rfl⟩ := Rd.sl_form hsk
  obtain ⟨a6, c6, rfl⟩ := Rd.sl_form hsh
  rw [V.ds_length] at hvk hx ⊢
  rw [List.length_map] at hsk hs ⊢
  rw [Sh.ds_length] at hsh hs ⊢
  obtain ⟨x, hxe⟩ : ∃ x, x = V.mk k n e s0 kids := ⟨_, rfl⟩
  obtain ⟨sh, hse⟩ : ∃ sh, sh = Sh.mk k' l hi ks m hkids := ⟨_, rfl⟩
  have hself : Sh.self (.mk k' l hi ks m hkids) = true := by simp only [Sh.right, Bool.and_eq_true] at hR; exact hR.2.2
  rw [← hxe] at hx hxw hxb hV ⊢
  rw [← hse] at hs hsw hsb hR ⊢
  have HXE := Lib.hid hxe
  have HSE := Lib.hid hse
  obtain ⟨W0, hW0⟩ : ∃ W0, W0 = (w.alloc (.cells #[.int .i64 k, .int .i64 n, .int .i64 e, .string ⟨s0.toArray⟩, .slice a1 kids.length c1] 35)).alloc (.cells #[.int .i64 k', .int .i64 l, .int .i64 hi, .slice a4 ks.length c4, .int .i64 m, .slice a6 hkids.length c6] 39) := ⟨_, rfl⟩
  have HW := Lib.hid hW0
  have hA0 : Below w.heap.size w W0 := by rw [hW0]; exact ((Below.refl _ _).alloc (Nat.le_refl _) _).alloc (by simp) _
  have hz : W0.heap.size = w.heap.size + 2 := by rw [hW0]; simp
  have KB : Hid (∀ W, Below W0.heap.size W0 W → (W.cell? ⟨w.heap.size, 0, none⟩ = some (.int .i64 k) ∧ W.cell? ⟨w.heap.size, 1, none⟩ = some (.int .i64 n) ∧ W.cell? ⟨w.heap.size, 2, none⟩ = some (.int .i64 e) ∧ W.cell? ⟨w.heap.size, 3, none⟩ = some (.string ⟨s0.toArray⟩) ∧ W.cell? ⟨w.heap.size, 4, none⟩ = some (.slice a1 kids.length c1)) ∧ (W.cell? ⟨w.heap.size + 1, 0, none⟩ = some (.int .i64 k') ∧ W.cell? ⟨w.heap.size + 1, 1, none⟩ = some (.int .i64 l) ∧ W.cell? ⟨w.heap.size + 1, 2, none⟩ = some (.int .i64 hi) ∧ W.cell? ⟨w.heap.size + 1, 3, none⟩ = some (.slice a4 ks.length c4) ∧ W.cell? ⟨w.heap.size + 1, 4, none⟩ = some (.int .i64 m) ∧ W.cell? ⟨w.heap.size + 1, 5, none⟩ = some (.slice a6 hkids.length c6))) := by
    intro W hb
    obtain ⟨hc, _⟩ := bcell hb
    simp only [hc _ _ (show w.heap.size < W0.heap.size by omega), hc _ _ (show w.heap.size + 1 < W0.heap.size by omega)]
    subst hW0; simp [go_sem]
  have HRV := Lib.hid (show ∀ W, Below W0.heap.size W0 W → Rd W x.d [.int .i64 k, .int .i64 n, .int .i64 e, .string ⟨s0.toArray⟩, .slice a1 kids.length c1] from fun W hb => hx.below (below2 hA0 hb (Nat.le_refl _)))
  have HRS := Lib.hid (show ∀ W, Below W0.heap.size W0 W → Rd W sh.d [.int .i64 k', .int .i64 l, .int .i64 hi, .slice a4 ks.length c4, .int .i64 m, .slice a6 hkids.length c6] from fun W hb => hs.below (below2 hA0 hb (Nat.le_refl _)))
  have hB := Below.refl W0.heap.size W0
  obtain ⟨⟨p0, p1, p2, p3, p4⟩, q0, q1, q2, q3, q4, q5⟩ := KB.out _ hB
  have HSELF := Lib.hid hself
  have hn9 : k' ≠ 9 := by exact hk9
  clear hW0 hxe hse hx hs hself hk9
  obtain ⟨r, hr⟩ : ∃ r, heldB x sh = r := ⟨_, rfl⟩
  rw [hr]
  have HRR := Lib.hid hr; clear hr
  go_enter Tryz.func42, Tryz.ntmps42
  go_upto_region 1 with fail
  rw [← HW.out]
  by_cases hk0 : k' = 0
  · subst hk0
    have e00 : ((0 : Int) == 0) = true := rfl
    have HR := Lib.hid (show r = true by rw [← HRR.out, HXE.out, HSE.out]; rfl)
    go_wp2
    go_ret
    exact ⟨by rw [HR.out]; rfl, hA0⟩
  by_cases hk1 : k' = 1
  · subst hk1
    have e10 : ((1 : Int) == 0) = false := rfl; have e11 : ((1 : Int) == 1) = true := rfl
    have HR := Lib.hid (show r = decide (k = 0) by rw [← HRR.out, HXE.out, HSE.out]; rfl)
    by_cases hv0 : k = 0
    · subst hv0
      go_wp2
      go_ret
      exact ⟨by rw [HR.out]; rfl, hA0⟩
    · have hb0 : (k == 0) = false := (by simpa using hv0)
      have HR2 := Lib.hid (show r = false by rw [HR.out, decide_eq_false hv0]; try rfl)
      clear HR hv0
      go_wp2
      go_ret
      exact ⟨ret_bool (by rw [HR2.out]; try first | rfl | assumption), hA0⟩
  by_cases hk2 : k' = 2
  · subst hk2
    have e20 : ((2 : Int) == 0) = false := rfl; have e21 : ((2 : Int) == 1) = false := rfl; have e22 : ((2 : Int) == 2) = true := rfl
    have HR := Lib.hid (show r = (decide (k = 1) || decide (k = 2)) by rw [← HRR.out, HXE.out, HSE.out]; rfl)
    by_cases hv1 : k = 1
    · subst hv1
      go_wp2
      go_ret
      exact ⟨by rw [HR.out]; rfl, hA0⟩
    by_cases hv2 : k = 2
    · subst hv2
      go_wp2
      go_ret
      exact ⟨by rw [HR.out]; rfl, hA0⟩
    · have hb1 : (k == 1) = false := (by simpa using hv1); have hb2 : (k == 2) = false := (by simpa using hv2)
      have HR2 := Lib.hid (show r = false by rw [HR.out, decide_eq_false hv1, decide_eq_false hv2]; try rfl)
      clear HR hv1 hv2
      go_wp2
      go_ret
      exact ⟨ret_bool (by rw [HR2.out]; try first | rfl | assumption), hA0⟩
  by_cases hk3 : k' = 3
  · subst hk3
    have e30 : ((3 : Int) == 0) = false := rfl; have e31 : ((3 : Int) == 1) = false := rfl; have e32 : ((3 : Int) == 2) = false := rfl; have e33 : ((3 : Int) == 3) = true := rfl
    have HR := Lib.hid (show r = (decide (k = 3) && inR n l hi) by rw [← HRR.out, HXE.out, HSE.out]; rfl)
    by_cases hv : k = 3
    · subst hv
      have HR2 := Lib.hid (show r = inR n l hi by rw [HR.out]; simp)
      go_wp2_with (go_at_call 63; refine (within_any _ _ _ _).mono ?_; rintro e1 w1 ⟨rfl, rfl⟩)
      go_ret
      exact ⟨ret_bool HR2.out.symm, hA0⟩
    · have hb : (k == 3) = false := by simpa using hv
      have HR2 := Lib.hid (show r = false by rw [HR.out, decide_eq_false hv]; try rfl)
      clear HR hv
      go_wp2
      go_ret
      exact ⟨ret_bool (by rw [HR2.out]; try first | rfl | assumption), hA0⟩
  by_cases hk4 : k' = 4
  · subst hk4
    have e40 : ((4 : Int) == 0) = false := rfl; have e41 : ((4 : Int) == 1) = false := rfl; have e42 : ((4 : Int) == 2) = false := rfl; have e43 : ((4 : Int) == 3) = false := rfl; have e44 : ((4 : Int) == 4) = true := rfl
    have HR := Lib.hid (show r = (decide (k = 3) || decide (k = 4)) by rw [← HRR.out, HXE.out, HSE.out]; rfl)
    by_cases hv3 : k = 3
    · subst hv3
      go_wp2
      go_ret
      exact ⟨by rw [HR.out]; rfl, hA0⟩
    by_cases hv4 : k = 4
    · subst hv4
      go_wp2
      go_ret
      exact ⟨by rw [HR.out]; rfl, hA0⟩
    · have hb3 : (k == 3) = false := (by simpa using hv3); have hb4 : (k == 4) = false := (by simpa using hv4)
      have HR2 := Lib.hid (show r = false by rw [HR.out, decide_eq_false hv3, decide_eq_false hv4]; try rfl)
      clear HR hv3 hv4
      go_wp2
      go_ret
      exact ⟨ret_bool (by rw [HR2.out]; try first | rfl | assumption), hA0⟩
  by_cases hk5 : k' = 5
  · subst hk5
    have e50 : ((5 : Int) == 0) = false := rfl; have e51 : ((5 : Int) == 1) = false := rfl; have e52 : ((5 : Int) == 2) = false := rfl; have e53 : ((5 : Int) == 3) = false := rfl; have e54 : ((5 : Int) == 4) = false := rfl; have e55 : ((5 : Int) == 5) = true := rfl
    have HR := Lib.hid (show r = (decide (k = 5) && inR s0.length l hi) by rw [← HRR.out, HXE.out, HSE.out]; rfl)
    by_cases hv : k = 5
    · subst hv
      have HR2 := Lib.hid (show r = inR s0.length l hi by rw [HR.out]; simp)
      go_wp2_with (go_at_call 63; refine (within_any _ _ _ _).mono ?_; rintro e1 w1 ⟨rfl, rfl⟩)
      go_ret
      exact ⟨ret_bool HR2.out.symm, hA0⟩
    · have hb : (k == 5) = false := by simpa using hv
      have HR2 := Lib.hid (show r = false by rw [HR.out, decide_eq_false hv]; try rfl)
      clear HR hv
      go_wp2
      go_ret
      exact ⟨ret_bool (by rw [HR2.out]; try first | rfl | assumption), hA0⟩
  by_cases hk6 : k' = 6
  · subst hk6
    have e60 : ((6 : Int) == 0) = false := rfl; have e61 : ((6 : Int) == 1) = false := rfl; have e62 : ((6 : Int) == 2) = false := rfl; have e63 : ((6 : Int) == 3) = false := rfl; have e64 : ((6 : Int) == 4) = false := rfl; have e65 : ((6 : Int) == 5) = false := rfl; have e66 : ((6 : Int) == 6) = true := rfl
    have HR := Lib.hid (show r = (decide (k = 6) && inR s0.length l hi) by rw [← HRR.out, HXE.out, HSE.out]; rfl)
    by_cases hv : k = 6
    · subst hv
      have HR2 := Lib.hid (show r = inR s0.length l hi by rw [HR.out]; simp)
      go_wp2_with (go_at_call 63; refine (within_any _ _ _ _).mono ?_; rintro e1 w1 ⟨rfl, rfl⟩)
      go_ret
      exact ⟨ret_bool HR2.out.symm, hA0⟩
    · have hb : (k == 6) = false := by simpa using hv
      have HR2 := Lib.hid (show r = false by rw [HR.out, decide_eq_false hv]; try rfl)
      clear HR hv
      go_wp2
      go_ret
      exact ⟨ret_bool (by rw [HR2.out]; try first | rfl | assumption), hA0⟩
  by_cases hk7 : k' = 7
  · subst hk7
    have e70 : ((7 : Int) == 0) = false := rfl; have e71 : ((7 : Int) == 1) = false := rfl; have e72 : ((7 : Int) == 2) = false := rfl; have e73 : ((7 : Int) == 3) = false := rfl; have e74 : ((7 : Int) == 4) = false := rfl; have e75 : ((7 : Int) == 5) = false := rfl; have e76 : ((7 : Int) == 6) = false := rfl; have e77 : ((7 : Int) == 7) = true := rfl
    have HR := Lib.hid (show r = (decide (k = 7) && inR kids.length l hi) by rw [← HRR.out, HXE.out, HSE.out]; rfl)
    by_cases hv : k = 7
    · subst hv
      have HR2 := Lib.hid (show r = inR kids.length l hi by rw [HR.out]; simp)
      go_wp2_with (go_at_call 63; refine (within_any _ _ _ _).mono ?_; rintro e1 w1 ⟨rfl, rfl⟩)
      go_ret
      exact ⟨ret_bool HR2.out.symm, hA0⟩
    · have hb : (k == 7) = false := by simpa using hv
      have HR2 := Lib.hid (show r = false by rw [HR.out, decide_eq_false hv]; try rfl)
      clear HR hv
      go_wp2
      go_ret
      exact ⟨ret_bool (by rw [HR2.out]; try first | rfl | assumption), hA0⟩
  by_cases hk8 : k' = 8
  · subst hk8
    have e80 : ((8 : Int) == 0) = false := rfl; have e81 : ((8 : Int) == 1) = false := rfl; have e82 : ((8 : Int) == 2) = false := rfl; have e83 : ((8 : Int) == 3) = false := rfl; have e84 : ((8 : Int) == 4) = false := rfl; have e85 : ((8 : Int) == 5) = false := rfl; have e86 : ((8 : Int) == 6) = false := rfl; have e87 : ((8 : Int) == 7) = false := rfl
    have hHK := HSELF.out
    unfold Sh.self at hHK
    simp only [if_pos, Bool.and_eq_true, Sh.fields, decide_eq_true_eq] at hHK
    obtain ⟨hl0, hh0, hkeys, hkl, hm1, hm2⟩ := hHK
    clear hl0 hh0
    have HR := Lib.hid (show r = (x.texts && (allIn x.keys ks && allIn (ks.take m.toNat) x.keys)) by rw [← HRR.out, HSE.out]; rfl)
    obtain ⟨mn, rfl⟩ : ∃ mn : Nat, m = mn := ⟨m.toNat, by omega⟩
    have hmn : mn ≤ ks.length := by omega
    rw [Int.toNat_natCast] at HR
    have hkids : x.kids.length ≤ 4294967295 := by have := hxb; rw [HXE.out] at this ⊢; unfold V.bulk at this; simp only [V.kids]; omega
    have hkidb : ks.length ≤ 4294967295 := by have := hsb; rw [HSE.out] at this; unfold Sh.bulk at this; omega
    have hxk : x.keys.length ≤ 4294967295 := Nat.le_trans x.keys_length hkids
    have HT := Lib.hid (keysIn_any x _ W0 (HRV.out _ hB) hkids)
    have hrow := hsk.strRow
    have hmc : mn ≤ c4 := by
      obtain ⟨a4', c4', he, hg⟩ := hsk.strs
      simp only [Value.slice.injEq, true_and] at he
      obtain ⟨rfl, rfl⟩ := he
      by_cases h0 : ks = []
      · subst h0; simp at hmn; omega
      · have := (hg h0).1; omega
    have HROW := Lib.hid (show ∀ W, Below W0.heap.size W0 W → StrRow W (.slice a4 ks.length c4) ks from fun W hb => hrow.below (below2 hA0 hb (Nat.le_refl _)))
    have HTK := Lib.hid (show ∀ W, Below W0.heap.size W0 W → StrRow W (.slice a4 mn c4) (ks.take mn) from fun W hb => (HROW.out W hb).take mn hmn)
    have i1 : (0 : Int) ≤ (mn : Int) := by omega
    have i2 : (mn : Int) ≤ c4 := by omega
    clear hkeys hkl hm1 hm2 hrow hsk hsh hvk
    obtain ⟨kk, hkk⟩ : ∃ kk, x.keys = kk := ⟨_, rfl⟩
    rw [hkk] at HT HR hxk
    cases htx : x.texts with
    | false =>
      have HR2 := Lib.hid (show r = false by rw [HR.out, htx]; rfl)
      rw [htx] at HT
      clear htx HR hkk
      go_wp2_with (go_at_call 64; refine HT.out.mono ?_; rintro e1 w1 ⟨v', rfl, hb1, hown⟩; obtain ⟨av, cv, rfl⟩ := hown.any; rw [List.length_map]; have hz1 := hb1.size)
      go_ret
      exact ⟨ret_bool (by rw [HR2.out]; try rfl), below2 hA0 (hb1.alloc hb1.size _) (Nat.le_refl _)⟩
    | true =>
      have HR2 := Lib.hid (show r = (allIn kk ks && allIn (ks.take mn) kk) by rw [HR.out, htx]; simp)
      rw [htx] at HT
      clear htx HR hkk
      go_wp2_with (go_at_call 64; refine HT.out.mono ?_; rintro e1 w1 ⟨v', rfl, hb1, hown⟩; obtain ⟨av, cv, rfl⟩ := hown.any; rw [List.length_map]; have hz1 := hb1.size)
      obtain ⟨W1, hW1⟩ : ∃ W1, W1 = w1.alloc (.cells #[.slice av kk.length cv] 25) := ⟨_, rfl⟩
      have HW1 := Lib.hid hW1
      have hB1 : Below W0.heap.size W0 W1 := by rw [hW1]; exact hb1.alloc hz1 _
      have hw11 : Below w1.heap.size w1 W1 := by rw [hW1]; exact (Below.refl _ _).alloc (Nat.le_refl _) _
      have hcb : W1.cell? ⟨w1.heap.size, 0, none⟩ = some (.slice av kk.length cv) := by rw [hW1]; simp
      have hkr : StrRow W1 (.slice av kk.length cv) kk := by
        have := hown.below hw11; rw [List.length_map] at this; exact this.strRow
      have hzW : w1.heap.size < W1.heap.size := by rw [hW1]; simp
      rw [← HW1.out]
      clear hW1 hown
      obtain ⟨⟨p0, p1, p2, p3, p4⟩, q0, q1, q2, q3, q4, q5⟩ := KB.out _ hB1
      have HF1 := Lib.hid (heldF1_any kk ks _ _ (w.heap.size + 1) W1 hkr q3 (HROW.out _ hB1) hxk hkidb)
      cases hin : allIn kk ks with
      | false =>
        have HR3 := Lib.hid (show r = false by rw [HR2.out, hin]; rfl)
        rw [hin] at HF1
        clear hin HR2
        go_wp2_with (go_at_call 65; refine HF1.out.mono ?_; rintro e1 w2 ⟨rfl, hb2⟩)
        go_ret
        exact ⟨ret_bool (by rw [HR3.out]; try rfl), below2 hA0 (below2 hB1 hb2 (Nat.le_refl _)) (Nat.le_refl _)⟩
      | true =>
        have HR3 := Lib.hid (show r = allIn (ks.take mn) kk by rw [HR2.out, hin]; simp)
        rw [hin] at HF1
        clear hin HR2
        have HF2 := fun W (hW : Below W1.heap.size W1 W) => Lib.hid (heldF2_any (ks.take mn) kk _ _ w1.heap.size W (HTK.out _ (below2 hB1 hW (Nat.le_refl _))) (by rw [(bcell hW).1 _ _ hzW]; exact hcb) (hkr.below hW) (by rw [List.length_take]; omega) hxk)
        go_wp2_with (first | (go_at_call 65; with_reducible refine HF1.out.mono ?_; rintro e1 w2 ⟨rfl, hb2⟩; have hB2 := below2 hB1 hb2 (Nat.le_refl _); obtain ⟨⟨p0', p1', p2', p3', p4'⟩, q0', q1', q2', q3', q4', q5'⟩ := KB.out _ hB2) | (go_at_call 65; with_reducible refine (HF2 _ hb2).out.mono ?_; rintro e1 w3 ⟨rfl, hb3⟩))
        go_ret
        exact ⟨ret_bool (by rw [HR3.out]; try simp), below2 hA0 (below2 hB2 hb3 (Nat.le_refl _)) (Nat.le_refl _)⟩
  · exfalso
    have := HSELF.out
    unfold Sh.self at this
    simp only at this
    rw [if_neg hk8, if_neg (by rintro (h | h | h) <;> first | exact hk3 h | exact hk5 h | exact hk6 h), if_neg hk7, if_neg hn9, if_neg (by rintro (h | h | h | h) <;> first | exact hk0 h | exact hk1 h | exact hk2 h | exact hk4 h)] at this
    cases this
end Go.Proofs.YtkeieeogkeonfaaGreatDoor
