/- Contracts of the functions of the reference and of the program under Prefer: a part's weight. -/
import Derived.Test.YtflbcpfleejblaaDoorPrefS
namespace Go.Proofs.YtflbcpfleejblaaDoor
open Go.RowKit

set_option maxHeartbeats 1000000 in
set_option maxRecDepth 10000 in
theorem l16Weight_any (p : List UInt8) (w : World) (hl : p.length ≤ 1048576) :
    Calls Tryd.prog 44 #[.string ⟨p.toArray⟩] w fun e w' => e = .returned (.tuple #[.int .i64 (wt look p).1, .int .i64 (wt look p).2]) ∧ Below w.heap.size w w' := by
  obtain ⟨a, ha⟩ : ∃ a, (wt look p).1 = a := ⟨_, rfl⟩
  obtain ⟨b, hb⟩ : ∃ b, (wt look p).2 = b := ⟨_, rfl⟩
  have HA := Lib.hid ha; have HB := Lib.hid hb
  rw [ha, hb]; clear ha hb
  have HF := Lib.hid (fun q w => formOf_spec q w)
  have hlook : ∀ q, ixF nameList q 0 = look q := fun _ => rfl
  by_cases h1 : 2 ≤ p.length
  · obtain ⟨x, hx⟩ : ∃ x, p[p.length - 2]'(by omega) = x := ⟨_, rfl⟩
    obtain ⟨y, hy⟩ : ∃ y, p[p.length - 1]'(by omega) = y := ⟨_, rfl⟩
    have gx : p.getD (p.length - 2) 0 = x := by rw [List.getD_eq_getElem?_getD, List.getElem?_eq_getElem (by omega)]; exact hx
    have gy : p.getD (p.length - 1) 0 = y := by rw [List.getD_eq_getElem?_getD, List.getElem?_eq_getElem (by omega)]; exact hy
    have i1 : (0 : Int) ≤ (p.length : Int) - 2 := by omega
    have i2 : (p.length : Int) - 2 < p.length := by omega
    have i3 : (0 : Int) ≤ (p.length : Int) - 1 := by omega
    have i4 : (p.length : Int) - 1 < p.length := by omega
    have e1 : ((p.length : Int) - 2).toNat = p.length - 2 := by omega
    have e2 : ((p.length : Int) - 1).toNat = p.length - 1 := by omega
    have hge : (2 : Int) ≤ p.length := by omega
    by_cases c1 : x = 59
    · by_cases c2 : 48 ≤ y.toNat ∧ y.toNat ≤ 57
      · have r1 : inR y.toNat 48 57 = true := inR_yes (by omega)
        have HW := Lib.hid (show a = look (p.take (p.length - 2)) ∧ b = (y.toNat : Int) - 48 by
          rw [← HA.out, ← HB.out]; unfold wt; rw [gx, gy, if_pos ⟨h1, c1, c2⟩]; exact ⟨rfl, rfl⟩)
        have t1 : ((x.toNat : Int) == 59) = true := by rw [c1]; rfl
        clear gx gy c1 hlook
        go_enter Tryd.func44, Tryd.ntmps44
        go_wp2_with (go_at_call 75; refine (l01In_any _ _ _ _).mono ?_; rintro e w1 ⟨rfl, rfl⟩)
        have hB := Below.refl w.heap.size w
        have z1 : IntKind.i64.wrap ((p.length : Int) - 2) = (p.length : Int) - 2 := IntWalk.i64_in _ (by omega)
        have z2 : IntKind.i64.wrap ((p.length : Int) - 1) = (p.length : Int) - 1 := IntWalk.i64_in _ (by omega)
        have z3 : IntKind.i64.wrap ((y.toNat : Int) - 48) = (y.toNat : Int) - 48 := IntWalk.i64_in _ (by omega)
        have z4 : (p.length : Int) - 2 ≤ p.length := by omega
        go_region_held3 (fun W => Below w.heap.size w W) (first | exact hB | exact hB.drew)
          (first | (go_at_call 76; refine (HF.out _ _).mono ?_; rintro e w1 ⟨rfl, hb1⟩; replace hB := below2 (by first | exact hB | exact hB.drew) hb1 (Nat.le_refl _)))
        all_goals
          go_wp2
          go_ret2
          rw [HW.out.1, HW.out.2]
          exact ⟨by simp [look], by assumption⟩
      · have r1 : inR y.toNat 48 57 = false := inR_no (by omega)
        have HW := Lib.hid (show a = look p ∧ b = 9 by
          rw [← HA.out, ← HB.out]; unfold wt; rw [gx, gy, if_neg (fun h => c2 h.2.2)]; exact ⟨rfl, rfl⟩)
        have t1 : ((x.toNat : Int) == 59) = true := by rw [c1]; rfl
        clear gx gy c1 c2 hlook
        go_enter Tryd.func44, Tryd.ntmps44
        go_wp2_with (first | (go_at_call 75; refine (l01In_any _ _ _ _).mono ?_; rintro e w1 ⟨rfl, rfl⟩) | (go_at_call 76; refine (HF.out _ _).mono ?_; rintro e w1 ⟨rfl, hb1⟩))
        go_ret2
        rw [HW.out.1, HW.out.2]
        exact ⟨rfl, hb1⟩
    · have HW := Lib.hid (show a = look p ∧ b = 9 by
        rw [← HA.out, ← HB.out]; unfold wt; rw [gx, gy, if_neg (fun h => c1 h.2.1)]; exact ⟨rfl, rfl⟩)
      have t1 : ((x.toNat : Int) == 59) = false := by
        simp only [beq_eq_false_iff_ne, ne_eq]; intro e; apply c1; apply UInt8.toNat_inj.1; show _ = 59; omega
      clear gx gy c1 hlook
      go_enter Tryd.func44, Tryd.ntmps44
      go_wp2_with (go_at_call 76; refine (HF.out _ _).mono ?_; rintro e w1 ⟨rfl, hb1⟩)
      go_ret2
      rw [HW.out.1, HW.out.2]
      exact ⟨rfl, hb1⟩
  · have hge : ¬ (2 : Int) ≤ p.length := by omega
    have HW := Lib.hid (show a = look p ∧ b = 9 by
      rw [← HA.out, ← HB.out]; unfold wt; rw [if_neg (fun h => h1 h.1)]; exact ⟨rfl, rfl⟩)
    clear hlook
    go_enter Tryd.func44, Tryd.ntmps44
    go_wp2_with (go_at_call 76; refine (HF.out _ _).mono ?_; rintro e w1 ⟨rfl, hb1⟩)
    go_ret2
    rw [HW.out.1, HW.out.2]
    exact ⟨rfl, hb1⟩

theorem MaxAt.lt {m : Int} {w : World} (h : w.cell? ⟨2, 0, none⟩ = some (.int .i64 m)) : 2 < w.heap.size := cell_lt h

set_option maxHeartbeats 1000000 in
set_option maxRecDepth 10000 in
theorem preference_any (p : List UInt8) (m : Int) (w : World) (hl : p.length ≤ 1048576) (hm : w.cell? ⟨2, 0, none⟩ = some (.int .i64 m)) :
    Calls Tryd.prog 46 #[.string ⟨p.toArray⟩] w fun e w' => (∃ f n : Int, e = .returned (.tuple #[.int .i64 f, .int .i64 n, .bool (decide (0 ≤ (wt look p).1))]) ∧ (0 ≤ (wt look p).1 → f = (wt look p).1 ∧ n = (wt look p).2)) ∧ Below w.heap.size w w' := by
  have hcut := Tryd.strings_Cut ⟨p.toArray⟩ ⟨#[59]⟩ m w (by simp [ByteArray.size]; omega) hm
  have hmlt := cell_lt hm
  by_cases hs : (59 : UInt8) ∈ p
  · obtain ⟨q, r, rfl, hq⟩ := mem_split hs
    have hc2 : Lib.cut (ByteArray.mk (q ++ 59 :: r).toArray).data.toList (ByteArray.mk #[59]).data.toList = (q, r, true) := cut_at 59 q r hq
    rw [hc2] at hcut
    have HC := Lib.hid hcut
    clear hcut hs hc2
    have hrl : r.length ≤ 1048576 := by simp at hl; omega
    have HF := Lib.hid (fun (W : World) (hW : W.cell? ⟨2, 0, none⟩ = some (.int .i64 m)) => formOf_impl q m W hW)
    by_cases hd : ∃ d : UInt8, r = [d] ∧ 48 ≤ d.toNat ∧ d.toNat ≤ 57
    · obtain ⟨d, rfl, d1, d2⟩ := hd
      have HW := Lib.hid (wt_one look q d d1 d2)
      have t1 : (0 : Int) < 1 := by decide
      have d3 : ¬ (d.toNat : Int) < 48 := by omega
      have d4 : ¬ (57 : Int) < d.toNat := by omega
      have d5 : (48 : Int) ≤ d.toNat := by omega
      have d6 : (d.toNat : Int) ≤ 57 := by omega
      clear d1 d2
      go_enter Tryd.func46, Tryd.ntmps46
      go_wp2_with (first | (go_at_call 78; refine HC.out.mono ?_; rintro e w1 ⟨rfl, n1, rfl⟩) | (go_at_call 79; refine (HF.out _ (by simpa [go_sem] using hm)).mono ?_; rintro e w2 ⟨rfl, hb2⟩))
      go_ret3
      exact ⟨⟨ixF nameList q 0, (d.toNat : Int) - 48, by rw [HW.out]; rfl, fun _ => by rw [HW.out]; exact ⟨rfl, rfl⟩⟩, below2 (below_drewN (Below.refl _ _) _) hb2 (Nat.le_refl _)⟩
    · have HW := Lib.hid (wt_bad look look_semi q r hd)
      by_cases hr1 : r.length = 1
      · match r, hr1 with
        | [d], _ =>
          have hdd : (d.toNat : Int) < 48 ∨ (57 : Int) < d.toNat := by
            apply Classical.byContradiction; intro hh; apply hd; exact ⟨d, rfl, by omega, by omega⟩
          have d0 := d.toNat_lt
          clear hd
          rcases hdd with hdd | hdd
          · go_enter Tryd.func46, Tryd.ntmps46
            go_wp2_with (first | (go_at_call 78; refine HC.out.mono ?_; rintro e w1 ⟨rfl, n1, rfl⟩) | (go_at_call 79; refine (HF.out _ (by simpa [go_sem] using hm)).mono ?_; rintro e w2 ⟨rfl, hb2⟩))
            go_ret3
            exact ⟨⟨0, 0, by rw [HW.out]; rfl, fun h => by rw [HW.out] at h; omega⟩, below2 (below_drewN (Below.refl _ _) _) hb2 (Nat.le_refl _)⟩
          · have hdn : ¬ (d.toNat : Int) < 48 := by omega
            go_enter Tryd.func46, Tryd.ntmps46
            go_wp2_with (first | (go_at_call 78; refine HC.out.mono ?_; rintro e w1 ⟨rfl, n1, rfl⟩) | (go_at_call 79; refine (HF.out _ (by simpa [go_sem] using hm)).mono ?_; rintro e w2 ⟨rfl, hb2⟩))
            go_ret3
            exact ⟨⟨0, 0, by rw [HW.out]; rfl, fun h => by rw [HW.out] at h; omega⟩, below2 (below_drewN (Below.refl _ _) _) hb2 (Nat.le_refl _)⟩
      · have hr2 : ((r.length : Int) != 1) = true := by simp; omega
        clear hd hr1
        go_enter Tryd.func46, Tryd.ntmps46
        go_wp2_with (first | (go_at_call 78; refine HC.out.mono ?_; rintro e w1 ⟨rfl, n1, rfl⟩) | (go_at_call 79; refine (HF.out _ (by simpa [go_sem] using hm)).mono ?_; rintro e w2 ⟨rfl, hb2⟩))
        go_ret3
        exact ⟨⟨0, 0, by rw [HW.out]; rfl, fun h => by rw [HW.out] at h; omega⟩, below2 (below_drewN (Below.refl _ _) _) hb2 (Nat.le_refl _)⟩
  · have hc2 : Lib.cut (ByteArray.mk p.toArray).data.toList (ByteArray.mk #[59]).data.toList = (p, [], false) := cut_no 59 p hs
    rw [hc2] at hcut
    have HC := Lib.hid hcut
    have HW := Lib.hid (wt_no look p hs)
    clear hcut hs hc2
    have HF := Lib.hid (fun (W : World) (hW : W.cell? ⟨2, 0, none⟩ = some (.int .i64 m)) => formOf_impl p m W hW)
    go_enter Tryd.func46, Tryd.ntmps46
    go_wp2_with (first | (go_at_call 78; refine HC.out.mono ?_; rintro e w1 ⟨rfl, n1, rfl⟩) | (go_at_call 79; refine (HF.out _ (by simpa [go_sem] using hm)).mono ?_; rintro e w2 ⟨rfl, hb2⟩))
    go_ret3
    exact ⟨⟨ixF nameList p 0, 9, by rw [HW.out]; rfl, fun _ => by rw [HW.out]; exact ⟨rfl, rfl⟩⟩, below2 (below_drewN (Below.refl _ _) _) hb2 (Nat.le_refl _)⟩
end Go.Proofs.YtflbcpfleejblaaDoor
