/- When a shape is right but for its kids: the program's isForm. -/
import Derived.Test.YtkeieeogkeonfaaGreatDoorShapeForm
namespace Go.Proofs.YtkeieeogkeonfaaGreatDoor
open Go.RowKit
open Go.Lib (validD)

set_option maxHeartbeats 2000000 in
set_option maxRecDepth 10000 in
theorem isForm_any (x : Sh) (cs : List Value) (w : World) (h : Rd w x.d cs) (hwf : x.wf) (hbk : x.bulk ≤ 4294967295) (hT : Tabs w) :
    Calls Tryz.prog 60 #[.agg cs.toArray] w fun e w' => e = .returned (.bool x.self) ∧ Below w.heap.size w w' := by
  have HF := Lib.hid (fun w1 (hb : Below w.heap.size w w1) => isFields_any x cs w1 (h.below hb) hwf hbk (hT.below hb))
  obtain ⟨k, l, hi, ks, m, kids, v1, v2, rfl, rfl, hk, hkids⟩ := Sh.lay h
  obtain ⟨a1, c1, rfl, _⟩ := hk.strs
  obtain ⟨a2, c2, rfl⟩ := Rd.sl_form hkids
  rw [Sh.ds_map, List.length_map]
  simp only [Sh.ds_map, List.length_map] at HF
  have hA := (Below.refl w.heap.size w).alloc (Nat.le_refl _) (.cells #[.int .i64 k, .int .i64 l, .int .i64 hi, .slice a1 ks.length c1, .int .i64 m, .slice a2 kids.length c2] 39)
  clear hk hkids h hwf hbk hT
  obtain ⟨ok, hok⟩ : ∃ ok, Sh.self (.mk k l hi ks m kids) = ok := ⟨_, rfl⟩
  rw [hok]
  have HOK := Lib.hid hok; clear hok
  by_cases hr : 0 ≤ k ∧ k ≤ 9
  · have r1 : inR k 0 9 = true := inR_yes hr
    by_cases k8 : k = 8
    · subst k8
      have hb : hasB 8 = false := rfl
      by_cases hl : l = 0
      · subst hl
        by_cases hhi : hi = 0
        · subst hhi
          have H : Hid (ok = Sh.fields ks m kids.length) := by show _ = _; rw [← HOK.out]; simp [Sh.self]
          clear HOK hA
          go_enter Tryz.func60, Tryz.ntmps60
          go_wp2_with (first | (go_at_call 63; refine (within_any _ _ _ _).mono ?_; rintro e w1 ⟨rfl, rfl⟩) | (go_at_call 85; refine (hasBounds_any _ _).mono ?_; rintro e w1 ⟨rfl, rfl⟩) | (go_at_call 86; refine (HF.out _ ((Below.refl _ _).alloc (Nat.le_refl _) _)).mono ?_; rintro e w1 ⟨rfl, hb1⟩))
          go_ret
          exact ⟨by rw [H.out]; rfl, below2 ((Below.refl _ _).alloc (Nat.le_refl _) _) hb1 (Nat.le_refl _)⟩
        · have ghi : (hi != 0) = true := by simpa using hhi
          have H : Hid (ok = false) := by show _ = _; rw [← HOK.out]; simp [Sh.self, hhi]
          clear HOK
          go_enter Tryz.func60, Tryz.ntmps60
          go_wp2_with (first | (go_at_call 63; refine (within_any _ _ _ _).mono ?_; rintro e w1 ⟨rfl, rfl⟩) | (go_at_call 85; refine (hasBounds_any _ _).mono ?_; rintro e w1 ⟨rfl, rfl⟩))
          go_ret
          exact ⟨by rw [H.out]; rfl, hA⟩
      · have gl : (l != 0) = true := by simpa using hl
        have H : Hid (ok = false) := by show _ = _; rw [← HOK.out]; simp [Sh.self, hl]
        clear HOK
        go_enter Tryz.func60, Tryz.ntmps60
        go_wp2_with (first | (go_at_call 63; refine (within_any _ _ _ _).mono ?_; rintro e w1 ⟨rfl, rfl⟩) | (go_at_call 85; refine (hasBounds_any _ _).mono ?_; rintro e w1 ⟨rfl, rfl⟩))
        go_ret
        exact ⟨by rw [H.out]; rfl, hA⟩
    by_cases k7 : k = 7
    · subst k7
      have hb : hasB 7 = true := rfl
      by_cases hks : ks = []
      · subst hks
        by_cases hm : m = 0
        · subst hm
          have H : Hid (ok = decide (kids.length = 1)) := by show _ = _; rw [← HOK.out]; simp [Sh.self]
          clear HOK
          go_enter Tryz.func60, Tryz.ntmps60
          go_wp2_with (first | (go_at_call 63; refine (within_any _ _ _ _).mono ?_; rintro e w1 ⟨rfl, rfl⟩) | (go_at_call 85; refine (hasBounds_any _ _).mono ?_; rintro e w1 ⟨rfl, rfl⟩))
          go_ret
          exact ⟨by rw [H.out]; exact ret_bool (by rw [Bool.eq_iff_iff]; simp <;> omega), hA⟩
        · have gm : (m != 0) = true := by simpa using hm
          have H : Hid (ok = false) := by show _ = _; rw [← HOK.out]; simp [Sh.self, hm]
          clear HOK
          go_enter Tryz.func60, Tryz.ntmps60
          go_wp2_with (first | (go_at_call 63; refine (within_any _ _ _ _).mono ?_; rintro e w1 ⟨rfl, rfl⟩) | (go_at_call 85; refine (hasBounds_any _ _).mono ?_; rintro e w1 ⟨rfl, rfl⟩))
          go_ret
          exact ⟨by rw [H.out]; rfl, hA⟩
      · have gks : (0 : Int) < ks.length := by have := List.length_pos_iff.2 hks; omega
        have H : Hid (ok = false) := by show _ = _; rw [← HOK.out]; simp [Sh.self, hks]
        clear HOK
        go_enter Tryz.func60, Tryz.ntmps60
        go_wp2_with (first | (go_at_call 63; refine (within_any _ _ _ _).mono ?_; rintro e w1 ⟨rfl, rfl⟩) | (go_at_call 85; refine (hasBounds_any _ _).mono ?_; rintro e w1 ⟨rfl, rfl⟩))
        go_ret
        exact ⟨by rw [H.out]; rfl, hA⟩
    by_cases k9 : k = 9
    · subst k9
      have hb : hasB 9 = false := rfl
      by_cases hl : l = 0
      · subst hl
        by_cases hhi : hi = 0
        · subst hhi
          by_cases hks : ks = []
          · subst hks
            by_cases hm : m = 0
            · subst hm
              have H : Hid (ok = decide (2 ≤ kids.length)) := by show _ = _; rw [← HOK.out]; simp [Sh.self]
              clear HOK
              go_enter Tryz.func60, Tryz.ntmps60
              go_wp2_with (first | (go_at_call 63; refine (within_any _ _ _ _).mono ?_; rintro e w1 ⟨rfl, rfl⟩) | (go_at_call 85; refine (hasBounds_any _ _).mono ?_; rintro e w1 ⟨rfl, rfl⟩))
              go_ret
              exact ⟨by rw [H.out]; exact ret_bool (by rw [Bool.eq_iff_iff]; simp <;> omega), hA⟩
            · have gm : (m != 0) = true := by simpa using hm
              have H : Hid (ok = false) := by show _ = _; rw [← HOK.out]; simp [Sh.self, hm]
              clear HOK
              go_enter Tryz.func60, Tryz.ntmps60
              go_wp2_with (first | (go_at_call 63; refine (within_any _ _ _ _).mono ?_; rintro e w1 ⟨rfl, rfl⟩) | (go_at_call 85; refine (hasBounds_any _ _).mono ?_; rintro e w1 ⟨rfl, rfl⟩))
              go_ret
              exact ⟨by rw [H.out]; rfl, hA⟩
          · have gks : (0 : Int) < ks.length := by have := List.length_pos_iff.2 hks; omega
            have H : Hid (ok = false) := by show _ = _; rw [← HOK.out]; simp [Sh.self, hks]
            clear HOK
            go_enter Tryz.func60, Tryz.ntmps60
            go_wp2_with (first | (go_at_call 63; refine (within_any _ _ _ _).mono ?_; rintro e w1 ⟨rfl, rfl⟩) | (go_at_call 85; refine (hasBounds_any _ _).mono ?_; rintro e w1 ⟨rfl, rfl⟩))
            go_ret
            exact ⟨by rw [H.out]; rfl, hA⟩
        · have ghi : (hi != 0) = true := by simpa using hhi
          have H : Hid (ok = false) := by show _ = _; rw [← HOK.out]; simp [Sh.self, hhi]
          clear HOK
          go_enter Tryz.func60, Tryz.ntmps60
          go_wp2_with (first | (go_at_call 63; refine (within_any _ _ _ _).mono ?_; rintro e w1 ⟨rfl, rfl⟩) | (go_at_call 85; refine (hasBounds_any _ _).mono ?_; rintro e w1 ⟨rfl, rfl⟩))
          go_ret
          exact ⟨by rw [H.out]; rfl, hA⟩
      · have gl : (l != 0) = true := by simpa using hl
        have H : Hid (ok = false) := by show _ = _; rw [← HOK.out]; simp [Sh.self, hl]
        clear HOK
        go_enter Tryz.func60, Tryz.ntmps60
        go_wp2_with (first | (go_at_call 63; refine (within_any _ _ _ _).mono ?_; rintro e w1 ⟨rfl, rfl⟩) | (go_at_call 85; refine (hasBounds_any _ _).mono ?_; rintro e w1 ⟨rfl, rfl⟩))
        go_ret
        exact ⟨by rw [H.out]; rfl, hA⟩
    have B8 : (k == 8) = false := by simpa using k8
    have B7 : (k == 7) = false := by simpa using k7
    have B9 : (k == 9) = false := by simpa using k9
    by_cases kb : k = 3 ∨ k = 5 ∨ k = 6
    · have hb : hasB k = true := by rcases kb with rfl | rfl | rfl <;> rfl
      have K7 := Lib.hid k7; have K8 := Lib.hid k8; have K9 := Lib.hid k9; have KB := Lib.hid kb; clear k7 k8 k9 kb hr
      by_cases hks : ks = []
      · subst hks
        by_cases hm : m = 0
        · subst hm
          have H : Hid (ok = decide (kids = [])) := by show _ = _; rw [← HOK.out]; simp [Sh.self, K8.out, KB.out]
          clear HOK
          go_enter Tryz.func60, Tryz.ntmps60
          go_wp2_with (first | (go_at_call 63; refine (within_any _ _ _ _).mono ?_; rintro e w1 ⟨rfl, rfl⟩) | (go_at_call 85; refine (hasBounds_any _ _).mono ?_; rintro e w1 ⟨rfl, rfl⟩))
          go_ret
          exact ⟨by rw [H.out]; exact ret_bool (by rw [Bool.eq_iff_iff]; simp), hA⟩
        · have gm : (m != 0) = true := by simpa using hm
          have H : Hid (ok = false) := by show _ = _; rw [← HOK.out]; simp [Sh.self, hm, K8.out, KB.out]
          clear HOK
          go_enter Tryz.func60, Tryz.ntmps60
          go_wp2_with (first | (go_at_call 63; refine (within_any _ _ _ _).mono ?_; rintro e w1 ⟨rfl, rfl⟩) | (go_at_call 85; refine (hasBounds_any _ _).mono ?_; rintro e w1 ⟨rfl, rfl⟩))
          go_ret
          exact ⟨by rw [H.out]; rfl, hA⟩
      · have gks : (0 : Int) < ks.length := by have := List.length_pos_iff.2 hks; omega
        have H : Hid (ok = false) := by show _ = _; rw [← HOK.out]; simp [Sh.self, hks, K8.out, KB.out]
        clear HOK
        go_enter Tryz.func60, Tryz.ntmps60
        go_wp2_with (first | (go_at_call 63; refine (within_any _ _ _ _).mono ?_; rintro e w1 ⟨rfl, rfl⟩) | (go_at_call 85; refine (hasBounds_any _ _).mono ?_; rintro e w1 ⟨rfl, rfl⟩))
        go_ret
        exact ⟨by rw [H.out]; rfl, hA⟩
    · have hb : hasB k = false := by simp only [not_or] at kb; simp [hasB, kb, k7]
      have ka : k = 0 ∨ k = 1 ∨ k = 2 ∨ k = 4 := by omega
      have K7 := Lib.hid k7; have K8 := Lib.hid k8; have K9 := Lib.hid k9; have KB := Lib.hid kb; have KA := Lib.hid ka; clear k7 k8 k9 kb ka hr
      by_cases hl : l = 0
      · subst hl
        by_cases hhi : hi = 0
        · subst hhi
          by_cases hks : ks = []
          · subst hks
            by_cases hm : m = 0
            · subst hm
              have H : Hid (ok = decide (kids = [])) := by show _ = _; rw [← HOK.out]; simp [Sh.self, K7.out, K8.out, K9.out, KB.out, KA.out]
              clear HOK
              go_enter Tryz.func60, Tryz.ntmps60
              go_wp2_with (first | (go_at_call 63; refine (within_any _ _ _ _).mono ?_; rintro e w1 ⟨rfl, rfl⟩) | (go_at_call 85; refine (hasBounds_any _ _).mono ?_; rintro e w1 ⟨rfl, rfl⟩))
              go_ret
              exact ⟨by rw [H.out]; exact ret_bool (by rw [Bool.eq_iff_iff]; simp), hA⟩
            · have gm : (m != 0) = true := by simpa using hm
              have H : Hid (ok = false) := by show _ = _; rw [← HOK.out]; simp [Sh.self, hm, K7.out, K8.out, K9.out, KB.out, KA.out]
              clear HOK
              go_enter Tryz.func60, Tryz.ntmps60
              go_wp2_with (first | (go_at_call 63; refine (within_any _ _ _ _).mono ?_; rintro e w1 ⟨rfl, rfl⟩) | (go_at_call 85; refine (hasBounds_any _ _).mono ?_; rintro e w1 ⟨rfl, rfl⟩))
              go_ret
              exact ⟨by rw [H.out]; rfl, hA⟩
          · have gks : (0 : Int) < ks.length := by have := List.length_pos_iff.2 hks; omega
            have H : Hid (ok = false) := by show _ = _; rw [← HOK.out]; simp [Sh.self, hks, K7.out, K8.out, K9.out, KB.out, KA.out]
            clear HOK
            go_enter Tryz.func60, Tryz.ntmps60
            go_wp2_with (first | (go_at_call 63; refine (within_any _ _ _ _).mono ?_; rintro e w1 ⟨rfl, rfl⟩) | (go_at_call 85; refine (hasBounds_any _ _).mono ?_; rintro e w1 ⟨rfl, rfl⟩))
            go_ret
            exact ⟨by rw [H.out]; rfl, hA⟩
        · have ghi : (hi != 0) = true := by simpa using hhi
          have H : Hid (ok = false) := by show _ = _; rw [← HOK.out]; simp [Sh.self, hhi, K7.out, K8.out, K9.out, KB.out, KA.out]
          clear HOK
          go_enter Tryz.func60, Tryz.ntmps60
          go_wp2_with (first | (go_at_call 63; refine (within_any _ _ _ _).mono ?_; rintro e w1 ⟨rfl, rfl⟩) | (go_at_call 85; refine (hasBounds_any _ _).mono ?_; rintro e w1 ⟨rfl, rfl⟩))
          go_ret
          exact ⟨by rw [H.out]; rfl, hA⟩
      · have gl : (l != 0) = true := by simpa using hl
        have H : Hid (ok = false) := by show _ = _; rw [← HOK.out]; simp [Sh.self, hl, K7.out, K8.out, K9.out, KB.out, KA.out]
        clear HOK
        go_enter Tryz.func60, Tryz.ntmps60
        go_wp2_with (first | (go_at_call 63; refine (within_any _ _ _ _).mono ?_; rintro e w1 ⟨rfl, rfl⟩) | (go_at_call 85; refine (hasBounds_any _ _).mono ?_; rintro e w1 ⟨rfl, rfl⟩))
        go_ret
        exact ⟨by rw [H.out]; rfl, hA⟩
  · have r1 : inR k 0 9 = false := inR_no hr
    have H : Hid (ok = false) := by
      show _ = _; rw [← HOK.out]; simp only [Sh.self]
      rw [if_neg (by omega), if_neg (by omega), if_neg (by omega), if_neg (by omega), if_neg (by omega)]
    clear hr
    go_enter Tryz.func60, Tryz.ntmps60
    go_wp2_with (go_at_call 63; refine (within_any _ _ _ _).mono ?_; rintro e w1 ⟨rfl, rfl⟩)
    go_ret
    exact ⟨by rw [H.out]; rfl, hA⟩
end Go.Proofs.YtkeieeogkeonfaaGreatDoor
