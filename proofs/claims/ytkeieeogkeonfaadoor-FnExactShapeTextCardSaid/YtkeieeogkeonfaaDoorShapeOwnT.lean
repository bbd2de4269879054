/- When a shape is right but for its kids: the reference's l15Own. -/
import Derived.Test.YtkeieeogkeonfaaDoorShapeOwnS
namespace Go.Proofs.YtkeieeogkeonfaaDoor
open Go.RowKit
open Go.Lib (validD)

set_option maxHeartbeats 2000000 in
set_option maxRecDepth 10000 in
theorem l15Own_any (x : Sh) (cs : List Value) (w : World) (h : Rd w x.d cs) (hwf : x.wf) (hbk : x.bulk ≤ 4294967295) :
    Calls Tryd.prog 96 #[.agg cs.toArray] w fun e w' => e = .returned (.bool x.self) ∧ Below w.heap.size w w' := by
  have HF := Lib.hid (fun w1 (hb : Below w.heap.size w w1) => l15Keys_any x cs w1 (h.below hb) hwf hbk)
  obtain ⟨k, l, hi, ks, m, kids, v1, v2, rfl, rfl, hk, hkids⟩ := Sh.lay h
  obtain ⟨a1, c1, rfl, _⟩ := hk.strs
  obtain ⟨a2, c2, rfl⟩ := Rd.sl_form hkids
  rw [Sh.ds_map, List.length_map]
  simp only [Sh.ds_map, List.length_map] at HF
  have hA := fun o => (Below.refl w.heap.size w).alloc (Nat.le_refl _) o
  clear hk hkids h hwf hbk
  obtain ⟨ok, hok⟩ : ∃ ok, Sh.self (.mk k l hi ks m kids) = ok := ⟨_, rfl⟩
  rw [hok]
  have HOK := Lib.hid hok; clear hok
  by_cases k8 : k = 8
  · subst k8
    by_cases hl : l = 0
    · subst hl
      by_cases hhi : hi = 0
      · subst hhi
        have H : Hid (ok = Sh.fields ks m kids.length) := by show _ = _; rw [← HOK.out]; simp [Sh.self]
        clear HOK hA
        by_cases hks : ks = []
        · subst hks
          simp only [List.length_nil] at HF ⊢
          go_enter Tryd.func96, Tryd.ntmps96
          go_wp2_with (go_at_call 128; refine (HF.out _ ((Below.refl _ _).alloc (Nat.le_refl _) _)).mono ?_; rintro e w1 ⟨rfl, hb1⟩)
          all_goals (go_ret; exact ⟨by rw [H.out]; rfl, below2 ((Below.refl _ _).alloc (Nat.le_refl _) _) (by assumption) (Nat.le_refl _)⟩)
        · have gks : ((ks.length : Int) == 0) = false := by simpa using hks
          have HKS := Lib.hid hks; clear hks
          go_enter Tryd.func96, Tryd.ntmps96
          go_wp2_with (go_at_call 128; refine (HF.out _ ((Below.refl _ _).alloc (Nat.le_refl _) _)).mono ?_; rintro e w1 ⟨rfl, hb1⟩)
          all_goals (go_ret; exact ⟨by rw [H.out]; rfl, below2 ((Below.refl _ _).alloc (Nat.le_refl _) _) (by assumption) (Nat.le_refl _)⟩)
      · have ghi : (hi == 0) = false := by simpa using hhi
        have H : Hid (ok = false) := by show _ = _; rw [← HOK.out]; simp [Sh.self, hhi]
        clear HOK
        go_enter Tryd.func96, Tryd.ntmps96
        go_wp2
        all_goals (go_ret; exact ⟨by rw [H.out]; rfl, hA _⟩)
    · have gl : (l == 0) = false := by simpa using hl
      have H : Hid (ok = false) := by show _ = _; rw [← HOK.out]; simp [Sh.self, hl]
      clear HOK
      go_enter Tryd.func96, Tryd.ntmps96
      go_wp2
      all_goals (go_ret; exact ⟨by rw [H.out]; rfl, hA _⟩)
  by_cases k7 : k = 7
  · subst k7
    by_cases hks : ks = []
    · subst hks
      by_cases hm : m = 0
      · subst hm
        have H : Hid (ok = decide (kids.length = 1)) := by show _ = _; rw [← HOK.out]; simp [Sh.self]
        clear HOK
        go_enter Tryd.func96, Tryd.ntmps96
        go_wp2
        all_goals (go_ret; exact ⟨by rw [H.out]; exact ret_bool (by rw [Bool.eq_iff_iff]; simp <;> omega), hA _⟩)
      · have gm : (m == 0) = false := by simpa using hm
        have H : Hid (ok = false) := by show _ = _; rw [← HOK.out]; simp [Sh.self, hm]
        clear HOK
        go_enter Tryd.func96, Tryd.ntmps96
        go_wp2
        all_goals (go_ret; exact ⟨by rw [H.out]; rfl, hA _⟩)
    · have gks : ((ks.length : Int) == 0) = false := by simpa using hks
      have H : Hid (ok = false) := by show _ = _; rw [← HOK.out]; simp [Sh.self, hks]
      clear HOK
      go_enter Tryd.func96, Tryd.ntmps96
      go_wp2
      all_goals (go_ret; exact ⟨by rw [H.out]; rfl, hA _⟩)
  by_cases k9 : k = 9
  · subst k9
    by_cases hl : l = 0
    · subst hl
      by_cases hhi : hi = 0
      · subst hhi
        by_cases hks : ks = []
        · subst hks
          by_cases hm : m = 0
          · subst hm
            have H : Hid (ok = decide (2 ≤ kids.length)) := by show _ = _; rw [← HOK.out]; simp [Sh.self]
            clear HOK
            go_enter Tryd.func96, Tryd.ntmps96
            go_wp2
            all_goals (go_ret; exact ⟨by rw [H.out]; exact ret_bool (by rw [Bool.eq_iff_iff]; simp <;> omega), hA _⟩)
          · have gm : (m == 0) = false := by simpa using hm
            have H : Hid (ok = false) := by show _ = _; rw [← HOK.out]; simp [Sh.self, hm]
            clear HOK
            go_enter Tryd.func96, Tryd.ntmps96
            go_wp2
            all_goals (go_ret; exact ⟨by rw [H.out]; rfl, hA _⟩)
        · have gks : ((ks.length : Int) == 0) = false := by simpa using hks
          have H : Hid (ok = false) := by show _ = _; rw [← HOK.out]; simp [Sh.self, hks]
          clear HOK
          go_enter Tryd.func96, Tryd.ntmps96
          go_wp2
          all_goals (go_ret; exact ⟨by rw [H.out]; rfl, hA _⟩)
      · have ghi : (hi == 0) = false := by simpa using hhi
        have H : Hid (ok = false) := by show _ = _; rw [← HOK.out]; simp [Sh.self, hhi]
        clear HOK
        go_enter Tryd.func96, Tryd.ntmps96
        go_wp2
        all_goals (go_ret; exact ⟨by rw [H.out]; rfl, hA _⟩)
    · have gl : (l == 0) = false := by simpa using hl
      have H : Hid (ok = false) := by show _ = _; rw [← HOK.out]; simp [Sh.self, hl]
      clear HOK
      go_enter Tryd.func96, Tryd.ntmps96
      go_wp2
      all_goals (go_ret; exact ⟨by rw [H.out]; rfl, hA _⟩)
  by_cases k3 : k = 3
  · subst k3
    by_cases hks : ks = []
    · subst hks
      by_cases hm : m = 0
      · subst hm
        have H : Hid (ok = decide (kids = [])) := by show _ = _; rw [← HOK.out]; simp [Sh.self]
        clear HOK
        go_enter Tryd.func96, Tryd.ntmps96
        go_wp2
        all_goals (go_ret; exact ⟨by rw [H.out]; exact ret_bool (by rw [Bool.eq_iff_iff]; simp <;> omega), hA _⟩)
      · have gm : (m == 0) = false := by simpa using hm
        have H : Hid (ok = false) := by show _ = _; rw [← HOK.out]; simp [Sh.self, hm]
        clear HOK
        go_enter Tryd.func96, Tryd.ntmps96
        go_wp2
        all_goals (go_ret; exact ⟨by rw [H.out]; rfl, hA _⟩)
    · have gks : ((ks.length : Int) == 0) = false := by simpa using hks
      have H : Hid (ok = false) := by show _ = _; rw [← HOK.out]; simp [Sh.self, hks]
      clear HOK
      go_enter Tryd.func96, Tryd.ntmps96
      go_wp2
      all_goals (go_ret; exact ⟨by rw [H.out]; rfl, hA _⟩)
  by_cases k5 : k = 5
  · subst k5
    by_cases hks : ks = []
    · subst hks
      by_cases hm : m = 0
      · subst hm
        have H : Hid (ok = decide (kids = [])) := by show _ = _; rw [← HOK.out]; simp [Sh.self]
        clear HOK
        go_enter Tryd.func96, Tryd.ntmps96
        go_wp2
        all_goals (go_ret; exact ⟨by rw [H.out]; exact ret_bool (by rw [Bool.eq_iff_iff]; simp <;> omega), hA _⟩)
      · have gm : (m == 0) = false := by simpa using hm
        have H : Hid (ok = false) := by show _ = _; rw [← HOK.out]; simp [Sh.self, hm]
        clear HOK
        go_enter Tryd.func96, Tryd.ntmps96
        go_wp2
        all_goals (go_ret; exact ⟨by rw [H.out]; rfl, hA _⟩)
    · have gks : ((ks.length : Int) == 0) = false := by simpa using hks
      have H : Hid (ok = false) := by show _ = _; rw [← HOK.out]; simp [Sh.self, hks]
      clear HOK
      go_enter Tryd.func96, Tryd.ntmps96
      go_wp2
      all_goals (go_ret; exact ⟨by rw [H.out]; rfl, hA _⟩)
  by_cases k6 : k = 6
  · subst k6
    by_cases hks : ks = []
    · subst hks
      by_cases hm : m = 0
      · subst hm
        have H : Hid (ok = decide (kids = [])) := by show _ = _; rw [← HOK.out]; simp [Sh.self]
        clear HOK
        go_enter Tryd.func96, Tryd.ntmps96
        go_wp2
        all_goals (go_ret; exact ⟨by rw [H.out]; exact ret_bool (by rw [Bool.eq_iff_iff]; simp <;> omega), hA _⟩)
      · have gm : (m == 0) = false := by simpa using hm
        have H : Hid (ok = false) := by show _ = _; rw [← HOK.out]; simp [Sh.self, hm]
        clear HOK
        go_enter Tryd.func96, Tryd.ntmps96
        go_wp2
        all_goals (go_ret; exact ⟨by rw [H.out]; rfl, hA _⟩)
    · have gks : ((ks.length : Int) == 0) = false := by simpa using hks
      have H : Hid (ok = false) := by show _ = _; rw [← HOK.out]; simp [Sh.self, hks]
      clear HOK
      go_enter Tryd.func96, Tryd.ntmps96
      go_wp2
      all_goals (go_ret; exact ⟨by rw [H.out]; rfl, hA _⟩)
  by_cases k0 : k = 0
  · subst k0
    by_cases hl : l = 0
    · subst hl
      by_cases hhi : hi = 0
      · subst hhi
        by_cases hks : ks = []
        · subst hks
          by_cases hm : m = 0
          · subst hm
            have H : Hid (ok = decide (kids = [])) := by show _ = _; rw [← HOK.out]; simp [Sh.self]
            clear HOK
            go_enter Tryd.func96, Tryd.ntmps96
            go_wp2
            all_goals (go_ret; exact ⟨by rw [H.out]; exact ret_bool (by rw [Bool.eq_iff_iff]; simp <;> omega), hA _⟩)
          · have gm : (m == 0) = false := by simpa using hm
            have H : Hid (ok = false) := by show _ = _; rw [← HOK.out]; simp [Sh.self, hm]
            clear HOK
            go_enter Tryd.func96, Tryd.ntmps96
            go_wp2
            all_goals (go_ret; exact ⟨by rw [H.out]; rfl, hA _⟩)
        · have gks : ((ks.length : Int) == 0) = false := by simpa using hks
          have H : Hid (ok = false) := by show _ = _; rw [← HOK.out]; simp [Sh.self, hks]
          clear HOK
          go_enter Tryd.func96, Tryd.ntmps96
          go_wp2
          all_goals (go_ret; exact ⟨by rw [H.out]; rfl, hA _⟩)
      · have ghi : (hi == 0) = false := by simpa using hhi
        have H : Hid (ok = false) := by show _ = _; rw [← HOK.out]; simp [Sh.self, hhi]
        clear HOK
        go_enter Tryd.func96, Tryd.ntmps96
        go_wp2
        all_goals (go_ret; exact ⟨by rw [H.out]; rfl, hA _⟩)
    · have gl : (l == 0) = false := by simpa using hl
      have H : Hid (ok = false) := by show _ = _; rw [← HOK.out]; simp [Sh.self, hl]
      clear HOK
      go_enter Tryd.func96, Tryd.ntmps96
      go_wp2
      all_goals (go_ret; exact ⟨by rw [H.out]; rfl, hA _⟩)
  by_cases k1 : k = 1
  · subst k1
    by_cases hl : l = 0
    · subst hl
      by_cases hhi : hi = 0
      · subst hhi
        by_cases hks : ks = []
        · subst hks
          by_cases hm : m = 0
          · subst hm
            have H : Hid (ok = decide (kids = [])) := by show _ = _; rw [← HOK.out]; simp [Sh.self]
            clear HOK
            go_enter Tryd.func96, Tryd.ntmps96
            go_wp2
            all_goals (go_ret; exact ⟨by rw [H.out]; exact ret_bool (by rw [Bool.eq_iff_iff]; simp <;> omega), hA _⟩)
          · have gm : (m == 0) = false := by simpa using hm
            have H : Hid (ok = false) := by show _ = _; rw [← HOK.out]; simp [Sh.self, hm]
            clear HOK
            go_enter Tryd.func96, Tryd.ntmps96
            go_wp2
            all_goals (go_ret; exact ⟨by rw [H.out]; rfl, hA _⟩)
        · have gks : ((ks.length : Int) == 0) = false := by simpa using hks
          have H : Hid (ok = false) := by show _ = _; rw [← HOK.out]; simp [Sh.self, hks]
          clear HOK
          go_enter Tryd.func96, Tryd.ntmps96
          go_wp2
          all_goals (go_ret; exact ⟨by rw [H.out]; rfl, hA _⟩)
      · have ghi : (hi == 0) = false := by simpa using hhi
        have H : Hid (ok = false) := by show _ = _; rw [← HOK.out]; simp [Sh.self, hhi]
        clear HOK
        go_enter Tryd.func96, Tryd.ntmps96
        go_wp2
        all_goals (go_ret; exact ⟨by rw [H.out]; rfl, hA _⟩)
    · have gl : (l == 0) = false := by simpa using hl
      have H : Hid (ok = false) := by show _ = _; rw [← HOK.out]; simp [Sh.self, hl]
      clear HOK
      go_enter Tryd.func96, Tryd.ntmps96
      go_wp2
      all_goals (go_ret; exact ⟨by rw [H.out]; rfl, hA _⟩)
  by_cases k2 : k = 2
  · subst k2
    by_cases hl : l = 0
    · subst hl
      by_cases hhi : hi = 0
      · subst hhi
        by_cases hks : ks = []
        · subst hks
          by_cases hm : m = 0
          · subst hm
            have H : Hid (ok = decide (kids = [])) := by show _ = _; rw [← HOK.out]; simp [Sh.self]
            clear HOK
            go_enter Tryd.func96, Tryd.ntmps96
            go_wp2
            all_goals (go_ret; exact ⟨by rw [H.out]; exact ret_bool (by rw [Bool.eq_iff_iff]; simp <;> omega), hA _⟩)
          · have gm : (m == 0) = false := by simpa using hm
            have H : Hid (ok = false) := by show _ = _; rw [← HOK.out]; simp [Sh.self, hm]
            clear HOK
            go_enter Tryd.func96, Tryd.ntmps96
            go_wp2
            all_goals (go_ret; exact ⟨by rw [H.out]; rfl, hA _⟩)
        · have gks : ((ks.length : Int) == 0) = false := by simpa using hks
          have H : Hid (ok = false) := by show _ = _; rw [← HOK.out]; simp [Sh.self, hks]
          clear HOK
          go_enter Tryd.func96, Tryd.ntmps96
          go_wp2
          all_goals (go_ret; exact ⟨by rw [H.out]; rfl, hA _⟩)
      · have ghi : (hi == 0) = false := by simpa using hhi
        have H : Hid (ok = false) := by show _ = _; rw [← HOK.out]; simp [Sh.self, hhi]
        clear HOK
        go_enter Tryd.func96, Tryd.ntmps96
        go_wp2
        all_goals (go_ret; exact ⟨by rw [H.out]; rfl, hA _⟩)
    · have gl : (l == 0) = false := by simpa using hl
      have H : Hid (ok = false) := by show _ = _; rw [← HOK.out]; simp [Sh.self, hl]
      clear HOK
      go_enter Tryd.func96, Tryd.ntmps96
      go_wp2
      all_goals (go_ret; exact ⟨by rw [H.out]; rfl, hA _⟩)
  by_cases k4 : k = 4
  · subst k4
    by_cases hl : l = 0
    · subst hl
      by_cases hhi : hi = 0
      · subst hhi
        by_cases hks : ks = []
        · subst hks
          by_cases hm : m = 0
          · subst hm
            have H : Hid (ok = decide (kids = [])) := by show _ = _; rw [← HOK.out]; simp [Sh.self]
            clear HOK
            go_enter Tryd.func96, Tryd.ntmps96
            go_wp2
            all_goals (go_ret; exact ⟨by rw [H.out]; exact ret_bool (by rw [Bool.eq_iff_iff]; simp <;> omega), hA _⟩)
          · have gm : (m == 0) = false := by simpa using hm
            have H : Hid (ok = false) := by show _ = _; rw [← HOK.out]; simp [Sh.self, hm]
            clear HOK
            go_enter Tryd.func96, Tryd.ntmps96
            go_wp2
            all_goals (go_ret; exact ⟨by rw [H.out]; rfl, hA _⟩)
        · have gks : ((ks.length : Int) == 0) = false := by simpa using hks
          have H : Hid (ok = false) := by show _ = _; rw [← HOK.out]; simp [Sh.self, hks]
          clear HOK
          go_enter Tryd.func96, Tryd.ntmps96
          go_wp2
          all_goals (go_ret; exact ⟨by rw [H.out]; rfl, hA _⟩)
      · have ghi : (hi == 0) = false := by simpa using hhi
        have H : Hid (ok = false) := by show _ = _; rw [← HOK.out]; simp [Sh.self, hhi]
        clear HOK
        go_enter Tryd.func96, Tryd.ntmps96
        go_wp2
        all_goals (go_ret; exact ⟨by rw [H.out]; rfl, hA _⟩)
    · have gl : (l == 0) = false := by simpa using hl
      have H : Hid (ok = false) := by show _ = _; rw [← HOK.out]; simp [Sh.self, hl]
      clear HOK
      go_enter Tryd.func96, Tryd.ntmps96
      go_wp2
      all_goals (go_ret; exact ⟨by rw [H.out]; rfl, hA _⟩)
  have H : Hid (ok = false) := by show _ = _; rw [← HOK.out]; simp [Sh.self, k0, k1, k2, k3, k4, k5, k6, k7, k8, k9]
  have B0 : (k == 0) = false := by simpa using k0
  have B1 : (k == 1) = false := by simpa using k1
  have B2 : (k == 2) = false := by simpa using k2
  have B3 : (k == 3) = false := by simpa using k3
  have B4 : (k == 4) = false := by simpa using k4
  have B5 : (k == 5) = false := by simpa using k5
  have B6 : (k == 6) = false := by simpa using k6
  have B7 : (k == 7) = false := by simpa using k7
  have B8 : (k == 8) = false := by simpa using k8
  have B9 : (k == 9) = false := by simpa using k9
  clear HOK k0 k1 k2 k3 k4 k5 k6 k7 k8 k9
  go_enter Tryd.func96, Tryd.ntmps96
  go_wp2
  all_goals (go_ret; exact ⟨by rw [H.out]; rfl, hA _⟩)
end Go.Proofs.YtkeieeogkeonfaaDoor
