/- When a value is right but for its kids: the reference's l02Own. -/
import Derived.Test.YtkeieeogkeonfaaDoorValuePairs
import Derived.Test.YtkeieeogkeonfaaDoorTextS
namespace Go.Proofs.YtkeieeogkeonfaaDoor
open Go.RowKit
open Go.Lib (validD)

theorem isE (s : List UInt8) : s.isEmpty = decide (s = []) := by cases s <;> simp
theorem len0 (l : List V) : ((l.length : Int) == 0) = decide (l = []) := by
  cases l with
  | nil => rfl
  | cons a r => simp; omega
theorem len1 (l : List V) : ((l.length : Int) == 1) = decide (l.length = 1) := by rw [Bool.eq_iff_iff]; simp; omega

set_option maxHeartbeats 400000 in
theorem l02Whole_int (n e : Int) (w : World) (hn : i64ok n) (he : -1000 ≤ e ∧ e ≤ 1000) :
    Calls Tryd.prog 134 #[.int .i64 n, .int .i64 e] w fun r w' => r = .returned (.bool (decide (0 < e) && fitsN e.toNat n)) ∧ w = w' := by
  by_cases h : 0 < e
  · obtain ⟨k, rfl⟩ : ∃ k : Nat, e = k := ⟨e.toNat, by omega⟩
    refine (l02Whole_any n k w hn (by omega)).mono ?_
    rintro r w' ⟨rfl, rfl⟩
    exact ⟨ret_bool (by rw [decide_eq_true (show 0 < k by omega), decide_eq_true h]; rfl), rfl⟩
  · have H := Lib.hid (show (decide (0 < e) && fitsN e.toNat n) = false by rw [decide_eq_false h]; rfl)
    have h2 : ¬ (0 : Int) < e := h
    go_enter Tryd.func134, Tryd.ntmps134
    go_wp2
    go_loopw [5] (fun i wr => i = .int .i64 0 ∧ w = wr) (fun _ _ => 0)
    case atStart => exact ⟨rfl, rfl⟩
    case round =>
      obtain ⟨rfl, rfl⟩ := hrel
      go_wp2
      go_ret
      exact ⟨by rw [H.out]; simp <;> omega, rfl⟩

set_option maxHeartbeats 4000000 in
set_option maxRecDepth 10000 in
theorem l02Own_any (x : V) (cs : List Value) (w : World) (h : Rd w x.d cs) (hwf : x.wf) (hbk : x.bulk ≤ 4294967295) :
    Calls Tryd.prog 109 #[.agg cs.toArray] w fun e w' => e = .returned (.bool x.self) ∧ Below w.heap.size w w' := by
  obtain ⟨k, n, e, s, kids, v1, rfl, rfl, hkids⟩ := V.lay h
  have hP := Lib.hid (fun w1 (hb : Below w.heap.size w w1) => l02Pairs_any kids v1 w1 (hkids.below hb) (by simp only [V.bulk] at hbk; omega))
  obtain ⟨a1, c1, rfl⟩ := Rd.sl_form hkids
  rw [V.ds_map, List.length_map] at hP ⊢
  have hsl : s.length ≤ 4294967295 := by simp only [V.bulk] at hbk; omega
  have hkl : kids.length ≤ 4294967295 := by simp only [V.bulk] at hbk; omega
  obtain ⟨hk, hn, he, _, _, _⟩ := hwf
  obtain ⟨ok, hok⟩ : ∃ ok, V.self (.mk k n e s kids) = ok := ⟨_, rfl⟩
  rw [hok]
  have hA := (Below.refl w.heap.size w).alloc (Nat.le_refl _) (.cells #[.int .i64 k, .int .i64 n, .int .i64 e, .string ⟨s.toArray⟩, .slice a1 kids.length c1] 41)
  clear h hkids hbk
  have HOK := Lib.hid hok; clear hok
  have HA := Lib.hid hA; clear hA; have hW0 := Lib.hid hn; clear hW0
  by_cases q7 : k = 7
  · subst q7
    go_enter Tryd.func109, Tryd.ntmps109
    go_wp2
    go_quiet (fail)
    go_wp2
    all_goals (go_ret; refine ⟨ret_bool ?_, by first | exact below_drewN ((Below.refl _ _).alloc (Nat.le_refl _) _) _ | exact below2 (below_drewN ((Below.refl _ _).alloc (Nat.le_refl _) _) _) (by assumption) (by first | exact Nat.le_refl _ | simp)⟩; rw [← HOK.out]; simp_all [V.self, V.selfBy, isE, len0, len1] <;> (intros; omega))
  by_cases q0 : k = 0
  · subst q0
    go_enter Tryd.func109, Tryd.ntmps109
    go_wp2
    go_quiet (fail)
    go_wp2
    all_goals (go_ret; refine ⟨ret_bool ?_, by first | exact below_drewN ((Below.refl _ _).alloc (Nat.le_refl _) _) _ | exact below2 (below_drewN ((Below.refl _ _).alloc (Nat.le_refl _) _) _) (by assumption) (by first | exact Nat.le_refl _ | simp)⟩; rw [← HOK.out]; simp_all [V.self, V.selfBy, isE, len0, len1] <;> (intros; omega))
  by_cases q1 : k = 1
  · subst q1
    go_enter Tryd.func109, Tryd.ntmps109
    go_wp2
    go_quiet (fail)
    go_wp2
    all_goals (go_ret; refine ⟨ret_bool ?_, by first | exact below_drewN ((Below.refl _ _).alloc (Nat.le_refl _) _) _ | exact below2 (below_drewN ((Below.refl _ _).alloc (Nat.le_refl _) _) _) (by assumption) (by first | exact Nat.le_refl _ | simp)⟩; rw [← HOK.out]; simp_all [V.self, V.selfBy, isE, len0, len1] <;> (intros; omega))
  by_cases q2 : k = 2
  · subst q2
    go_enter Tryd.func109, Tryd.ntmps109
    go_wp2
    go_quiet (fail)
    go_wp2
    all_goals (go_ret; refine ⟨ret_bool ?_, by first | exact below_drewN ((Below.refl _ _).alloc (Nat.le_refl _) _) _ | exact below2 (below_drewN ((Below.refl _ _).alloc (Nat.le_refl _) _) _) (by assumption) (by first | exact Nat.le_refl _ | simp)⟩; rw [← HOK.out]; simp_all [V.self, V.selfBy, isE, len0, len1] <;> (intros; omega))
  by_cases q3 : k = 3
  · subst q3
    go_enter Tryd.func109, Tryd.ntmps109
    go_wp2
    go_quiet (fail)
    go_wp2
    all_goals (go_ret; refine ⟨ret_bool ?_, by first | exact below_drewN ((Below.refl _ _).alloc (Nat.le_refl _) _) _ | exact below2 (below_drewN ((Below.refl _ _).alloc (Nat.le_refl _) _) _) (by assumption) (by first | exact Nat.le_refl _ | simp)⟩; rw [← HOK.out]; simp_all [V.self, V.selfBy, isE, len0, len1] <;> (intros; omega))
  by_cases q6 : k = 6
  · subst q6
    by_cases hs2 : s.length ≤ 2000
    · skip
      go_enter Tryd.func109, Tryd.ntmps109
      go_wp2
      go_quiet (fail)
      go_wp2
      all_goals (go_ret; refine ⟨ret_bool ?_, by first | exact below_drewN ((Below.refl _ _).alloc (Nat.le_refl _) _) _ | exact below2 (below_drewN ((Below.refl _ _).alloc (Nat.le_refl _) _) _) (by assumption) (by first | exact Nat.le_refl _ | simp)⟩; rw [← HOK.out]; simp_all [V.self, V.selfBy, isE, len0, len1] <;> (intros; omega))
    · skip
      go_enter Tryd.func109, Tryd.ntmps109
      go_wp2
      go_quiet (fail)
      go_wp2
      all_goals (go_ret; refine ⟨ret_bool ?_, by first | exact below_drewN ((Below.refl _ _).alloc (Nat.le_refl _) _) _ | exact below2 (below_drewN ((Below.refl _ _).alloc (Nat.le_refl _) _) _) (by assumption) (by first | exact Nat.le_refl _ | simp)⟩; rw [← HOK.out]; simp_all [V.self, V.selfBy, isE, len0, len1] <;> (intros; omega))
  by_cases q5 : k = 5
  · subst q5
    by_cases hs2 : s.length ≤ 2000
    · skip
      go_enter Tryd.func109, Tryd.ntmps109
      go_wp2
      go_quiet (fail)
      go_wp2_with (go_at_call 123; refine (textOk_spec s _ hsl).mono ?_; rintro e1 w1 ⟨rfl, hb1⟩; have f3 : w1.cell? ⟨w.heap.size, 3, none⟩ = some (.string ⟨s.toArray⟩) := (by rw [(bcell hb1).1 _ _ (by simp)]; simp [go_sem]); have f4 : w1.cell? ⟨w.heap.size, 4, none⟩ = some (.slice a1 kids.length c1) := (by rw [(bcell hb1).1 _ _ (by simp)]; simp [go_sem]))
      all_goals (go_ret; refine ⟨ret_bool ?_, by first | exact below_drewN ((Below.refl _ _).alloc (Nat.le_refl _) _) _ | exact below2 (below_drewN ((Below.refl _ _).alloc (Nat.le_refl _) _) _) (by assumption) (by first | exact Nat.le_refl _ | simp)⟩; rw [← HOK.out]; simp_all [V.self, V.selfBy, isE, len0, len1] <;> (intros; omega))
    · skip
      go_enter Tryd.func109, Tryd.ntmps109
      go_wp2
      go_quiet (fail)
      go_wp2_with (go_at_call 123; refine (textOk_spec s _ hsl).mono ?_; rintro e1 w1 ⟨rfl, hb1⟩; have f3 : w1.cell? ⟨w.heap.size, 3, none⟩ = some (.string ⟨s.toArray⟩) := (by rw [(bcell hb1).1 _ _ (by simp)]; simp [go_sem]); have f4 : w1.cell? ⟨w.heap.size, 4, none⟩ = some (.slice a1 kids.length c1) := (by rw [(bcell hb1).1 _ _ (by simp)]; simp [go_sem]))
      all_goals (go_ret; refine ⟨ret_bool ?_, by first | exact below_drewN ((Below.refl _ _).alloc (Nat.le_refl _) _) _ | exact below2 (below_drewN ((Below.refl _ _).alloc (Nat.le_refl _) _) _) (by assumption) (by first | exact Nat.le_refl _ | simp)⟩; rw [← HOK.out]; simp_all [V.self, V.selfBy, isE, len0, len1] <;> (intros; omega))
  by_cases q8 : k = 8
  · subst q8
    go_enter Tryd.func109, Tryd.ntmps109
    go_wp2
    go_quiet (fail)
    go_wp2_with (go_at_call 135; refine (hP.out _ (below_drewN ((Below.refl _ _).alloc (Nat.le_refl _) _) _)).mono ?_; rintro e1 w1 ⟨rfl, hb1⟩)
    all_goals (go_ret; refine ⟨ret_bool ?_, by first | exact below_drewN ((Below.refl _ _).alloc (Nat.le_refl _) _) _ | exact below2 (below_drewN ((Below.refl _ _).alloc (Nat.le_refl _) _) _) (by assumption) (by first | exact Nat.le_refl _ | simp)⟩; rw [← HOK.out]; simp_all [V.self, V.selfBy, isE, len0, len1] <;> (intros; omega))
  by_cases q9 : k = 9
  · subst q9
    go_enter Tryd.func109, Tryd.ntmps109
    go_wp2
    go_quiet (fail)
    go_wp2_with (go_at_call 121; refine (l01In_any _ _ _ _).mono ?_; rintro e1 w1 ⟨rfl, rfl⟩)
    all_goals (go_ret; refine ⟨ret_bool ?_, by first | exact below_drewN ((Below.refl _ _).alloc (Nat.le_refl _) _) _ | exact below2 (below_drewN ((Below.refl _ _).alloc (Nat.le_refl _) _) _) (by assumption) (by first | exact Nat.le_refl _ | simp)⟩; rw [← HOK.out]; simp_all [V.self, V.selfBy, isE, len0, len1] <;> (intros; omega))
  by_cases q4 : k = 4
  · subst q4
    by_cases g1 : Int.tmod n 10 = 0
    · have g1' : (Int.tmod n 10 != 0) = false := by simpa using g1
      have H := Lib.hid (show ok = false by rw [← HOK.out]; simp [V.self, V.selfBy, decOk, g1])
      go_enter Tryd.func109, Tryd.ntmps109
      go_wp2
      go_quiet (fail)
      go_wp2
      go_ret
      exact ⟨by rw [H.out]; rfl, below_drewN ((Below.refl _ _).alloc (Nat.le_refl _) _) _⟩
    · have g1' : (Int.tmod n 10 != 0) = true := by simpa using g1
      by_cases g2 : -20 ≤ e ∧ e ≤ 20
      · by_cases g3 : e = 0
        · subst g3
          have H := Lib.hid (show ok = false by rw [← HOK.out]; simp [V.self, V.selfBy, decOk])
          go_enter Tryd.func109, Tryd.ntmps109
          go_wp2
          go_quiet (fail)
          go_wp2_with (go_at_call 121; refine (l01In_any _ _ _ _).mono ?_; rintro e1 w1 ⟨rfl, rfl⟩)
          all_goals (go_ret; exact ⟨by rw [H.out]; rfl, below_drewN ((Below.refl _ _).alloc (Nat.le_refl _) _) _⟩)
        · have g3' : (e == 0) = false := by simpa using g3
          by_cases g4 : -999999999999999999 ≤ n ∧ n ≤ 999999999999999999
          · by_cases g5 : s = []
            · subst g5
              by_cases g6 : kids = []
              · subst g6
                have H := Lib.hid (show ok = !(decide (0 < e) && fitsN e.toNat n) by rw [← HOK.out]; simp [V.self, V.selfBy, decOk, inR_yes g2, inR_yes g4, g1, g3])
                go_enter Tryd.func109, Tryd.ntmps109
                go_wp2
                go_quiet (fail)
                go_wp2_with (first | (go_at_call 121; refine (l01In_any _ _ _ _).mono ?_; rintro e1 w1 ⟨rfl, rfl⟩; first | rw [inR_yes g2] | rw [inR_yes g4]) | (go_at_call 134; refine (l02Whole_int n e _ hn (by omega)).mono ?_; rintro e1 w1 ⟨rfl, rfl⟩))
                go_ret
                exact ⟨by rw [H.out]; simp, below_drewN ((Below.refl _ _).alloc (Nat.le_refl _) _) _⟩
              · have H := Lib.hid (show ok = false by rw [← HOK.out]; simp [V.self, V.selfBy, g6])
                have g6' : ((kids.length : Int) == 0) = false := by rw [len0, decide_eq_false g6]
                go_enter Tryd.func109, Tryd.ntmps109
                go_wp2
                go_quiet (fail)
                go_wp2_with (first | (go_at_call 121; refine (l01In_any _ _ _ _).mono ?_; rintro e1 w1 ⟨rfl, rfl⟩; first | rw [inR_yes g2] | rw [inR_yes g4]))
                go_ret
                exact ⟨by rw [H.out]; rfl, below_drewN ((Below.refl _ _).alloc (Nat.le_refl _) _) _⟩
            · have H := Lib.hid (show ok = false by rw [← HOK.out]; simp [V.self, V.selfBy, g5])
              have g5' : s.isEmpty = false := by rw [isE, decide_eq_false g5]
              go_enter Tryd.func109, Tryd.ntmps109
              go_wp2
              go_quiet (fail)
              go_wp2_with (first | (go_at_call 121; refine (l01In_any _ _ _ _).mono ?_; rintro e1 w1 ⟨rfl, rfl⟩; first | rw [inR_yes g2] | rw [inR_yes g4]))
              go_ret
              exact ⟨by rw [H.out]; rfl, below_drewN ((Below.refl _ _).alloc (Nat.le_refl _) _) _⟩
          · have H := Lib.hid (show ok = false by rw [← HOK.out]; simp [V.self, V.selfBy, decOk, inR_no g4])
            go_enter Tryd.func109, Tryd.ntmps109
            go_wp2
            go_quiet (fail)
            go_wp2_with (first | (go_at_call 121; refine (l01In_any _ _ _ _).mono ?_; rintro e1 w1 ⟨rfl, rfl⟩; first | rw [inR_no g4] | rw [inR_yes g2]))
            go_ret
            exact ⟨by rw [H.out]; rfl, below_drewN ((Below.refl _ _).alloc (Nat.le_refl _) _) _⟩
      · have H := Lib.hid (show ok = false by rw [← HOK.out]; simp [V.self, V.selfBy, decOk, inR_no g2])
        have H2 := Lib.hid (inR_no g2)
        go_enter Tryd.func109, Tryd.ntmps109
        go_wp2
        go_quiet (fail)
        go_wp2_with (go_at_call 121; refine (l01In_any _ _ _ _).mono ?_; rintro e1 w1 ⟨rfl, rfl⟩; try rw [H2.out])
        all_goals (go_ret; exact ⟨by rw [H.out]; rfl, below_drewN ((Below.refl _ _).alloc (Nat.le_refl _) _) _⟩)
  have H := Lib.hid (show ok = false by rw [← HOK.out]; simp [V.self, V.selfBy, q0, q1, q2, q3, q4, q5, q6, q7, q8, q9])
  go_enter Tryd.func109, Tryd.ntmps109
  go_wp2
  go_quiet (fail)
  go_wp2
  all_goals (go_ret; exact ⟨by rw [H.out]; rfl, below_drewN ((Below.refl _ _).alloc (Nat.le_refl _) _) _⟩)
end Go.Proofs.YtkeieeogkeonfaaDoor
