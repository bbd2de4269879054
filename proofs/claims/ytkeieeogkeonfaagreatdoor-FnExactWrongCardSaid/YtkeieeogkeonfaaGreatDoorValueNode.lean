/- Whether a value is right but for its kids: the program's isNode. -/
import Derived.Test.YtkeieeogkeonfaaGreatDoorValueKids
import Derived.Test.YtkeieeogkeonfaaGreatDoorValueOkS
import Derived.Test.YtkeieeogkeonfaaGreatDoorTextI
import Derived.RegionTactic
import Derived.ChangeAlike
namespace Go.Proofs.YtkeieeogkeonfaaGreatDoor
open Go.RowKit
open Go.Lib (validD)

/-- right but for the kids, of a value of this kind -/
def V.node : V → Bool
  | .mk k n e s _ =>
    if k = 0 ∨ k = 1 ∨ k = 2 ∨ k = 7 ∨ k = 8 then decide (n = 0) && (decide (e = 0) && decide (s = []))
    else if k = 3 then decide (e = 0) && decide (s = [])
    else if k = 4 then decOk n e && decide (s = [])
    else if k = 5 then decide (s.length ≤ 2000) && (validD s && (decide (n = 0) && decide (e = 0)))
    else if k = 6 then decide (s.length ≤ 2000) && (decide (n = 0) && decide (e = 0))
    else if k = 9 then inR n 0 1000000 && (decide (e = 0) && decide (s = []))
    else false
theorem V.selfI_node (x : V) : x.selfI = (x.node && V.kidsOk x.kind x.kids) := by
  obtain ⟨k, n, e, s, kids⟩ := x
  show V.selfBy pairsOkI _ = (_ && V.kidsOk k kids)
  unfold V.node V.kidsOk V.selfBy
  by_cases h0 : k = 0 ∨ k = 1 ∨ k = 2
  · rcases h0 with rfl | rfl | rfl <;> simp [Bool.and_assoc]
  by_cases h3 : k = 3
  · subst h3; simp [Bool.and_assoc]
  by_cases h4 : k = 4
  · subst h4; simp [Bool.and_assoc]
  by_cases h5 : k = 5
  · subst h5
    show (decide (n = 0) && (decide (e = 0) && (validD s && (decide (s.length ≤ 2000) && decide (kids = []))))) = ((decide (s.length ≤ 2000) && (validD s && (decide (n = 0) && decide (e = 0)))) && decide (kids = []))
    cases decide (n = 0) <;> cases decide (e = 0) <;> cases validD s <;> cases decide (s.length ≤ 2000) <;> cases decide (kids = []) <;> rfl
  by_cases h6 : k = 6
  · subst h6
    show (decide (n = 0) && (decide (e = 0) && (decide (s.length ≤ 2000) && decide (kids = [])))) = ((decide (s.length ≤ 2000) && (decide (n = 0) && decide (e = 0))) && decide (kids = []))
    cases decide (n = 0) <;> cases decide (e = 0) <;> cases decide (s.length ≤ 2000) <;> cases decide (kids = []) <;> rfl
  by_cases h7 : k = 7
  · subst h7; simp
  by_cases h8 : k = 8
  · subst h8; simp [Bool.and_assoc]
  by_cases h9 : k = 9
  · subst h9; simp [Bool.and_assoc]
  · have a0 : k ≠ 0 := fun e => h0 (.inl e)
    have a1 : k ≠ 1 := fun e => h0 (.inr (.inl e))
    have a2 : k ≠ 2 := fun e => h0 (.inr (.inr e))
    simp [a0, a1, a2, h3, h4, h5, h6, h7, h8, h9]

set_option maxHeartbeats 4000000 in
set_option maxRecDepth 10000 in
theorem isNode_any (x : V) (cs : List Value) (w : World) (h : Rd w x.d cs) (hwf : x.wf) (hbk : x.bulk ≤ 4294967295) (hT : Tabs w) :
    Calls Tryz.prog 56 #[.agg cs.toArray] w fun e w' => e = .returned (.bool x.node) ∧ Below w.heap.size w w' := by
  obtain ⟨k, n, e, s, kids, v1, rfl, rfl, hkids⟩ := V.lay h
  obtain ⟨a1, c1, rfl⟩ := Rd.sl_form hkids
  rw [V.ds_map, List.length_map] at h ⊢
  have hsl : s.length ≤ 4294967295 := by simp only [V.bulk] at hbk; omega
  have HD := Lib.hid (fun w1 (hb : Below w.heap.size w w1) => isDec_any _ _ w1 (h.below hb) hwf)
  clear h hkids hbk hwf
  obtain ⟨ok, hok⟩ : ∃ ok, V.node (.mk k n e s kids) = ok := ⟨_, rfl⟩
  rw [hok]
  have HOK := Lib.hid hok; clear hok
  by_cases q0 : k = 0
  · subst q0
    go_enter Tryz.func56, Tryz.ntmps56
    go_wp2
    all_goals (go_ret; refine ⟨ret_bool ?_, by first | exact ((Below.refl _ _).alloc (Nat.le_refl _) _).alloc (by simp) _ | exact below_drewN (((Below.refl _ _).alloc (Nat.le_refl _) _).alloc (by simp) _) _⟩; rw [← HOK.out]; simp_all [V.node, isE])
  by_cases q1 : k = 1
  · subst q1
    go_enter Tryz.func56, Tryz.ntmps56
    go_wp2
    all_goals (go_ret; refine ⟨ret_bool ?_, by first | exact ((Below.refl _ _).alloc (Nat.le_refl _) _).alloc (by simp) _ | exact below_drewN (((Below.refl _ _).alloc (Nat.le_refl _) _).alloc (by simp) _) _⟩; rw [← HOK.out]; simp_all [V.node, isE])
  by_cases q2 : k = 2
  · subst q2
    go_enter Tryz.func56, Tryz.ntmps56
    go_wp2
    all_goals (go_ret; refine ⟨ret_bool ?_, by first | exact ((Below.refl _ _).alloc (Nat.le_refl _) _).alloc (by simp) _ | exact below_drewN (((Below.refl _ _).alloc (Nat.le_refl _) _).alloc (by simp) _) _⟩; rw [← HOK.out]; simp_all [V.node, isE])
  by_cases q7 : k = 7
  · subst q7
    go_enter Tryz.func56, Tryz.ntmps56
    go_wp2
    all_goals (go_ret; refine ⟨ret_bool ?_, by first | exact ((Below.refl _ _).alloc (Nat.le_refl _) _).alloc (by simp) _ | exact below_drewN (((Below.refl _ _).alloc (Nat.le_refl _) _).alloc (by simp) _) _⟩; rw [← HOK.out]; simp_all [V.node, isE])
  by_cases q8 : k = 8
  · subst q8
    go_enter Tryz.func56, Tryz.ntmps56
    go_wp2
    all_goals (go_ret; refine ⟨ret_bool ?_, by first | exact ((Below.refl _ _).alloc (Nat.le_refl _) _).alloc (by simp) _ | exact below_drewN (((Below.refl _ _).alloc (Nat.le_refl _) _).alloc (by simp) _) _⟩; rw [← HOK.out]; simp_all [V.node, isE])
  by_cases q3 : k = 3
  · subst q3
    go_enter Tryz.func56, Tryz.ntmps56
    go_wp2
    all_goals (go_ret; refine ⟨ret_bool ?_, by first | exact ((Below.refl _ _).alloc (Nat.le_refl _) _).alloc (by simp) _ | exact below_drewN (((Below.refl _ _).alloc (Nat.le_refl _) _).alloc (by simp) _) _⟩; rw [← HOK.out]; simp_all [V.node, isE])
  by_cases q9 : k = 9
  · subst q9
    by_cases g : 0 ≤ n ∧ n ≤ 1000000
    · have H := Lib.hid (show ok = (decide (e = 0) && decide (s = [])) by rw [← HOK.out]; simp [V.node, inR_yes g])
      go_enter Tryz.func56, Tryz.ntmps56
      go_wp2
      all_goals (go_ret; refine ⟨ret_bool ?_, by first | exact ((Below.refl _ _).alloc (Nat.le_refl _) _).alloc (by simp) _ | exact (((Below.refl _ _).alloc (Nat.le_refl _) _).alloc (by simp) _).setCell (by simp) _⟩; rw [H.out]; simp_all [isE])
    · have H := Lib.hid (show ok = false by rw [← HOK.out]; simp [V.node, inR_no g])
      have H2 := Lib.hid (inR_no g)
      go_enter Tryz.func56, Tryz.ntmps56
      go_wp2_with (go_at_call 63; refine (within_any _ _ _ _).mono ?_; rw [H2.out]; rintro e1 w1 ⟨rfl, rfl⟩)
      all_goals (go_ret; exact ⟨by rw [H.out]; rfl, ((Below.refl _ _).alloc (Nat.le_refl _) _).alloc (by simp) _⟩)
  by_cases q6 : k = 6
  · subst q6
    by_cases g : s.length ≤ 2000
    · have H := Lib.hid (show ok = (decide (n = 0) && decide (e = 0)) by rw [← HOK.out]; simp [V.node, g])
      go_enter Tryz.func56, Tryz.ntmps56
      go_wp2
      all_goals (go_ret; refine ⟨ret_bool ?_, by first | exact ((Below.refl _ _).alloc (Nat.le_refl _) _).alloc (by simp) _ | exact (((Below.refl _ _).alloc (Nat.le_refl _) _).alloc (by simp) _).setCell (by simp) _⟩; rw [H.out]; simp_all [isE])
    · have H := Lib.hid (show ok = false by rw [← HOK.out]; simp [V.node, g])
      have g' : (2000 : Int) < s.length := by omega
      go_enter Tryz.func56, Tryz.ntmps56
      go_wp2
      all_goals (go_ret; exact ⟨by rw [H.out]; rfl, ((Below.refl _ _).alloc (Nat.le_refl _) _).alloc (by simp) _⟩)
  by_cases q5 : k = 5
  · subst q5
    by_cases g : s.length ≤ 2000
    · have g' : ¬ (2000 : Int) < s.length := by omega
      have g2 := decide_eq_false g'
      cases hv : validD s with
      | true =>
        have HV := Lib.hid hv
        have H := Lib.hid (show ok = (decide (n = 0) && decide (e = 0)) by rw [← HOK.out]; simp [V.node, g, hv])
        clear hv
        go_enter Tryz.func56, Tryz.ntmps56
        go_wp2_with (go_at_call 73; refine (textOk_impl s _ hsl (hT.below (((Below.refl _ _).alloc (Nat.le_refl _) _).alloc (by simp) _))).mono ?_; rw [HV.out]; rintro e1 w1 ⟨rfl, hb1⟩; have C := (bcell hb1).1; have F := (bcell hb1).2; have hz1 := hb1.size; have z1 : w.heap.size < w1.heap.size := (by simp at hz1; omega); have z2 : w.heap.size + 1 < w1.heap.size := (by simp at hz1; omega); have f1 : w1.cell? ⟨w.heap.size, 1, none⟩ = some (.int .i64 n) := (by rw [C _ _ (by simp <;> omega)]; simp [go_sem]); have f2 : w1.cell? ⟨w.heap.size, 2, none⟩ = some (.int .i64 e) := (by rw [C _ _ (by simp <;> omega)]; simp [go_sem]); have f3 : w1.cell? ⟨w.heap.size, 3, none⟩ = some (.string ⟨s.toArray⟩) := (by rw [C _ _ (by simp <;> omega)]; simp [go_sem]); have p1 : w1.cell? ⟨w.heap.size + 1, 1, none⟩ = some (.int .i64 0) := (by rw [C _ _ (by simp <;> omega)]; simp [go_sem]); have p2 : w1.cell? ⟨w.heap.size + 1, 2, none⟩ = some (.int .i64 0) := (by rw [C _ _ (by simp <;> omega)]; simp [go_sem]); have p3 : w1.cell? ⟨w.heap.size + 1, 3, none⟩ = some (.string ⟨#[]⟩) := (by rw [C _ _ (by simp <;> omega)]; simp [go_sem]); have p9 : w1.frozen? ⟨w.heap.size + 1, 3, none⟩ = false := (by rw [F _ _ (by simp <;> omega)]; simp [go_sem]); clear C F hz1)
        all_goals (go_ret; refine ⟨ret_bool ?_, by first | exact (below2 (((Below.refl _ _).alloc (Nat.le_refl _) _).alloc (by simp) _) hb1 (Nat.le_refl _)).setCell (by simp) _ | exact below2 (((Below.refl _ _).alloc (Nat.le_refl _) _).alloc (by simp) _) hb1 (Nat.le_refl _)⟩; rw [H.out]; simp_all [isE])
      | false =>
        have HV := Lib.hid hv
        have H := Lib.hid (show ok = false by rw [← HOK.out]; simp [V.node, hv])
        clear hv
        go_enter Tryz.func56, Tryz.ntmps56
        go_wp2_with (go_at_call 73; refine (textOk_impl s _ hsl (hT.below (((Below.refl _ _).alloc (Nat.le_refl _) _).alloc (by simp) _))).mono ?_; rw [HV.out]; rintro e1 w1 ⟨rfl, hb1⟩)
        go_ret
        exact ⟨by rw [H.out]; rfl, below2 (((Below.refl _ _).alloc (Nat.le_refl _) _).alloc (by simp) _) hb1 (Nat.le_refl _)⟩
    · have H := Lib.hid (show ok = false by rw [← HOK.out]; simp [V.node, g])
      have g' : (2000 : Int) < s.length := by omega
      go_enter Tryz.func56, Tryz.ntmps56
      go_wp2
      all_goals (go_ret; exact ⟨by rw [H.out]; rfl, ((Below.refl _ _).alloc (Nat.le_refl _) _).alloc (by simp) _⟩)
  by_cases q4 : k = 4
  · subst q4
    cases hv : decOk n e with
    | true =>
      have HV := Lib.hid (show decOk (V.num (.mk 4 n e s kids)) (V.exp (.mk 4 n e s kids)) = true from hv)
      have H := Lib.hid (show ok = decide (s = []) by rw [← HOK.out]; simp [V.node, hv])
      clear hv
      go_enter Tryz.func56, Tryz.ntmps56
      go_wp2_with (go_at_call 81; refine (HD.out _ (((Below.refl _ _).alloc (Nat.le_refl _) _).alloc (by simp) _)).mono ?_; rw [HV.out]; rintro e1 w1 ⟨rfl, hb1⟩; have C := (bcell hb1).1; have F := (bcell hb1).2; have hz1 := hb1.size; have z1 : w.heap.size < w1.heap.size := (by simp at hz1; omega); have z2 : w.heap.size + 1 < w1.heap.size := (by simp at hz1; omega); have f1 : w1.cell? ⟨w.heap.size, 1, none⟩ = some (.int .i64 n) := (by rw [C _ _ (by simp <;> omega)]; simp [go_sem]); have f2 : w1.cell? ⟨w.heap.size, 2, none⟩ = some (.int .i64 e) := (by rw [C _ _ (by simp <;> omega)]; simp [go_sem]); have f3 : w1.cell? ⟨w.heap.size, 3, none⟩ = some (.string ⟨s.toArray⟩) := (by rw [C _ _ (by simp <;> omega)]; simp [go_sem]); have p1 : w1.cell? ⟨w.heap.size + 1, 1, none⟩ = some (.int .i64 0) := (by rw [C _ _ (by simp <;> omega)]; simp [go_sem]); have p2 : w1.cell? ⟨w.heap.size + 1, 2, none⟩ = some (.int .i64 0) := (by rw [C _ _ (by simp <;> omega)]; simp [go_sem]); have p3 : w1.cell? ⟨w.heap.size + 1, 3, none⟩ = some (.string ⟨#[]⟩) := (by rw [C _ _ (by simp <;> omega)]; simp [go_sem]); have p8 : w1.frozen? ⟨w.heap.size + 1, 1, none⟩ = false := (by rw [F _ _ (by simp <;> omega)]; simp [go_sem]); have p9 : w1.frozen? ⟨w.heap.size + 1, 2, none⟩ = false := (by rw [F _ _ (by simp <;> omega)]; simp [go_sem]); clear C F hz1)
      have hbel : Below w.heap.size w w1 := below2 (((Below.refl _ _).alloc (Nat.le_refl _) _).alloc (by simp) _) hb1 (Nat.le_refl _)
      go_region
      all_goals (go_wp2; go_ret; refine ⟨ret_bool ?_, by first | exact ((hbel.setCell (by simp) _).setCell (by simp) _).drew | exact (hbel.setCell (by simp) _).setCell (by simp) _ | exact below_drewN ((hbel.setCell (by simp) _).setCell (by simp) _) _⟩; rw [H.out]; simp [isE])
    | false =>
      have HV := Lib.hid (show decOk (V.num (.mk 4 n e s kids)) (V.exp (.mk 4 n e s kids)) = false from hv)
      have H := Lib.hid (show ok = false by rw [← HOK.out]; simp [V.node, hv])
      clear hv
      go_enter Tryz.func56, Tryz.ntmps56
      go_wp2_with (go_at_call 81; refine (HD.out _ (((Below.refl _ _).alloc (Nat.le_refl _) _).alloc (by simp) _)).mono ?_; rw [HV.out]; rintro e1 w1 ⟨rfl, hb1⟩)
      go_ret
      exact ⟨by rw [H.out]; rfl, below2 (((Below.refl _ _).alloc (Nat.le_refl _) _).alloc (by simp) _) hb1 (Nat.le_refl _)⟩
  have H := Lib.hid (show ok = false by rw [← HOK.out]; simp [V.node, q0, q1, q2, q3, q4, q5, q6, q7, q8, q9])
  go_enter Tryz.func56, Tryz.ntmps56
  go_wp2
  all_goals (go_ret; exact ⟨by rw [H.out]; rfl, ((Below.refl _ _).alloc (Nat.le_refl _) _).alloc (by simp) _⟩)
end Go.Proofs.YtkeieeogkeonfaaGreatDoor
