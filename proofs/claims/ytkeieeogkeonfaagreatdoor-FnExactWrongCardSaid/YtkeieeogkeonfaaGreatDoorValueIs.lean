/- When a value is right: the program's isValue and ValueOk. -/
import Derived.Test.YtkeieeogkeonfaaGreatDoorValueNode
import Derived.Test.YtkeieeogkeonfaaGreatDoorValueOkS
import Derived.Test.YtkeieeogkeonfaaGreatDoorFind
import Derived.Test.YtkeieeogkeonfaaGreatDoorRegion
import Derived.Test.YtkeieeogkeonfaaGreatDoorBox
import Derived.Deep.RegionHeld3
import Derived.Deep.QuietTactic
import Derived.BigQuiet
namespace Go.Proofs.YtkeieeogkeonfaaGreatDoor
open Go.RowKit
open Go.Lib (validD)

def vGood (deep : Nat) (L : Int) (x : V) : Bool := V.rightBy pairsOkI (12 - deep) x && decide ((x.nodes : Int) ≤ L)
def vGoods (deep : Nat) (L : Int) (xs : List V) : Bool := V.rightsBy pairsOkI (12 - deep) xs && decide ((V.nodess xs : Int) ≤ L)

def VIsA (n : Nat) : Prop := ∀ (x : V) (cs : List Value) (deep N g : Nat) (L : Int) (w : World), x.nodes ≤ n → RdN N w x.d cs → N ≤ g → intBox w g L → x.wf → x.bulk ≤ 4294967295 → Tabs w → GlobN N → deep ≤ 1000000 → 0 ≤ L ∧ L ≤ 1000 →
  Calls Tryz.prog 37 #[.agg cs.toArray, .int .i64 deep, .pointer (some ⟨g, 0, none⟩)] w fun e w' => e = .returned (.bool (vGood deep L x)) ∧ (∃ L' : Int, intBox w' g L' ∧ (vGood deep L x = true → L' = L - x.nodes)) ∧ Keep (· = g) w w'

theorem vGood_no1 {deep : Nat} {L : Int} {x : V} (h : L - 1 < 0) : vGood deep L x = false := by
  have := x.nodes_pos; unfold vGood; rw [decide_eq_false (by omega), Bool.and_false]
theorem vGood_no2 {deep : Nat} {L : Int} {x : V} (h : (12 : Int) < deep) : vGood deep L x = false := by
  obtain ⟨k, m, e, s, kids⟩ := x
  unfold vGood; simp only [V.rightBy]; rw [decide_eq_false (show ¬ (0 : Int) ≤ 12 - deep by omega)]; simp
theorem V.nodess_ge : ∀ xs : List V, xs.length ≤ V.nodess xs
  | [] => by simp
  | x :: xs => by have := x.nodes_pos; have := V.nodess_ge xs; simp only [V.nodess, List.length_cons]; omega
theorem vGood_no3 {deep : Nat} {L : Int} {k m e : Int} {s : List UInt8} {kids : List V} (h : L - 1 < kids.length) : vGood deep L (.mk k m e s kids) = false := by
  have := V.nodess_ge kids; unfold vGood; rw [decide_eq_false (by simp only [V.nodes]; omega), Bool.and_false]
theorem vGood_no5 {deep : Nat} {L : Int} {x : V} (h : x.selfI = false) : vGood deep L x = false := by
  obtain ⟨k, m, e, s, kids⟩ := x
  unfold vGood; simp only [V.rightBy]; rw [show V.selfBy pairsOkI (.mk k m e s kids) = false from h]; simp
theorem vGood_yes {deep : Nat} {L : Int} {k m e : Int} {s : List UInt8} {kids : List V} (h2 : ¬ (12 : Int) < deep) (ho : V.selfI (.mk k m e s kids) = true) :
    vGood deep L (.mk k m e s kids) = vGoods (deep + 1) (L - 1) kids := by
  unfold vGood vGoods; simp only [V.rightBy, V.nodes]
  rw [show V.selfBy pairsOkI (.mk k m e s kids) = true from ho, decide_eq_true (show (0 : Int) ≤ 12 - deep by omega), show (12 : Int) - deep - 1 = 12 - (deep + 1 : Nat) by omega, Bool.and_true, Bool.and_true]
  congr 1; exact decide_eq_decide.2 (by omega)

def VIsC (n : Nat) : Prop := ∀ (xs : List V) (va : Value) (deep N g bd bl : Nat) (L : Int) (w : World), V.nodess xs ≤ n → RdN N w (.sl 5 (V.ds xs)) [va] → N ≤ g → intBox w g L → intBox w bd deep → bd ≠ g → w.cell? ⟨bl, 0, none⟩ = some (.pointer (some ⟨g, 0, none⟩)) → bl ≠ g →
    V.wfs xs → xs.length + V.bulks xs ≤ 4294967295 → Tabs w → GlobN N → deep ≤ 1000 → 0 ≤ L ∧ L ≤ 1000 →
  Calls Tryz.prog 58 #[va, .func (.func 59) #[] #[.pointer (some ⟨bd, 0, none⟩), .pointer (some ⟨bl, 0, none⟩)]] w fun e w' => e = .returned (.bool (!vGoods (deep + 1) L xs)) ∧ (∃ L' : Int, intBox w' g L' ∧ (vGoods (deep + 1) L xs = true → L' = L - V.nodess xs)) ∧ Keep (· = g) w w'

set_option maxHeartbeats 4000000 in
set_option maxRecDepth 10000 in
theorem VIsA_of {n : Nat} (hC : VIsC n) : VIsA (n + 1) := by
  intro x cs deep N g L w hn h hNg hbox hwf hbk hT hG hdeep hL
  obtain ⟨k, m, e, s, kids, v2, hx, rfl, hkids⟩ := V.layS h
  subst hx
  have hnk : V.nodess kids ≤ n := by simp only [V.nodes] at hn; omega
  obtain ⟨hL1, hL2⟩ := hL
  obtain ⟨M, rfl⟩ : ∃ M, L = M + 1 := ⟨L - 1, by omega⟩
  have hglt := hbox.lt
  obtain ⟨a2, c2, rfl⟩ := Rd.sl_form (Rd.of hkids)
  simp only [V.ds_map, List.length_map] at h hkids ⊢
  rw [← V.ds_map] at hkids
  have hfree := hbox.free
  have hcell := hbox.cell
  obtain ⟨W0, hW0⟩ : ∃ W0, W0 = ((((w.setCell ⟨g, 0, none⟩ (.int .i64 M)).alloc (.cells #[.int .i64 k, .int .i64 m, .int .i64 e, .string ⟨s.toArray⟩, .slice a2 kids.length c2] 35)).alloc (.cells #[.int .i64 deep] 3)).alloc (.cells #[.pointer (some ⟨g, 0, none⟩)] 68)) := ⟨_, rfl⟩
  have HW := Lib.hid hW0
  have hK0 : Keep (· = g) w W0 := by rw [hW0]; exact (((Keep.setCell (S := (· = g)) (p := ⟨g, 0, none⟩) (Keep.refl _ _) (.inl rfl) _).alloc _).alloc _).alloc _
  have hb0 : intBox W0 g M := by
    rw [hW0]
    have : intBox (w.setCell ⟨g, 0, none⟩ (.int .i64 M)) g M := one_setCell hbox
    exact ((this.below ((Below.refl _ _).alloc (Nat.le_refl _) _)).below ((Below.refl _ _).alloc (Nat.le_refl _) _)).below ((Below.refl _ _).alloc (Nat.le_refl _) _)
  have hbd0 : intBox W0 (w.heap.size + 1) deep := by
    rw [hW0]; unfold intBox; rw [Below.heap_alloc _ _ _ (by simp [World.setCell])]
    have := heap_alloc_new ((w.setCell ⟨g, 0, none⟩ (.int .i64 M)).alloc (.cells #[.int .i64 k, .int .i64 m, .int .i64 e, .string ⟨s.toArray⟩, .slice a2 kids.length c2] 35)) (.cells #[.int .i64 deep] 3)
    simpa [World.setCell] using this
  have hng : ∀ k, k < N → ¬ k = g := by intro k hk e; omega
  have hN : N ≤ w.heap.size := by omega
  have hss : (w.setCell ⟨g, 0, none⟩ (.int .i64 M)).heap.size = w.heap.size := by simp [World.setCell]
  have hsz : W0.heap.size = w.heap.size + 3 := by rw [hW0]; simp [hss]
  have s1 : g < w.heap.size + 1 := by omega
  have s2 : g < w.heap.size + 1 + 1 := by omega
  have s3 : g < w.heap.size + 1 + 1 + 1 := by omega
  have q1 : ¬ g = w.heap.size := by omega
  have q2 : ¬ g = w.heap.size + 1 := by omega
  have q3 : ¬ g = w.heap.size + 1 + 1 := by omega
  have KB : Hid (∀ W, Below W0.heap.size W0 W → W.cell? ⟨w.heap.size, 0, none⟩ = some (.int .i64 k) ∧ W.cell? ⟨w.heap.size, 1, none⟩ = some (.int .i64 m) ∧ W.cell? ⟨w.heap.size, 2, none⟩ = some (.int .i64 e) ∧ W.cell? ⟨w.heap.size, 3, none⟩ = some (.string ⟨s.toArray⟩) ∧ W.cell? ⟨w.heap.size, 4, none⟩ = some (.slice a2 kids.length c2) ∧ W.cell? ⟨w.heap.size + 1, 0, none⟩ = some (.int .i64 deep) ∧ W.cell? ⟨w.heap.size + 1 + 1, 0, none⟩ = some (.pointer (some ⟨g, 0, none⟩)) ∧ W.cell? ⟨g, 0, none⟩ = some (.int .i64 M)) := by
    intro W hb
    obtain ⟨hc, _⟩ := bcell hb
    have z1 : w.heap.size < W0.heap.size := by omega
    have z2 : w.heap.size + 1 < W0.heap.size := by omega
    have z3 : w.heap.size + 1 + 1 < W0.heap.size := by omega
    have z4 : g < W0.heap.size := by omega
    simp only [hc _ _ z1, hc _ _ z2, hc _ _ z3, hc _ _ z4, hb0.cell]
    subst hW0
    simp [go_sem, hss]
  have hT0 := Lib.hid (hT.keep hG hK0 hN hng)
  have HR := Lib.hid (show ∀ W, Below W0.heap.size W0 W → RdN N W (V.d (.mk k m e s kids)) [.int .i64 k, .int .i64 m, .int .i64 e, .string ⟨s.toArray⟩, .slice a2 kids.length c2] from fun W hb => (h.keep hK0 hN hng).below (hb.mono (by omega)))
  have HRk := Lib.hid (show ∀ W, Below W0.heap.size W0 W → RdN N W (.sl 5 (V.ds kids)) [.slice a2 kids.length c2] from fun W hb => (RdN.keep hkids hK0 hN hng).below (hb.mono (by omega)))
  have HF := Lib.hid (fun W (hb : Below W0.heap.size W0 W) => isNode_any _ _ W (HR.out W hb).rd hwf hbk (hT0.out.below hb))
  have HQ := Lib.hid (fun W (hb : Below W0.heap.size W0 W) => areKids_any _ _ W (HR.out W hb).rd hbk)
  clear h hkids hT hbox hW0 hng hss q1 q2 q3
  by_cases qc1 : M < 0
  · have dqc1 := decide_eq_true qc1
    have H := Lib.hid (vGood_no1 (deep := deep) (L := M + 1) (x := .mk k m e s kids) (by omega))
    go_enter Tryz.func37, Tryz.ntmps37
    go_wp2
    rw [← HW.out]
    have hB := Below.refl W0.heap.size W0
    obtain ⟨p0, p1, p2, p3, p4, p6, p7, p8⟩ := KB.out _ hB
    go_quiet (fail)
    go_wp2
    go_ret
    exact ⟨by rw [H.out]; rfl, ⟨M, hb0.below (by first | exact hB | exact hB.drew | exact below_drewN hB _), fun h => by rw [H.out] at h; cases h⟩, hK0.then (by first | exact hB | exact hB.drew | exact below_drewN hB _)⟩
  have dqc1 := decide_eq_false qc1
  by_cases qc2 : (12 : Int) < deep
  · have dqc2 := decide_eq_true qc2
    have H := Lib.hid (vGood_no2 (L := M + 1) (x := .mk k m e s kids) qc2)
    go_enter Tryz.func37, Tryz.ntmps37
    go_wp2
    rw [← HW.out]
    have hB := Below.refl W0.heap.size W0
    obtain ⟨p0, p1, p2, p3, p4, p6, p7, p8⟩ := KB.out _ hB
    go_quiet (fail)
    go_wp2
    go_ret
    exact ⟨by rw [H.out]; rfl, ⟨M, hb0.below (by first | exact hB | exact hB.drew | exact below_drewN hB _), fun h => by rw [H.out] at h; cases h⟩, hK0.then (by first | exact hB | exact hB.drew | exact below_drewN hB _)⟩
  have dqc2 := decide_eq_false qc2
  by_cases qc3 : M < kids.length
  · have dqc3 := decide_eq_true qc3
    have H := Lib.hid (vGood_no3 (deep := deep) (L := M + 1) (k := k) (m := m) (e := e) (s := s) (kids := kids) (by omega))
    go_enter Tryz.func37, Tryz.ntmps37
    go_wp2
    rw [← HW.out]
    have hB := Below.refl W0.heap.size W0
    obtain ⟨p0, p1, p2, p3, p4, p6, p7, p8⟩ := KB.out _ hB
    go_quiet (fail)
    go_wp2
    go_ret
    exact ⟨by rw [H.out]; rfl, ⟨M, hb0.below (by first | exact hB | exact hB.drew | exact below_drewN hB _), fun h => by rw [H.out] at h; cases h⟩, hK0.then (by first | exact hB | exact hB.drew | exact below_drewN hB _)⟩
  have dqc3 := decide_eq_false qc3
  have HSN := Lib.hid (V.selfI_node (.mk k m e s kids))
  cases hnode : V.node (.mk k m e s kids) with
  | false =>
    have HO := Lib.hid hnode
    have H := Lib.hid (vGood_no5 (deep := deep) (L := M + 1) (x := .mk k m e s kids) (by rw [HSN.out, hnode]; rfl))
    clear hnode
    go_enter Tryz.func37, Tryz.ntmps37
    go_wp2
    rw [← HW.out]
    have hB := Below.refl W0.heap.size W0
    refine wp_region_held_drew (S := (fun W => W.cell? ⟨w.heap.size, 0, none⟩ = some (.int .i64 k) ∧ W.cell? ⟨w.heap.size, 1, none⟩ = some (.int .i64 m) ∧ W.cell? ⟨w.heap.size, 2, none⟩ = some (.int .i64 e) ∧ W.cell? ⟨w.heap.size, 3, none⟩ = some (.string ⟨s.toArray⟩) ∧ W.cell? ⟨w.heap.size, 4, none⟩ = some (.slice a2 kids.length c2) ∧ W.cell? ⟨w.heap.size + 1, 0, none⟩ = some (.int .i64 deep) ∧ W.cell? ⟨w.heap.size + 1 + 1, 0, none⟩ = some (.pointer (some ⟨g, 0, none⟩)) ∧ W.cell? ⟨g, 0, none⟩ = some (.int .i64 M))) (by kernel_rfl) ?_ (fun hHeld => ?_)
    · ((try dsimp only); (first | exact KB.out _ hB | exact KB.out _ hB.drew))
    refine takeW (i := 0) (fuel := 26) (d := some 12) (v := ?vr0) (listed' := #[true, false, false, false, false, false, false, false, false, false, false, false, false, false, false, false, false, false, false, false, false, false, false, false, false, false, false]) rfl rfl (by kernel_rfl) (by kernel_rfl) (by kernel_rfl) (by kernel_rfl) (by kernel_rfl) (fun _ _ _ h => h) (by kernel_rfl) (by assumption) ?hr0 ?rr0
    case hr0 => (intro w hSw; (try dsimp only at hSw); go_simp; all_goals with_reducible rfl)
    simp only [skipAct, Act.put, List.setIfInBounds_toArray, List.set_cons_zero, List.set_cons_succ]
    refine takeW (i := 1) (fuel := 25) (d := some 13) (v := ?vr1) (listed' := #[true, true, false, false, false, false, false, false, false, false, false, false, false, false, false, false, false, false, false, false, false, false, false, false, false, false, false]) rfl rfl (by kernel_rfl) (by kernel_rfl) (by kernel_rfl) (by kernel_rfl) (by kernel_rfl) (fun _ _ _ h => h) (by kernel_rfl) (by assumption) ?hr1 ?rr1
    case hr1 => (intro w hSw; (try dsimp only at hSw); go_simp; all_goals with_reducible rfl)
    simp only [skipAct, Act.put, List.setIfInBounds_toArray, List.set_cons_zero, List.set_cons_succ]
    refine takeW (i := 2) (fuel := 24) (d := some 14) (v := ?vr2) (listed' := #[true, true, true, false, false, false, false, false, false, false, false, false, false, false, false, false, false, false, false, false, false, false, false, false, false, false, false]) rfl rfl (by kernel_rfl) (by kernel_rfl) (by kernel_rfl) (by kernel_rfl) (by kernel_rfl) (fun _ _ _ h => h) (by kernel_rfl) (by assumption) ?hr2 ?rr2
    case hr2 => (intro w hSw; (try dsimp only at hSw); go_simp; all_goals with_reducible rfl)
    simp only [skipAct, Act.put, List.setIfInBounds_toArray, List.set_cons_zero, List.set_cons_succ]
    refine takeW (i := 3) (fuel := 23) (d := some 15) (v := ?vr3) (listed' := #[true, true, true, true, false, false, false, false, false, false, false, false, false, false, false, false, false, false, false, false, false, false, false, false, false, false, false]) rfl rfl (by kernel_rfl) (by kernel_rfl) (by kernel_rfl) (by kernel_rfl) (by kernel_rfl) (fun _ _ _ h => h) (by kernel_rfl) (by assumption) ?hr3 ?rr3
    case hr3 => (intro w hSw; (try dsimp only at hSw); go_simp; all_goals with_reducible rfl)
    simp only [skipAct, Act.put, List.setIfInBounds_toArray, List.set_cons_zero, List.set_cons_succ]
    refine takeW (i := 4) (fuel := 22) (d := some 16) (v := ?vr4) (listed' := #[true, true, true, true, true, false, false, false, false, false, false, false, false, false, false, false, false, false, false, false, false, false, false, false, false, false, false]) rfl rfl (by kernel_rfl) (by kernel_rfl) (by kernel_rfl) (by kernel_rfl) (by kernel_rfl) (fun _ _ _ h => h) (by kernel_rfl) (by assumption) ?hr4 ?rr4
    case hr4 => (intro w hSw; (try dsimp only at hSw); go_simp; all_goals with_reducible rfl)
    simp only [skipAct, Act.put, List.setIfInBounds_toArray, List.set_cons_zero, List.set_cons_succ]
    refine takeW (i := 5) (fuel := 21) (d := some 17) (v := ?vr5) (listed' := #[true, true, true, true, true, true, false, false, false, false, false, false, false, false, false, false, false, false, false, false, false, false, false, false, false, false, false]) rfl rfl (by kernel_rfl) (by kernel_rfl) (by kernel_rfl) (by kernel_rfl) (by kernel_rfl) (fun _ _ _ h => h) (by kernel_rfl) (by assumption) ?hr5 ?rr5
    case hr5 => (intro w hSw; (try dsimp only at hSw); go_simp; all_goals with_reducible rfl)
    simp only [skipAct, Act.put, List.setIfInBounds_toArray, List.set_cons_zero, List.set_cons_succ]
    refine takeW (i := 6) (fuel := 20) (d := some 18) (v := ?vr6) (listed' := #[true, true, true, true, true, true, true, false, false, false, false, false, false, false, false, false, false, false, false, false, false, false, false, false, false, false, false]) rfl rfl (by kernel_rfl) (by kernel_rfl) (by kernel_rfl) (by kernel_rfl) (by kernel_rfl) (fun _ _ _ h => h) (by kernel_rfl) (by assumption) ?hr6 ?rr6
    case hr6 => (intro w hSw; (try dsimp only at hSw); go_simp; all_goals with_reducible rfl)
    simp only [skipAct, Act.put, List.setIfInBounds_toArray, List.set_cons_zero, List.set_cons_succ]
    refine takeW (i := 7) (fuel := 19) (d := some 19) (v := ?vr7) (listed' := #[true, true, true, true, true, true, true, true, false, false, false, false, false, false, false, false, false, false, false, false, false, false, false, false, false, false, false]) rfl rfl (by kernel_rfl) (by kernel_rfl) (by kernel_rfl) (by kernel_rfl) (by kernel_rfl) (fun _ _ _ h => h) (by kernel_rfl) (by assumption) ?hr7 ?rr7
    case hr7 => (intro w hSw; (try dsimp only at hSw); go_simp; all_goals with_reducible rfl)
    simp only [skipAct, Act.put, List.setIfInBounds_toArray, List.set_cons_zero, List.set_cons_succ]
    refine takeW (i := 8) (fuel := 18) (d := some 20) (v := ?vr8) (listed' := #[true, true, true, true, true, true, true, true, true, false, false, false, false, false, false, false, false, false, false, false, false, false, false, false, false, false, false]) rfl rfl (by kernel_rfl) (by kernel_rfl) (by kernel_rfl) (by kernel_rfl) (by kernel_rfl) (fun _ _ _ h => h) (by kernel_rfl) (by assumption) ?hr8 ?rr8
    case hr8 => (intro w hSw; (try dsimp only at hSw); go_simp; all_goals with_reducible rfl)
    simp only [skipAct, Act.put, List.setIfInBounds_toArray, List.set_cons_zero, List.set_cons_succ]
    refine takeW (i := 9) (fuel := 17) (d := some 21) (v := ?vr9) (listed' := #[true, true, true, true, true, true, true, true, true, true, false, false, false, false, false, false, false, false, false, false, false, false, false, false, false, false, false]) rfl rfl (by kernel_rfl) (by kernel_rfl) (by kernel_rfl) (by kernel_rfl) (by kernel_rfl) (fun _ _ _ h => h) (by kernel_rfl) (by assumption) ?hr9 ?rr9
    case hr9 => (intro w hSw; (try dsimp only at hSw); go_simp; all_goals with_reducible rfl)
    simp only [skipAct, Act.put, List.setIfInBounds_toArray, List.set_cons_zero, List.set_cons_succ]
    refine takeW (i := 10) (fuel := 16) (d := some 22) (v := ?vr10) (listed' := #[true, true, true, true, true, true, true, true, true, true, true, false, false, false, false, false, false, false, false, false, false, false, false, false, false, false, false]) rfl rfl (by kernel_rfl) (by kernel_rfl) (by kernel_rfl) (by kernel_rfl) (by kernel_rfl) (fun _ _ _ h => h) (by kernel_rfl) (by assumption) ?hr10 ?rr10
    case hr10 => (intro w hSw; (try dsimp only at hSw); go_simp; all_goals with_reducible rfl)
    simp only [skipAct, Act.put, List.setIfInBounds_toArray, List.set_cons_zero, List.set_cons_succ]
    refine takeW (i := 11) (fuel := 15) (d := some 23) (v := ?vr11) (listed' := #[true, true, true, true, true, true, true, true, true, true, true, true, false, false, false, false, false, false, false, false, false, false, false, false, false, false, false]) rfl rfl (by kernel_rfl) (by kernel_rfl) (by kernel_rfl) (by kernel_rfl) (by kernel_rfl) (fun _ _ _ h => h) (by kernel_rfl) (by assumption) ?hr11 ?rr11
    case hr11 => (intro w hSw; (try dsimp only at hSw); go_simp; all_goals with_reducible rfl)
    simp only [skipAct, Act.put, List.setIfInBounds_toArray, List.set_cons_zero, List.set_cons_succ]
    refine takeW (i := 12) (fuel := 14) (d := some 24) (v := ?vr12) (listed' := #[true, true, true, true, true, true, true, true, true, true, true, true, true, false, false, false, false, false, false, false, false, false, false, false, false, false, false]) rfl rfl (by kernel_rfl) (by kernel_rfl) (by kernel_rfl) (by kernel_rfl) (by kernel_rfl) (fun _ _ _ h => h) (by kernel_rfl) (by assumption) ?hr12 ?rr12
    case hr12 => (intro w hSw; (try dsimp only at hSw); go_simp; all_goals with_reducible rfl)
    simp only [skipAct, Act.put, List.setIfInBounds_toArray, List.set_cons_zero, List.set_cons_succ]
    refine takeW (i := 13) (fuel := 13) (d := some 25) (v := ?vr13) (listed' := #[true, true, true, true, true, true, true, true, true, true, true, true, true, true, false, false, false, false, false, false, false, false, false, false, false, false, false]) rfl rfl (by kernel_rfl) (by kernel_rfl) (by kernel_rfl) (by kernel_rfl) (by kernel_rfl) (fun _ _ _ h => h) (by kernel_rfl) (by assumption) ?hr13 ?rr13
    case hr13 => (intro w hSw; (try dsimp only at hSw); go_simp; all_goals with_reducible rfl)
    simp only [skipAct, Act.put, List.setIfInBounds_toArray, List.set_cons_zero, List.set_cons_succ]
    refine takeW (i := 14) (fuel := 12) (d := some 26) (v := ?vr14) (listed' := #[true, true, true, true, true, true, true, true, true, true, true, true, true, true, true, false, false, false, false, false, false, false, false, false, false, false, false]) rfl rfl (by kernel_rfl) (by kernel_rfl) (by kernel_rfl) (by kernel_rfl) (by kernel_rfl) (fun _ _ _ h => h) (by kernel_rfl) (by assumption) ?hr14 ?rr14
    case hr14 => (intro w hSw; (try dsimp only at hSw); go_simp; all_goals with_reducible rfl)
    simp only [skipAct, Act.put, List.setIfInBounds_toArray, List.set_cons_zero, List.set_cons_succ]
    refine takeW (i := 15) (fuel := 11) (d := some 27) (v := ?vr15) (listed' := #[true, true, true, true, true, true, true, true, true, true, true, true, true, true, true, true, false, false, false, false, false, false, false, false, false, false, false]) rfl rfl (by kernel_rfl) (by kernel_rfl) (by kernel_rfl) (by kernel_rfl) (by kernel_rfl) (fun _ _ _ h => h) (by kernel_rfl) (by assumption) ?hr15 ?rr15
    case hr15 => (intro w hSw; (try dsimp only at hSw); go_simp; all_goals with_reducible rfl)
    simp only [skipAct, Act.put, List.setIfInBounds_toArray, List.set_cons_zero, List.set_cons_succ]
    refine takeW (i := 16) (fuel := 10) (d := some 28) (v := ?vr16) (listed' := #[true, true, true, true, true, true, true, true, true, true, true, true, true, true, true, true, true, false, false, false, false, false, false, false, false, false, false]) rfl rfl (by kernel_rfl) (by kernel_rfl) (by kernel_rfl) (by kernel_rfl) (by kernel_rfl) (fun _ _ _ h => h) (by kernel_rfl) (by assumption) ?hr16 ?rr16
    case hr16 => (intro w hSw; (try dsimp only at hSw); go_simp; all_goals with_reducible rfl)
    simp only [skipAct, Act.put, List.setIfInBounds_toArray, List.set_cons_zero, List.set_cons_succ]
    refine takeW (i := 17) (fuel := 9) (d := some 29) (v := ?vr17) (listed' := #[true, true, true, true, true, true, true, true, true, true, true, true, true, true, true, true, true, true, false, false, false, false, false, false, false, false, false]) rfl rfl (by kernel_rfl) (by kernel_rfl) (by kernel_rfl) (by kernel_rfl) (by kernel_rfl) (fun _ _ _ h => h) (by kernel_rfl) (by assumption) ?hr17 ?rr17
    case hr17 => (intro w hSw; (try dsimp only at hSw); go_simp; all_goals with_reducible rfl)
    simp only [skipAct, Act.put, List.setIfInBounds_toArray, List.set_cons_zero, List.set_cons_succ]
    refine takeW (i := 18) (fuel := 8) (d := some 30) (v := ?vr18) (listed' := #[true, true, true, true, true, true, true, true, true, true, true, true, true, true, true, true, true, true, true, false, false, false, false, false, false, false, false]) rfl rfl (by kernel_rfl) (by kernel_rfl) (by kernel_rfl) (by kernel_rfl) (by kernel_rfl) (fun _ _ _ h => h) (by kernel_rfl) (by assumption) ?hr18 ?rr18
    case hr18 => (intro w hSw; (try dsimp only at hSw); go_simp; all_goals with_reducible rfl)
    simp only [skipAct, Act.put, List.setIfInBounds_toArray, List.set_cons_zero, List.set_cons_succ]
    refine takeC (i := 19) (fuel := 7) (d := some 31) (listed' := #[true, true, true, true, true, true, true, true, true, true, true, true, true, true, true, true, true, true, true, true, false, false, false, false, false, false, false]) rfl rfl (by kernel_rfl) (by kernel_rfl) (by kernel_rfl) (by kernel_rfl) (fun K hK => ?cr19)
    go_simp
    ((go_at_call 56; with_reducible refine (HF.out _ (by first | exact hB | exact hB.drew)).mono ?_; rw [HO.out]; rintro e1 w1 ⟨rfl, hb1⟩; replace hB := below2 (by first | exact hB | exact hB.drew) hb1 (Nat.le_refl _)))
    go_wp2_with fail
    refine hK.out _ _ ?kr19 (fun hHeld => ?nr19)
    case kr19 => ((try dsimp only); (first | exact KB.out _ hB | exact KB.out _ hB.drew))
    clear hK K
    try simp only [skipAct, Act.put, List.setIfInBounds_toArray, List.set_cons_zero, List.set_cons_succ]
    refine takeW (i := 20) (fuel := 6) (d := some 32) (v := ?vr20) (listed' := #[true, true, true, true, true, true, true, true, true, true, true, true, true, true, true, true, true, true, true, true, true, false, false, false, false, false, false]) rfl rfl (by kernel_rfl) (by kernel_rfl) (by kernel_rfl) (by kernel_rfl) (by kernel_rfl) (fun _ _ _ h => h) (by kernel_rfl) (by assumption) ?hr20 ?rr20
    case hr20 => (intro w hSw; (try dsimp only at hSw); go_simp; all_goals with_reducible rfl)
    simp only [skipAct, Act.put, List.setIfInBounds_toArray, List.set_cons_zero, List.set_cons_succ]
    refine takeW (i := 21) (fuel := 5) (d := some 33) (v := ?vr21) (listed' := #[true, true, true, true, true, true, true, true, true, true, true, true, true, true, true, true, true, true, true, true, true, true, false, false, false, false, false]) rfl rfl (by kernel_rfl) (by kernel_rfl) (by kernel_rfl) (by kernel_rfl) (by kernel_rfl) (fun _ _ _ h => h) (by kernel_rfl) (by assumption) ?hr21 ?rr21
    case hr21 => (intro w hSw; (try dsimp only at hSw); go_simp; all_goals with_reducible rfl)
    simp only [skipAct, Act.put, List.setIfInBounds_toArray, List.set_cons_zero, List.set_cons_succ]
    refine takeW (i := 22) (fuel := 4) (d := some 34) (v := ?vr22) (listed' := #[true, true, true, true, true, true, true, true, true, true, true, true, true, true, true, true, true, true, true, true, true, true, true, false, false, false, false]) rfl rfl (by kernel_rfl) (by kernel_rfl) (by kernel_rfl) (by kernel_rfl) (by kernel_rfl) (fun _ _ _ h => h) (by kernel_rfl) (by assumption) ?hr22 ?rr22
    case hr22 => (intro w hSw; (try dsimp only at hSw); go_simp; all_goals with_reducible rfl)
    simp only [skipAct, Act.put, List.setIfInBounds_toArray, List.set_cons_zero, List.set_cons_succ]
    refine takeS (fuel := 1) (listed' := #[true, true, true, true, true, true, true, true, true, true, true, true, true, true, true, true, true, true, true, true, true, true, true, true, true, true, false]) (by kernel_rfl) (fun _ _ _ _ h => h) (by assumption) [(23, 35), (24, 36), (25, 37)] (by kernel_rfl) (by kernel_rfl) (by kernel_rfl) ?_
    simp only [skipAct, Act.put, List.setIfInBounds_toArray, List.set_cons_zero, List.set_cons_succ]
    refine takeW (i := 26) (fuel := 0) (d := some 38) (v := ?vr26) (listed' := #[true, true, true, true, true, true, true, true, true, true, true, true, true, true, true, true, true, true, true, true, true, true, true, true, true, true, true]) rfl rfl (by kernel_rfl) (by kernel_rfl) (by kernel_rfl) (by kernel_rfl) (by kernel_rfl) (fun _ _ _ h => h) (by kernel_rfl) (by assumption) ?hr26 ?rr26
    case hr26 => (intro w hSw; (try dsimp only at hSw); go_simp; all_goals with_reducible rfl)
    simp only [skipAct, Act.put, List.setIfInBounds_toArray, List.set_cons_zero, List.set_cons_succ]
    refine wpAnyH_done (by kernel_rfl) ?_ _
    go_wp2
    go_ret
    exact ⟨by rw [H.out]; rfl, ⟨M, hb0.below (by first | exact hB | exact hB.drew | exact below_drewN hB _), fun h => by rw [H.out] at h; cases h⟩, hK0.then (by first | exact hB | exact hB.drew | exact below_drewN hB _)⟩
  | true =>
    have HO := Lib.hid hnode
    cases hkk : V.kidsOk k kids with
    | false =>
      have HKK := Lib.hid (show V.kidsOk (V.kind (.mk k m e s kids)) (V.kids (.mk k m e s kids)) = false from hkk)
      have H := Lib.hid (vGood_no5 (deep := deep) (L := M + 1) (x := .mk k m e s kids) (by rw [HSN.out, hnode]; exact hkk))
      clear hnode hkk
      go_enter Tryz.func37, Tryz.ntmps37
      go_wp2
      rw [← HW.out]
      have hB := Below.refl W0.heap.size W0
      go_region_held3 (fun W => W.cell? ⟨w.heap.size, 0, none⟩ = some (.int .i64 k) ∧ W.cell? ⟨w.heap.size, 1, none⟩ = some (.int .i64 m) ∧ W.cell? ⟨w.heap.size, 2, none⟩ = some (.int .i64 e) ∧ W.cell? ⟨w.heap.size, 3, none⟩ = some (.string ⟨s.toArray⟩) ∧ W.cell? ⟨w.heap.size, 4, none⟩ = some (.slice a2 kids.length c2) ∧ W.cell? ⟨w.heap.size + 1, 0, none⟩ = some (.int .i64 deep) ∧ W.cell? ⟨w.heap.size + 1 + 1, 0, none⟩ = some (.pointer (some ⟨g, 0, none⟩)) ∧ W.cell? ⟨g, 0, none⟩ = some (.int .i64 M))
        (first | exact KB.out _ hB | exact KB.out _ hB.drew)
        (first | (go_at_call 56; with_reducible refine (HF.out _ (by first | exact hB | exact hB.drew)).mono ?_; rw [HO.out]; rintro e1 w1 ⟨rfl, hb1⟩; replace hB := below2 (by first | exact hB | exact hB.drew) hb1 (Nat.le_refl _)) | (go_at_call 57; with_reducible refine (HQ.out _ (by first | exact hB | exact hB.drew)).mono ?_; rw [HKK.out]; rintro e1 w1 ⟨rfl, hb1⟩; replace hB := below2 (by first | exact hB | exact hB.drew) hb1 (Nat.le_refl _)))
      go_wp2
      go_ret
      exact ⟨by rw [H.out]; rfl, ⟨M, hb0.below (by first | exact hB | exact hB.drew | exact below_drewN hB _), fun h => by rw [H.out] at h; cases h⟩, hK0.then (by first | exact hB | exact hB.drew | exact below_drewN hB _)⟩
    | true =>
      have HKK := Lib.hid (show V.kidsOk (V.kind (.mk k m e s kids)) (V.kids (.mk k m e s kids)) = true from hkk)
      have H0 := vGood_yes (L := M + 1) qc2 (show V.selfI (.mk k m e s kids) = true by rw [HSN.out, hnode]; exact hkk)
      rw [show M + 1 - 1 = M by omega] at H0
      have H := Lib.hid H0
      clear H0 hnode hkk
      go_enter Tryz.func37, Tryz.ntmps37
      go_wp2
      rw [← HW.out]
      have hB := Below.refl W0.heap.size W0
      go_region_held3 (fun W => W.cell? ⟨w.heap.size, 0, none⟩ = some (.int .i64 k) ∧ W.cell? ⟨w.heap.size, 1, none⟩ = some (.int .i64 m) ∧ W.cell? ⟨w.heap.size, 2, none⟩ = some (.int .i64 e) ∧ W.cell? ⟨w.heap.size, 3, none⟩ = some (.string ⟨s.toArray⟩) ∧ W.cell? ⟨w.heap.size, 4, none⟩ = some (.slice a2 kids.length c2) ∧ W.cell? ⟨w.heap.size + 1, 0, none⟩ = some (.int .i64 deep) ∧ W.cell? ⟨w.heap.size + 1 + 1, 0, none⟩ = some (.pointer (some ⟨g, 0, none⟩)) ∧ W.cell? ⟨g, 0, none⟩ = some (.int .i64 M))
        (first | exact KB.out _ hB | exact KB.out _ hB.drew)
        (first | (go_at_call 56; with_reducible refine (HF.out _ (by first | exact hB | exact hB.drew)).mono ?_; rw [HO.out]; rintro e1 w1 ⟨rfl, hb1⟩; replace hB := below2 (by first | exact hB | exact hB.drew) hb1 (Nat.le_refl _)) | (go_at_call 57; with_reducible refine (HQ.out _ (by first | exact hB | exact hB.drew)).mono ?_; rw [HKK.out]; rintro e1 w1 ⟨rfl, hb1⟩; replace hB := below2 (by first | exact hB | exact hB.drew) hb1 (Nat.le_refl _)))
      obtain ⟨p0, p1, p2, p3, p4, p6, p7, p8⟩ := KB.out _ hB
      have hkw : V.wfs kids := hwf.2.2.2.2.2
      have hkb : kids.length + V.bulks kids ≤ 4294967295 := by simp only [V.bulk] at hbk; omega
      have HCC := Lib.hid (hC kids _ deep N g (w.heap.size + 1) (w.heap.size + 1 + 1) M _ hnk (HRk.out _ hB) hNg (hb0.below hB) (hbd0.below hB) (by omega) p7 (by omega) hkw hkb (hT0.out.below hB) hG (by omega) (by omega))
      go_wp2_with (go_at_call 58; refine HCC.out.mono ?_; rintro e1 w2 ⟨rfl, ⟨L', hbx, hL'⟩, hk2⟩)
      go_ret
      exact ⟨by rw [H.out]; simp, ⟨L', hbx, fun hh => by rw [H.out] at hh; rw [hL' hh]; simp only [V.nodes]; omega⟩, (hK0.then hB).trans hk2⟩

set_option maxHeartbeats 800000 in
set_option maxRecDepth 10000 in
theorem isValue1_any {n : Nat} (hA : VIsA n) (x : V) (cs : List Value) (deep N g bd bl : Nat) (L : Int) (w : World) (hn : x.nodes ≤ n) (h : RdN N w x.d cs) (hNg : N ≤ g) (hbox : intBox w g L) (hbd : intBox w bd deep) (hbl : w.cell? ⟨bl, 0, none⟩ = some (.pointer (some ⟨g, 0, none⟩)))
    (hwf : x.wf) (hbk : x.bulk ≤ 4294967295) (hT : Tabs w) (hG : GlobN N) (hdeep : deep ≤ 1000) (hL : 0 ≤ L ∧ L ≤ 1000) :
    Calls Tryz.prog 59 #[.agg cs.toArray, .pointer (some ⟨bd, 0, none⟩), .pointer (some ⟨bl, 0, none⟩)] w fun e w' => e = .returned (.bool (!vGood (deep + 1) L x)) ∧ (∃ L' : Int, intBox w' g L' ∧ (vGood (deep + 1) L x = true → L' = L - x.nodes)) ∧ Keep (· = g) w w' := by
  obtain ⟨k, m, e, s, a2, n2, c2, rfl⟩ := V.form h.rd
  have hb1 := hbd.cell
  have hz1 := hbd.lt
  have hz2 : bl < w.heap.size := cell_lt hbl
  have hN : N ≤ w.heap.size := by have := hbox.lt; omega
  have hal : Below w.heap.size w (w.alloc (.cells #[.int .i64 k, .int .i64 m, .int .i64 e, .string ⟨s.toArray⟩, .slice a2 n2 c2] 35)) := (Below.refl _ _).alloc (Nat.le_refl _) _
  have HCC := Lib.hid (hA x _ (deep + 1) N g L _ hn (h.below (hal.mono hN)) hNg (hbox.below hal) hwf hbk (hT.below hal) hG (by omega) hL)
  go_enter Tryz.func59, Tryz.ntmps59
  go_wp2_with (go_at_call 37; refine HCC.out.mono ?_; rintro e w1 ⟨rfl, hL', hk1⟩)
  go_ret
  exact ⟨rfl, hL', (Keep.of_below hal).trans hk1⟩

theorem vGoods_snoc (deep : Nat) (L : Int) (xs : List V) (k : Nat) (hk : k < xs.length) (h : vGoods deep L (xs.take k) = true) :
    vGoods deep L (xs.take (k + 1)) = vGood deep (L - V.nodess (xs.take k)) xs[k] := by
  have hn : ∀ (ls : List V) (x : V), V.nodess (ls ++ [x]) = V.nodess ls + x.nodes := by
    intro ls x; induction ls with
    | nil => simp [V.nodess]
    | cons a ls ih => simp only [List.cons_append, V.nodess, ih]; omega
  unfold vGoods at h ⊢; unfold vGood
  rw [List.take_succ_eq_append_getElem hk, hn, V.rightsBy_all, List.all_append]
  rw [V.rightsBy_all] at h
  simp only [Bool.and_eq_true, decide_eq_true_eq] at h
  rw [h.1, Bool.true_and]
  congr 1
  · simp
  · exact decide_eq_decide.2 (by omega)
theorem vGoods_cut (deep : Nat) (L : Int) (xs : List V) (k : Nat) (h : vGoods deep L (xs.take k) = false) : vGoods deep L xs = false := by
  have hn : ∀ (ls ms : List V), V.nodess (ls ++ ms) = V.nodess ls + V.nodess ms := by
    intro ls ms; induction ls with
    | nil => simp [V.nodess]
    | cons a ls ih => simp only [List.cons_append, V.nodess, ih]; omega
  cases hk : vGoods deep L xs with
  | false => rfl
  | true =>
    exfalso
    rw [← List.take_append_drop k xs] at hk
    unfold vGoods at h hk
    rw [V.rightsBy_all, List.all_append, hn] at hk
    rw [V.rightsBy_all] at h
    simp only [Bool.and_eq_true, decide_eq_true_eq] at hk
    rw [hk.1.1, decide_eq_true (by omega)] at h; cases h

set_option maxHeartbeats 1600000 in
set_option maxRecDepth 10000 in
theorem visIndex_any {n : Nat} (hA : VIsA n) (xs : List V) (va : Value) (deep N g bd bl : Nat) (L : Int) (w : World) (hn : V.nodess xs ≤ n) (h : RdN N w (.sl 5 (V.ds xs)) [va]) (hNg : N ≤ g) (hbox : intBox w g L) (hbd : intBox w bd deep) (hbg : bd ≠ g) (hbl : w.cell? ⟨bl, 0, none⟩ = some (.pointer (some ⟨g, 0, none⟩))) (hlg : bl ≠ g)
    (hwf : V.wfs xs) (hbk : xs.length + V.bulks xs ≤ 4294967295) (hT : Tabs w) (hG : GlobN N) (hdeep : deep ≤ 1000) (hL : 0 ≤ L ∧ L ≤ 1000) :
    Calls Tryz.prog 84 #[va, .func (.func 59) #[] #[.pointer (some ⟨bd, 0, none⟩), .pointer (some ⟨bl, 0, none⟩)]] w fun e w' => (∃ r : Int, e = .returned (.int .i64 r) ∧ decide (0 ≤ r) = !vGoods (deep + 1) L xs) ∧ (∃ L' : Int, intBox w' g L' ∧ (vGoods (deep + 1) L xs = true → L' = L - V.nodess xs)) ∧ Keep (· = g) w w' := by
  have hN : N ≤ w.heap.size := by have := hbox.lt; omega
  have hng : ∀ k, k < N → ¬ k = g := by intro k hk e; omega
  have hz1 := hbd.lt
  have hz2 : bl < w.heap.size := cell_lt hbl
  have hlen : xs.length ≤ 4294967295 := by omega
  obtain ⟨a, c, rfl, hg⟩ := RepC.values h
  obtain ⟨ok, hok⟩ : ∃ ok, vGoods (deep + 1) L xs = ok := ⟨_, rfl⟩
  rw [hok]
  have HOK := Lib.hid hok; clear hok
  obtain ⟨hL1, hL2⟩ := hL
  go_enter Tryz.func84, Tryz.ntmps84
  go_wp2
  go_loopw [8] (fun i wr => ∃ (k : Nat), k ≤ xs.length ∧ i = .int .i64 k ∧ intBox wr g (L - V.nodess (xs.take k)) ∧ vGoods (deep + 1) L (xs.take k) = true ∧ Keep (· = g) w wr) (fun i _ => xs.length - (intOf i).toNat)
  case atStart => exact ⟨0, Nat.zero_le _, rfl, by simpa [V.nodess] using hbox, by simp [vGoods, V.rightsBy, V.nodess, hL1], Keep.refl _ _⟩
  case round =>
    obtain ⟨k, hk, rfl, hbx, hgd, hkp⟩ := hrel
    have HGD := Lib.hid hgd
    have hle : (V.nodess (xs.take k) : Int) ≤ L := by unfold vGoods at hgd; simp only [Bool.and_eq_true, decide_eq_true_eq] at hgd; exact hgd.2
    clear hgd
    by_cases hlt : k < xs.length
    · obtain ⟨_, _, b, o, rfl, hb, hcell⟩ := hg (by intro e; rw [e] at hlt; simp at hlt)
      obtain ⟨v0, v1, v2, v3, v4, hr, d0, d1, d2, d3, d4⟩ := hcell k hlt
      clear hcell hg
      obtain ⟨k1, k2, k3, s4, a6, n6, m6, hcs⟩ := V.formS hr
      simp only [List.cons.injEq, and_true] at hcs
      obtain ⟨rfl, rfl, rfl, rfl, rfl⟩ := hcs
      have hbN : b < w.heap.size := by omega
      have hbg' := hng b hb
      rw [← hkp.cell hbN hbg'] at d0 d1 d2 d3 d4
      have hi1 : (0 : Int) ≤ k := by omega
      have hi3 : (k : Int) < xs.length := by omega
      have hnk : xs[k].nodes ≤ n := Nat.le_trans (V.nodes_get xs k hlt) hn
      have HC := Lib.hid (isValue1_any hA xs[k] _ deep N g bd bl _ wr hnk (RdN.keep (N := N) hr hkp hN hng) hNg hbx (hbd.keep hkp hbg) (by rw [hkp.cell hz2 hlg]; exact hbl) (V.wfs_get hwf k hlt) (V.bulk_get' hbk k hlt) (hT.keep hG hkp hN hng) hG hdeep (by omega))
      have HSN := Lib.hid (vGoods_snoc (deep + 1) L xs k hlt HGD.out)
      have hns : V.nodess (xs.take (k + 1)) = V.nodess (xs.take k) + xs[k].nodes := by
        rw [List.take_succ_eq_append_getElem hlt]
        have hn : ∀ (ls : List V) (x : V), V.nodess (ls ++ [x]) = V.nodess ls + x.nodes := by
          intro ls x; induction ls with
          | nil => simp [V.nodess]
          | cons a ls ih => simp only [List.cons_append, V.nodess, ih]; omega
        exact hn _ _
      have HNS := Lib.hid hns
      clear hns hr hbx h hT hwf hbk hng hbox hbd hbl
      cases hgd : vGood (deep + 1) (L - V.nodess (xs.take k)) xs[k] with
      | true =>
        have HG := Lib.hid hgd; clear hgd
        go_wp2_with (go_at_call 59; refine HC.out.mono ?_; rw [HG.out]; rintro e w1 ⟨rfl, ⟨L', hbx1, hL'⟩, hk1⟩)
        go_roundw
        case rel => exact ⟨k + 1, by omega, by go_num, by rw [show L - (V.nodess (xs.take (k + 1)) : Int) = L' by rw [hL' trivial, HNS.out]; omega]; exact hbx1, by rw [HSN.out, HG.out], hkp.trans hk1⟩
        case measure => simp [intOf]; omega
      | false =>
        have HG := Lib.hid hgd; clear hgd
        have HF := Lib.hid (show ok = false by rw [← HOK.out]; exact vGoods_cut _ _ _ (k + 1) (by rw [HSN.out, HG.out]))
        go_wp2_with (go_at_call 59; refine HC.out.mono ?_; rw [HG.out]; rintro e w1 ⟨rfl, ⟨L', hbx1, hL'⟩, hk1⟩)
        go_ret
        exact ⟨⟨_, rfl, by rw [HF.out]; simp⟩, ⟨L', hbx1, fun hh => by rw [HF.out] at hh; cases hh⟩, hkp.trans hk1⟩
    · obtain rfl : k = xs.length := by omega
      have h1 := HGD.out
      rw [List.take_length] at h1 hbx
      have HF := Lib.hid (show ok = true by rw [← HOK.out]; exact h1)
      clear h1
      go_wp2
      go_ret
      exact ⟨⟨_, rfl, by rw [HF.out]; rfl⟩, ⟨_, hbx, fun _ => rfl⟩, hkp⟩

set_option maxHeartbeats 400000 in
theorem VIsC_of {n : Nat} (hA : VIsA n) : VIsC n := by
  intro xs va deep N g bd bl L w hn h hNg hbox hbd hbg hbl hlg hwf hbk hT hG hdeep hL
  have HC := Lib.hid (visIndex_any hA xs va deep N g bd bl L w hn h hNg hbox hbd hbg hbl hlg hwf hbk hT hG hdeep hL)
  go_enter Tryz.func58, Tryz.ntmps58
  go_wp2_with (go_at_call 84; refine HC.out.mono ?_; rintro e w1 ⟨⟨r, rfl, hr⟩, hL', hk1⟩; have HR := Lib.hid hr; clear hr)
  go_ret
  exact ⟨by rw [← HR.out]; rfl, hL', hk1⟩
theorem VIs_all : ∀ n, VIsA n
  | 0 => fun x cs deep N g L w hn => absurd x.nodes_pos (by omega)
  | n + 1 => VIsA_of (VIsC_of (VIs_all n))

set_option maxHeartbeats 400000 in
set_option maxRecDepth 10000 in
theorem valueOk_impl (x : V) (cs : List Value) (w : World) (h : Rd w x.d cs) (hwf : x.wf) (hbk : x.bulk ≤ 4294967295) (hT : Tabs w) :
    Calls Tryz.prog 21 #[.agg cs.toArray] w fun e w' => e = .returned (.bool x.ok) ∧ Below w.heap.size w w' := by
  obtain ⟨k, m, e, s, a2, n2, c2, rfl⟩ := V.form h
  obtain ⟨W0, hW0⟩ : ∃ W0, W0 = (w.alloc (.cells #[.int .i64 k, .int .i64 m, .int .i64 e, .string ⟨s.toArray⟩, .slice a2 n2 c2] 35)).alloc (.cells #[.int .i64 300] 3) := ⟨_, rfl⟩
  have HW := Lib.hid hW0
  have hA : Below w.heap.size w W0 := by rw [hW0]; exact ((Below.refl _ _).alloc (Nat.le_refl _) _).alloc (by simp) _
  have hbx : intBox W0 (w.heap.size + 1) 300 := by
    rw [hW0]
    have := heap_alloc_new (w.alloc (.cells #[.int .i64 k, .int .i64 m, .int .i64 e, .string ⟨s.toArray⟩, .slice a2 n2 c2] 35)) (.cells #[.int .i64 300] 3)
    simpa [intBox] using this
  have HC := Lib.hid (VIs_all x.nodes x _ 0 w.heap.size (w.heap.size + 1) 300 W0 (Nat.le_refl _) (h.rdN.below hA) (by omega) hbx hwf hbk (hT.below hA) ⟨hT.lt.1, hT.lt.2⟩ (by decide) (by decide))
  have hsz : W0.heap.size = w.heap.size + 2 := by rw [hW0]; simp
  clear hW0 h hbx
  go_enter Tryz.func21, Tryz.ntmps21
  go_wp2_with (go_at_call 37; rw [← HW.out]; refine HC.out.mono ?_; rintro e w1 ⟨rfl, _, hk1⟩)
  go_ret
  refine ⟨ret_bool ?_, hA.trans (hk1.below (by omega) (fun k hk e => by omega))⟩
  show vGood 0 300 x = _
  rw [← V.ok_impl]; unfold vGood; congr 1
  exact decide_eq_decide.2 (by omega)
end Go.Proofs.YtkeieeogkeonfaaGreatDoor
