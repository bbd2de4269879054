/- For all arguments the program's ShapeOf returns what the reference's ShapeOf returns, leaves its argument as it was, and returns memory of its own. -/
import Derived.Test.YtpknmldpdoadgaaDoorC5
import Derived.Deep.RegionHeld3
import Derived.Deep.QuietTactic
import Derived.BigQuiet
import Derived.Test.YtpknmldpdoadgaaDoorRows
import Derived.ProofKit
import Derived.HandedShaped
import Derived.Shelf.Vars
import Derived.Lay
import Derived.LaidMore
import Derived.Stop.Joined
import Derived.Lib.LaidU8T
import Derived.OpenShut
import Derived.ShutString
import Derived.ChangeOld
import Derived.Lib.SmallJoins
import Derived.Test.YtpknmldpdoadgaaDoorTie
import Derived.Test.YtpknmldpdoadgaaDoorCards
import Derived.SevenTiedAt

/- When a value is right: the program's isValue and ValueOk. -/
namespace Go.Proofs.YtpknmldpdoadgaaDoor
open Go.RowKit
open Go.Lib (validD)

def vGood (deep : Nat) (L : Int) (x : V) : Bool := V.rightBy pairsOkI (12 - deep) x && decide ((x.nodes : Int) ≤ L)
def vGoods (deep : Nat) (L : Int) (xs : List V) : Bool := V.rightsBy pairsOkI (12 - deep) xs && decide ((V.nodess xs : Int) ≤ L)

def VIsA (n : Nat) : Prop := ∀ (x : V) (cs : List Value) (deep N g : Nat) (L : Int) (w : World), x.nodes ≤ n → RdN N w x.d cs → N ≤ g → intBox w g L → x.wf → x.bulk ≤ 4294967295 → Tabs w → GlobN N → deep ≤ 1000000 → 0 ≤ L ∧ L ≤ 1000 →
  Calls Tryd.prog 57 #[.agg cs.toArray, .int .i64 deep, .pointer (some ⟨g, 0, none⟩)] w fun e w' => e = .returned (.bool (vGood deep L x)) ∧ (∃ L' : Int, intBox w' g L' ∧ (vGood deep L x = true → L' = L - x.nodes)) ∧ Keep (· = g) w w'

theorem vGood_no1 {deep : Nat} {L : Int} {x : V} (h : L - 1 < 0) : vGood deep L x = false := by
  have := x.nodes_pos; unfold vGood; rw [decide_eq_false (by omega), Bool.and_false]
theorem vGood_no2 {deep : Nat} {L : Int} {x : V} (h : (12 : Int) < deep) : vGood deep L x = false := by
  obtain ⟨k, m, e, s, kids⟩ := x
  unfold vGood; simp only [V.rightBy]; rw [decide_eq_false (show ¬ (0 : Int) ≤ 12 - deep by omega)]; simp
theorem V.nodess_ge : ∀ xs : List V, xs.length ≤ V.nodess xs
  | [] => by simp
  | x :: xs => by have := x.nodes_pos; have := V.nodess_ge xs; simp only [V.nodess, List.length_cons]; omega
theorem vGood_no3 {deep : Nat} {L : Int} {k m e : Int} {s : List UInt8} {kids : List V} (h : L - 1 < kids.length) : vGood deep L (.mk k m e s kids) = false := by
  have := V.nodess_ge kids; unfold vGood; rw [decide_eq_false (by simp only [V.nodes]; omega), Bool.and_false]
theorem vGood_no5 {deep : Nat} {L : Int} {x : V} (h : x.selfI = false) : vGood deep L x = false := by
  obtain ⟨k, m, e, s, kids⟩ := x
  unfold vGood; simp only [V.rightBy]; rw [show V.selfBy pairsOkI (.mk k m e s kids) = false from h]; simp
theorem vGood_yes {deep : Nat} {L : Int} {k m e : Int} {s : List UInt8} {kids : List V} (h2 : ¬ (12 : Int) < deep) (ho : V.selfI (.mk k m e s kids) = true) :
    vGood deep L (.mk k m e s kids) = vGoods (deep + 1) (L - 1) kids := by
  unfold vGood vGoods; simp only [V.rightBy, V.nodes]
  rw [show V.selfBy pairsOkI (.mk k m e s kids) = true from ho, decide_eq_true (show (0 : Int) ≤ 12 - deep by omega), show (12 : Int) - deep - 1 = 12 - (deep + 1 : Nat) by omega, Bool.and_true, Bool.and_true]
  congr 1; exact decide_eq_decide.2 (by omega)

def VIsC (n : Nat) : Prop := ∀ (xs : List V) (va : Value) (deep N g bd bl : Nat) (L : Int) (w : World), V.nodess xs ≤ n → RdN N w (.sl 5 (V.ds xs)) [va] → N ≤ g → intBox w g L → intBox w bd deep → bd ≠ g → w.cell? ⟨bl, 0, none⟩ = some (.pointer (some ⟨g, 0, none⟩)) → bl ≠ g →
    V.wfs xs → xs.length + V.bulks xs ≤ 4294967295 → Tabs w → GlobN N → deep ≤ 1000 → 0 ≤ L ∧ L ≤ 1000 →
  Calls Tryd.prog 79 #[va, .func (.func 80) #[] #[.pointer (some ⟨bd, 0, none⟩), .pointer (some ⟨bl, 0, none⟩)]] w fun e w' => e = .returned (.bool (!vGoods (deep + 1) L xs)) ∧ (∃ L' : Int, intBox w' g L' ∧ (vGoods (deep + 1) L xs = true → L' = L - V.nodess xs)) ∧ Keep (· = g) w w'

set_option maxHeartbeats 4000000 in
set_option maxRecDepth 10000 in
theorem VIsA_of {n : Nat} (hC : VIsC n) : VIsA (n + 1) := by
  intro x cs deep N g L w hn h hNg hbox hwf hbk hT hG hdeep hL
  obtain ⟨k, m, e, s, kids, v2, hx, rfl, hkids⟩ := V.layS h
  subst hx
  have hnk : V.nodess kids ≤ n := by simp only [V.nodes] at hn; omega
  obtain ⟨hL1, hL2⟩ := hL
  obtain ⟨M, rfl⟩ : ∃ M, L = M + 1 := ⟨L - 1, by omega⟩
  have hglt := hbox.lt
  obtain ⟨a2, c2, rfl⟩ := Rd.sl_form (Rd.of hkids)
  simp only [V.ds_map, List.length_map] at h hkids ⊢
  rw [← V.ds_map] at hkids
  have hfree := hbox.free
  have hcell := hbox.cell
  obtain ⟨W0, hW0⟩ : ∃ W0, W0 = ((((w.setCell ⟨g, 0, none⟩ (.int .i64 M)).alloc (.cells #[.int .i64 k, .int .i64 m, .int .i64 e, .string ⟨s.toArray⟩, .slice a2 kids.length c2] 42)).alloc (.cells #[.int .i64 deep] 3)).alloc (.cells #[.pointer (some ⟨g, 0, none⟩)] 64)) := ⟨_, rfl⟩
  have HW := Lib.hid hW0
  have hK0 : Keep (· = g) w W0 := by rw [hW0]; exact (((Keep.setCell (S := (· = g)) (p := ⟨g, 0, none⟩) (Keep.refl _ _) (.inl rfl) _).alloc _).alloc _).alloc _
  have hb0 : intBox W0 g M := by
    rw [hW0]
    have : intBox (w.setCell ⟨g, 0, none⟩ (.int .i64 M)) g M := one_setCell hbox
    exact ((this.below ((Below.refl _ _).alloc (Nat.le_refl _) _)).below ((Below.refl _ _).alloc (Nat.le_refl _) _)).below ((Below.refl _ _).alloc (Nat.le_refl _) _)
  have hbd0 : intBox W0 (w.heap.size + 1) deep := by
    rw [hW0]; unfold intBox; rw [Below.heap_alloc _ _ _ (by simp [World.setCell])]
    have := heap_alloc_new ((w.setCell ⟨g, 0, none⟩ (.int .i64 M)).alloc (.cells #[.int .i64 k, .int .i64 m, .int .i64 e, .string ⟨s.toArray⟩, .slice a2 kids.length c2] 42)) (.cells #[.int .i64 deep] 3)
    simpa [World.setCell] using this
  have hng : ∀ k, k < N → ¬ k = g := by intro k hk e; omega
  have hN : N ≤ w.heap.size := by omega
  have hss : (w.setCell ⟨g, 0, none⟩ (.int .i64 M)).heap.size = w.heap.size := by simp [World.setCell]
  have hsz : W0.heap.size = w.heap.size + 3 := by rw [hW0]; simp [hss]
  have s1 : g < w.heap.size + 1 := by omega
  have s2 : g < w.heap.size + 1 + 1 := by omega
  have s3 : g < w.heap.size + 1 + 1 + 1 := by omega
  have q1 : ¬ g = w.heap.size := by omega
  have q2 : ¬ g = w.heap.size + 1 := by omega
  have q3 : ¬ g = w.heap.size + 1 + 1 := by omega
  have KB : Hid (∀ W, Below W0.heap.size W0 W → W.cell? ⟨w.heap.size, 0, none⟩ = some (.int .i64 k) ∧ W.cell? ⟨w.heap.size, 1, none⟩ = some (.int .i64 m) ∧ W.cell? ⟨w.heap.size, 2, none⟩ = some (.int .i64 e) ∧ W.cell? ⟨w.heap.size, 3, none⟩ = some (.string ⟨s.toArray⟩) ∧ W.cell? ⟨w.heap.size, 4, none⟩ = some (.slice a2 kids.length c2) ∧ W.cell? ⟨w.heap.size + 1, 0, none⟩ = some (.int .i64 deep) ∧ W.cell? ⟨w.heap.size + 1 + 1, 0, none⟩ = some (.pointer (some ⟨g, 0, none⟩)) ∧ W.cell? ⟨g, 0, none⟩ = some (.int .i64 M)) := by
    intro W hb
    obtain ⟨hc, _⟩ := bcell hb
    have z1 : w.heap.size < W0.heap.size := by omega
    have z2 : w.heap.size + 1 < W0.heap.size := by omega
    have z3 : w.heap.size + 1 + 1 < W0.heap.size := by omega
    have z4 : g < W0.heap.size := by omega
    simp only [hc _ _ z1, hc _ _ z2, hc _ _ z3, hc _ _ z4, hb0.cell]
    subst hW0
    simp [go_sem, hss]
  have hT0 := Lib.hid (hT.keep hG hK0 hN hng)
  have HR := Lib.hid (show ∀ W, Below W0.heap.size W0 W → RdN N W (V.d (.mk k m e s kids)) [.int .i64 k, .int .i64 m, .int .i64 e, .string ⟨s.toArray⟩, .slice a2 kids.length c2] from fun W hb => (h.keep hK0 hN hng).below (hb.mono (by omega)))
  have HRk := Lib.hid (show ∀ W, Below W0.heap.size W0 W → RdN N W (.sl 5 (V.ds kids)) [.slice a2 kids.length c2] from fun W hb => (RdN.keep hkids hK0 hN hng).below (hb.mono (by omega)))
  have HF := Lib.hid (fun W (hb : Below W0.heap.size W0 W) => isNode_any _ _ W (HR.out W hb).rd hwf hbk (hT0.out.below hb))
  have HQ := Lib.hid (fun W (hb : Below W0.heap.size W0 W) => areKids_any _ _ W (HR.out W hb).rd hbk)
  clear h hkids hT hbox hW0 hng hss q1 q2 q3
  by_cases qc1 : M < 0
  · have dqc1 := decide_eq_true qc1
    have H := Lib.hid (vGood_no1 (deep := deep) (L := M + 1) (x := .mk k m e s kids) (by omega))
    go_enter Tryd.func57, Tryd.ntmps57
    go_wp2
    rw [← HW.out]
    have hB := Below.refl W0.heap.size W0
    obtain ⟨p0, p1, p2, p3, p4, p6, p7, p8⟩ := KB.out _ hB
    go_quiet (fail)
    go_wp2
    go_ret
    exact ⟨by rw [H.out]; rfl, ⟨M, hb0.below (by first | exact hB | exact hB.drew | exact Go.below_drewN hB _), fun h => by rw [H.out] at h; cases h⟩, hK0.then (by first | exact hB | exact hB.drew | exact Go.below_drewN hB _)⟩
  have dqc1 := decide_eq_false qc1
  by_cases qc2 : (12 : Int) < deep
  · have dqc2 := decide_eq_true qc2
    have H := Lib.hid (vGood_no2 (L := M + 1) (x := .mk k m e s kids) qc2)
    go_enter Tryd.func57, Tryd.ntmps57
    go_wp2
    rw [← HW.out]
    have hB := Below.refl W0.heap.size W0
    obtain ⟨p0, p1, p2, p3, p4, p6, p7, p8⟩ := KB.out _ hB
    go_quiet (fail)
    go_wp2
    go_ret
    exact ⟨by rw [H.out]; rfl, ⟨M, hb0.below (by first | exact hB | exact hB.drew | exact Go.below_drewN hB _), fun h => by rw [H.out] at h; cases h⟩, hK0.then (by first | exact hB | exact hB.drew | exact Go.below_drewN hB _)⟩
  have dqc2 := decide_eq_false qc2
  by_cases qc3 : M < kids.length
  · have dqc3 := decide_eq_true qc3
    have H := Lib.hid (vGood_no3 (deep := deep) (L := M + 1) (k := k) (m := m) (e := e) (s := s) (kids := kids) (by omega))
    go_enter Tryd.func57, Tryd.ntmps57
    go_wp2
    rw [← HW.out]
    have hB := Below.refl W0.heap.size W0
    obtain ⟨p0, p1, p2, p3, p4, p6, p7, p8⟩ := KB.out _ hB
    go_quiet (fail)
    go_wp2
    go_ret
    exact ⟨by rw [H.out]; rfl, ⟨M, hb0.below (by first | exact hB | exact hB.drew | exact Go.below_drewN hB _), fun h => by rw [H.out] at h; cases h⟩, hK0.then (by first | exact hB | exact hB.drew | exact Go.below_drewN hB _)⟩
  have dqc3 := decide_eq_false qc3
  have HSN := Lib.hid (V.selfI_node (.mk k m e s kids))
  cases hnode : V.node (.mk k m e s kids) with
  | false =>
    have HO := Lib.hid hnode
    have H := Lib.hid (vGood_no5 (deep := deep) (L := M + 1) (x := .mk k m e s kids) (by rw [HSN.out, hnode]; rfl))
    clear hnode
    go_enter Tryd.func57, Tryd.ntmps57
    go_wp2
    rw [← HW.out]
    have hB := Below.refl W0.heap.size W0
    refine wp_region_held_drew (S := (fun W => W.cell? ⟨w.heap.size, 0, none⟩ = some (.int .i64 k) ∧ W.cell? ⟨w.heap.size, 1, none⟩ = some (.int .i64 m) ∧ W.cell? ⟨w.heap.size, 2, none⟩ = some (.int .i64 e) ∧ W.cell? ⟨w.heap.size, 3, none⟩ = some (.string ⟨s.toArray⟩) ∧ W.cell? ⟨w.heap.size, 4, none⟩ = some (.slice a2 kids.length c2) ∧ W.cell? ⟨w.heap.size + 1, 0, none⟩ = some (.int .i64 deep) ∧ W.cell? ⟨w.heap.size + 1 + 1, 0, none⟩ = some (.pointer (some ⟨g, 0, none⟩)) ∧ W.cell? ⟨g, 0, none⟩ = some (.int .i64 M))) (by kernel_rfl) ?_ (fun hHeld => ?_)
    · ((try dsimp only); (first | exact KB.out _ hB | exact KB.out _ hB.drew))
    refine takeW (i := 0) (fuel := 26) (d := some 12) (v := ?vr0) (listed' := #[true, false, false, false, false, false, false, false, false, false, false, false, false, false, false, false, false, false, false, false, false, false, false, false, false, false, false]) rfl rfl (by kernel_rfl) (by kernel_rfl) (by kernel_rfl) (by kernel_rfl) (by kernel_rfl) (fun _ _ _ h => h) (by kernel_rfl) (by assumption) ?hr0 ?rr0
    case hr0 => (intro w hSw; (try dsimp only at hSw); go_simp; all_goals with_reducible rfl)
    simp only [skipAct, Act.put, List.setIfInBounds_toArray, List.set_cons_zero, List.set_cons_succ]
    refine takeW (i := 1) (fuel := 25) (d := some 13) (v := ?vr1) (listed' := #[true, true, false, false, false, false, false, false, false, false, false, false, false, false, false, false, false, false, false, false, false, false, false, false, false, false, false]) rfl rfl (by kernel_rfl) (by kernel_rfl) (by kernel_rfl) (by kernel_rfl) (by kernel_rfl) (fun _ _ _ h => h) (by kernel_rfl) (by assumption) ?hr1 ?rr1
    case hr1 => (intro w hSw; (try dsimp only at hSw); go_simp; all_goals with_reducible rfl)
    simp only [skipAct, Act.put, List.setIfInBounds_toArray, List.set_cons_zero, List.set_cons_succ]
    refine takeW (i := 2) (fuel := 24) (d := some 14) (v := ?vr2) (listed' := #[true, true, true, false, false, false, false, false, false, false, false, false, false, false, false, false, false, false, false, false, false, false, false, false, false, false, false]) rfl rfl (by kernel_rfl) (by kernel_rfl) (by kernel_rfl) (by kernel_rfl) (by kernel_rfl) (fun _ _ _ h => h) (by kernel_rfl) (by assumption) ?hr2 ?rr2
    case hr2 => (intro w hSw; (try dsimp only at hSw); go_simp; all_goals with_reducible rfl)
    simp only [skipAct, Act.put, List.setIfInBounds_toArray, List.set_cons_zero, List.set_cons_succ]
    refine takeW (i := 3) (fuel := 23) (d := some 15) (v := ?vr3) (listed' := #[true, true, true, true, false, false, false, false, false, false, false, false, false, false, false, false, false, false, false, false, false, false, false, false, false, false, false]) rfl rfl (by kernel_rfl) (by kernel_rfl) (by kernel_rfl) (by kernel_rfl) (by kernel_rfl) (fun _ _ _ h => h) (by kernel_rfl) (by assumption) ?hr3 ?rr3
    case hr3 => (intro w hSw; (try dsimp only at hSw); go_simp; all_goals with_reducible rfl)
    simp only [skipAct, Act.put, List.setIfInBounds_toArray, List.set_cons_zero, List.set_cons_succ]
    refine takeW (i := 4) (fuel := 22) (d := some 16) (v := ?vr4) (listed' := #[true, true, true, true, true, false, false, false, false, false, false, false, false, false, false, false, false, false, false, false, false, false, false, false, false, false, false]) rfl rfl (by kernel_rfl) (by kernel_rfl) (by kernel_rfl) (by kernel_rfl) (by kernel_rfl) (fun _ _ _ h => h) (by kernel_rfl) (by assumption) ?hr4 ?rr4
    case hr4 => (intro w hSw; (try dsimp only at hSw); go_simp; all_goals with_reducible rfl)
    simp only [skipAct, Act.put, List.setIfInBounds_toArray, List.set_cons_zero, List.set_cons_succ]
    refine takeW (i := 5) (fuel := 21) (d := some 17) (v := ?vr5) (listed' := #[true, true, true, true, true, true, false, false, false, false, false, false, false, false, false, false, false, false, false, false, false, false, false, false, false, false, false]) rfl rfl (by kernel_rfl) (by kernel_rfl) (by kernel_rfl) (by kernel_rfl) (by kernel_rfl) (fun _ _ _ h => h) (by kernel_rfl) (by assumption) ?hr5 ?rr5
    case hr5 => (intro w hSw; (try dsimp only at hSw); go_simp; all_goals with_reducible rfl)
    simp only [skipAct, Act.put, List.setIfInBounds_toArray, List.set_cons_zero, List.set_cons_succ]
    refine takeW (i := 6) (fuel := 20) (d := some 18) (v := ?vr6) (listed' := #[true, true, true, true, true, true, true, false, false, false, false, false, false, false, false, false, false, false, false, false, false, false, false, false, false, false, false]) rfl rfl (by kernel_rfl) (by kernel_rfl) (by kernel_rfl) (by kernel_rfl) (by kernel_rfl) (fun _ _ _ h => h) (by kernel_rfl) (by assumption) ?hr6 ?rr6
    case hr6 => (intro w hSw; (try dsimp only at hSw); go_simp; all_goals with_reducible rfl)
    simp only [skipAct, Act.put, List.setIfInBounds_toArray, List.set_cons_zero, List.set_cons_succ]
    refine takeW (i := 7) (fuel := 19) (d := some 19) (v := ?vr7) (listed' := #[true, true, true, true, true, true, true, true, false, false, false, false, false, false, false, false, false, false, false, false, false, false, false, false, false, false, false]) rfl rfl (by kernel_rfl) (by kernel_rfl) (by kernel_rfl) (by kernel_rfl) (by kernel_rfl) (fun _ _ _ h => h) (by kernel_rfl) (by assumption) ?hr7 ?rr7
    case hr7 => (intro w hSw; (try dsimp only at hSw); go_simp; all_goals with_reducible rfl)
    simp only [skipAct, Act.put, List.setIfInBounds_toArray, List.set_cons_zero, List.set_cons_succ]
    refine takeW (i := 8) (fuel := 18) (d := some 20) (v := ?vr8) (listed' := #[true, true, true, true, true, true, true, true, true, false, false, false, false, false, false, false, false, false, false, false, false, false, false, false, false, false, false]) rfl rfl (by kernel_rfl) (by kernel_rfl) (by kernel_rfl) (by kernel_rfl) (by kernel_rfl) (fun _ _ _ h => h) (by kernel_rfl) (by assumption) ?hr8 ?rr8
    case hr8 => (intro w hSw; (try dsimp only at hSw); go_simp; all_goals with_reducible rfl)
    simp only [skipAct, Act.put, List.setIfInBounds_toArray, List.set_cons_zero, List.set_cons_succ]
    refine takeW (i := 9) (fuel := 17) (d := some 21) (v := ?vr9) (listed' := #[true, true, true, true, true, true, true, true, true, true, false, false, false, false, false, false, false, false, false, false, false, false, false, false, false, false, false]) rfl rfl (by kernel_rfl) (by kernel_rfl) (by kernel_rfl) (by kernel_rfl) (by kernel_rfl) (fun _ _ _ h => h) (by kernel_rfl) (by assumption) ?hr9 ?rr9
    case hr9 => (intro w hSw; (try dsimp only at hSw); go_simp; all_goals with_reducible rfl)
    simp only [skipAct, Act.put, List.setIfInBounds_toArray, List.set_cons_zero, List.set_cons_succ]
    refine takeW (i := 10) (fuel := 16) (d := some 22) (v := ?vr10) (listed' := #[true, true, true, true, true, true, true, true, true, true, true, false, false, false, false, false, false, false, false, false, false, false, false, false, false, false, false]) rfl rfl (by kernel_rfl) (by kernel_rfl) (by kernel_rfl) (by kernel_rfl) (by kernel_rfl) (fun _ _ _ h => h) (by kernel_rfl) (by assumption) ?hr10 ?rr10
    case hr10 => (intro w hSw; (try dsimp only at hSw); go_simp; all_goals with_reducible rfl)
    simp only [skipAct, Act.put, List.setIfInBounds_toArray, List.set_cons_zero, List.set_cons_succ]
    refine takeW (i := 11) (fuel := 15) (d := some 23) (v := ?vr11) (listed' := #[true, true, true, true, true, true, true, true, true, true, true, true, false, false, false, false, false, false, false, false, false, false, false, false, false, false, false]) rfl rfl (by kernel_rfl) (by kernel_rfl) (by kernel_rfl) (by kernel_rfl) (by kernel_rfl) (fun _ _ _ h => h) (by kernel_rfl) (by assumption) ?hr11 ?rr11
    case hr11 => (intro w hSw; (try dsimp only at hSw); go_simp; all_goals with_reducible rfl)
    simp only [skipAct, Act.put, List.setIfInBounds_toArray, List.set_cons_zero, List.set_cons_succ]
    refine takeW (i := 12) (fuel := 14) (d := some 24) (v := ?vr12) (listed' := #[true, true, true, true, true, true, true, true, true, true, true, true, true, false, false, false, false, false, false, false, false, false, false, false, false, false, false]) rfl rfl (by kernel_rfl) (by kernel_rfl) (by kernel_rfl) (by kernel_rfl) (by kernel_rfl) (fun _ _ _ h => h) (by kernel_rfl) (by assumption) ?hr12 ?rr12
    case hr12 => (intro w hSw; (try dsimp only at hSw); go_simp; all_goals with_reducible rfl)
    simp only [skipAct, Act.put, List.setIfInBounds_toArray, List.set_cons_zero, List.set_cons_succ]
    refine takeW (i := 13) (fuel := 13) (d := some 25) (v := ?vr13) (listed' := #[true, true, true, true, true, true, true, true, true, true, true, true, true, true, false, false, false, false, false, false, false, false, false, false, false, false, false]) rfl rfl (by kernel_rfl) (by kernel_rfl) (by kernel_rfl) (by kernel_rfl) (by kernel_rfl) (fun _ _ _ h => h) (by kernel_rfl) (by assumption) ?hr13 ?rr13
    case hr13 => (intro w hSw; (try dsimp only at hSw); go_simp; all_goals with_reducible rfl)
    simp only [skipAct, Act.put, List.setIfInBounds_toArray, List.set_cons_zero, List.set_cons_succ]
    refine takeW (i := 14) (fuel := 12) (d := some 26) (v := ?vr14) (listed' := #[true, true, true, true, true, true, true, true, true, true, true, true, true, true, true, false, false, false, false, false, false, false, false, false, false, false, false]) rfl rfl (by kernel_rfl) (by kernel_rfl) (by kernel_rfl) (by kernel_rfl) (by kernel_rfl) (fun _ _ _ h => h) (by kernel_rfl) (by assumption) ?hr14 ?rr14
    case hr14 => (intro w hSw; (try dsimp only at hSw); go_simp; all_goals with_reducible rfl)
    simp only [skipAct, Act.put, List.setIfInBounds_toArray, List.set_cons_zero, List.set_cons_succ]
    refine takeW (i := 15) (fuel := 11) (d := some 27) (v := ?vr15) (listed' := #[true, true, true, true, true, true, true, true, true, true, true, true, true, true, true, true, false, false, false, false, false, false, false, false, false, false, false]) rfl rfl (by kernel_rfl) (by kernel_rfl) (by kernel_rfl) (by kernel_rfl) (by kernel_rfl) (fun _ _ _ h => h) (by kernel_rfl) (by assumption) ?hr15 ?rr15
    case hr15 => (intro w hSw; (try dsimp only at hSw); go_simp; all_goals with_reducible rfl)
    simp only [skipAct, Act.put, List.setIfInBounds_toArray, List.set_cons_zero, List.set_cons_succ]
    refine takeW (i := 16) (fuel := 10) (d := some 28) (v := ?vr16) (listed' := #[true, true, true, true, true, true, true, true, true, true, true, true, true, true, true, true, true, false, false, false, false, false, false, false, false, false, false]) rfl rfl (by kernel_rfl) (by kernel_rfl) (by kernel_rfl) (by kernel_rfl) (by kernel_rfl) (fun _ _ _ h => h) (by kernel_rfl) (by assumption) ?hr16 ?rr16
    case hr16 => (intro w hSw; (try dsimp only at hSw); go_simp; all_goals with_reducible rfl)
    simp only [skipAct, Act.put, List.setIfInBounds_toArray, List.set_cons_zero, List.set_cons_succ]
    refine takeW (i := 17) (fuel := 9) (d := some 29) (v := ?vr17) (listed' := #[true, true, true, true, true, true, true, true, true, true, true, true, true, true, true, true, true, true, false, false, false, false, false, false, false, false, false]) rfl rfl (by kernel_rfl) (by kernel_rfl) (by kernel_rfl) (by kernel_rfl) (by kernel_rfl) (fun _ _ _ h => h) (by kernel_rfl) (by assumption) ?hr17 ?rr17
    case hr17 => (intro w hSw; (try dsimp only at hSw); go_simp; all_goals with_reducible rfl)
    simp only [skipAct, Act.put, List.setIfInBounds_toArray, List.set_cons_zero, List.set_cons_succ]
    refine takeW (i := 18) (fuel := 8) (d := some 30) (v := ?vr18) (listed' := #[true, true, true, true, true, true, true, true, true, true, true, true, true, true, true, true, true, true, true, false, false, false, false, false, false, false, false]) rfl rfl (by kernel_rfl) (by kernel_rfl) (by kernel_rfl) (by kernel_rfl) (by kernel_rfl) (fun _ _ _ h => h) (by kernel_rfl) (by assumption) ?hr18 ?rr18
    case hr18 => (intro w hSw; (try dsimp only at hSw); go_simp; all_goals with_reducible rfl)
    simp only [skipAct, Act.put, List.setIfInBounds_toArray, List.set_cons_zero, List.set_cons_succ]
    refine takeC (i := 19) (fuel := 7) (d := some 31) (listed' := #[true, true, true, true, true, true, true, true, true, true, true, true, true, true, true, true, true, true, true, true, false, false, false, false, false, false, false]) rfl rfl (by kernel_rfl) (by kernel_rfl) (by kernel_rfl) (by kernel_rfl) (fun K hK => ?cr19)
    go_simp
    ((go_at_call 77; with_reducible refine (HF.out _ (by first | exact hB | exact hB.drew)).mono ?_; rw [HO.out]; rintro e1 w1 ⟨rfl, hb1⟩; replace hB := below2 (by first | exact hB | exact hB.drew) hb1 (Nat.le_refl _)))
    go_wp2_with fail
    refine hK.out _ _ ?kr19 (fun hHeld => ?nr19)
    case kr19 => ((try dsimp only); (first | exact KB.out _ hB | exact KB.out _ hB.drew))
    clear hK K
    try simp only [skipAct, Act.put, List.setIfInBounds_toArray, List.set_cons_zero, List.set_cons_succ]
    refine takeW (i := 20) (fuel := 6) (d := some 32) (v := ?vr20) (listed' := #[true, true, true, true, true, true, true, true, true, true, true, true, true, true, true, true, true, true, true, true, true, false, false, false, false, false, false]) rfl rfl (by kernel_rfl) (by kernel_rfl) (by kernel_rfl) (by kernel_rfl) (by kernel_rfl) (fun _ _ _ h => h) (by kernel_rfl) (by assumption) ?hr20 ?rr20
    case hr20 => (intro w hSw; (try dsimp only at hSw); go_simp; all_goals with_reducible rfl)
    simp only [skipAct, Act.put, List.setIfInBounds_toArray, List.set_cons_zero, List.set_cons_succ]
    refine takeW (i := 21) (fuel := 5) (d := some 33) (v := ?vr21) (listed' := #[true, true, true, true, true, true, true, true, true, true, true, true, true, true, true, true, true, true, true, true, true, true, false, false, false, false, false]) rfl rfl (by kernel_rfl) (by kernel_rfl) (by kernel_rfl) (by kernel_rfl) (by kernel_rfl) (fun _ _ _ h => h) (by kernel_rfl) (by assumption) ?hr21 ?rr21
    case hr21 => (intro w hSw; (try dsimp only at hSw); go_simp; all_goals with_reducible rfl)
    simp only [skipAct, Act.put, List.setIfInBounds_toArray, List.set_cons_zero, List.set_cons_succ]
    refine takeW (i := 22) (fuel := 4) (d := some 34) (v := ?vr22) (listed' := #[true, true, true, true, true, true, true, true, true, true, true, true, true, true, true, true, true, true, true, true, true, true, true, false, false, false, false]) rfl rfl (by kernel_rfl) (by kernel_rfl) (by kernel_rfl) (by kernel_rfl) (by kernel_rfl) (fun _ _ _ h => h) (by kernel_rfl) (by assumption) ?hr22 ?rr22
    case hr22 => (intro w hSw; (try dsimp only at hSw); go_simp; all_goals with_reducible rfl)
    simp only [skipAct, Act.put, List.setIfInBounds_toArray, List.set_cons_zero, List.set_cons_succ]
    refine takeS (fuel := 1) (listed' := #[true, true, true, true, true, true, true, true, true, true, true, true, true, true, true, true, true, true, true, true, true, true, true, true, true, true, false]) (by kernel_rfl) (fun _ _ _ _ h => h) (by assumption) [(23, 35), (24, 36), (25, 37)] (by kernel_rfl) (by kernel_rfl) (by kernel_rfl) ?_
    simp only [skipAct, Act.put, List.setIfInBounds_toArray, List.set_cons_zero, List.set_cons_succ]
    refine takeW (i := 26) (fuel := 0) (d := some 38) (v := ?vr26) (listed' := #[true, true, true, true, true, true, true, true, true, true, true, true, true, true, true, true, true, true, true, true, true, true, true, true, true, true, true]) rfl rfl (by kernel_rfl) (by kernel_rfl) (by kernel_rfl) (by kernel_rfl) (by kernel_rfl) (fun _ _ _ h => h) (by kernel_rfl) (by assumption) ?hr26 ?rr26
    case hr26 => (intro w hSw; (try dsimp only at hSw); go_simp; all_goals with_reducible rfl)
    simp only [skipAct, Act.put, List.setIfInBounds_toArray, List.set_cons_zero, List.set_cons_succ]
    refine wpAnyH_done (by kernel_rfl) ?_ _
    go_wp2
    go_ret
    exact ⟨by rw [H.out]; rfl, ⟨M, hb0.below (by first | exact hB | exact hB.drew | exact Go.below_drewN hB _), fun h => by rw [H.out] at h; cases h⟩, hK0.then (by first | exact hB | exact hB.drew | exact Go.below_drewN hB _)⟩
  | true =>
    have HO := Lib.hid hnode
    cases hkk : V.kidsOk k kids with
    | false =>
      have HKK := Lib.hid (show V.kidsOk (V.kind (.mk k m e s kids)) (V.kids (.mk k m e s kids)) = false from hkk)
      have H := Lib.hid (vGood_no5 (deep := deep) (L := M + 1) (x := .mk k m e s kids) (by rw [HSN.out, hnode]; exact hkk))
      clear hnode hkk
      go_enter Tryd.func57, Tryd.ntmps57
      go_wp2
      rw [← HW.out]
      have hB := Below.refl W0.heap.size W0
      go_region_held3 (fun W => W.cell? ⟨w.heap.size, 0, none⟩ = some (.int .i64 k) ∧ W.cell? ⟨w.heap.size, 1, none⟩ = some (.int .i64 m) ∧ W.cell? ⟨w.heap.size, 2, none⟩ = some (.int .i64 e) ∧ W.cell? ⟨w.heap.size, 3, none⟩ = some (.string ⟨s.toArray⟩) ∧ W.cell? ⟨w.heap.size, 4, none⟩ = some (.slice a2 kids.length c2) ∧ W.cell? ⟨w.heap.size + 1, 0, none⟩ = some (.int .i64 deep) ∧ W.cell? ⟨w.heap.size + 1 + 1, 0, none⟩ = some (.pointer (some ⟨g, 0, none⟩)) ∧ W.cell? ⟨g, 0, none⟩ = some (.int .i64 M))
        (first | exact KB.out _ hB | exact KB.out _ hB.drew)
        (first | (go_at_call 77; with_reducible refine (HF.out _ (by first | exact hB | exact hB.drew)).mono ?_; rw [HO.out]; rintro e1 w1 ⟨rfl, hb1⟩; replace hB := below2 (by first | exact hB | exact hB.drew) hb1 (Nat.le_refl _)) | (go_at_call 78; with_reducible refine (HQ.out _ (by first | exact hB | exact hB.drew)).mono ?_; rw [HKK.out]; rintro e1 w1 ⟨rfl, hb1⟩; replace hB := below2 (by first | exact hB | exact hB.drew) hb1 (Nat.le_refl _)))
      go_wp2
      go_ret
      exact ⟨by rw [H.out]; rfl, ⟨M, hb0.below (by first | exact hB | exact hB.drew | exact Go.below_drewN hB _), fun h => by rw [H.out] at h; cases h⟩, hK0.then (by first | exact hB | exact hB.drew | exact Go.below_drewN hB _)⟩
    | true =>
      have HKK := Lib.hid (show V.kidsOk (V.kind (.mk k m e s kids)) (V.kids (.mk k m e s kids)) = true from hkk)
      have H0 := vGood_yes (L := M + 1) qc2 (show V.selfI (.mk k m e s kids) = true by rw [HSN.out, hnode]; exact hkk)
      rw [show M + 1 - 1 = M by omega] at H0
      have H := Lib.hid H0
      clear H0 hnode hkk
      go_enter Tryd.func57, Tryd.ntmps57
      go_wp2
      rw [← HW.out]
      have hB := Below.refl W0.heap.size W0
      go_region_held3 (fun W => W.cell? ⟨w.heap.size, 0, none⟩ = some (.int .i64 k) ∧ W.cell? ⟨w.heap.size, 1, none⟩ = some (.int .i64 m) ∧ W.cell? ⟨w.heap.size, 2, none⟩ = some (.int .i64 e) ∧ W.cell? ⟨w.heap.size, 3, none⟩ = some (.string ⟨s.toArray⟩) ∧ W.cell? ⟨w.heap.size, 4, none⟩ = some (.slice a2 kids.length c2) ∧ W.cell? ⟨w.heap.size + 1, 0, none⟩ = some (.int .i64 deep) ∧ W.cell? ⟨w.heap.size + 1 + 1, 0, none⟩ = some (.pointer (some ⟨g, 0, none⟩)) ∧ W.cell? ⟨g, 0, none⟩ = some (.int .i64 M))
        (first | exact KB.out _ hB | exact KB.out _ hB.drew)
        (first | (go_at_call 77; with_reducible refine (HF.out _ (by first | exact hB | exact hB.drew)).mono ?_; rw [HO.out]; rintro e1 w1 ⟨rfl, hb1⟩; replace hB := below2 (by first | exact hB | exact hB.drew) hb1 (Nat.le_refl _)) | (go_at_call 78; with_reducible refine (HQ.out _ (by first | exact hB | exact hB.drew)).mono ?_; rw [HKK.out]; rintro e1 w1 ⟨rfl, hb1⟩; replace hB := below2 (by first | exact hB | exact hB.drew) hb1 (Nat.le_refl _)))
      obtain ⟨p0, p1, p2, p3, p4, p6, p7, p8⟩ := KB.out _ hB
      have hkw : V.wfs kids := hwf.2.2.2.2.2
      have hkb : kids.length + V.bulks kids ≤ 4294967295 := by simp only [V.bulk] at hbk; omega
      have HCC := Lib.hid (hC kids _ deep N g (w.heap.size + 1) (w.heap.size + 1 + 1) M _ hnk (HRk.out _ hB) hNg (hb0.below hB) (hbd0.below hB) (by omega) p7 (by omega) hkw hkb (hT0.out.below hB) hG (by omega) (by omega))
      go_wp2_with (go_at_call 79; refine HCC.out.mono ?_; rintro e1 w2 ⟨rfl, ⟨L', hbx, hL'⟩, hk2⟩)
      go_ret
      exact ⟨by rw [H.out]; simp, ⟨L', hbx, fun hh => by rw [H.out] at hh; rw [hL' hh]; simp only [V.nodes]; omega⟩, (hK0.then hB).trans hk2⟩

set_option maxHeartbeats 800000 in
set_option maxRecDepth 10000 in
theorem isValue1_any {n : Nat} (hA : VIsA n) (x : V) (cs : List Value) (deep N g bd bl : Nat) (L : Int) (w : World) (hn : x.nodes ≤ n) (h : RdN N w x.d cs) (hNg : N ≤ g) (hbox : intBox w g L) (hbd : intBox w bd deep) (hbl : w.cell? ⟨bl, 0, none⟩ = some (.pointer (some ⟨g, 0, none⟩)))
    (hwf : x.wf) (hbk : x.bulk ≤ 4294967295) (hT : Tabs w) (hG : GlobN N) (hdeep : deep ≤ 1000) (hL : 0 ≤ L ∧ L ≤ 1000) :
    Calls Tryd.prog 80 #[.agg cs.toArray, .pointer (some ⟨bd, 0, none⟩), .pointer (some ⟨bl, 0, none⟩)] w fun e w' => e = .returned (.bool (!vGood (deep + 1) L x)) ∧ (∃ L' : Int, intBox w' g L' ∧ (vGood (deep + 1) L x = true → L' = L - x.nodes)) ∧ Keep (· = g) w w' := by
  obtain ⟨k, m, e, s, a2, n2, c2, rfl⟩ := V.form h.rd
  have hb1 := hbd.cell
  have hz1 := hbd.lt
  have hz2 : bl < w.heap.size := cell_lt hbl
  have hN : N ≤ w.heap.size := by have := hbox.lt; omega
  have hal : Below w.heap.size w (w.alloc (.cells #[.int .i64 k, .int .i64 m, .int .i64 e, .string ⟨s.toArray⟩, .slice a2 n2 c2] 42)) := (Below.refl _ _).alloc (Nat.le_refl _) _
  have HCC := Lib.hid (hA x _ (deep + 1) N g L _ hn (h.below (hal.mono hN)) hNg (hbox.below hal) hwf hbk (hT.below hal) hG (by omega) hL)
  go_enter Tryd.func80, Tryd.ntmps80
  go_wp2_with (go_at_call 57; refine HCC.out.mono ?_; rintro e w1 ⟨rfl, hL', hk1⟩)
  go_ret
  exact ⟨rfl, hL', (Keep.of_below hal).trans hk1⟩

theorem vGoods_snoc (deep : Nat) (L : Int) (xs : List V) (k : Nat) (hk : k < xs.length) (h : vGoods deep L (xs.take k) = true) :
    vGoods deep L (xs.take (k + 1)) = vGood deep (L - V.nodess (xs.take k)) xs[k] := by
  have hn : ∀ (ls : List V) (x : V), V.nodess (ls ++ [x]) = V.nodess ls + x.nodes := by
    intro ls x; induction ls with
    | nil => simp [V.nodess]
    | cons a ls ih => simp only [List.cons_append, V.nodess, ih]; omega
  unfold vGoods at h ⊢; unfold vGood
  rw [List.take_succ_eq_append_getElem hk, hn, V.rightsBy_all, List.all_append]
  rw [V.rightsBy_all] at h
  simp only [Bool.and_eq_true, decide_eq_true_eq] at h
  rw [h.1, Bool.true_and]
  congr 1
  · simp
  · exact decide_eq_decide.2 (by omega)
theorem vGoods_cut (deep : Nat) (L : Int) (xs : List V) (k : Nat) (h : vGoods deep L (xs.take k) = false) : vGoods deep L xs = false := by
  have hn : ∀ (ls ms : List V), V.nodess (ls ++ ms) = V.nodess ls + V.nodess ms := by
    intro ls ms; induction ls with
    | nil => simp [V.nodess]
    | cons a ls ih => simp only [List.cons_append, V.nodess, ih]; omega
  cases hk : vGoods deep L xs with
  | false => rfl
  | true =>
    exfalso
    rw [← List.take_append_drop k xs] at hk
    unfold vGoods at h hk
    rw [V.rightsBy_all, List.all_append, hn] at hk
    rw [V.rightsBy_all] at h
    simp only [Bool.and_eq_true, decide_eq_true_eq] at hk
    rw [hk.1.1, decide_eq_true (by omega)] at h; cases h

set_option maxHeartbeats 1600000 in
set_option maxRecDepth 10000 in
theorem visIndex_any {n : Nat} (hA : VIsA n) (xs : List V) (va : Value) (deep N g bd bl : Nat) (L : Int) (w : World) (hn : V.nodess xs ≤ n) (h : RdN N w (.sl 5 (V.ds xs)) [va]) (hNg : N ≤ g) (hbox : intBox w g L) (hbd : intBox w bd deep) (hbg : bd ≠ g) (hbl : w.cell? ⟨bl, 0, none⟩ = some (.pointer (some ⟨g, 0, none⟩))) (hlg : bl ≠ g)
    (hwf : V.wfs xs) (hbk : xs.length + V.bulks xs ≤ 4294967295) (hT : Tabs w) (hG : GlobN N) (hdeep : deep ≤ 1000) (hL : 0 ≤ L ∧ L ≤ 1000) :
    Calls Tryd.prog 96 #[va, .func (.func 80) #[] #[.pointer (some ⟨bd, 0, none⟩), .pointer (some ⟨bl, 0, none⟩)]] w fun e w' => (∃ r : Int, e = .returned (.int .i64 r) ∧ decide (0 ≤ r) = !vGoods (deep + 1) L xs) ∧ (∃ L' : Int, intBox w' g L' ∧ (vGoods (deep + 1) L xs = true → L' = L - V.nodess xs)) ∧ Keep (· = g) w w' := by
  have hN : N ≤ w.heap.size := by have := hbox.lt; omega
  have hng : ∀ k, k < N → ¬ k = g := by intro k hk e; omega
  have hz1 := hbd.lt
  have hz2 : bl < w.heap.size := cell_lt hbl
  have hlen : xs.length ≤ 4294967295 := by omega
  obtain ⟨a, c, rfl, hg⟩ := RepC.values h
  obtain ⟨ok, hok⟩ : ∃ ok, vGoods (deep + 1) L xs = ok := ⟨_, rfl⟩
  rw [hok]
  have HOK := Lib.hid hok; clear hok
  obtain ⟨hL1, hL2⟩ := hL
  go_enter Tryd.func96, Tryd.ntmps96
  go_wp2
  go_loopw [8] (fun i wr => ∃ (k : Nat), k ≤ xs.length ∧ i = .int .i64 k ∧ intBox wr g (L - V.nodess (xs.take k)) ∧ vGoods (deep + 1) L (xs.take k) = true ∧ Keep (· = g) w wr) (fun i _ => xs.length - (intOf i).toNat)
  case atStart => exact ⟨0, Nat.zero_le _, rfl, by simpa [V.nodess] using hbox, by simp [vGoods, V.rightsBy, V.nodess, hL1], Keep.refl _ _⟩
  case round =>
    obtain ⟨k, hk, rfl, hbx, hgd, hkp⟩ := hrel
    have HGD := Lib.hid hgd
    have hle : (V.nodess (xs.take k) : Int) ≤ L := by unfold vGoods at hgd; simp only [Bool.and_eq_true, decide_eq_true_eq] at hgd; exact hgd.2
    clear hgd
    by_cases hlt : k < xs.length
    · obtain ⟨_, _, b, o, rfl, hb, hcell⟩ := hg (by intro e; rw [e] at hlt; simp at hlt)
      obtain ⟨v0, v1, v2, v3, v4, hr, d0, d1, d2, d3, d4⟩ := hcell k hlt
      clear hcell hg
      obtain ⟨k1, k2, k3, s4, a6, n6, m6, hcs⟩ := V.formS hr
      simp only [List.cons.injEq, and_true] at hcs
      obtain ⟨rfl, rfl, rfl, rfl, rfl⟩ := hcs
      have hbN : b < w.heap.size := by omega
      have hbg' := hng b hb
      rw [← hkp.cell hbN hbg'] at d0 d1 d2 d3 d4
      have hi1 : (0 : Int) ≤ k := by omega
      have hi3 : (k : Int) < xs.length := by omega
      have hnk : xs[k].nodes ≤ n := Nat.le_trans (V.nodes_get xs k hlt) hn
      have HC := Lib.hid (isValue1_any hA xs[k] _ deep N g bd bl _ wr hnk (RdN.keep (N := N) hr hkp hN hng) hNg hbx (hbd.keep hkp hbg) (by rw [hkp.cell hz2 hlg]; exact hbl) (V.wfs_get hwf k hlt) (V.bulk_get' hbk k hlt) (hT.keep hG hkp hN hng) hG hdeep (by omega))
      have HSN := Lib.hid (vGoods_snoc (deep + 1) L xs k hlt HGD.out)
      have hns : V.nodess (xs.take (k + 1)) = V.nodess (xs.take k) + xs[k].nodes := by
        rw [List.take_succ_eq_append_getElem hlt]
        have hn : ∀ (ls : List V) (x : V), V.nodess (ls ++ [x]) = V.nodess ls + x.nodes := by
          intro ls x; induction ls with
          | nil => simp [V.nodess]
          | cons a ls ih => simp only [List.cons_append, V.nodess, ih]; omega
        exact hn _ _
      have HNS := Lib.hid hns
      clear hns hr hbx h hT hwf hbk hng hbox hbd hbl
      cases hgd : vGood (deep + 1) (L - V.nodess (xs.take k)) xs[k] with
      | true =>
        have HG := Lib.hid hgd; clear hgd
        go_wp2_with (go_at_call 80; refine HC.out.mono ?_; rw [HG.out]; rintro e w1 ⟨rfl, ⟨L', hbx1, hL'⟩, hk1⟩)
        go_roundw
        case rel => exact ⟨k + 1, by omega, by go_num, by rw [show L - (V.nodess (xs.take (k + 1)) : Int) = L' by rw [hL' trivial, HNS.out]; omega]; exact hbx1, by rw [HSN.out, HG.out], hkp.trans hk1⟩
        case measure => simp [intOf]; omega
      | false =>
        have HG := Lib.hid hgd; clear hgd
        have HF := Lib.hid (show ok = false by rw [← HOK.out]; exact vGoods_cut _ _ _ (k + 1) (by rw [HSN.out, HG.out]))
        go_wp2_with (go_at_call 80; refine HC.out.mono ?_; rw [HG.out]; rintro e w1 ⟨rfl, ⟨L', hbx1, hL'⟩, hk1⟩)
        go_ret
        exact ⟨⟨_, rfl, by rw [HF.out]; simp⟩, ⟨L', hbx1, fun hh => by rw [HF.out] at hh; cases hh⟩, hkp.trans hk1⟩
    · obtain rfl : k = xs.length := by omega
      have h1 := HGD.out
      rw [List.take_length] at h1 hbx
      have HF := Lib.hid (show ok = true by rw [← HOK.out]; exact h1)
      clear h1
      go_wp2
      go_ret
      exact ⟨⟨_, rfl, by rw [HF.out]; rfl⟩, ⟨_, hbx, fun _ => rfl⟩, hkp⟩

set_option maxHeartbeats 400000 in
theorem VIsC_of {n : Nat} (hA : VIsA n) : VIsC n := by
  intro xs va deep N g bd bl L w hn h hNg hbox hbd hbg hbl hlg hwf hbk hT hG hdeep hL
  have HC := Lib.hid (visIndex_any hA xs va deep N g bd bl L w hn h hNg hbox hbd hbg hbl hlg hwf hbk hT hG hdeep hL)
  go_enter Tryd.func79, Tryd.ntmps79
  go_wp2_with (go_at_call 96; refine HC.out.mono ?_; rintro e w1 ⟨⟨r, rfl, hr⟩, hL', hk1⟩; have HR := Lib.hid hr; clear hr)
  go_ret
  exact ⟨by rw [← HR.out]; rfl, hL', hk1⟩
theorem VIs_all : ∀ n, VIsA n
  | 0 => fun x cs deep N g L w hn => absurd x.nodes_pos (by omega)
  | n + 1 => VIsA_of (VIsC_of (VIs_all n))

set_option maxHeartbeats 400000 in
set_option maxRecDepth 10000 in
theorem valueOk_impl (x : V) (cs : List Value) (w : World) (h : Rd w x.d cs) (hwf : x.wf) (hbk : x.bulk ≤ 4294967295) (hT : Tabs w) :
    Calls Tryd.prog 37 #[.agg cs.toArray] w fun e w' => e = .returned (.bool x.ok) ∧ Below w.heap.size w w' := by
  obtain ⟨k, m, e, s, a2, n2, c2, rfl⟩ := V.form h
  obtain ⟨W0, hW0⟩ : ∃ W0, W0 = (w.alloc (.cells #[.int .i64 k, .int .i64 m, .int .i64 e, .string ⟨s.toArray⟩, .slice a2 n2 c2] 42)).alloc (.cells #[.int .i64 300] 3) := ⟨_, rfl⟩
  have HW := Lib.hid hW0
  have hA : Below w.heap.size w W0 := by rw [hW0]; exact ((Below.refl _ _).alloc (Nat.le_refl _) _).alloc (by simp) _
  have hbx : intBox W0 (w.heap.size + 1) 300 := by
    rw [hW0]
    have := heap_alloc_new (w.alloc (.cells #[.int .i64 k, .int .i64 m, .int .i64 e, .string ⟨s.toArray⟩, .slice a2 n2 c2] 42)) (.cells #[.int .i64 300] 3)
    simpa [intBox] using this
  have HC := Lib.hid (VIs_all x.nodes x _ 0 w.heap.size (w.heap.size + 1) 300 W0 (Nat.le_refl _) (h.rdN.below hA) (by omega) hbx hwf hbk (hT.below hA) ⟨hT.lt.1, hT.lt.2⟩ (by decide) (by decide))
  have hsz : W0.heap.size = w.heap.size + 2 := by rw [hW0]; simp
  clear hW0 h hbx
  go_enter Tryd.func37, Tryd.ntmps37
  go_wp2_with (go_at_call 57; rw [← HW.out]; refine HC.out.mono ?_; rintro e w1 ⟨rfl, _, hk1⟩)
  go_ret
  refine ⟨ret_bool ?_, hA.trans (hk1.below (by omega) (fun k hk e => by omega))⟩
  show vGood 0 300 x = _
  rw [← V.ok_impl]; unfold vGood; congr 1
  exact decide_eq_decide.2 (by omega)
end Go.Proofs.YtpknmldpdoadgaaDoor

/- impl.ShapeOf on values without memory. -/
namespace Go.Proofs.YtpknmldpdoadgaaDoor
open Go.RowKit
variable {T : World → Prop} {hT : Low ngl T}

theorem voki_fn (hTab : ∀ w, T w → Tabs w) (v : V) (hw : v.wf) (hb : v.bulk ≤ 4294967295) : FnV (env T hT) 37 [.ag (vC v)] (.d (pB v.ok)) := by
  refine FnV.old rfl fun w C vs hF _ ht hlen hv => ?_
  match vs, hlen with
  | [a], _ =>
    have h0 := hv 0 _ _ rfl rfl
    rw [← V.pc_eq] at h0
    obtain ⟨cs, rfl, h1⟩ := vRd hF (V.wfd v) h0
    exact valueOk_impl v cs w h1 hw hb (hTab w ht)
theorem keysi_fn (v : V) (hl : v.kids.length ≤ 4294967295) : FnO (env T hT) 81 [.ag (vC v)] (.d (pSs v.keys)) := by
  refine FnO.oldR (te := 9) fun w C vs hF _ ht hlen hv => ?_
  match vs, hlen with
  | [a], _ =>
    have h0 := hv 0 _ _ rfl rfl
    rw [← V.pc_eq] at h0
    obtain ⟨cs, rfl, h1⟩ := vRd hF (V.wfd v) h0
    exact keys_impl v cs w h1 hl
theorem boundedi_fn (k n : Int) : FnV (env T hT) 58 [.d (pI k), .d (pI n)] (.ag (shC (.mk k n n [] 0 []))) := by
  refine fn_of (look_env lk_i_bounded) (by show 2 ≤ 9; decide) fun B hB => ?_
  unfold m_i_bounded
  refine mw_seq (mw_ops ?_)
  refine po_zero ?_
  refine po_nil ?_
  refine mw_seq (mw_ops ?_)
  iterate 4 (refine po_q rfl rfl ?_)
  refine po_store rfl rfl rfl ⟨rfl, Nat.le_of_ble_eq_true rfl⟩ rfl ?_
  refine po_nil ?_
  exact mw_ret ⟨.inr rfl, _, rfl, rfl⟩
theorem keysIn_fn (v : V) (hl : v.kids.length ≤ 4294967295) : FnV (env T hT) 59 [.ag (vC v)] (.tup [.d (pSs v.keys), .d (pB v.texts)]) := by
  have hvlen : (vK v.kids).length = v.kids.length := vK_len _
  have hkl := V.keys_length v
  refine fn_of (look_env lk_i_keysIn) (by show 1 ≤ 20; decide) fun B hB => ?_
  unfold m_i_keysIn
  refine mw_seq (mw_ops ?_)
  refine po_box rfl ?_
  iterate 2 (refine po_q rfl rfl ?_)
  refine po_nil ?_
  refine mw_seq (mw_ops ?_)
  refine po_q rfl rfl ?_
  refine po_call (vC_arg v) (keysi_fn v hl).v ?_
  refine po_q rfl rfl ?_
  refine po_nil ?_
  refine mw_seq (mw_ops ?_)
  iterate 3 (refine po_q rfl rfl ?_)
  refine po_b rfl rfl (fun b hb => ?_)
  refine po_q rfl rfl ?_
  by_cases h8 : v.kind = 8
  · obtain rfl : b = true := by rw [hb]; exact decide_eq_true h8
    refine po_q rfl rfl ?_
    refine po_q (v := .d (pI v.keys.length)) rfl (by show some (PV.d (.v (.int .i64 ((pSr v.keys).length : Nat)))) = _; rw [pSr_len]; rfl) ?_
    refine po_mul (n := 2 * (v.keys.length : Int)) rfl rfl rfl rfl (by omega) ?_
    iterate 2 (refine po_q rfl rfl ?_)
    refine po_q (v := .d (pI v.kids.length)) rfl (by show some (PV.d (.v (.int .i64 ((vK v.kids).length : Nat)))) = _; rw [hvlen]; rfl) ?_
    refine po_b rfl rfl (fun b2 hb2 => ?_)
    iterate 3 (refine po_q rfl rfl ?_)
    refine po_nil ?_
    have e : b2 = v.texts := by
      rw [hb2]; unfold V.texts; rw [decide_eq_true h8, Bool.true_and]
      exact decide_eq_decide.2 ⟨fun h => by omega, fun h => by omega⟩
    refine mw_ret ⟨.inr rfl, _, rfl, ?_⟩
    rw [← e]
    show some (PV.tup [.d (.sl 0 (erLL (pSr v.keys))), .d (pB b2)]) = _
    rw [pSr_er]; rfl
  · obtain rfl : b = false := by rw [hb]; exact decide_eq_false h8
    iterate 7 (refine po_skip rfl ?_)
    iterate 3 (refine po_q rfl rfl ?_)
    refine po_nil ?_
    have e : false = v.texts := by unfold V.texts; rw [decide_eq_false h8]; rfl
    refine mw_ret ⟨.inr rfl, _, rfl, ?_⟩
    rw [← e]
    show some (PV.tup [.d (.sl 0 (erLL (pSr v.keys))), .d (pB false)]) = _
    rw [pSr_er]; rfl

/-- pairs as rows -/
def prs : List V → List (List PC)
  | x :: y :: r => (vC x ++ vC y) :: prs r
  | _ => []
theorem prs_len : ∀ l : List V, (prs l).length = l.length / 2
  | [] => by simp [prs]
  | [_] => by simp [prs]
  | _ :: _ :: r => by simp only [prs, List.length_cons, prs_len r]; omega
theorem prs_wid : ∀ (l : List V), ∀ e ∈ prs l, e.length = 10
  | [], e, h => by simp [prs] at h
  | [_], e, h => by simp [prs] at h
  | x :: y :: r, e, h => by
    simp only [prs, List.mem_cons] at h
    rcases h with rfl | h
    · rfl
    · exact prs_wid r e h
theorem prs_er : ∀ l : List V, erLL (prs l) = prs l
  | [] => rfl
  | [_] => rfl
  | x :: y :: r => by
    simp only [prs, erLL, prs_er r]
    rw [erL_map, List.map_append, ← erL_map, ← erL_map, vC_er, vC_er]
theorem prs_get : ∀ (l : List V) (j : Nat) (h : 2 * j + 1 < l.length), (prs l)[j]? = some (vC l[2 * j] ++ vC l[2 * j + 1])
  | [], j, h => by simp at h
  | [_], j, h => by simp at h
  | x :: y :: r, 0, _ => by simp [prs]
  | x :: y :: r, j + 1, h => by
    simp only [prs, List.getElem?_cons_succ]
    rw [prs_get r j (by simp at h; omega)]
    congr 1
theorem prs_take {l : List V} {j : Nat} (h : 2 * j + 1 < l.length) : (prs l).take (j + 1) = (prs l).take j ++ [vC l[2 * j] ++ vC l[2 * j + 1]] := by
  have hj : j < (prs l).length := by rw [prs_len]; omega
  rw [List.take_succ_eq_append_getElem hj]
  have := prs_get l j h
  rw [List.getElem?_eq_getElem hj] at this
  rw [Option.some.inj this]
def PairI (v : V) (m : Nat) (s : St) : Prop := ∃ i t : Nat, 2 * i ≤ v.kids.length ∧ m = v.kids.length - 2 * i ∧ has s.tm [(1, .ref 0 0), (3, .d (.sl t ((prs v.kids).take i))), (4, .d (pI ((2 * i : Nat) : Int)))] ∧ s.bx = [vC v] ∧ t ∈ s.live
theorem pairsOf_fn (v : V) (hl : v.kids.length ≤ 4294967295) : FnV (env T hT) 60 [.ag (vC v)] (.d (.sl 0 (prs v.kids))) := by
  have hvlen : (vK v.kids).length = v.kids.length := vK_len _
  have hpl := prs_len v.kids
  refine fn_of (look_env lk_i_pairsOf) (by show 1 ≤ 30; decide) fun B hB => ?_
  unfold m_i_pairsOf
  refine mw_seq (mw_ops ?_)
  refine po_box rfl ?_
  refine po_q rfl rfl ?_
  refine po_nil ?_
  refine mw_seq (mw_ops ?_)
  refine po_lit rfl ?_
  refine po_q rfl rfl ?_
  refine po_nil ?_
  refine mw_cut (fun s => ∃ m, PairI v m s ∧ m < 2) ?_ ?_
  · refine mw_seq (mw_ops ?_)
    refine po_q rfl rfl ?_
    refine po_nil ?_
    refine mw_block ?_
    refine mw_while (PairI v) v.kids.length ⟨0, 2, Nat.zero_le _, by simp, ⟨rfl, rfl, rfl, trivial⟩, rfl, by show 2 ∈ [2]; simp⟩ ?_
    rintro m tm bx nt live ⟨i, t, hi, rfl, ht, hbx, hlv⟩
    obtain ⟨tm0, rfl⟩ := has_ups ht
    simp only at hbx hlv; subst hbx
    refine mw_seq (mw_seq (mw_ops ?_))
    refine po_q rfl rfl ?_
    refine po_add (n := ((2 * i + 1 : Nat) : Int)) rfl rfl rfl (by omega) (by omega) ?_
    iterate 3 (refine po_q rfl rfl ?_)
    refine po_b rfl rfl (fun b hb => ?_)
    refine po_nil ?_
    refine mw_cond rfl (fun hc => ?_) (fun hc => ?_)
    · have hlt1 : 2 * i + 1 < v.kids.length := by
        subst hb; have := of_decide_eq_true hc; rw [hvlen] at this; omega
      have hlt : 2 * i < v.kids.length := by omega
      refine mw_skip ?_
      refine mw_seq (mw_block (mw_ops ?_))
      iterate 4 (refine po_q rfl rfl ?_)
      refine po_ix (es := vK v.kids) (e := vC v.kids[2 * i]) rfl rfl rfl ⟨by omega, by rw [Int.toNat_natCast]; exact vK_get hlt⟩ rfl ?_
      iterate 4 (refine po_q rfl rfl ?_)
      refine po_add (n := ((2 * i + 1 : Nat) : Int)) rfl rfl rfl (by omega) (by omega) ?_
      refine po_ix (es := vK v.kids) (e := vC v.kids[2 * i + 1]) rfl rfl rfl ⟨by omega, by rw [Int.toNat_natCast]; exact vK_get hlt1⟩ rfl ?_
      refine po_q rfl rfl ?_
      refine po_q (v := .ag (vC v.kids[2 * i] ++ vC v.kids[2 * i + 1])) rfl rfl ?_
      refine po_q (v := .d (.sl 0 [vC v.kids[2 * i] ++ vC v.kids[2 * i + 1]])) rfl rfl ?_
      refine po_app (t := t) (es := (prs v.kids).take i) (ds := [vC v.kids[2 * i] ++ vC v.kids[2 * i + 1]]) rfl rfl (.inr hlv) (by rw [List.length_singleton, List.length_take]; omega) (by intro e he; rw [List.mem_singleton] at he; subst he; rfl) (fun e he => prs_wid _ e (List.mem_of_mem_take he)) ?_
      refine po_q rfl rfl ?_
      refine po_nil ?_
      refine mw_ops ?_
      refine po_q rfl rfl ?_
      refine po_add (n := ((2 * (i + 1) : Nat) : Int)) rfl rfl rfl (by omega) (by omega) ?_
      refine po_q rfl rfl ?_
      refine po_nil ?_
      refine ⟨v.kids.length - 2 * (i + 1), by omega, i + 1, nt, by omega, rfl, ⟨rfl, ?_, rfl, trivial⟩, rfl, by simp⟩
      rw [prs_take hlt1]; rfl
    · have hge : ¬ 2 * i + 1 < v.kids.length := by
        subst hb; have := of_decide_eq_false hc; rw [hvlen] at this; omega
      refine mw_exit ?_
      exact ⟨_, ⟨i, t, hi, rfl, ⟨rfl, rfl, rfl, trivial⟩, rfl, hlv⟩, by omega⟩
  rintro tm bx nt live ⟨m, ⟨i, t, hi, rfl, ht, hbx, hlv⟩, hm⟩
  obtain ⟨tm0, rfl⟩ := has_ups ht
  simp only at hbx hlv; subst hbx
  refine mw_seq (mw_ops ?_)
  iterate 2 (refine po_q rfl rfl ?_)
  refine po_nil ?_
  refine mw_ret ⟨.inr rfl, _, rfl, ?_⟩
  have : (prs v.kids).take i = prs v.kids := List.take_of_length_le (by rw [hpl]; omega)
  show some (PV.d (.sl 0 (erLL ((prs v.kids).take i)))) = _
  rw [this, prs_er]

/-- the program's shapeOf of smaller values -/
def SoQ (T : World → Prop) (hT : Low ngl T) (N : Nat) : Prop := ∀ v : V, v.nodes ≤ N → v.wf → v.ok = true → FnO (env T hT) 38 [.ag (vC v)] (.ag (shC (shp v)))
def SwI (v : V) (s : St) : Prop := ∃ (c : List PC) (rest : List (List PC)), has s.tm [(2, .ref 1 0), (3, .ref 2 0)] ∧ s.bx = vC v :: zSh :: c :: rest ∧ erL c = shC (shRaw v (v.kids.map shp)) ∧ c.length = 6
def ListQ (v : V) (m : Nat) (s : St) : Prop := ∃ (i : Nat) (c : List PC) (rest : List (List PC)), i ≤ v.kids.length ∧ m = v.kids.length - i ∧ has s.tm [(2, .ref 1 0), (3, .ref 2 0), (4, .ref 3 0), (50, .d (.sl 0 (vK v.kids))), (51, .d (pI v.kids.length)), (52, .d (pI i))] ∧
  s.bx = vC v :: zSh :: szC 7 v.kids.length :: c :: rest ∧ erL c = shC (joinAll ((v.kids.map shp).take i)) ∧ c.length = 6
def MapQ (v : V) (m : Nat) (s : St) : Prop := ∃ (i tr : Nat) (rest : List (List PC)), i ≤ (prs v.kids).length ∧ m = (prs v.kids).length - i ∧ has s.tm [(2, .ref 1 0), (3, .ref 2 0), (83, .d (.sl 0 (prs v.kids))), (84, .d (pI (prs v.kids).length)), (85, .d (pI i))] ∧
  s.bx = vC v :: zSh :: oC (.sl 0 (pSr (keysL v.kids))) (keysL v.kids).length (.sl tr (shK ((vals (v.kids.map shp)).take i))) :: rest ∧ (tr = 1 ∨ tr ∈ s.live)
theorem set_last {α : Type} (l : List α) (x y : α) : (l ++ [x]).set l.length y = l ++ [y] := by rw [List.set_append_right _ _ (Nat.le_refl _), Nat.sub_self]; rfl

set_option maxHeartbeats 2000000 in
theorem shapeOfi_step (hTab : ∀ w, T w → Tabs w) {N : Nat} (hS : SoQ T hT N) : SoQ T hT (N + 1) := by
  intro v hn hw hk
  have hb := V.ok_bulk hk
  have hkl := V.ok_len hk
  have hgood := shps_good hw hk
  have hvlen : (vK v.kids).length = v.kids.length := vK_len _
  have hml : (v.kids.map shp).length = v.kids.length := by simp
  have hkid : ∀ (i : Nat) (h : i < v.kids.length), FnV (env T hT) 38 [.ag (vC v.kids[i])] (.ag (shC (shp v.kids[i]))) := fun i h =>
    (hS v.kids[i] (V.nodes_kid hn i h) (V.wf_kid hw i h) (V.ok_kid hk i h)).v
  have hraw := shRaw_good hw hb hkl hml hgood
  refine fn_of (look_env lk_i_shapeOf) (by show 1 ≤ 100; decide) fun B hB => ?_
  unfold m_i_shapeOf
  refine mw_seq (mw_ops ?_)
  refine po_box rfl ?_
  refine po_zero ?_
  refine po_nil ?_
  refine mw_seq (mw_ops ?_)
  refine po_q rfl rfl ?_
  refine po_zero ?_
  refine po_store rfl rfl rfl ⟨rfl, Nat.le_of_ble_eq_true rfl⟩ rfl ?_
  refine po_nil ?_
  refine mw_cut (SwI v) ?_ ?_
  case refine_2 =>
    rintro tm bx nt live ⟨c, rest, ht, hbx, hc, hcl⟩
    obtain ⟨tm0, rfl⟩ := has_ups ht
    simp only at hbx; subst hbx
    refine mw_seq (mw_ops ?_)
    refine po_ldw (p := 2) (cs := c) rfl rfl rfl hcl ?_
    have hch := checked_fn (T := T) (hT := hT) hTab (shRaw v (v.kids.map shp)) hraw.1 hraw.2
    refine po_ownN (n := 6) (dats1 hc) hch rfl ?_
    intro c' nt' hc' hcl' hn2 hN
    refine po_stw (p := 1) rfl rfl rfl hcl' rfl rfl ?_
    refine po_nil ?_
    refine mw_ret ⟨.inr rfl, [.ag c'], ress_box rfl rfl hcl', ?_, hN.nd, fun t ht => List.mem_append.2 (.inl ht), hN.own⟩
    rw [shp_eq]
    exact congrArg (fun l => some (PV.ag l)) hc'
  refine mw_seq (mw_ops ?_)
  iterate 2 (refine po_q rfl rfl ?_)
  refine po_nil ?_
  refine mw_block (mw_seq (mw_ops ?_))
  refine po_b rfl rfl (fun b hb0 => ?_)
  refine po_q rfl rfl ?_
  refine po_nil ?_
  by_cases h0 : v.kind = 0
  · obtain rfl : b = true := by rw [hb0]; exact decide_eq_true h0
    refine mw_cond (t := true) rfl (fun _ => ?_) (fun h => absurd h (by decide))
    refine mw_ops ?_
    refine po_q rfl rfl ?_
    refine po_store rfl rfl rfl ⟨rfl, Nat.le_of_ble_eq_true rfl⟩ rfl ?_
    refine po_nil ?_
    exact ⟨_, _, ⟨rfl, rfl, trivial⟩, rfl, by unfold shRaw; rw [if_pos h0]; rfl, rfl⟩
  obtain rfl : b = false := by rw [hb0]; exact decide_eq_false h0
  refine mw_cond (t := false) rfl (fun h => absurd h (by decide)) (fun _ => ?_)
  refine mw_cut (fun s => has s.tm [(1, .ref 0 0), (2, .ref 1 0), (3, .ref 2 0), (14, .d (pI v.kind)), (18, .d (pB (decide (v.kind = 1 ∨ v.kind = 2))))] ∧ s.bx = [vC v, zSh, zSh]) ?_ ?_
  · refine mw_seq (mw_ops ?_)
    refine po_b rfl rfl (fun b hb1 => ?_)
    refine po_q rfl rfl ?_
    refine po_nil ?_
    by_cases h1 : v.kind = 1
    · obtain rfl : b = true := by rw [hb1]; exact decide_eq_true h1
      refine mw_cond (t := true) rfl (fun _ => ?_) (fun h => absurd h (by decide))
      refine mw_skip ?_
      exact ⟨⟨rfl, rfl, rfl, rfl, by rw [decide_eq_true (.inl h1)]; rfl, trivial⟩, rfl⟩
    · obtain rfl : b = false := by rw [hb1]; exact decide_eq_false h1
      refine mw_cond (t := false) rfl (fun h => absurd h (by decide)) (fun _ => ?_)
      refine mw_ops ?_
      refine po_b rfl rfl (fun b hb2 => ?_)
      refine po_q rfl rfl ?_
      refine po_nil ?_
      refine ⟨⟨rfl, rfl, rfl, rfl, ?_, trivial⟩, rfl⟩
      have : b = decide (v.kind = 1 ∨ v.kind = 2) := by rw [hb2]; exact decide_eq_decide.2 ⟨.inr, fun h => h.resolve_left h1⟩
      rw [← this]; rfl
  rintro tm bx nt live ⟨ht, hbx⟩
  obtain ⟨tm0, rfl⟩ := has_ups ht
  simp only at hbx; subst hbx
  clear ht hb0
  by_cases h1 : v.kind = 1 ∨ v.kind = 2
  · rw [decide_eq_true h1]
    refine mw_cond (t := true) rfl (fun _ => ?_) (fun h => absurd h (by decide))
    refine mw_ops ?_
    refine po_q rfl rfl ?_
    refine po_store rfl rfl rfl ⟨rfl, Nat.le_of_ble_eq_true rfl⟩ rfl ?_
    refine po_nil ?_
    exact ⟨_, _, ⟨rfl, rfl, trivial⟩, rfl, by unfold shRaw; rw [if_neg h0, if_pos h1]; rfl, rfl⟩
  rw [decide_eq_false h1]
  refine mw_cond (t := false) rfl (fun h => absurd h (by decide)) (fun _ => ?_)
  refine mw_seq (mw_ops ?_)
  refine po_b rfl rfl (fun b hb0 => ?_)
  refine po_q rfl rfl ?_
  refine po_nil ?_
  by_cases h3 : v.kind = 3
  · obtain rfl : b = true := by rw [hb0]; exact decide_eq_true h3
    refine mw_cond (t := true) rfl (fun _ => ?_) (fun h => absurd h (by decide))
    refine mw_ops ?_
    iterate 2 (refine po_q rfl rfl ?_)
    refine po_call (args := [.d (pI 3), .d (pI v.num)]) rfl (boundedi_fn 3 v.num) ?_
    refine po_store rfl rfl rfl ⟨rfl, Nat.le_of_ble_eq_true rfl⟩ rfl ?_
    refine po_nil ?_
    exact ⟨_, _, ⟨rfl, rfl, trivial⟩, rfl, by unfold shRaw; rw [if_neg h0, if_neg h1, if_pos h3]; rfl, rfl⟩
  obtain rfl : b = false := by rw [hb0]; exact decide_eq_false h3
  refine mw_cond (t := false) rfl (fun h => absurd h (by decide)) (fun _ => ?_)
  refine mw_seq (mw_ops ?_)
  refine po_b rfl rfl (fun b hb0 => ?_)
  refine po_q rfl rfl ?_
  refine po_nil ?_
  by_cases h4 : v.kind = 4
  · obtain rfl : b = true := by rw [hb0]; exact decide_eq_true h4
    refine mw_cond (t := true) rfl (fun _ => ?_) (fun h => absurd h (by decide))
    refine mw_ops ?_
    refine po_q rfl rfl ?_
    refine po_store rfl rfl rfl ⟨rfl, Nat.le_of_ble_eq_true rfl⟩ rfl ?_
    refine po_nil ?_
    exact ⟨_, _, ⟨rfl, rfl, trivial⟩, rfl, by unfold shRaw; rw [if_neg h0, if_neg h1, if_neg h3, if_pos h4]; rfl, rfl⟩
  obtain rfl : b = false := by rw [hb0]; exact decide_eq_false h4
  refine mw_cond (t := false) rfl (fun h => absurd h (by decide)) (fun _ => ?_)
  refine mw_seq (mw_ops ?_)
  refine po_b rfl rfl (fun b hb0 => ?_)
  refine po_q rfl rfl ?_
  refine po_nil ?_
  by_cases h5 : v.kind = 5
  · obtain rfl : b = true := by rw [hb0]; exact decide_eq_true h5
    refine mw_cond (t := true) rfl (fun _ => ?_) (fun h => absurd h (by decide))
    refine mw_ops ?_
    iterate 2 (refine po_q rfl rfl ?_)
    refine po_q (v := .d (pI v.text.length)) rfl rfl ?_
    refine po_call (args := [.d (pI 5), .d (pI v.text.length)]) rfl (boundedi_fn 5 v.text.length) ?_
    refine po_store rfl rfl rfl ⟨rfl, Nat.le_of_ble_eq_true rfl⟩ rfl ?_
    refine po_nil ?_
    exact ⟨_, _, ⟨rfl, rfl, trivial⟩, rfl, by unfold shRaw; rw [if_neg h0, if_neg h1, if_neg h3, if_neg h4, if_pos h5]; rfl, rfl⟩
  obtain rfl : b = false := by rw [hb0]; exact decide_eq_false h5
  refine mw_cond (t := false) rfl (fun h => absurd h (by decide)) (fun _ => ?_)
  refine mw_seq (mw_ops ?_)
  refine po_b rfl rfl (fun b hb0 => ?_)
  refine po_q rfl rfl ?_
  refine po_nil ?_
  by_cases h6 : v.kind = 6
  · obtain rfl : b = true := by rw [hb0]; exact decide_eq_true h6
    refine mw_cond (t := true) rfl (fun _ => ?_) (fun h => absurd h (by decide))
    refine mw_ops ?_
    iterate 2 (refine po_q rfl rfl ?_)
    refine po_q (v := .d (pI v.text.length)) rfl rfl ?_
    refine po_call (args := [.d (pI 6), .d (pI v.text.length)]) rfl (boundedi_fn 6 v.text.length) ?_
    refine po_store rfl rfl rfl ⟨rfl, Nat.le_of_ble_eq_true rfl⟩ rfl ?_
    refine po_nil ?_
    exact ⟨_, _, ⟨rfl, rfl, trivial⟩, rfl, by unfold shRaw; rw [if_neg h0, if_neg h1, if_neg h3, if_neg h4, if_neg h5, if_pos h6]; rfl, rfl⟩
  obtain rfl : b = false := by rw [hb0]; exact decide_eq_false h6
  refine mw_cond (t := false) rfl (fun h => absurd h (by decide)) (fun _ => ?_)
  refine mw_seq (mw_ops ?_)
  refine po_b rfl rfl (fun b hb0 => ?_)
  refine po_q rfl rfl ?_
  refine po_nil ?_
  by_cases h7 : v.kind = 7
  · obtain rfl : b = true := by rw [hb0]; exact decide_eq_true h7
    refine mw_cond (t := true) rfl (fun _ => ?_) (fun h => absurd h (by decide))
    refine mw_seq (mw_ops ?_)
    iterate 2 (refine po_q rfl rfl ?_)
    refine po_q (v := .d (pI v.kids.length)) rfl (by show some (PV.d (.v (.int .i64 ((vK v.kids).length : Nat)))) = _; rw [hvlen]; rfl) ?_
    refine po_call (args := [.d (pI 7), .d (pI v.kids.length)]) rfl (boundedi_fn 7 v.kids.length) ?_
    refine po_store rfl rfl rfl ⟨rfl, Nat.le_of_ble_eq_true rfl⟩ rfl ?_
    refine po_nil ?_
    refine mw_seq (mw_ops ?_)
    refine po_q rfl rfl ?_
    refine po_zero ?_
    refine po_store rfl rfl rfl ⟨rfl, Nat.le_of_ble_eq_true rfl⟩ rfl ?_
    refine po_nil ?_
    refine mw_cut (fun s => ∃ m, ListQ v m s ∧ m = 0) ?_ ?_
    · refine mw_seq (mw_ops ?_)
      iterate 2 (refine po_q rfl rfl ?_)
      refine po_q (v := .d (pI v.kids.length)) rfl (by show some (PV.d (.v (.int .i64 ((vK v.kids).length : Nat)))) = _; rw [hvlen]; rfl) ?_
      refine po_q rfl rfl ?_
      refine po_nil ?_
      refine mw_block ?_
      refine mw_while (ListQ v) v.kids.length ⟨0, zSh, [], Nat.zero_le _, by simp, ⟨rfl, rfl, rfl, rfl, rfl, rfl, trivial⟩, rfl, rfl, rfl⟩ ?_
      rintro m tm bx nt live ⟨i, c, rest, hi, rfl, ht, hbx, hc, hcl⟩
      obtain ⟨tm0, rfl⟩ := has_ups ht
      simp only at hbx; subst hbx
      refine mw_seq (mw_ops ?_)
      refine po_b rfl rfl (fun b1 hb1 => ?_)
      refine po_nil ?_
      refine mw_seq (mw_cond rfl (fun hc1 => ?_) (fun hc1 => ?_))
      · have hlt : i < v.kids.length := by
          subst hb1; have := of_decide_eq_true hc1; omega
        refine mw_skip ?_
        refine mw_seq (mw_block (mw_seq (mw_ops ?_)))
        refine po_q rfl rfl ?_
        refine po_ix (es := vK v.kids) (e := vC v.kids[i]) rfl rfl rfl ⟨by omega, by rw [Int.toNat_natCast]; exact vK_get hlt⟩ rfl ?_
        refine po_q rfl rfl ?_
        refine po_zero ?_
        refine po_q rfl rfl ?_
        refine po_stw (cs := vC v.kids[i]) rfl rfl (get_last _ _) rfl rfl rfl ?_
        rw [set_last]
        refine po_nil ?_
        refine mw_seq (mw_ops ?_)
        refine po_ldw (cs := vC v.kids[i]) rfl rfl (get_last _ _) rfl ?_
        refine po_call (vC_arg _) (hkid i hlt) ?_
        refine po_new (cs := shC (shp v.kids[i])) rfl rfl rfl rfl ?_
        refine po_nil ?_
        refine mw_seq (mw_ops ?_)
        refine po_q rfl rfl ?_
        refine po_b rfl rfl (fun b2 hb2 => ?_)
        refine po_nil ?_
        have hst := joinAll_take (ss := v.kids.map shp) (j := i) (by rw [hml]; exact hlt)
        rw [List.getElem_map] at hst
        by_cases hi0 : i = 0
        · rw [if_pos hi0] at hst
          obtain rfl : b2 = true := by rw [hb2]; exact decide_eq_true (by omega)
          refine mw_cond (t := true) rfl (fun _ => ?_) (fun h => absurd h (by decide))
          refine mw_ops ?_
          refine po_ldw (cs := shC (shp v.kids[i])) rfl rfl (get_last _ _) rfl ?_
          refine po_stw (p := 3) rfl rfl rfl rfl hcl rfl ?_
          refine po_nil ?_
          refine mw_ops ?_
          refine po_add (n := ((i + 1 : Nat) : Int)) rfl rfl rfl (by omega) (by omega) ?_
          refine po_q rfl rfl ?_
          refine po_nil ?_
          exact ⟨v.kids.length - (i + 1), by omega, i + 1, _, _, hlt, rfl, ⟨rfl, rfl, rfl, rfl, rfl, rfl, trivial⟩, rfl, by rw [hst]; exact shC_er _, rfl⟩
        · rw [if_neg hi0] at hst
          obtain rfl : b2 = false := by rw [hb2]; exact decide_eq_false (by omega)
          refine mw_cond (t := false) rfl (fun h => absurd h (by decide)) (fun _ => ?_)
          refine mw_ops ?_
          refine po_ldw (p := 3) (cs := c) rfl rfl rfl hcl ?_
          refine po_ldw (cs := shC (shp v.kids[i])) rfl rfl (get_last _ _) rfl ?_
          have hja := joinAll_good (ss := (v.kids.map shp).take i) (fun s hs => hgood s (List.mem_of_mem_take hs))
          have hsg := shp_good _ v.kids[i] (Nat.le_refl _) (V.wf_kid hw i hlt) (V.ok_kid hk i hlt)
          refine po_call (dats2 hc (shC_er _)) (join_impl hTab _ _ hja.1 hsg.1 (by omega) (by omega)).v ?_
          refine po_stw (p := 3) rfl rfl rfl rfl hcl rfl ?_
          refine po_nil ?_
          refine mw_ops ?_
          refine po_add (n := ((i + 1 : Nat) : Int)) rfl rfl rfl (by omega) (by omega) ?_
          refine po_q rfl rfl ?_
          refine po_nil ?_
          exact ⟨v.kids.length - (i + 1), by omega, i + 1, _, _, hlt, rfl, ⟨rfl, rfl, rfl, rfl, rfl, rfl, trivial⟩, rfl, by rw [hst]; exact shC_er _, rfl⟩
      · have hge : i = v.kids.length := by
          subst hb1; have := of_decide_eq_false hc1; omega
        refine mw_exit ?_
        exact ⟨0, ⟨i, c, rest, hi, by omega, ⟨rfl, rfl, rfl, rfl, rfl, rfl, trivial⟩, rfl, hc, hcl⟩, rfl⟩
    rintro tm bx nt live ⟨m, ⟨i, c, rest, hi, rfl, ht, hbx, hc, hcl⟩, hm⟩
    obtain ⟨tm0, rfl⟩ := has_ups ht
    simp only at hbx; subst hbx
    have hie : i = v.kids.length := by omega
    subst hie
    have htk : (v.kids.map shp).take v.kids.length = v.kids.map shp := by rw [← hml, List.take_length]
    rw [htk] at hc
    refine mw_ops ?_
    refine po_ldw (p := 3) (cs := c) rfl rfl rfl hcl ?_
    refine po_lit (es := [c]) (by simp only [litP, pcells, ev]; show (match pcells (.ag c), some [] with | some cs, some l => if cs.length = 6 then some (cs :: l) else none | _, _ => none) = _; simp only [pcells, hcl, if_true]) ?_
    refine po_q rfl rfl ?_
    refine po_store rfl rfl rfl ⟨rfl, Nat.le_of_ble_eq_true rfl⟩ rfl ?_
    refine po_nil ?_
    refine ⟨_, _, ⟨rfl, rfl, trivial⟩, rfl, ?_, rfl⟩
    unfold shRaw; rw [if_neg h0, if_neg h1, if_neg h3, if_neg h4, if_neg h5, if_neg h6, if_pos h7]
    show erL [pI 7, pI v.kids.length, pI v.kids.length, .sl 0 [], pI 0, .sl nt [c]] = _
    simp only [erL, PC.er, erLL, hc, pI, ← Sh.pc_eq]; rfl
  obtain rfl : b = false := by rw [hb0]; exact decide_eq_false h7
  refine mw_cond (t := false) rfl (fun h => absurd h (by decide)) (fun _ => ?_)
  refine mw_seq (mw_ops ?_)
  refine po_b rfl rfl (fun b hb0 => ?_)
  refine po_q rfl rfl ?_
  refine po_nil ?_
  have hrest : shRaw v (v.kids.map shp) = if v.texts = true then .mk 8 0 0 (keysL v.kids) (keysL v.kids).length (vals (v.kids.map shp)) else shNil := by
    unfold shRaw; rw [if_neg h0, if_neg h1, if_neg h3, if_neg h4, if_neg h5, if_neg h6, if_neg h7]
  by_cases h8 : v.kind = 8
  case neg =>
    have htx0 : ¬ v.texts = true := by unfold V.texts; simp [h8]
    obtain rfl : b = false := by rw [hb0]; exact decide_eq_false h8
    refine mw_cond (t := false) rfl (fun h => absurd h (by decide)) (fun _ => ?_)
    refine mw_skip ?_
    exact ⟨_, _, ⟨rfl, rfl, trivial⟩, rfl, by rw [hrest, if_neg htx0]; rfl, rfl⟩
  obtain rfl : b = true := by rw [hb0]; exact decide_eq_true h8
  refine mw_cond (t := true) rfl (fun _ => ?_) (fun h => absurd h (by decide))
  refine mw_seq (mw_ops ?_)
  refine po_q rfl rfl ?_
  refine po_call (vC_arg v) (keysIn_fn v (by omega)) ?_
  iterate 5 (refine po_q rfl rfl ?_)
  refine po_nil ?_
  refine mw_seq (mw_seq (mw_ops ?_))
  iterate 2 (refine po_q rfl rfl ?_)
  refine po_nil ?_
  by_cases htx1 : v.texts = true
  case neg =>
    have hf : v.texts = false := by simpa using htx1
    refine mw_cond (t := true) (by rw [hf]; rfl) (fun _ => ?_) (fun h => absurd h (by decide))
    refine mw_exit ?_
    exact ⟨_, _, ⟨rfl, rfl, trivial⟩, rfl, by rw [hrest, if_neg htx1]; rfl, rfl⟩
  rw [if_pos htx1] at hrest
  refine mw_cond (t := false) (by rw [htx1]; rfl) (fun h => absurd h (by decide)) (fun _ => ?_)
  refine mw_skip ?_
  have hkk : v.keys = keysL v.kids := by unfold V.keys; rw [if_pos h8]
  rw [hkk]
  have hkl2 := keysL_le v.kids
  have hpl := prs_len v.kids
  have hvl : (vals (v.kids.map shp)).length = v.kids.length / 2 := by rw [vals_length, hml]
  have hval : ∀ (i : Nat) (h : 2 * i + 1 < v.kids.length), (vals (v.kids.map shp)).take (i + 1) = (vals (v.kids.map shp)).take i ++ [shp v.kids[2 * i + 1]] := fun i h => by
    have hi : i < (vals (v.kids.map shp)).length := by omega
    rw [List.take_succ_eq_append_getElem hi]
    congr 2
    have h1 := vals_get (v.kids.map shp) i (by rw [hml]; exact h)
    rw [List.getElem?_eq_getElem hi, List.getElem_map] at h1
    exact Option.some.inj h1
  refine mw_seq (mw_ops ?_)
  iterate 2 (refine po_q rfl rfl ?_)
  refine po_q (v := .d (pI (keysL v.kids).length)) rfl (by show some (PV.d (.v (.int .i64 ((pSr (keysL v.kids)).length : Nat)))) = _; rw [pSr_len]; rfl) ?_
  refine po_q (v := .ag (oC (.sl 0 (pSr (keysL v.kids))) (keysL v.kids).length (.sl 1 []))) rfl rfl ?_
  refine po_stw (p := 2) rfl rfl rfl rfl rfl rfl ?_
  refine po_nil ?_
  refine mw_seq (mw_ops ?_)
  refine po_q rfl rfl ?_
  refine po_call (vC_arg v) (pairsOf_fn v (by omega)) ?_
  iterate 2 (refine po_q rfl rfl ?_)
  refine po_nil ?_
  refine mw_block ?_
  refine mw_while (MapQ v) (prs v.kids).length ⟨0, 1, [], Nat.zero_le _, by simp, ⟨rfl, rfl, rfl, rfl, rfl, trivial⟩, rfl, .inl rfl⟩ ?_
  rintro m tm bx nt live ⟨i, tr, rest, hi, rfl, ht, hbx, htr⟩
  obtain ⟨tm0, rfl⟩ := has_ups ht
  simp only at hbx htr; subst hbx
  refine mw_seq (mw_ops ?_)
  refine po_b rfl rfl (fun b1 hb1 => ?_)
  refine po_nil ?_
  refine mw_seq (mw_cond rfl (fun hc1 => ?_) (fun hc1 => ?_))
  · have hlt : i < (prs v.kids).length := by
      subst hb1; have := of_decide_eq_true hc1; omega
    have hlt1 : 2 * i + 1 < v.kids.length := by omega
    refine mw_skip ?_
    refine mw_seq (mw_block (mw_seq (mw_ops ?_)))
    refine po_ix (es := prs v.kids) (e := vC v.kids[2 * i] ++ vC v.kids[2 * i + 1]) rfl rfl rfl ⟨by omega, by rw [Int.toNat_natCast]; exact prs_get _ i hlt1⟩ rfl ?_
    refine po_q rfl rfl ?_
    refine po_new (cs := vC v.kids[2 * i] ++ vC v.kids[2 * i + 1]) rfl rfl rfl rfl ?_
    refine po_nil ?_
    refine mw_ops ?_
    iterate 3 (refine po_q rfl rfl ?_)
    refine po_ld (cs := vC v.kids[2 * i] ++ vC v.kids[2 * i + 1]) (v := .ag (vC v.kids[2 * i + 1])) rfl rfl (get_last _ _) (Nat.le_of_ble_eq_true rfl) rfl ?_
    refine po_call (vC_arg _) (hkid (2 * i + 1) hlt1) ?_
    refine po_q (v := .d (.sl 0 [shC (shp v.kids[2 * i + 1])])) rfl rfl ?_
    refine po_app (t := tr) (es := shK ((vals (v.kids.map shp)).take i)) (ds := [shC (shp v.kids[2 * i + 1])]) rfl rfl htr (by rw [List.length_singleton, shK_len, List.length_take]; omega) (by intro e he; rw [List.mem_singleton] at he; subst he; rfl) (shK_wid _) ?_
    refine po_q rfl rfl ?_
    refine po_store rfl rfl rfl ⟨rfl, Nat.le_of_ble_eq_true rfl⟩ rfl ?_
    refine po_nil ?_
    refine mw_ops ?_
    refine po_add (n := ((i + 1 : Nat) : Int)) rfl rfl rfl (by omega) (by omega) ?_
    refine po_q rfl rfl ?_
    refine po_nil ?_
    refine ⟨(prs v.kids).length - (i + 1), by omega, i + 1, nt, rest ++ [vC v.kids[2 * i] ++ vC v.kids[2 * i + 1]], hlt, rfl, ⟨rfl, rfl, rfl, rfl, rfl, trivial⟩, ?_, .inr (by simp)⟩
    have e : shK ((vals (v.kids.map shp)).take (i + 1)) = shK ((vals (v.kids.map shp)).take i) ++ [shC (shp v.kids[2 * i + 1])] := by rw [hval i hlt1, shK_eq, shK_eq, List.map_append]; rfl
    rw [e]; rfl
  · have hge : i = (prs v.kids).length := by
      subst hb1; have := of_decide_eq_false hc1; omega
    refine mw_exit ?_
    refine ⟨_, _, ⟨rfl, rfl, trivial⟩, rfl, ?_, rfl⟩
    have htk : (vals (v.kids.map shp)).take i = vals (v.kids.map shp) := List.take_of_length_le (by omega)
    rw [hrest, htk]
    simp only [oC, erL, PC.er, pSr_er, shK_er]
    rfl
theorem shapeOfQ_all (hTab : ∀ w, T w → Tabs w) : ∀ N, SoQ T hT N
  | 0 => fun v hn => by obtain ⟨k, n, e, s, kids⟩ := v; simp [V.nodes] at hn
  | N + 1 => shapeOfi_step hTab (shapeOfQ_all hTab N)
/-- the program's ShapeOf -/
theorem shapeOf_impl (hTab : ∀ w, T w → Tabs w) (v : V) (hw : v.wf) (hb : v.bulk ≤ 4294967295) : FnO (env T hT) 15 [.ag (vC v)] (.ag (shC (shTop v))) := by
  refine fn_of (look_env lk_i_ShapeOf) (by show 1 ≤ 9; decide) fun B hB => ?_
  unfold m_i_ShapeOf
  refine mw_seq (mw_ops ?_)
  refine po_box rfl ?_
  refine po_zero ?_
  refine po_nil ?_
  refine mw_seq (mw_seq (mw_ops ?_))
  refine po_q rfl rfl ?_
  refine po_call (vC_arg v) (voki_fn hTab v hw hb) ?_
  refine po_q rfl rfl ?_
  refine po_nil ?_
  unfold shTop
  by_cases hk : v.ok = true
  case neg =>
    rw [if_neg hk]
    have hf : v.ok = false := by simpa using hk
    refine mw_cond (t := true) (by rw [hf]; rfl) (fun _ => ?_) (fun h => absurd h (by decide))
    refine mw_seq (mw_ops ?_)
    refine po_q rfl rfl ?_
    refine po_store rfl rfl rfl ⟨rfl, Nat.le_of_ble_eq_true rfl⟩ rfl ?_
    refine po_nil ?_
    exact mw_ret ⟨.inr rfl, _, rfl, rfl, List.nodup_nil, fun t ht => (by cases ht), rfl⟩
  rw [if_pos hk]
  refine mw_cond (t := false) (by rw [hk]; rfl) (fun h => absurd h (by decide)) (fun _ => ?_)
  refine mw_skip ?_
  refine mw_seq (mw_ops ?_)
  refine po_q rfl rfl ?_
  refine po_ownN (n := 6) (vC_arg v) (shapeOfQ_all hTab v.nodes v (Nat.le_refl _) hw hk) rfl ?_
  intro c nt' hc hcl hn2 hN
  refine po_stw (p := 1) rfl rfl rfl hcl rfl rfl ?_
  refine po_nil ?_
  exact mw_ret ⟨.inr rfl, [.ag c], ress_box rfl rfl hcl, congrArg (fun l => some (PV.ag l)) hc, hN.nd, fun t ht => List.mem_append.2 (.inl ht), hN.own⟩
end Go.Proofs.YtpknmldpdoadgaaDoor

/- The tables of UTF-8 stay as they are. -/
namespace Go.Proofs.YtpknmldpdoadgaaDoor
open Go.RowKit

theorem Tabs.low : Low ngl Tabs := by
  intro w w' h hs hk
  have h1 : 0 < ngl := of_decide_eq_true (by unfold ngl; kernel_rfl)
  have h2 : 1 < ngl := of_decide_eq_true (by unfold ngl; kernel_rfl)
  refine ⟨fun c hc => ?_, fun i hi => ?_⟩
  · rw [World.cell?_of_block (a := ⟨_, _, none⟩) (hk _ h1)]; exact h.1 c hc
  · rw [World.cell?_of_block (a := ⟨_, _, none⟩) (hk _ h2), World.cell?_of_block (a := ⟨_, _, none⟩) (hk _ h2)]; exact h.2 i hi
end Go.Proofs.YtpknmldpdoadgaaDoor

/- FnExactShapeOf at the call's beginning. -/
namespace Go.Proofs.YtpknmldpdoadgaaDoor
open Go.RowKit

theorem exactShapeOfW (x0 : V) (cs0 : List Value) (w : World) (hn : ngl ≤ w.heap.size) (hT : Tabs w) (r0 : Rd w x0.d cs0) (f0 : x0.wf) :
    Calls Tryd.prog 4 #[.agg cs0.toArray] w fun e w' => e = .returned (.bool true) ∧ Below w.heap.size w w' := by
  have h := lawShapeOf_fn (E := envW Tabs Tabs.low w hn) rfl (A0 := rawL cs0) (D0 := x0.d) (D0' := (x0.top 1).d) (DR := (shTop x0).d) (DR' := ((shTop x0).top 1).d)
    (s0 := take' x0.bulk 1048576) (k0 := ((1 + V.cnts x0.kids : Nat) : Int)) (m := ((1 + (shTop x0).tcnt : Nat) : Int))
    (rawL_er _) (fun L => fineL_raw _) (by rw [rawL_len, r0.len]; exact V.width x0)
    (szV_fn r0 f0 ⟨by decide, by decide⟩) (fun h0 => ?_)
  · exact FnV.bool h (Nat.le_refl _) ⟨hT, Nat.le_refl _, fun _ _ => rfl⟩ (vs := [.agg cs0.toArray]) rfl fun j x y hx hy => by
      match j with
      | 0 => simp at hx hy; subst hx; subst hy; exact rawL_rp r0 (V.wfd x0)
      | j + 1 => simp at hx
  · have b0 : x0.bulk ≤ 1048576 := by unfold take' at h0; split at h0 <;> omega
    have bR := (shTop_good f0).2
    have c0 := x0.kcnt_le
    have cR := (shTop x0).tcnt_le
    have eR := eqSh_fn (E := envW Tabs Tabs.low w hn) rfl (shTop x0) (shTop x0) (by omega) (by omega)
    rw [decide_eq_true rfl] at eR
    have e0 := eqV_fn (E := envW Tabs Tabs.low w hn) rfl x0 x0 b0 b0
    rw [decide_eq_true rfl] at e0
    refine ⟨toV_fn r0 b0, ⟨?_, ?_⟩, ⟨eR, e0⟩, ⟨markV_fn rfl x0 1 (by omega) (by decide) (by omega), markSh_fn rfl _ 1 (by omega) (by decide) (by omega), heldSh_fn rfl _ 1 (by omega) (by decide) (by omega)⟩, by omega, by omega, ⟨V.wfd _, Sh.wfd _, Sh.wfd _, Sh.pld _⟩, V.pcl _, Sh.pcl _, Sh.pcl _⟩
    · have := shapeOf_spec (T := Tabs) (hT := Tabs.low) x0 f0 (by omega)
      rw [← V.pc_eq, ← Sh.pc_eq] at this
      exact this.toW
    · have := shapeOf_impl (T := Tabs) (hT := Tabs.low) (fun _ h => h) x0 f0 (by omega)
      rw [← V.pc_eq, ← Sh.pc_eq] at this
      exact this.toW
end Go.Proofs.YtpknmldpdoadgaaDoor

/- How a value that comes in is read. -/
namespace Go.Proofs.YtpknmldpdoadgaaDoor
open Go.RowKit

theorem cellsValue : Tryd.prog.cellsOf 37 = 5 := by kernel_rfl
theorem cellsStrV : Tryd.prog.cellsOf 9 = 1 := by kernel_rfl
theorem cellsIntV : Tryd.prog.cellsOf 3 = 1 := by kernel_rfl
theorem cellsValues : Tryd.prog.cellsOf 35 = 1 := by kernel_rfl

theorem V.wfs_of : ∀ {xs : List V}, (∀ x ∈ xs, x.wf) → V.wfs xs
  | [], _ => trivial
  | x :: xs, h => ⟨h x (by simp), V.wfs_of fun y hy => h y (by simp [hy])⟩

set_option maxRecDepth 100000 in
theorem trod_value {H : Type} {enc : TypeId × Value → H} {w : World} {base : Nat} {spare : Nat → Bool} {held : Bool} : ∀ (fuel : Nat) (cs : List Value) (y : DataW H × List MemPlace),
    DataW.trod enc Tryd.prog w base spare held fuel 37 cs = some y → ∃ sh : V, Rd w sh.d cs ∧ sh.wf := by
  intro fuel
  induction fuel using Nat.strongRecOn with
  | _ fuel ih =>
    intro cs y h
    obtain ⟨xs, n, rfl, _, hlen, hxl, hx⟩ := DataW.trod_struct Tryd.underlying37 h
    rw [cellsValue] at hlen
    match cs, hlen with
    | [v0, v1, v2, v3, v4], _ =>
      have hs : xs.length = 5 := hxl
      match xs, hs with
      | [y0, y1, y2, y3, y4], _ =>
        have h0 : DataW.trod enc Tryd.prog w base spare held n 3 (List.take (Tryd.prog.cellsOf 3) (List.drop 0 [v0, v1, v2, v3, v4])) = some y0 := hx 0 _ rfl
        have h1 : DataW.trod enc Tryd.prog w base spare held n 3 (List.take (Tryd.prog.cellsOf 3) (List.drop 1 [v0, v1, v2, v3, v4])) = some y1 := hx 1 _ rfl
        have h2 : DataW.trod enc Tryd.prog w base spare held n 3 (List.take (Tryd.prog.cellsOf 3) (List.drop 2 [v0, v1, v2, v3, v4])) = some y2 := hx 2 _ rfl
        have h3 : DataW.trod enc Tryd.prog w base spare held n 9 (List.take (Tryd.prog.cellsOf 9) (List.drop 3 [v0, v1, v2, v3, v4])) = some y3 := hx 3 _ rfl
        have h4 : DataW.trod enc Tryd.prog w base spare held n 35 (List.take (Tryd.prog.cellsOf 35) (List.drop 4 [v0, v1, v2, v3, v4])) = some y4 := hx 4 _ rfl
        simp only [cellsIntV, cellsStrV, cellsValues, List.drop, List.take] at h0 h1 h2 h3 h4
        obtain ⟨k, e0, w0⟩ := trod_i64 Tryd.underlying3 h0
        obtain ⟨m, e1, w1⟩ := trod_i64 Tryd.underlying3 h1
        obtain ⟨ee, e2, w2⟩ := trod_i64 Tryd.underlying3 h2
        obtain ⟨s, e3, w3⟩ := trod_str Tryd.underlying9 h3
        obtain ⟨kids, z4, e4, r4, w4, l4⟩ := trod_sl (f := V.d) (ok := V.wf) Tryd.underlying35 cellsValue (by decide) V.width (fun j cs y hj hh => ih j (by omega) cs y hh) h4
        simp only [List.cons.injEq, and_true] at e0 e1 e2 e3 e4
        subst e0 e1 e2 e3 e4
        refine ⟨.mk k m ee s kids, ?_, w0, w1, w2, w3, by unfold maxLen at l4; omega, V.wfs_of w4⟩
        rw [← V.ds_map] at r4
        simp only [Rd, V.d, RepC, RepCs, dI, dS]
        exact ⟨_, _, rfl, rfl, rfl, _, _, rfl, rfl, rfl, _, _, rfl, rfl, rfl, _, _, rfl, rfl, rfl, [v4], [], rfl, rfl, by simpa only [Rd, RepC] using r4, rfl⟩
end Go.Proofs.YtpknmldpdoadgaaDoor

/- A builder for rows that list laid variables: the contract is handed what the variables read as and the shape of the world. -/
namespace Go.Proofs.YtpknmldpdoadgaaDoor

theorem laid_of {H : Type} {enc : TypeId × Value → H} {C : Checked} {os : Os} {f : FuncId} {fn : Func} {s : ChangeSpec} {conds : List PathCond} {fresh handsOn again apart : Bool} (L : List (String × DataW Unit))
    (own : ownKnob C.prog.godebug = none) (started : os.Started) (noInit : C.prog.inits.idxOf? f = none) (hfn : C.prog.funcs[f]? = some fn)
    (wit : ∃ (w : World) (tape : Tape) (i : Input), w.os = os ∧ (w.forCall tape i).Shaped C.prog ∧ i.vars = [] ∧ Input.okWide C.prog (w.forCall tape i) .any w.heap.size f i ∧
      ((s.pre enc C.prog fn conds apart (w.forCall tape i).memory i.args ∧ laidMetH C.prog L (w.forCall tape i).memory) ∧ sizedMet enc C.prog fn (OpenSpec.ofChange s) apart (w.forCall tape i).memory i.args) ∧ ({} : Assume).holds C.prog (lone (Frame.enter C.prog f i.args .normal) [] (w.forCall tape i)))
    (walk : ∀ (W : World) (base : Nat) (args : Array Value) (ds gs : List (DataW H)) (before : List MemPlace), W.ShapedOpen C.prog → laidMetH C.prog L W →
      (∀ (j : Nat) t v, fn.params[j]? = some t → args[j]? = some v → Value.okWide C.prog W .any base t v) →
      DataW.Whole enc C.prog fn.params.toList s.vars apart W args.toList ds gs before →
      conds.all (PathCond.test C.prog ⟨fn.params.toList, ds, s.plain.varTypes C.prog, gs⟩) = true →
      Calls C.prog f args W fun e W' => ∃ v, e = .returned v ∧ s.post enc C.prog fn apart fresh handsOn again W args v W') :
    ReturnsInHanded {} C os f .any (fun w args => (s.pre enc C.prog fn conds apart w args ∧ laidMetH C.prog L w) ∧ sizedMet enc C.prog fn (OpenSpec.ofChange s) apart w args) (s.post enc C.prog fn apart fresh handsOn again) := by
  refine returnsInHanded_of_calls own started noInit wit fun w tape i _ shaped _ ok pre _ => ?_
  rcases ok with ⟨_, _, _, fn2, h2, _, _, _, _, vals⟩
  cases Option.some.inj (h2.symm.trans hfn)
  rcases pre with ⟨⟨⟨ds, gs, before, whole, cond⟩, met⟩, _⟩
  have met2 : laidMetH C.prog L (w.forCall tape i) := laidMetH.of_heap (by rfl) met
  refine (walk _ w.heap.size i.args ds gs before shaped met2 vals (DataW.Whole.of_heap (by rfl) whole) cond).mono ?_
  rintro e w2 ⟨v, rfl, hp⟩
  exact ChangeSpec.post_blind hp
end Go.Proofs.YtpknmldpdoadgaaDoor

/- The tables of UTF-8, as a row lists them. -/
namespace Go.Proofs.YtpknmldpdoadgaaDoor
open Go.RowKit Go.Lib Go.Shelf

theorem first_data : Go.Pinned.utf8First = firstData := by kernel_rfl
theorem accept_data : (Rows.laid_unicode_utf8_acceptRanges : DataW Unit) = acceptData := by kernel_rfl
theorem tabs_of {w : World} (h3 : VarReads Tryd.prog w "unicode/utf8.first" Go.Pinned.utf8First) (h4 : VarReads Tryd.prog w "unicode/utf8.acceptRanges" Rows.laid_unicode_utf8_acceptRanges) : Tabs w := by
  rw [first_data] at h3; rw [accept_data] at h4
  exact utf8Tabs_of_readsT (U8Types.of196 Tryd.laysValid) ⟨by kernel_rfl, by kernel_rfl, by kernel_rfl, by kernel_rfl, by kernel_rfl, by kernel_rfl, by kernel_rfl⟩ h3 h4
end Go.Proofs.YtpknmldpdoadgaaDoor
namespace Go.Proofs.YtpknmldpdoadgaaDoor.FnExactShapeOf
open Go.ChangeShapes Go.WideShapes Go.ChangeAt Go.RowKit Go.Joins
open Go.ChangeMaps (open_string shut_string)

theorem own : ownKnob Tryd.prog.godebug = none := by kernel_rfl
theorem laidOut : laidOutB Tryd.prog = true := by kernel_rfl

set_option maxRecDepth 100000 in
theorem lifted (os : Os) (started : os.Started) (H : Type) (enc : TypeId × Value → H) :
    ReturnsInHanded {} Tryd.checked os 4 .any (fun w args => (Rows.fnExactShapeOfSpec.pre enc Tryd.prog Tryd.f4 Rows.fnExactShapeOfRow.domain false w args ∧ laidMetH Tryd.prog Rows.fnExactShapeOfRow.laid w) ∧ sizedMet enc Tryd.prog Tryd.f4 (OpenSpec.ofChange Rows.fnExactShapeOfSpec) false w args) (Rows.fnExactShapeOfSpec.post enc Tryd.prog Tryd.f4 false true false false) := by
  refine laid_of (C := Tryd.checked) Rows.fnExactShapeOfRow.laid own started (by kernel_rfl) Tryd.func4
    (ChangeSpec.witness_shaped (enc := enc) (C := Tryd.checked) (os := os) (X := fun w _ => laidMetH Tryd.prog Rows.fnExactShapeOfRow.laid w) false (World.laidAll Tryd.prog os Rows.fnExactShapeOfRow.laid) #[.agg #[.int .i64 0, .int .i64 0, .int .i64 0, .string ⟨#[]⟩, .slice none 0 0]] 8 (World.laidAll_os _ _ _)
      (World.shaped_of_ZipB (by kernel_rfl) (by kernel_rfl)) (by kernel_rfl) (by kernel_rfl) (by kernel_rfl)
      (by rw [MakeChecks.laidMetH_plain _ _ _ (by kernel_rfl)]; exact laidMet_laidAll _ (by kernel_rfl) (by kernel_rfl))) ?_
  intro W base args ds gs before hsh hL hval0 hW hcnd
  have hval : ∀ (j : Nat) t v, Tryd.f4.params[j]? = some t → args[j]? = some v → Value.okWide Tryd.prog W .any base t v := hval0
  have hW' := hW
  obtain ⟨p, q, hA0, hV, rfl, hfz, hnd⟩ := hW
  have hA : DataW.TrodAll enc Tryd.prog W 0 (fun _ => true) true Tryd.f4.params.toList args.toList ds p := hA0
  rw [Tryd.params4] at hA hval
  obtain ⟨v0, vs0, d0, ds0, p0, q0, hargs, rfl, rfl, h0, r0⟩ := trodAll_cons hA
  obtain ⟨rfl, rfl, rfl⟩ := trodAll_nil r0
  obtain rfl : args = #[v0] := by cases args; simp_all
  obtain ⟨rfl, rfl⟩ := trodVars_none hV
  have k0 := h0
  have lt0 : ∀ x ∈ p0, x.block < W.heap.size := by obtain ⟨m, hm⟩ := k0; exact DataW.trod_lt m _ _ _ hm
  obtain ⟨a0, rfl, _⟩ := okWide_struct Tryd.underlying37 (hval 0 37 v0 rfl rfl)
  obtain ⟨fu0, hf0⟩ := h0
  obtain ⟨x0, hr0, hw0⟩ := trod_value fu0 _ _ hf0
  obtain ⟨c0⟩ := a0
  clear hA0 hval0
  have hL2 := hL
  rw [MakeChecks.laidMetH_plain _ _ _ (by kernel_rfl)] at hL2
  have hT := tabs_of (Lib.laidMet.reads hL2 (.tail _ (.head _))) (Lib.laidMet.reads hL2 (.head _))
  refine (exactShapeOfW x0 c0 W (ngl_of hsh) hT hr0 hw0).mono fun e W' ⟨he, bel⟩ => ?_
  subst he
  exact ⟨_, rfl, _, _, _, [], _, [], hW', trodAll_mk1 (shut_bool Tryd.underlying4 _), (trodAll_cons_mk (Below.trod laidOut (by kernel_rfl) (of_decide_eq_true (by kernel_rfl)) k0 bel lt0) trodAll_mk0), rfl, bel.frame _, fun h => by cases h⟩

theorem held : Rows.FnExactShapeOfSaid :=
  OpenClaim.holds_of_wide 4 Tryd.f4 rfl rfl rfl rfl rfl rfl rfl ⟨rfl, rfl, rfl, rfl, rfl⟩ rfl rfl rfl rfl rfl (by kernel_rfl) Tryd.func4 (by kernel_rfl)
    (of_decide_eq_true (by kernel_rfl)) (by unfold Func.isWrapper; first | (rw [if_pos (by decide +kernel)]; kernel_rfl) | (rw [if_neg (by decide +kernel)]; exact ⟨rfl, rfl⟩))
    (fun os started H enc _ => lifted os started H enc)

theorem proved : Rows.FnExactShapeOfCardSaid :=
  Claim7.holds_tied_plain_at .later [] [.data, .pinned] true Rows.fnExactShapeOfCard.stood.harness false
    held (fun _ h => by cases h) (by kernel_rfl) (fun _ h => by cases h) fnExactShapeOf_row_tie rfl ⟨rfl, rfl⟩ (by kernel_rfl) rfl
    (fun f fn hf hfn => by
      obtain rfl : f = 4 := Option.some.inj ((show Tryd.prog.funcNamed "loop.example/g00421/laws.FnExactShapeOf" = some 4 by kernel_rfl).symm.trans hf) |>.symm
      obtain rfl : fn = Tryd.f4 := (Option.some.inj (Tryd.func4.symm.trans hfn)).symm
      refine ⟨by kernel_rfl, fun j t ht => ?_⟩
      rw [Tryd.params4] at ht
      have hm : t ∈ [37] := by simpa using Array.mem_of_getElem? ht
      have hall : ([37].all fun u => !Tryd.prog.wantsStandIn u) = true := by kernel_rfl
      exact (show Tryd.prog.wantsStandIn t = false by simpa using List.all_eq_true.1 hall t hm))
    (by kernel_rfl)
end Go.Proofs.YtpknmldpdoadgaaDoor.FnExactShapeOf
