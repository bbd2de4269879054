/- When a shape is right: the program's isShape and ShapeOk. -/
import Derived.Test.YtkeieeogkeonfaaGreatDoorShapeForm2
import Derived.Test.YtkeieeogkeonfaaGreatDoorKeep
import Derived.Test.YtkeieeogkeonfaaGreatDoorBox
import Derived.Deep.RegionHeld3
import Derived.Deep.QuietTactic
import Derived.BigQuiet
namespace Go.Proofs.YtkeieeogkeonfaaGreatDoor
open Go.RowKit
open Go.Lib (validD)

def shGood (deep : Nat) (L : Int) (x : Sh) : Bool := Sh.right (8 - deep) x && decide ((x.nodes : Int) ≤ L)
def shGoods (deep : Nat) (L : Int) (xs : List Sh) : Bool := Sh.rights (8 - deep) xs && decide ((Sh.nodess xs : Int) ≤ L)

def IsA (n : Nat) : Prop := ∀ (x : Sh) (cs : List Value) (deep N g : Nat) (L : Int) (w : World), x.nodes ≤ n → RdN N w x.d cs → N ≤ g → intBox w g L → x.wf → x.bulk ≤ 4294967295 → Tabs w → GlobN N → deep ≤ 1000000 → 0 ≤ L ∧ L ≤ 1000 →
  Calls Tryz.prog 38 #[.agg cs.toArray, .int .i64 deep, .pointer (some ⟨g, 0, none⟩)] w fun e w' => e = .returned (.bool (shGood deep L x)) ∧ (∃ L' : Int, intBox w' g L' ∧ (shGood deep L x = true → L' = L - x.nodes)) ∧ Keep (· = g) w w'

theorem shGood_no1 {deep : Nat} {L : Int} {x : Sh} (h : L - 1 < 0) : shGood deep L x = false := by
  have := x.nodes_pos; unfold shGood; rw [decide_eq_false (by omega), Bool.and_false]
theorem shGood_no2 {deep : Nat} {L : Int} {x : Sh} (h : (8 : Int) < deep) : shGood deep L x = false := by
  obtain ⟨k, l, hi, ks, m, kids⟩ := x
  unfold shGood; simp only [Sh.right]; rw [decide_eq_false (show ¬ (0 : Int) ≤ 8 - deep by omega)]; simp
theorem Sh.nodess_ge : ∀ xs : List Sh, xs.length ≤ Sh.nodess xs
  | [] => by simp
  | x :: xs => by have := x.nodes_pos; have := Sh.nodess_ge xs; simp only [Sh.nodess, List.length_cons]; omega
theorem shGood_no3 {deep : Nat} {L : Int} {k l hi m : Int} {ks : List (List UInt8)} {kids : List Sh} (h : L - 1 < kids.length) : shGood deep L (.mk k l hi ks m kids) = false := by
  have := Sh.nodess_ge kids; unfold shGood; rw [decide_eq_false (by simp only [Sh.nodes]; omega), Bool.and_false]
theorem shGood_no5 {deep : Nat} {L : Int} {x : Sh} (h : x.self = false) : shGood deep L x = false := by
  obtain ⟨k, l, hi, ks, m, kids⟩ := x
  unfold shGood; simp only [Sh.right]; rw [h]; simp
theorem Sh.self_keys {k l hi m : Int} {ks : List (List UInt8)} {kids : List Sh} (h : Sh.self (.mk k l hi ks m kids) = true) : ks.length ≤ kids.length := by
  simp only [Sh.self] at h
  split at h
  · simp only [Sh.fields, Bool.and_eq_true, decide_eq_true_eq] at h; omega
  split at h
  · simp only [Bool.and_eq_true, decide_eq_true_eq] at h; simp [h]
  split at h
  · simp only [Bool.and_eq_true, decide_eq_true_eq] at h; simp [h]
  split at h
  · simp only [Bool.and_eq_true, decide_eq_true_eq] at h; simp [h]
  split at h
  · simp only [Bool.and_eq_true, decide_eq_true_eq] at h; simp [h]
  · cases h
theorem shGood_no4 {deep : Nat} {L : Int} {k l hi m : Int} {ks : List (List UInt8)} {kids : List Sh} (h : L - 1 < ks.length) : shGood deep L (.mk k l hi ks m kids) = false := by
  cases ho : Sh.self (.mk k l hi ks m kids) with
  | false => exact shGood_no5 ho
  | true => have := Sh.self_keys ho; exact shGood_no3 (by omega)
theorem shGood_yes {deep : Nat} {L : Int} {k l hi m : Int} {ks : List (List UInt8)} {kids : List Sh} (h2 : ¬ (8 : Int) < deep) (ho : Sh.self (.mk k l hi ks m kids) = true) :
    shGood deep L (.mk k l hi ks m kids) = shGoods (deep + 1) (L - 1) kids := by
  unfold shGood shGoods; simp only [Sh.right, Sh.nodes]
  rw [ho, decide_eq_true (show (0 : Int) ≤ 8 - deep by omega), show (8 : Int) - deep - 1 = 8 - (deep + 1 : Nat) by omega, Bool.and_true, Bool.and_true]
  congr 1; exact decide_eq_decide.2 (by omega)

def IsC (n : Nat) : Prop := ∀ (xs : List Sh) (va : Value) (deep N g bd bl : Nat) (L : Int) (w : World), Sh.nodess xs ≤ n → RdN N w (.sl 6 (Sh.ds xs)) [va] → N ≤ g → intBox w g L → intBox w bd deep → bd ≠ g → w.cell? ⟨bl, 0, none⟩ = some (.pointer (some ⟨g, 0, none⟩)) → bl ≠ g →
    Sh.wfs xs → xs.length + Sh.bulks xs ≤ 4294967295 → Tabs w → GlobN N → deep ≤ 1000 → 0 ≤ L ∧ L ≤ 1000 →
  Calls Tryz.prog 39 #[va, .func (.func 61) #[] #[.pointer (some ⟨bd, 0, none⟩), .pointer (some ⟨bl, 0, none⟩)]] w fun e w' => e = .returned (.bool (!shGoods (deep + 1) L xs)) ∧ (∃ L' : Int, intBox w' g L' ∧ (shGoods (deep + 1) L xs = true → L' = L - Sh.nodess xs)) ∧ Keep (· = g) w w'

set_option maxHeartbeats 2000000 in
set_option maxRecDepth 10000 in
theorem IsA_of {n : Nat} (hC : IsC n) : IsA (n + 1) := by
  intro x cs deep N g L w hn h hNg hbox hwf hbk hT hG hdeep hL
  obtain ⟨k, l, hi, ks, m, kids, v1, v2, hx, rfl, hk, hkids⟩ := Sh.layS h
  subst hx
  have hnk : Sh.nodess kids ≤ n := by simp only [Sh.nodes] at hn; omega
  obtain ⟨hL1, hL2⟩ := hL
  obtain ⟨M, rfl⟩ : ∃ M, L = M + 1 := ⟨L - 1, by omega⟩
  have hglt := hbox.lt
  obtain ⟨a1, c1, rfl⟩ := Rd.sl_form (Rd.of hk)
  obtain ⟨a2, c2, rfl⟩ := Rd.sl_form (Rd.of hkids)
  simp only [Sh.ds_map, List.length_map] at h hk hkids ⊢
  rw [← Sh.ds_map] at hkids
  have hfree := hbox.free
  have hcell := hbox.cell
  obtain ⟨W0, hW0⟩ : ∃ W0, W0 = ((((w.setCell ⟨g, 0, none⟩ (.int .i64 M)).alloc (.cells #[.int .i64 k, .int .i64 l, .int .i64 hi, .slice a1 ks.length c1, .int .i64 m, .slice a2 kids.length c2] 39)).alloc (.cells #[.int .i64 deep] 3)).alloc (.cells #[.pointer (some ⟨g, 0, none⟩)] 68)) := ⟨_, rfl⟩
  have HW := Lib.hid hW0
  have hK0 : Keep (· = g) w W0 := by rw [hW0]; exact (((Keep.setCell (S := (· = g)) (p := ⟨g, 0, none⟩) (Keep.refl _ _) (.inl rfl) _).alloc _).alloc _).alloc _
  have hb0 : intBox W0 g M := by
    rw [hW0]
    have : intBox (w.setCell ⟨g, 0, none⟩ (.int .i64 M)) g M := one_setCell hbox
    exact ((this.below ((Below.refl _ _).alloc (Nat.le_refl _) _)).below ((Below.refl _ _).alloc (Nat.le_refl _) _)).below ((Below.refl _ _).alloc (Nat.le_refl _) _)
  have hbd0 : intBox W0 (w.heap.size + 1) deep := by
    rw [hW0]; unfold intBox; rw [Below.heap_alloc _ _ _ (by simp [World.setCell])]
    have := heap_alloc_new ((w.setCell ⟨g, 0, none⟩ (.int .i64 M)).alloc (.cells #[.int .i64 k, .int .i64 l, .int .i64 hi, .slice a1 ks.length c1, .int .i64 m, .slice a2 kids.length c2] 39)) (.cells #[.int .i64 deep] 3)
    simpa [World.setCell] using this
  have hng : ∀ k, k < N → ¬ k = g := by intro k hk e; omega
  have hN : N ≤ w.heap.size := by omega
  have hss : (w.setCell ⟨g, 0, none⟩ (.int .i64 M)).heap.size = w.heap.size := by simp [World.setCell]
  have hsz : W0.heap.size = w.heap.size + 3 := by rw [hW0]; simp [hss]
  have s1 : g < w.heap.size + 1 := by omega
  have s2 : g < w.heap.size + 1 + 1 := by omega
  have s3 : g < w.heap.size + 1 + 1 + 1 := by omega
  have q1 : ¬ g = w.heap.size := by omega
  have q2 : ¬ g = w.heap.size + 1 := by omega
  have q3 : ¬ g = w.heap.size + 1 + 1 := by omega
  have KB : Hid (∀ W, Below W0.heap.size W0 W → W.cell? ⟨w.heap.size, 0, none⟩ = some (.int .i64 k) ∧ W.cell? ⟨w.heap.size, 1, none⟩ = some (.int .i64 l) ∧ W.cell? ⟨w.heap.size, 2, none⟩ = some (.int .i64 hi) ∧ W.cell? ⟨w.heap.size, 3, none⟩ = some (.slice a1 ks.length c1) ∧ W.cell? ⟨w.heap.size, 4, none⟩ = some (.int .i64 m) ∧ W.cell? ⟨w.heap.size, 5, none⟩ = some (.slice a2 kids.length c2)
      ∧ W.cell? ⟨w.heap.size + 1, 0, none⟩ = some (.int .i64 deep) ∧ W.cell? ⟨w.heap.size + 1 + 1, 0, none⟩ = some (.pointer (some ⟨g, 0, none⟩)) ∧ W.cell? ⟨g, 0, none⟩ = some (.int .i64 M)) := by
    intro W hb
    obtain ⟨hc, _⟩ := bcell hb
    have z1 : w.heap.size < W0.heap.size := by omega
    have z2 : w.heap.size + 1 < W0.heap.size := by omega
    have z3 : w.heap.size + 1 + 1 < W0.heap.size := by omega
    have z4 : g < W0.heap.size := by omega
    simp only [hc _ _ z1, hc _ _ z2, hc _ _ z3, hc _ _ z4, hb0.cell]
    subst hW0
    simp [go_sem, hss]
  have hT0 := Lib.hid (hT.keep hG hK0 hN hng)
  have HR := Lib.hid (show ∀ W, Below W0.heap.size W0 W → RdN N W (Sh.d (.mk k l hi ks m kids)) [.int .i64 k, .int .i64 l, .int .i64 hi, .slice a1 ks.length c1, .int .i64 m, .slice a2 kids.length c2] from fun W hb => (h.keep hK0 hN hng).below (hb.mono (by omega)))
  have HRk := Lib.hid (show ∀ W, Below W0.heap.size W0 W → RdN N W (.sl 6 (Sh.ds kids)) [.slice a2 kids.length c2] from fun W hb => (RdN.keep hkids hK0 hN hng).below (hb.mono (by omega)))
  have HF := Lib.hid (fun W (hb : Below W0.heap.size W0 W) => isForm_any _ _ W (HR.out W hb).rd hwf hbk (hT0.out.below hb))
  clear h hk hkids hT hbox hW0 hng hss q1 q2 q3
  by_cases qc1 : M < 0
  · have dqc1 := decide_eq_true qc1
    have H := Lib.hid (shGood_no1 (deep := deep) (L := M + 1) (x := .mk k l hi ks m kids) (by omega))
    go_enter Tryz.func38, Tryz.ntmps38
    go_wp2
    rw [← HW.out]
    have hB := Below.refl W0.heap.size W0
    obtain ⟨p0, p1, p2, p3, p4, p5, p6, p7, p8⟩ := KB.out _ hB
    go_quiet (fail)
    go_wp2
    go_ret
    exact ⟨by rw [H.out]; rfl, ⟨M, hb0.below (by first | exact hB | exact hB.drew | exact below_drewN hB _), fun h => by rw [H.out] at h; cases h⟩, hK0.then (by first | exact hB | exact hB.drew | exact below_drewN hB _)⟩
  have dqc1 := decide_eq_false qc1
  by_cases qc2 : (8 : Int) < deep
  · have dqc2 := decide_eq_true qc2
    have H := Lib.hid (shGood_no2 (L := M + 1) (x := .mk k l hi ks m kids) qc2)
    go_enter Tryz.func38, Tryz.ntmps38
    go_wp2
    rw [← HW.out]
    have hB := Below.refl W0.heap.size W0
    obtain ⟨p0, p1, p2, p3, p4, p5, p6, p7, p8⟩ := KB.out _ hB
    go_quiet (fail)
    go_wp2
    go_ret
    exact ⟨by rw [H.out]; rfl, ⟨M, hb0.below (by first | exact hB | exact hB.drew | exact below_drewN hB _), fun h => by rw [H.out] at h; cases h⟩, hK0.then (by first | exact hB | exact hB.drew | exact below_drewN hB _)⟩
  have dqc2 := decide_eq_false qc2
  by_cases qc3 : M < kids.length
  · have dqc3 := decide_eq_true qc3
    have H := Lib.hid (shGood_no3 (deep := deep) (L := M + 1) (k := k) (l := l) (hi := hi) (m := m) (ks := ks) (kids := kids) (by omega))
    go_enter Tryz.func38, Tryz.ntmps38
    go_wp2
    rw [← HW.out]
    have hB := Below.refl W0.heap.size W0
    obtain ⟨p0, p1, p2, p3, p4, p5, p6, p7, p8⟩ := KB.out _ hB
    go_quiet (fail)
    go_wp2
    go_ret
    exact ⟨by rw [H.out]; rfl, ⟨M, hb0.below (by first | exact hB | exact hB.drew | exact below_drewN hB _), fun h => by rw [H.out] at h; cases h⟩, hK0.then (by first | exact hB | exact hB.drew | exact below_drewN hB _)⟩
  have dqc3 := decide_eq_false qc3
  by_cases qc4 : M < ks.length
  · have dqc4 := decide_eq_true qc4
    have H := Lib.hid (shGood_no4 (deep := deep) (L := M + 1) (k := k) (l := l) (hi := hi) (m := m) (ks := ks) (kids := kids) (by omega))
    go_enter Tryz.func38, Tryz.ntmps38
    go_wp2
    rw [← HW.out]
    have hB := Below.refl W0.heap.size W0
    obtain ⟨p0, p1, p2, p3, p4, p5, p6, p7, p8⟩ := KB.out _ hB
    go_quiet (fail)
    go_wp2
    go_ret
    exact ⟨by rw [H.out]; rfl, ⟨M, hb0.below (by first | exact hB | exact hB.drew | exact below_drewN hB _), fun h => by rw [H.out] at h; cases h⟩, hK0.then (by first | exact hB | exact hB.drew | exact below_drewN hB _)⟩
  have dqc4 := decide_eq_false qc4
  cases ho : Sh.self (.mk k l hi ks m kids) with
  | false =>
    have HO := Lib.hid ho
    have H := Lib.hid (shGood_no5 (deep := deep) (L := M + 1) ho)
    clear ho
    go_enter Tryz.func38, Tryz.ntmps38
    go_wp2
    rw [← HW.out]
    have hB := Below.refl W0.heap.size W0
    go_region_held3 (fun W => W.cell? ⟨w.heap.size, 0, none⟩ = some (.int .i64 k) ∧ W.cell? ⟨w.heap.size, 1, none⟩ = some (.int .i64 l) ∧ W.cell? ⟨w.heap.size, 2, none⟩ = some (.int .i64 hi) ∧ W.cell? ⟨w.heap.size, 3, none⟩ = some (.slice a1 ks.length c1) ∧ W.cell? ⟨w.heap.size, 4, none⟩ = some (.int .i64 m) ∧ W.cell? ⟨w.heap.size, 5, none⟩ = some (.slice a2 kids.length c2) ∧ W.cell? ⟨w.heap.size + 1, 0, none⟩ = some (.int .i64 deep) ∧ W.cell? ⟨w.heap.size + 1 + 1, 0, none⟩ = some (.pointer (some ⟨g, 0, none⟩)) ∧ W.cell? ⟨g, 0, none⟩ = some (.int .i64 M))
      (first | exact KB.out _ hB | exact KB.out _ hB.drew)
      ((go_at_call 60; with_reducible refine (HF.out _ (by first | exact hB | exact hB.drew)).mono ?_; rw [HO.out]; rintro e w1 ⟨rfl, hb1⟩; replace hB := below2 (by first | exact hB | exact hB.drew) hb1 (Nat.le_refl _)))
    go_wp2
    go_ret
    exact ⟨by rw [H.out]; rfl, ⟨M, hb0.below (by first | exact hB | exact hB.drew | exact below_drewN hB _), fun h => by rw [H.out] at h; cases h⟩, hK0.then (by first | exact hB | exact hB.drew | exact below_drewN hB _)⟩
  | true =>
    have HO := Lib.hid ho
    have H0 := shGood_yes (L := M + 1) qc2 ho
    rw [show M + 1 - 1 = M by omega] at H0
    have H := Lib.hid H0
    clear H0
    clear ho
    go_enter Tryz.func38, Tryz.ntmps38
    go_wp2
    rw [← HW.out]
    have hB := Below.refl W0.heap.size W0
    go_region_held3 (fun W => W.cell? ⟨w.heap.size, 0, none⟩ = some (.int .i64 k) ∧ W.cell? ⟨w.heap.size, 1, none⟩ = some (.int .i64 l) ∧ W.cell? ⟨w.heap.size, 2, none⟩ = some (.int .i64 hi) ∧ W.cell? ⟨w.heap.size, 3, none⟩ = some (.slice a1 ks.length c1) ∧ W.cell? ⟨w.heap.size, 4, none⟩ = some (.int .i64 m) ∧ W.cell? ⟨w.heap.size, 5, none⟩ = some (.slice a2 kids.length c2) ∧ W.cell? ⟨w.heap.size + 1, 0, none⟩ = some (.int .i64 deep) ∧ W.cell? ⟨w.heap.size + 1 + 1, 0, none⟩ = some (.pointer (some ⟨g, 0, none⟩)) ∧ W.cell? ⟨g, 0, none⟩ = some (.int .i64 M))
      (first | exact KB.out _ hB | exact KB.out _ hB.drew)
      ((go_at_call 60; with_reducible refine (HF.out _ (by first | exact hB | exact hB.drew)).mono ?_; rw [HO.out]; rintro e w1 ⟨rfl, hb1⟩; replace hB := below2 (by first | exact hB | exact hB.drew) hb1 (Nat.le_refl _)))
    obtain ⟨p0, p1, p2, p3, p4, p5, p6, p7, p8⟩ := KB.out _ hB
    have hkw : Sh.wfs kids := hwf.2.2.2.2.2.2
    have hkb : kids.length + Sh.bulks kids ≤ 4294967295 := by simp only [Sh.bulk] at hbk; omega
    have HCC := Lib.hid (hC kids _ deep N g (w.heap.size + 1) (w.heap.size + 1 + 1) M _ hnk (HRk.out _ hB) hNg (hb0.below hB) (hbd0.below hB) (by omega) p7 (by omega) hkw hkb (hT0.out.below hB) hG (by omega) (by omega))
    go_wp2_with (go_at_call 39; refine HCC.out.mono ?_; rintro e w2 ⟨rfl, ⟨L', hbx, hL'⟩, hk2⟩)
    go_ret
    exact ⟨by rw [H.out]; simp, ⟨L', hbx, fun hh => by rw [H.out] at hh; rw [hL' hh]; simp only [Sh.nodes]; omega⟩, (hK0.then hB).trans hk2⟩

set_option maxHeartbeats 800000 in
set_option maxRecDepth 10000 in
theorem isShape1_any {n : Nat} (hA : IsA n) (x : Sh) (cs : List Value) (deep N g bd bl : Nat) (L : Int) (w : World) (hn : x.nodes ≤ n) (h : RdN N w x.d cs) (hNg : N ≤ g) (hbox : intBox w g L) (hbd : intBox w bd deep) (hbl : w.cell? ⟨bl, 0, none⟩ = some (.pointer (some ⟨g, 0, none⟩)))
    (hwf : x.wf) (hbk : x.bulk ≤ 4294967295) (hT : Tabs w) (hG : GlobN N) (hdeep : deep ≤ 1000) (hL : 0 ≤ L ∧ L ≤ 1000) :
    Calls Tryz.prog 61 #[.agg cs.toArray, .pointer (some ⟨bd, 0, none⟩), .pointer (some ⟨bl, 0, none⟩)] w fun e w' => e = .returned (.bool (!shGood (deep + 1) L x)) ∧ (∃ L' : Int, intBox w' g L' ∧ (shGood (deep + 1) L x = true → L' = L - x.nodes)) ∧ Keep (· = g) w w' := by
  obtain ⟨k, l, hi, a1, n1, c1, m, a2, n2, c2, rfl⟩ := Sh.form h.rd
  have hb1 := hbd.cell
  have hz1 := hbd.lt
  have hz2 : bl < w.heap.size := cell_lt hbl
  have hN : N ≤ w.heap.size := by have := hbox.lt; omega
  have hal : Below w.heap.size w (w.alloc (.cells #[.int .i64 k, .int .i64 l, .int .i64 hi, .slice a1 n1 c1, .int .i64 m, .slice a2 n2 c2] 39)) := (Below.refl _ _).alloc (Nat.le_refl _) _
  have HCC := Lib.hid (hA x _ (deep + 1) N g L _ hn (h.below (hal.mono hN)) hNg (hbox.below hal) hwf hbk (hT.below hal) hG (by omega) hL)
  go_enter Tryz.func61, Tryz.ntmps61
  go_wp2_with (go_at_call 38; refine HCC.out.mono ?_; rintro e w1 ⟨rfl, hL', hk1⟩)
  go_ret
  exact ⟨rfl, hL', (Keep.of_below hal).trans hk1⟩

theorem shGoods_snoc (deep : Nat) (L : Int) (xs : List Sh) (k : Nat) (hk : k < xs.length) (h : shGoods deep L (xs.take k) = true) :
    shGoods deep L (xs.take (k + 1)) = shGood deep (L - Sh.nodess (xs.take k)) xs[k] := by
  have hn : ∀ (ls : List Sh) (x : Sh), Sh.nodess (ls ++ [x]) = Sh.nodess ls + x.nodes := by
    intro ls x; induction ls with
    | nil => simp [Sh.nodess]
    | cons a ls ih => simp only [List.cons_append, Sh.nodess, ih]; omega
  unfold shGoods at h ⊢; unfold shGood
  rw [List.take_succ_eq_append_getElem hk, hn, Sh.rights_all, List.all_append]
  rw [Sh.rights_all] at h
  simp only [Bool.and_eq_true, decide_eq_true_eq] at h
  rw [h.1, Bool.true_and]
  congr 1
  · simp
  · exact decide_eq_decide.2 (by omega)
theorem shGoods_cut (deep : Nat) (L : Int) (xs : List Sh) (k : Nat) (h : shGoods deep L (xs.take k) = false) : shGoods deep L xs = false := by
  have hn : ∀ (ls ms : List Sh), Sh.nodess (ls ++ ms) = Sh.nodess ls + Sh.nodess ms := by
    intro ls ms; induction ls with
    | nil => simp [Sh.nodess]
    | cons a ls ih => simp only [List.cons_append, Sh.nodess, ih]; omega
  cases hk : shGoods deep L xs with
  | false => rfl
  | true =>
    exfalso
    rw [← List.take_append_drop k xs] at hk
    unfold shGoods at h hk
    rw [Sh.rights_all, List.all_append, hn] at hk
    rw [Sh.rights_all] at h
    simp only [Bool.and_eq_true, decide_eq_true_eq] at hk
    rw [hk.1.1, decide_eq_true (by omega)] at h; cases h
theorem Sh.bulk_get' {ls : List Sh} {m : Nat} (h : ls.length + Sh.bulks ls ≤ m) (k : Nat) (hk : k < ls.length) : ls[k].bulk ≤ m := by
  have h1 := Sh.bulks_snoc ls k hk; have h2 := Sh.bulks_take ls (k + 1); omega

set_option maxHeartbeats 1600000 in
set_option maxRecDepth 10000 in
theorem isIndex_any {n : Nat} (hA : IsA n) (xs : List Sh) (va : Value) (deep N g bd bl : Nat) (L : Int) (w : World) (hn : Sh.nodess xs ≤ n) (h : RdN N w (.sl 6 (Sh.ds xs)) [va]) (hNg : N ≤ g) (hbox : intBox w g L) (hbd : intBox w bd deep) (hbg : bd ≠ g) (hbl : w.cell? ⟨bl, 0, none⟩ = some (.pointer (some ⟨g, 0, none⟩))) (hlg : bl ≠ g)
    (hwf : Sh.wfs xs) (hbk : xs.length + Sh.bulks xs ≤ 4294967295) (hT : Tabs w) (hG : GlobN N) (hdeep : deep ≤ 1000) (hL : 0 ≤ L ∧ L ≤ 1000) :
    Calls Tryz.prog 62 #[va, .func (.func 61) #[] #[.pointer (some ⟨bd, 0, none⟩), .pointer (some ⟨bl, 0, none⟩)]] w fun e w' => (∃ r : Int, e = .returned (.int .i64 r) ∧ decide (0 ≤ r) = !shGoods (deep + 1) L xs) ∧ (∃ L' : Int, intBox w' g L' ∧ (shGoods (deep + 1) L xs = true → L' = L - Sh.nodess xs)) ∧ Keep (· = g) w w' := by
  have hN : N ≤ w.heap.size := by have := hbox.lt; omega
  have hng : ∀ k, k < N → ¬ k = g := by intro k hk e; omega
  have hz1 := hbd.lt
  have hz2 : bl < w.heap.size := cell_lt hbl
  have hlen : xs.length ≤ 4294967295 := by omega
  obtain ⟨a, c, rfl, hg⟩ := RepC.shapes h
  obtain ⟨ok, hok⟩ : ∃ ok, shGoods (deep + 1) L xs = ok := ⟨_, rfl⟩
  rw [hok]
  have HOK := Lib.hid hok; clear hok
  obtain ⟨hL1, hL2⟩ := hL
  go_enter Tryz.func62, Tryz.ntmps62
  go_wp2
  go_loopw [8] (fun i wr => ∃ (k : Nat), k ≤ xs.length ∧ i = .int .i64 k ∧ intBox wr g (L - Sh.nodess (xs.take k)) ∧ shGoods (deep + 1) L (xs.take k) = true ∧ Keep (· = g) w wr) (fun i _ => xs.length - (intOf i).toNat)
  case atStart => exact ⟨0, Nat.zero_le _, rfl, by simpa [Sh.nodess] using hbox, by simp [shGoods, Sh.rights, Sh.nodess, hL1], Keep.refl _ _⟩
  case round =>
    obtain ⟨k, hk, rfl, hbx, hgd, hkp⟩ := hrel
    have HGD := Lib.hid hgd
    have hle : (Sh.nodess (xs.take k) : Int) ≤ L := by unfold shGoods at hgd; simp only [Bool.and_eq_true, decide_eq_true_eq] at hgd; exact hgd.2
    clear hgd
    by_cases hlt : k < xs.length
    · obtain ⟨_, _, b, o, rfl, hb, hcell⟩ := hg (by intro e; rw [e] at hlt; simp at hlt)
      obtain ⟨v0, v1, v2, v3, v4, v5, hr, d0, d1, d2, d3, d4, d5⟩ := hcell k hlt
      clear hcell hg
      obtain ⟨k1, k2, k3, a4, n4, m4, k5, a6, n6, m6, hcs⟩ := Sh.formS hr
      simp only [List.cons.injEq, and_true] at hcs
      obtain ⟨rfl, rfl, rfl, rfl, rfl, rfl⟩ := hcs
      have hbN : b < w.heap.size := by omega
      have hbg' := hng b hb
      rw [← hkp.cell hbN hbg'] at d0 d1 d2 d3 d4 d5
      have hi1 : (0 : Int) ≤ k := by omega
      have hi3 : (k : Int) < xs.length := by omega
      have hnk : xs[k].nodes ≤ n := Nat.le_trans (Sh.nodes_get xs k hlt) hn
      have HC := Lib.hid (isShape1_any hA xs[k] _ deep N g bd bl _ wr hnk (RdN.keep (N := N) hr hkp hN hng) hNg hbx (hbd.keep hkp hbg) (by rw [hkp.cell hz2 hlg]; exact hbl) (Sh.wfs_get hwf k hlt) (Sh.bulk_get' hbk k hlt) (hT.keep hG hkp hN hng) hG hdeep (by omega))
      have HSN := Lib.hid (shGoods_snoc (deep + 1) L xs k hlt HGD.out)
      have hns : Sh.nodess (xs.take (k + 1)) = Sh.nodess (xs.take k) + xs[k].nodes := by
        rw [List.take_succ_eq_append_getElem hlt]
        have hn : ∀ (ls : List Sh) (x : Sh), Sh.nodess (ls ++ [x]) = Sh.nodess ls + x.nodes := by
          intro ls x; induction ls with
          | nil => simp [Sh.nodess]
          | cons a ls ih => simp only [List.cons_append, Sh.nodess, ih]; omega
        exact hn _ _
      have HNS := Lib.hid hns
      clear hns hr hbx h hT hwf hbk hng hbox hbd hbl
      cases hgd : shGood (deep + 1) (L - Sh.nodess (xs.take k)) xs[k] with
      | true =>
        have HG := Lib.hid hgd; clear hgd
        go_wp2_with (go_at_call 61; refine HC.out.mono ?_; rw [HG.out]; rintro e w1 ⟨rfl, ⟨L', hbx1, hL'⟩, hk1⟩)
        go_roundw
        case rel => exact ⟨k + 1, by omega, by go_num, by rw [show L - (Sh.nodess (xs.take (k + 1)) : Int) = L' by rw [hL' trivial, HNS.out]; omega]; exact hbx1, by rw [HSN.out, HG.out], hkp.trans hk1⟩
        case measure => simp [intOf]; omega
      | false =>
        have HG := Lib.hid hgd; clear hgd
        have HF := Lib.hid (show ok = false by rw [← HOK.out]; exact shGoods_cut _ _ _ (k + 1) (by rw [HSN.out, HG.out]))
        go_wp2_with (go_at_call 61; refine HC.out.mono ?_; rw [HG.out]; rintro e w1 ⟨rfl, ⟨L', hbx1, hL'⟩, hk1⟩)
        go_ret
        exact ⟨⟨_, rfl, by rw [HF.out]; simp⟩, ⟨L', hbx1, fun hh => by rw [HF.out] at hh; cases hh⟩, hkp.trans hk1⟩
    · obtain rfl : k = xs.length := by omega
      have h1 := HGD.out
      rw [List.take_length] at h1 hbx
      have HF := Lib.hid (show ok = true by rw [← HOK.out]; exact h1)
      clear h1
      go_wp2
      go_ret
      exact ⟨⟨_, rfl, by rw [HF.out]; rfl⟩, ⟨_, hbx, fun _ => rfl⟩, hkp⟩

set_option maxHeartbeats 400000 in
theorem IsC_of {n : Nat} (hA : IsA n) : IsC n := by
  intro xs va deep N g bd bl L w hn h hNg hbox hbd hbg hbl hlg hwf hbk hT hG hdeep hL
  have HC := Lib.hid (isIndex_any hA xs va deep N g bd bl L w hn h hNg hbox hbd hbg hbl hlg hwf hbk hT hG hdeep hL)
  go_enter Tryz.func39, Tryz.ntmps39
  go_wp2_with (go_at_call 62; refine HC.out.mono ?_; rintro e w1 ⟨⟨r, rfl, hr⟩, hL', hk1⟩; have HR := Lib.hid hr; clear hr)
  go_ret
  exact ⟨by rw [← HR.out]; rfl, hL', hk1⟩
theorem Is_all : ∀ n, IsA n
  | 0 => fun x cs deep N g L w hn => absurd x.nodes_pos (by omega)
  | n + 1 => IsA_of (IsC_of (Is_all n))

set_option maxHeartbeats 400000 in
set_option maxRecDepth 10000 in
theorem shapeOk_impl (x : Sh) (cs : List Value) (w : World) (h : Rd w x.d cs) (hwf : x.wf) (hbk : x.bulk ≤ 4294967295) (hT : Tabs w) :
    Calls Tryz.prog 22 #[.agg cs.toArray] w fun e w' => e = .returned (.bool x.ok) ∧ Below w.heap.size w w' := by
  obtain ⟨k, l, hi, a1, n1, c1, m, a2, n2, c2, rfl⟩ := Sh.form h
  obtain ⟨W0, hW0⟩ : ∃ W0, W0 = (w.alloc (.cells #[.int .i64 k, .int .i64 l, .int .i64 hi, .slice a1 n1 c1, .int .i64 m, .slice a2 n2 c2] 39)).alloc (.cells #[.int .i64 100] 3) := ⟨_, rfl⟩
  have HW := Lib.hid hW0
  have hA : Below w.heap.size w W0 := by rw [hW0]; exact ((Below.refl _ _).alloc (Nat.le_refl _) _).alloc (by simp) _
  have hbx : intBox W0 (w.heap.size + 1) 100 := by
    rw [hW0]
    have := heap_alloc_new (w.alloc (.cells #[.int .i64 k, .int .i64 l, .int .i64 hi, .slice a1 n1 c1, .int .i64 m, .slice a2 n2 c2] 39)) (.cells #[.int .i64 100] 3)
    simpa [intBox] using this
  have HC := Lib.hid (Is_all x.nodes x _ 0 w.heap.size (w.heap.size + 1) 100 W0 (Nat.le_refl _) (h.rdN.below hA) (by omega) hbx hwf hbk (hT.below hA) ⟨hT.lt.1, hT.lt.2⟩ (by decide) (by decide))
  have hsz : W0.heap.size = w.heap.size + 2 := by rw [hW0]; simp
  clear hW0 h hbx
  go_enter Tryz.func22, Tryz.ntmps22
  go_wp2_with (go_at_call 38; rw [← HW.out]; refine HC.out.mono ?_; rintro e w1 ⟨rfl, _, hk1⟩)
  go_ret
  refine ⟨ret_bool ?_, hA.trans (hk1.below (by omega) (fun k hk e => by omega))⟩
  show shGood 0 100 x = _
  unfold shGood Sh.ok; congr 1
  exact decide_eq_decide.2 (by omega)
end Go.Proofs.YtkeieeogkeonfaaGreatDoor
