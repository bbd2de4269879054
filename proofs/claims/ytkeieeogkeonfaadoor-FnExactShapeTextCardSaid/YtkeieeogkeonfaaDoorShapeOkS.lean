/- When a shape is right: the reference's l15Right, l15Many and ShapeOk. -/
import Derived.Test.YtkeieeogkeonfaaDoorShapeOwnT
namespace Go.Proofs.YtkeieeogkeonfaaDoor
open Go.RowKit
open Go.Lib (validD)

def RtA (n : Nat) : Prop := ∀ (x : Sh) (cs : List Value) (d : Int) (w : World), x.nodes ≤ n → Rd w x.d cs → x.wf → x.bulk ≤ 4294967295 → -4611686018427387904 + x.nodes ≤ d → d ≤ 1000 →
  Calls Tryd.prog 60 #[.agg cs.toArray, .int .i64 d] w fun e w' => e = .returned (.bool (Sh.right d x)) ∧ Below w.heap.size w w'

theorem Sh.rights_false {d : Int} {xs : List Sh} (k : Nat) (hk : k < xs.length) (h : Sh.right d xs[k] = false) : Sh.rights d xs = false := by
  rw [Sh.rights_all]; apply Bool.eq_false_iff.2; intro hh
  rw [List.all_eq_true] at hh
  have := hh xs[k] (List.getElem_mem hk); rw [h] at this; cases this
theorem Sh.rights_snoc {d : Int} {xs : List Sh} (k : Nat) (hk : k < xs.length) (h : Sh.rights d (xs.take k) = true) (h2 : Sh.right d xs[k] = true) : Sh.rights d (xs.take (k + 1)) = true := by
  rw [List.take_succ_eq_append_getElem hk, Sh.rights_all, List.all_append]; rw [Sh.rights_all] at h; rw [h]; simp [h2]
theorem Sh.nodes_split (xs : List Sh) (k : Nat) (hk : k < xs.length) : Sh.nodess (xs.take (k + 1)) = Sh.nodess (xs.take k) + xs[k].nodes := by
  rw [List.take_succ_eq_append_getElem hk]
  have hn : ∀ (ls : List Sh) (x : Sh), Sh.nodess (ls ++ [x]) = Sh.nodess ls + x.nodes := by
    intro ls x; induction ls with
    | nil => simp [Sh.nodess]
    | cons a ls ih => simp only [List.cons_append, Sh.nodess, ih]; omega
  exact hn _ _
theorem Sh.nodess_take : ∀ (xs : List Sh) (k : Nat), Sh.nodess (xs.take k) ≤ Sh.nodess xs
  | [], k => by simp [Sh.nodess]
  | x :: xs, 0 => by simp [Sh.nodess]
  | x :: xs, k + 1 => by have := Sh.nodess_take xs k; simp only [List.take_succ_cons, Sh.nodess]; omega
mutual
theorem Sh.nodes_bulk : ∀ x : Sh, x.nodes ≤ x.bulk + 1
  | .mk _ _ _ ks _ kids => by have := Sh.nodess_bulks kids; simp only [Sh.nodes, Sh.bulk]; omega
theorem Sh.nodess_bulks : ∀ xs : List Sh, Sh.nodess xs ≤ xs.length + Sh.bulks xs
  | [] => by simp [Sh.nodess]
  | x :: xs => by have := Sh.nodes_bulk x; have := Sh.nodess_bulks xs; simp only [Sh.nodess, Sh.bulks, List.length_cons]; omega
end

set_option maxHeartbeats 2000000 in
set_option maxRecDepth 10000 in
theorem RtA_of {n : Nat} (hA : RtA n) : RtA (n + 1) := by
  intro x cs d w hn h hwf hbk hd1 hd2
  have HO := Lib.hid (fun w1 (hb : Below w.heap.size w w1) => l15Own_any x cs w1 (h.below hb) hwf hbk)
  obtain ⟨k, l, hi, ks, m, kids, v1, v2, rfl, rfl, hk, hkids⟩ := Sh.lay h
  have hnk : Sh.nodess kids ≤ n := by simp only [Sh.nodes] at hn; omega
  have hkw : Sh.wfs kids := hwf.2.2.2.2.2.2
  have hkb : kids.length + Sh.bulks kids ≤ 4294967295 := by simp only [Sh.bulk] at hbk; omega
  have hdn : -4611686018427387904 + (Sh.nodess kids : Int) + 1 ≤ d := by simp only [Sh.nodes] at hd1; omega
  obtain ⟨a1, c1, rfl⟩ := Rd.sl_form hk
  obtain ⟨a2, c2, rfl, hg⟩ := hkids.shapes
  simp only [List.length_map] at HO h ⊢
  obtain ⟨ok, hok⟩ : ∃ ok, Sh.right d (.mk k l hi ks m kids) = ok := ⟨_, rfl⟩
  rw [hok]
  have HOK := Lib.hid hok; clear hok
  obtain ⟨W0, hW0⟩ : ∃ W0, W0 = w.alloc (.cells #[.int .i64 k, .int .i64 l, .int .i64 hi, .slice a1 ks.length c1, .int .i64 m, .slice a2 kids.length c2] 29) := ⟨_, rfl⟩
  have HW := Lib.hid hW0
  have hA0 : Below w.heap.size w W0 := by rw [hW0]; exact (Below.refl _ _).alloc (Nat.le_refl _) _
  have hz : w.heap.size < W0.heap.size := by rw [hW0]; simp
  have KB : Hid (∀ W, Below W0.heap.size W0 W → W.cell? ⟨w.heap.size, 0, none⟩ = some (.int .i64 k) ∧ W.cell? ⟨w.heap.size, 1, none⟩ = some (.int .i64 l) ∧ W.cell? ⟨w.heap.size, 2, none⟩ = some (.int .i64 hi) ∧ W.cell? ⟨w.heap.size, 3, none⟩ = some (.slice a1 ks.length c1) ∧ W.cell? ⟨w.heap.size, 4, none⟩ = some (.int .i64 m) ∧ W.cell? ⟨w.heap.size, 5, none⟩ = some (.slice a2 kids.length c2)) := by
    intro W hb
    obtain ⟨hc, _⟩ := bcell hb
    simp only [hc _ _ hz]; subst hW0; simp
  clear hW0 h hk hkids hwf hbk
  go_enter Tryd.func60, Tryd.ntmps60
  go_wp2
  rw [← HW.out]
  go_loopw [5] (fun i wr => ∃ (j : Nat), j ≤ kids.length ∧ i = .int .i64 j ∧ Sh.rights (d - 1) (kids.take j) = true ∧ Below W0.heap.size W0 wr) (fun i _ => kids.length - (intOf i).toNat)
  case atStart => exact ⟨0, Nat.zero_le _, rfl, by simp [Sh.rights], Below.refl _ _⟩
  case round =>
    obtain ⟨j, hj, rfl, hr, hbel⟩ := hrel
    have HR := Lib.hid hr; clear hr
    obtain ⟨f0, f1, f2, f3, f4, f5⟩ := KB.out _ hbel
    have hbw := below2 hA0 hbel (Nat.le_refl _)
    by_cases hlt : j < kids.length
    · obtain ⟨_, _, b, o, rfl, hb, hcell⟩ := hg (by intro e; rw [e] at hlt; simp at hlt)
      obtain ⟨v0, v1, v2, v3, v4, v5, hr, d0, d1, d2, d3, d4, d5⟩ := hcell j hlt
      clear hcell hg
      obtain ⟨k1, k2, k3, a4, n4, m4, k5, a6, n6, m6, hcs⟩ := Sh.form hr
      simp only [List.cons.injEq, and_true] at hcs
      obtain ⟨rfl, rfl, rfl, rfl, rfl, rfl⟩ := hcs
      have hbc := (bcell hbw).1
      rw [← hbc _ _ hb] at d0 d1 d2 d3 d4 d5
      clear hbc
      have hi1 : (0 : Int) ≤ j := by omega
      have hi3 : (j : Int) < kids.length := by omega
      have hn1 := Sh.nodes_get kids j hlt
      have HC := Lib.hid (hA kids[j] _ (d - 1) wr (Nat.le_trans hn1 hnk) (hr.below hbw) (Sh.wfs_get hkw j hlt) (Sh.bulk_get' hkb j hlt) (by omega) (by omega))
      cases hv : Sh.right (d - 1) kids[j] with
      | true =>
        have HV := Lib.hid hv
        have HS := Lib.hid (Sh.rights_snoc j hlt HR.out hv)
        clear hv
        go_wp2_with (go_at_call 60; refine HC.out.mono ?_; rw [HV.out]; rintro e w1 ⟨rfl, hb1⟩)
        go_roundw
        case rel => exact ⟨j + 1, by omega, by go_num, HS.out, below2 hbel hb1 (Nat.le_refl _)⟩
        case measure => simp [intOf]; omega
      | false =>
        have HV := Lib.hid hv
        have HF := Lib.hid (show ok = false by rw [← HOK.out]; simp only [Sh.right]; rw [Sh.rights_false j hlt hv]; rfl)
        clear hv
        go_wp2_with (go_at_call 60; refine HC.out.mono ?_; rw [HV.out]; rintro e w1 ⟨rfl, hb1⟩)
        go_ret
        exact ⟨by rw [HF.out]; rfl, below2 hbw hb1 (Nat.le_refl _)⟩
    · obtain rfl : j = kids.length := by omega
      have h1 := HR.out
      rw [List.take_length] at h1
      have HF := Lib.hid (show ok = (decide (0 ≤ d) && Sh.self (.mk k l hi ks m kids)) by rw [← HOK.out]; simp only [Sh.right]; rw [h1]; rfl)
      clear h1
      by_cases hd0 : 0 ≤ d
      · have D0 := Lib.hid (decide_eq_true hd0)
        go_wp2_with (go_at_call 96; refine (HO.out _ hbw).mono ?_; rintro e w1 ⟨rfl, hb1⟩)
        go_ret
        exact ⟨by rw [HF.out, D0.out]; rfl, below2 hbw hb1 (Nat.le_refl _)⟩
      · have D0 := Lib.hid (decide_eq_false hd0)
        go_wp2
        go_ret
        exact ⟨by rw [HF.out, D0.out]; rfl, hbw⟩
theorem Rt_all : ∀ n, RtA n
  | 0 => fun x cs d w hn => absurd x.nodes_pos (by omega)
  | n + 1 => RtA_of (Rt_all n)

def MnA (n : Nat) : Prop := ∀ (x : Sh) (cs : List Value) (w : World), x.nodes ≤ n → Rd w x.d cs → x.bulk ≤ 4294967295 →
  Calls Tryd.prog 61 #[.agg cs.toArray] w fun e w' => e = .returned (.int .i64 (x.nodes : Nat)) ∧ Below w.heap.size w w'
set_option maxHeartbeats 2000000 in
set_option maxRecDepth 10000 in
theorem MnA_of {n : Nat} (hA : MnA n) : MnA (n + 1) := by
  intro x cs w hn h hbk
  obtain ⟨k, l, hi, ks, m, kids, v1, v2, rfl, rfl, hk, hkids⟩ := Sh.lay h
  have hnk : Sh.nodess kids ≤ n := by simp only [Sh.nodes] at hn; omega
  have hkb : kids.length + Sh.bulks kids ≤ 4294967295 := by simp only [Sh.bulk] at hbk; omega
  have hnb := Sh.nodess_bulks kids
  obtain ⟨a1, c1, rfl⟩ := Rd.sl_form hk
  obtain ⟨a2, c2, rfl, hg⟩ := hkids.shapes
  simp only [List.length_map]
  obtain ⟨W0, hW0⟩ : ∃ W0, W0 = w.alloc (.cells #[.int .i64 k, .int .i64 l, .int .i64 hi, .slice a1 ks.length c1, .int .i64 m, .slice a2 kids.length c2] 29) := ⟨_, rfl⟩
  have HW := Lib.hid hW0
  have hA0 : Below w.heap.size w W0 := by rw [hW0]; exact (Below.refl _ _).alloc (Nat.le_refl _) _
  have hz : w.heap.size < W0.heap.size := by rw [hW0]; simp
  have KB : Hid (∀ W, Below W0.heap.size W0 W → W.cell? ⟨w.heap.size, 5, none⟩ = some (.slice a2 kids.length c2)) := by
    intro W hb
    obtain ⟨hc, _⟩ := bcell hb
    simp only [hc _ _ hz]; subst hW0; simp
  clear hW0 h hk hkids hbk
  go_enter Tryd.func61, Tryd.ntmps61
  go_wp2
  rw [← HW.out]
  go_loopw [3, 4] (fun x i wr => ∃ (j : Nat), j ≤ kids.length ∧ i = .int .i64 j ∧ x = .int .i64 (1 + Sh.nodess (kids.take j) : Nat) ∧ Below W0.heap.size W0 wr) (fun _ i _ => kids.length - (intOf i).toNat)
  case atStart => exact ⟨0, Nat.zero_le _, rfl, by simp [Sh.nodess], Below.refl _ _⟩
  case round =>
    obtain ⟨j, hj, rfl, rfl, hbel⟩ := hrel
    have f5 := KB.out _ hbel
    have hbw := below2 hA0 hbel (Nat.le_refl _)
    by_cases hlt : j < kids.length
    · obtain ⟨_, _, b, o, rfl, hb, hcell⟩ := hg (by intro e; rw [e] at hlt; simp at hlt)
      obtain ⟨v0, v1, v2, v3, v4, v5, hr, d0, d1, d2, d3, d4, d5⟩ := hcell j hlt
      clear hcell hg
      obtain ⟨k1, k2, k3, a4, n4, m4, k5, a6, n6, m6, hcs⟩ := Sh.form hr
      simp only [List.cons.injEq, and_true] at hcs
      obtain ⟨rfl, rfl, rfl, rfl, rfl, rfl⟩ := hcs
      have hbc := (bcell hbw).1
      rw [← hbc _ _ hb] at d0 d1 d2 d3 d4 d5
      clear hbc
      have hi1 : (0 : Int) ≤ j := by omega
      have hi3 : (j : Int) < kids.length := by omega
      have hn1 := Sh.nodes_get kids j hlt
      have HC := Lib.hid (hA kids[j] _ wr (Nat.le_trans hn1 hnk) (hr.below hbw) (Sh.bulk_get' hkb j hlt))
      have HS := Lib.hid (Sh.nodes_split kids j hlt)
      have ht1 := Sh.nodess_take kids j
      obtain ⟨q, hq⟩ : ∃ q, Sh.nodess (kids.take j) = q := ⟨_, rfl⟩
      rw [hq] at HS ht1 ⊢
      clear hq
      obtain ⟨p, hp⟩ : ∃ p, kids[j].nodes = p := ⟨_, rfl⟩
      rw [hp] at HS hn1 HC
      clear hp
      go_wp2_with (go_at_call 61; refine HC.out.mono ?_; rintro e w1 ⟨rfl, hb1⟩)
      go_roundw
      case rel => exact ⟨j + 1, by omega, by go_num, by rw [HS.out]; go_num, below2 hbel hb1 (Nat.le_refl _)⟩
      case measure => simp [intOf]; omega
    · obtain rfl : j = kids.length := by omega
      rw [List.take_length]
      go_wp2
      go_ret
      exact ⟨rfl, hbw⟩
theorem Mn_all : ∀ n, MnA n
  | 0 => fun x cs w hn => absurd x.nodes_pos (by omega)
  | n + 1 => MnA_of (Mn_all n)

set_option maxHeartbeats 400000 in
set_option maxRecDepth 10000 in
theorem shapeOk_spec (x : Sh) (cs : List Value) (w : World) (h : Rd w x.d cs) (hwf : x.wf) (hbk : x.bulk ≤ 4294967295) :
    Calls Tryd.prog 30 #[.agg cs.toArray] w fun e w' => e = .returned (.bool x.ok) ∧ Below w.heap.size w w' := by
  obtain ⟨k, l, hi, a1, n1, c1, m, a2, n2, c2, rfl⟩ := Sh.form h
  obtain ⟨W0, hW0⟩ : ∃ W0, W0 = w.alloc (.cells #[.int .i64 k, .int .i64 l, .int .i64 hi, .slice a1 n1 c1, .int .i64 m, .slice a2 n2 c2] 29) := ⟨_, rfl⟩
  have HW := Lib.hid hW0
  have hA : Below w.heap.size w W0 := by rw [hW0]; exact (Below.refl _ _).alloc (Nat.le_refl _) _
  have hz : w.heap.size < W0.heap.size := by rw [hW0]; simp
  have KB : Hid (∀ W, Below W0.heap.size W0 W → W.cell? ⟨w.heap.size, 0, none⟩ = some (.int .i64 k) ∧ W.cell? ⟨w.heap.size, 1, none⟩ = some (.int .i64 l) ∧ W.cell? ⟨w.heap.size, 2, none⟩ = some (.int .i64 hi) ∧ W.cell? ⟨w.heap.size, 3, none⟩ = some (.slice a1 n1 c1) ∧ W.cell? ⟨w.heap.size, 4, none⟩ = some (.int .i64 m) ∧ W.cell? ⟨w.heap.size, 5, none⟩ = some (.slice a2 n2 c2)) := by
    intro W hb
    obtain ⟨hc, _⟩ := bcell hb
    simp only [hc _ _ hz]; subst hW0; simp
  have hnb := x.nodes_bulk
  have HR := Lib.hid (fun W (hb : Below W0.heap.size W0 W) => Rt_all x.nodes x _ 8 W (Nat.le_refl _) (h.below (below2 hA hb (Nat.le_refl _))) hwf hbk (by omega) (by decide))
  have HM := Lib.hid (fun W (hb : Below W0.heap.size W0 W) => Mn_all x.nodes x _ W (Nat.le_refl _) (h.below (below2 hA hb (Nat.le_refl _))) hbk)
  have hB := Below.refl W0.heap.size W0
  clear hW0 h
  go_enter Tryd.func30, Tryd.ntmps30
  cases hr : Sh.right 8 x with
  | true =>
    have HV := Lib.hid hr; clear hr
    go_wp2_with (first | (go_at_call 60; rw [← HW.out]; refine (HR.out _ hB).mono ?_; rw [HV.out]; rintro e w1 ⟨rfl, hb1⟩; obtain ⟨p0, p1, p2, p3, p4, p5⟩ := KB.out _ hb1) | (go_at_call 61; refine (HM.out _ hb1).mono ?_; rintro e w2 ⟨rfl, hb2⟩))
    go_ret
    refine ⟨ret_bool ?_, below2 hA (below2 hb1 hb2 (Nat.le_refl _)) (Nat.le_refl _)⟩
    unfold Sh.ok; rw [HV.out, Bool.true_and, Bool.eq_iff_iff]; simp; omega
  | false =>
    have HV := Lib.hid hr; clear hr
    go_wp2_with (first | (go_at_call 60; rw [← HW.out]; refine (HR.out _ hB).mono ?_; rw [HV.out]; rintro e w1 ⟨rfl, hb1⟩))
    go_ret
    refine ⟨ret_bool ?_, below2 hA hb1 (Nat.le_refl _)⟩
    unfold Sh.ok; rw [HV.out]; rfl
end Go.Proofs.YtkeieeogkeonfaaDoor
