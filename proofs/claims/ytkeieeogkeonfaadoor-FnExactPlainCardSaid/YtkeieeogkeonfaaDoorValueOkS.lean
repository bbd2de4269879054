/- When a value is right: the reference's l02Right, Nodes and ValueOk. -/
import Derived.Test.YtkeieeogkeonfaaDoorValueOwnS
import Derived.Test.YtkeieeogkeonfaaDoorKeep
namespace Go.Proofs.YtkeieeogkeonfaaDoor
open Go.RowKit

def VRtA (n : Nat) : Prop := ∀ (x : V) (cs : List Value) (d : Int) (w : World), x.nodes ≤ n → Rd w x.d cs → x.wf → x.bulk ≤ 4294967295 → -1000 ≤ d → d ≤ 1000 →
  Calls Tryd.prog 72 #[.agg cs.toArray, .int .i64 d] w fun e w' => e = .returned (.bool (V.rightBy pairsOk d x)) ∧ Below w.heap.size w w'

theorem V.rights_false {q : List V → Bool} {d : Int} {xs : List V} (k : Nat) (hk : k < xs.length) (h : V.rightBy q d xs[k] = false) : V.rightsBy q d xs = false := by
  rw [V.rightsBy_all]; apply Bool.eq_false_iff.2; intro hh
  rw [List.all_eq_true] at hh
  have := hh xs[k] (List.getElem_mem hk); rw [h] at this; cases this
theorem V.rights_snoc {q : List V → Bool} {d : Int} {xs : List V} (k : Nat) (hk : k < xs.length) (h : V.rightsBy q d (xs.take k) = true) (h2 : V.rightBy q d xs[k] = true) : V.rightsBy q d (xs.take (k + 1)) = true := by
  rw [List.take_succ_eq_append_getElem hk, V.rightsBy_all, List.all_append]; rw [V.rightsBy_all] at h; rw [h]; simp [h2]
theorem V.nodes_split (xs : List V) (k : Nat) (hk : k < xs.length) : V.nodess (xs.take (k + 1)) = V.nodess (xs.take k) + xs[k].nodes := by
  rw [List.take_succ_eq_append_getElem hk]
  have hn : ∀ (ls : List V) (x : V), V.nodess (ls ++ [x]) = V.nodess ls + x.nodes := by
    intro ls x; induction ls with
    | nil => simp [V.nodess]
    | cons a ls ih => simp only [List.cons_append, V.nodess, ih]; omega
  exact hn _ _
theorem V.nodess_take : ∀ (xs : List V) (k : Nat), V.nodess (xs.take k) ≤ V.nodess xs
  | [], k => by simp [V.nodess]
  | x :: xs, 0 => by simp [V.nodess]
  | x :: xs, k + 1 => by have := V.nodess_take xs k; simp only [List.take_succ_cons, V.nodess]; omega
mutual
theorem V.nodes_bulk : ∀ x : V, x.nodes ≤ x.bulk + 1
  | .mk _ _ _ s kids => by have := V.nodess_bulks kids; simp only [V.nodes, V.bulk]; omega
theorem V.nodess_bulks : ∀ xs : List V, V.nodess xs ≤ xs.length + V.bulks xs
  | [] => by simp [V.nodess]
  | x :: xs => by have := V.nodes_bulk x; have := V.nodess_bulks xs; simp only [V.nodess, V.bulks, List.length_cons]; omega
end

theorem V.bulk_get' {ls : List V} {m : Nat} (h : ls.length + V.bulks ls ≤ m) (k : Nat) (hk : k < ls.length) : ls[k].bulk ≤ m := by
  have h1 := V.bulks_snoc ls k hk; have h2 := V.bulks_take ls (k + 1); omega

set_option maxHeartbeats 2000000 in
set_option maxRecDepth 10000 in
theorem VRtA_of {n : Nat} (hA : VRtA n) : VRtA (n + 1) := by
  intro x cs d w hn h hwf hbk hd1 hd2
  have HO := Lib.hid (fun w1 (hb : Below w.heap.size w w1) => l02Own_any x cs w1 (h.below hb) hwf hbk)
  obtain ⟨k, m, e, s, kids, v1, rfl, rfl, hkids⟩ := V.lay h
  have hnk : V.nodess kids ≤ n := by simp only [V.nodes] at hn; omega
  have hkw : V.wfs kids := hwf.2.2.2.2.2
  have hkb : kids.length + V.bulks kids ≤ 4294967295 := by simp only [V.bulk] at hbk; omega
  obtain ⟨a2, c2, rfl, hg⟩ := hkids.values
  obtain ⟨ok, hok⟩ : ∃ ok, V.rightBy pairsOk d (.mk k m e s kids) = ok := ⟨_, rfl⟩
  rw [hok]
  have HOK := Lib.hid hok; clear hok
  obtain ⟨W0, hW0⟩ : ∃ W0, W0 = w.alloc (.cells #[.int .i64 k, .int .i64 m, .int .i64 e, .string ⟨s.toArray⟩, .slice a2 kids.length c2] 41) := ⟨_, rfl⟩
  have HW := Lib.hid hW0
  have hA0 : Below w.heap.size w W0 := by rw [hW0]; exact (Below.refl _ _).alloc (Nat.le_refl _) _
  have hz : w.heap.size < W0.heap.size := by rw [hW0]; simp
  have KB : Hid (∀ W, Below W0.heap.size W0 W → W.cell? ⟨w.heap.size, 0, none⟩ = some (.int .i64 k) ∧ W.cell? ⟨w.heap.size, 1, none⟩ = some (.int .i64 m) ∧ W.cell? ⟨w.heap.size, 2, none⟩ = some (.int .i64 e) ∧ W.cell? ⟨w.heap.size, 3, none⟩ = some (.string ⟨s.toArray⟩) ∧ W.cell? ⟨w.heap.size, 4, none⟩ = some (.slice a2 kids.length c2)) := by
    intro W hb
    obtain ⟨hc, _⟩ := bcell hb
    simp only [hc _ _ hz]; subst hW0; simp
  clear hW0 h hkids hwf hbk
  obtain ⟨f0, f1, f2, f3, f4⟩ := KB.out _ (Below.refl _ _)
  by_cases hd0 : d < 0
  · have HF := Lib.hid (show ok = false by rw [← HOK.out]; simp only [V.rightBy]; rw [decide_eq_false (show ¬ 0 ≤ d by omega)]; simp)
    go_enter Tryd.func72, Tryd.ntmps72
    go_wp2
    rw [← HW.out]
    go_ret
    exact ⟨by rw [HF.out]; rfl, hA0⟩
  have D0 := Lib.hid (decide_eq_true (show 0 ≤ d by omega))
  cases hs : V.self (.mk k m e s kids) with
  | false =>
    have HS := Lib.hid hs
    have HF := Lib.hid (show ok = false by rw [← HOK.out]; simp only [V.rightBy]; rw [show V.selfBy pairsOk (.mk k m e s kids) = false from hs]; simp)
    clear hs
    go_enter Tryd.func72, Tryd.ntmps72
    go_wp2_with (go_at_call 109; rw [← HW.out]; refine (HO.out _ hA0).mono ?_; rw [HS.out]; rintro e w1 ⟨rfl, hb1⟩)
    go_ret
    exact ⟨by rw [HF.out]; rfl, below2 hA0 hb1 (Nat.le_refl _)⟩
  | true =>
  have HS := Lib.hid hs
  have HF0 := Lib.hid (show ok = V.rightsBy pairsOk (d - 1) kids by rw [← HOK.out]; simp only [V.rightBy]; rw [show V.selfBy pairsOk (.mk k m e s kids) = true from hs, D0.out]; simp)
  clear hs
  go_enter Tryd.func72, Tryd.ntmps72
  go_wp2_with (go_at_call 109; rw [← HW.out]; refine (HO.out _ hA0).mono ?_; rw [HS.out]; rintro e w1 ⟨rfl, hb1⟩)
  go_loopw [5] (fun i wr => ∃ (j : Nat), j ≤ kids.length ∧ i = .int .i64 j ∧ V.rightsBy pairsOk (d - 1) (kids.take j) = true ∧ Below W0.heap.size W0 wr) (fun i _ => kids.length - (intOf i).toNat)
  case atStart => exact ⟨0, Nat.zero_le _, rfl, by simp [V.rightsBy], hb1⟩
  case round =>
    obtain ⟨j, hj, rfl, hr, hbel⟩ := hrel
    have HR := Lib.hid hr; clear hr f0 f1 f2 f3 f4
    obtain ⟨f0, f1, f2, f3, f4⟩ := KB.out _ hbel
    have hbw := below2 hA0 hbel (Nat.le_refl _)
    by_cases hlt : j < kids.length
    · obtain ⟨_, _, b, o, rfl, hb, hcell⟩ := hg (by intro e; rw [e] at hlt; simp at hlt)
      obtain ⟨v0, v1, v2, v3, v4, hr, d0, d1, d2, d3, d4⟩ := hcell j hlt
      clear hcell hg
      obtain ⟨k1, k2, k3, s4, a6, n6, m6, hcs⟩ := V.form hr
      simp only [List.cons.injEq, and_true] at hcs
      obtain ⟨rfl, rfl, rfl, rfl, rfl⟩ := hcs
      have hbc := (bcell hbw).1
      rw [← hbc _ _ hb] at d0 d1 d2 d3 d4
      clear hbc
      have hi1 : (0 : Int) ≤ j := by omega
      have hi3 : (j : Int) < kids.length := by omega
      have hn1 := V.nodes_get kids j hlt
      have HC := Lib.hid (hA kids[j] _ (d - 1) wr (Nat.le_trans hn1 hnk) (hr.below hbw) (V.wfs_get hkw j hlt) (V.bulk_get' hkb j hlt) (by omega) (by omega))
      cases hv : V.rightBy pairsOk (d - 1) kids[j] with
      | true =>
        have HV := Lib.hid hv
        have HS2 := Lib.hid (V.rights_snoc j hlt HR.out hv)
        clear hv
        go_wp2_with (go_at_call 72; refine HC.out.mono ?_; rw [HV.out]; rintro e w2 ⟨rfl, hb2⟩)
        go_roundw
        case rel => exact ⟨j + 1, by omega, by go_num, HS2.out, below2 hbel hb2 (Nat.le_refl _)⟩
        case measure => simp [intOf]; omega
      | false =>
        have HV := Lib.hid hv
        have HF := Lib.hid (show ok = false by rw [HF0.out]; exact V.rights_false j hlt hv)
        clear hv
        go_wp2_with (go_at_call 72; refine HC.out.mono ?_; rw [HV.out]; rintro e w2 ⟨rfl, hb2⟩)
        go_ret
        exact ⟨by rw [HF.out]; rfl, below2 hbw hb2 (Nat.le_refl _)⟩
    · obtain rfl : j = kids.length := by omega
      have h1 := HR.out
      rw [List.take_length] at h1
      have HF := Lib.hid (show ok = true by rw [HF0.out]; exact h1)
      clear h1
      go_wp2
      go_ret
      exact ⟨by rw [HF.out]; rfl, hbw⟩
theorem VRt_all : ∀ n, VRtA n
  | 0 => fun x cs d w hn => absurd x.nodes_pos (by omega)
  | n + 1 => VRtA_of (VRt_all n)

def VMnA (n : Nat) : Prop := ∀ (x : V) (cs : List Value) (w : World), x.nodes ≤ n → Rd w x.d cs → x.bulk ≤ 4294967295 →
  Calls Tryd.prog 73 #[.agg cs.toArray] w fun e w' => e = .returned (.int .i64 (x.nodes : Nat)) ∧ Below w.heap.size w w'
set_option maxHeartbeats 2000000 in
set_option maxRecDepth 10000 in
theorem VMnA_of {n : Nat} (hA : VMnA n) : VMnA (n + 1) := by
  intro x cs w hn h hbk
  obtain ⟨k, m, e, s, kids, v1, rfl, rfl, hkids⟩ := V.lay h
  have hnk : V.nodess kids ≤ n := by simp only [V.nodes] at hn; omega
  have hkb : kids.length + V.bulks kids ≤ 4294967295 := by simp only [V.bulk] at hbk; omega
  have hnb := V.nodess_bulks kids
  obtain ⟨a2, c2, rfl, hg⟩ := hkids.values
  obtain ⟨W0, hW0⟩ : ∃ W0, W0 = w.alloc (.cells #[.int .i64 k, .int .i64 m, .int .i64 e, .string ⟨s.toArray⟩, .slice a2 kids.length c2] 41) := ⟨_, rfl⟩
  have HW := Lib.hid hW0
  have hA0 : Below w.heap.size w W0 := by rw [hW0]; exact (Below.refl _ _).alloc (Nat.le_refl _) _
  have hz : w.heap.size < W0.heap.size := by rw [hW0]; simp
  have KB : Hid (∀ W, Below W0.heap.size W0 W → W.cell? ⟨w.heap.size, 4, none⟩ = some (.slice a2 kids.length c2)) := by
    intro W hb
    obtain ⟨hc, _⟩ := bcell hb
    simp only [hc _ _ hz]; subst hW0; simp
  clear hW0 h hkids hbk
  go_enter Tryd.func73, Tryd.ntmps73
  go_wp2
  rw [← HW.out]
  go_loopw [3, 4] (fun x i wr => ∃ (j : Nat), j ≤ kids.length ∧ i = .int .i64 j ∧ x = .int .i64 (1 + V.nodess (kids.take j) : Nat) ∧ Below W0.heap.size W0 wr) (fun _ i _ => kids.length - (intOf i).toNat)
  case atStart => exact ⟨0, Nat.zero_le _, rfl, by simp [V.nodess], Below.refl _ _⟩
  case round =>
    obtain ⟨j, hj, rfl, rfl, hbel⟩ := hrel
    have f5 := KB.out _ hbel
    have hbw := below2 hA0 hbel (Nat.le_refl _)
    by_cases hlt : j < kids.length
    · obtain ⟨_, _, b, o, rfl, hb, hcell⟩ := hg (by intro e; rw [e] at hlt; simp at hlt)
      obtain ⟨v0, v1, v2, v3, v4, hr, d0, d1, d2, d3, d4⟩ := hcell j hlt
      clear hcell hg
      obtain ⟨k1, k2, k3, s4, a6, n6, m6, hcs⟩ := V.form hr
      simp only [List.cons.injEq, and_true] at hcs
      obtain ⟨rfl, rfl, rfl, rfl, rfl⟩ := hcs
      have hbc := (bcell hbw).1
      rw [← hbc _ _ hb] at d0 d1 d2 d3 d4
      clear hbc
      have hi1 : (0 : Int) ≤ j := by omega
      have hi3 : (j : Int) < kids.length := by omega
      have hn1 := V.nodes_get kids j hlt
      have HC := Lib.hid (hA kids[j] _ wr (Nat.le_trans hn1 hnk) (hr.below hbw) (V.bulk_get' hkb j hlt))
      have HS := Lib.hid (V.nodes_split kids j hlt)
      have ht1 := V.nodess_take kids j
      obtain ⟨q, hq⟩ : ∃ q, V.nodess (kids.take j) = q := ⟨_, rfl⟩
      rw [hq] at HS ht1 ⊢
      clear hq
      obtain ⟨p, hp⟩ : ∃ p, kids[j].nodes = p := ⟨_, rfl⟩
      rw [hp] at HS hn1 HC
      clear hp
      go_wp2_with (go_at_call 73; refine HC.out.mono ?_; rintro e w1 ⟨rfl, hb1⟩)
      go_roundw
      case rel => exact ⟨j + 1, by omega, by go_num, by rw [HS.out]; go_num, below2 hbel hb1 (Nat.le_refl _)⟩
      case measure => simp [intOf]; omega
    · obtain rfl : j = kids.length := by omega
      rw [List.take_length]
      go_wp2
      go_ret
      exact ⟨rfl, hbw⟩
theorem VMn_all : ∀ n, VMnA n
  | 0 => fun x cs w hn => absurd x.nodes_pos (by omega)
  | n + 1 => VMnA_of (VMn_all n)

set_option maxHeartbeats 400000 in
set_option maxRecDepth 10000 in
theorem valueOk_spec (x : V) (cs : List Value) (w : World) (h : Rd w x.d cs) (hwf : x.wf) (hbk : x.bulk ≤ 4294967295) :
    Calls Tryd.prog 44 #[.agg cs.toArray] w fun e w' => e = .returned (.bool x.ok) ∧ Below w.heap.size w w' := by
  obtain ⟨k, m, e, s, a2, n2, c2, rfl⟩ := V.form h
  obtain ⟨W0, hW0⟩ : ∃ W0, W0 = w.alloc (.cells #[.int .i64 k, .int .i64 m, .int .i64 e, .string ⟨s.toArray⟩, .slice a2 n2 c2] 41) := ⟨_, rfl⟩
  have HW := Lib.hid hW0
  have hA : Below w.heap.size w W0 := by rw [hW0]; exact (Below.refl _ _).alloc (Nat.le_refl _) _
  have hz : w.heap.size < W0.heap.size := by rw [hW0]; simp
  have KB : Hid (∀ W, Below W0.heap.size W0 W → W.cell? ⟨w.heap.size, 0, none⟩ = some (.int .i64 k) ∧ W.cell? ⟨w.heap.size, 1, none⟩ = some (.int .i64 m) ∧ W.cell? ⟨w.heap.size, 2, none⟩ = some (.int .i64 e) ∧ W.cell? ⟨w.heap.size, 3, none⟩ = some (.string ⟨s.toArray⟩) ∧ W.cell? ⟨w.heap.size, 4, none⟩ = some (.slice a2 n2 c2)) := by
    intro W hb
    obtain ⟨hc, _⟩ := bcell hb
    simp only [hc _ _ hz]; subst hW0; simp
  have hnb := x.nodes_bulk
  have HR := Lib.hid (fun W (hb : Below W0.heap.size W0 W) => VRt_all x.nodes x _ 12 W (Nat.le_refl _) (h.below (below2 hA hb (Nat.le_refl _))) hwf hbk (by decide) (by decide))
  have HM := Lib.hid (fun W (hb : Below W0.heap.size W0 W) => VMn_all x.nodes x _ W (Nat.le_refl _) (h.below (below2 hA hb (Nat.le_refl _))) hbk)
  have hB := Below.refl W0.heap.size W0
  clear hW0 h
  go_enter Tryd.func44, Tryd.ntmps44
  cases hr : V.rightBy pairsOk 12 x with
  | true =>
    have HV := Lib.hid hr; clear hr
    go_wp2_with (first | (go_at_call 72; rw [← HW.out]; refine (HR.out _ hB).mono ?_; rw [HV.out]; rintro e w1 ⟨rfl, hb1⟩; obtain ⟨p0, p1, p2, p3, p4⟩ := KB.out _ hb1) | (go_at_call 73; refine (HM.out _ hb1).mono ?_; rintro e w2 ⟨rfl, hb2⟩))
    go_ret
    refine ⟨ret_bool ?_, below2 hA (below2 hb1 hb2 (Nat.le_refl _)) (Nat.le_refl _)⟩
    unfold V.ok; rw [HV.out, Bool.true_and, Bool.eq_iff_iff]; simp; omega
  | false =>
    have HV := Lib.hid hr; clear hr
    go_wp2_with (first | (go_at_call 72; rw [← HW.out]; refine (HR.out _ hB).mono ?_; rw [HV.out]; rintro e w1 ⟨rfl, hb1⟩))
    go_ret
    refine ⟨ret_bool ?_, below2 hA hb1 (Nat.le_refl _)⟩
    unfold V.ok; rw [HV.out]; rfl
end Go.Proofs.YtkeieeogkeonfaaDoor
