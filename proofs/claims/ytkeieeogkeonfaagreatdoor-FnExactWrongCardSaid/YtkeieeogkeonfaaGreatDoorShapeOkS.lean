/- When a shape is right but for its kids: the reference's l15Keys and l15Own. -/
import Derived.Test.YtkeieeogkeonfaaGreatDoorShapeIs
import Derived.Test.YtkeieeogkeonfaaGreatDoorRegion
namespace Go.Proofs.YtkeieeogkeonfaaGreatDoor
open Go.RowKit
open Go.Lib (validD)

theorem ixF_first (ls : List (List UInt8)) (k : Nat) (hk : k < ls.length) : ∀ i, ls[k] ∉ ls.take k → ixF (ls.drop 0) ls[k] i = i + k := by
  intro i h
  rw [List.drop_zero]
  induction ls generalizing k i with
  | nil => simp at hk
  | cons a r ih =>
    match k with
    | 0 => simp [ixF]
    | k + 1 =>
      simp only [List.take_succ_cons, List.mem_cons, not_or, List.getElem_cons_succ] at h ⊢
      unfold ixF; rw [if_neg (fun e => h.1 e.symm), ih k (by simpa using hk) (i + 1) h.2]; omega
theorem ixF_again (ls : List (List UInt8)) (k : Nat) (hk : k < ls.length) : ∀ i, ls[k] ∈ ls.take k → ixF ls ls[k] i ≠ i + k := by
  intro i h
  induction ls generalizing k i with
  | nil => simp at hk
  | cons a r ih =>
    match k with
    | 0 => simp at h
    | k + 1 =>
      simp only [List.take_succ_cons, List.mem_cons, List.getElem_cons_succ] at h ⊢
      unfold ixF; split
      · omega
      · rename_i hne
        rcases h with h | h
        · exact absurd h.symm hne
        · have := ih k (by simpa using hk) (i + 1) h; intro e; apply this; omega

set_option maxHeartbeats 8000000 in
set_option maxRecDepth 10000 in
theorem l15Keys_any (x : Sh) (cs : List Value) (w : World) (h : Rd w x.d cs) (hwf : x.wf) (hbk : x.bulk ≤ 4294967295) :
    Calls Tryz.prog 78 #[.agg cs.toArray] w fun e w' => e = .returned (.bool (match x with | .mk _ _ _ ks m kids => Sh.fields ks m kids.length)) ∧ Below w.heap.size w w' := by
  obtain ⟨k, l, hi, ks, m, kids, v1, v2, rfl, rfl, hk, hkids⟩ := Sh.lay h
  obtain ⟨ok, hok⟩ : ∃ ok, Sh.fields ks m kids.length = ok := ⟨_, rfl⟩
  simp only [hok]
  have HOK := Lib.hid hok; clear hok
  have hbk1 : ks.length ≤ 4294967295 ∧ kids.length ≤ 4294967295 := by simp only [Sh.bulk] at hbk; omega
  obtain ⟨hn1, hn2⟩ := hbk1
  have hstr : ∀ i (hi : i < ks.length), ks[i].length ≤ 4294967295 := fun i hi => by
    have h1 := ssBulk_snoc ks i hi; have h2 := ssBulk_take ks (i + 1); simp only [Sh.bulk] at hbk; omega
  have hrow := hk.strRow
  obtain ⟨a1, c1, rfl, hg⟩ := hk.strs
  obtain ⟨a2, c2, rfl⟩ := Rd.sl_form hkids
  rw [Sh.ds_map, List.length_map]
  have hm1 := hwf.2.2.2.2.1.1
  have hm2 := hwf.2.2.2.2.1.2
  clear hwf hbk h
  obtain ⟨W0, hW0⟩ : ∃ W0, W0 = w.alloc (.cells #[.int .i64 k, .int .i64 l, .int .i64 hi, .slice a1 ks.length c1, .int .i64 m, .slice a2 kids.length c2] 39) := ⟨_, rfl⟩
  have HW := Lib.hid hW0
  have hA : Below w.heap.size w W0 := by rw [hW0]; exact (Below.refl _ _).alloc (Nat.le_refl _) _
  have hz : w.heap.size < W0.heap.size := by rw [hW0]; simp
  have f3 : W0.cell? ⟨w.heap.size, 3, none⟩ = some (.slice a1 ks.length c1) := by rw [hW0]; simp
  have f4 : W0.cell? ⟨w.heap.size, 4, none⟩ = some (.int .i64 m) := by rw [hW0]; simp
  have f5 : W0.cell? ⟨w.heap.size, 5, none⟩ = some (.slice a2 kids.length c2) := by rw [hW0]; simp
  have hrow0 : StrRow W0 (.slice a1 ks.length c1) ks := by rw [hW0]; exact hrow.alloc _
  have KB : Hid (∀ W, Below W0.heap.size W0 W → W.cell? ⟨w.heap.size, 3, none⟩ = some (.slice a1 ks.length c1) ∧ W.cell? ⟨w.heap.size, 4, none⟩ = some (.int .i64 m) ∧ W.cell? ⟨w.heap.size, 5, none⟩ = some (.slice a2 kids.length c2)) := by
    intro W hb
    obtain ⟨hc, _⟩ := bcell hb
    simp only [hc _ _ hz]; exact ⟨f3, f4, f5⟩
  clear hW0 f3 f4 f5
  go_enter Tryz.func78, Tryz.ntmps78
  go_wp2
  rw [← HW.out]
  go_loopw [3] (fun i wr => ∃ (j : Nat), j ≤ ks.length ∧ i = .int .i64 j ∧ keysOk (ks.take j) = true ∧ Below W0.heap.size W0 wr) (fun i _ => ks.length - (intOf i).toNat)
  case atStart => exact ⟨0, Nat.zero_le _, rfl, by simp [keysOk], Below.refl _ _⟩
  case round =>
    obtain ⟨j, hj, rfl, hko, hbel⟩ := hrel
    have HKO := Lib.hid hko; clear hko
    obtain ⟨f3, f4, f5⟩ := KB.out _ hbel
    by_cases hlt : j < ks.length
    · obtain ⟨hc0, _, b, o, rfl, hb, hcell⟩ := hg (by intro e; rw [e] at hlt; simp at hlt)
      have hsl := hstr j hlt
      have hcj := hcell j hlt
      clear hcell hg hstr
      have hi1 : (0 : Int) ≤ j := by omega
      have hi3 : (j : Int) < ks.length := by omega
      have KC : Hid (∀ W, Below W0.heap.size W0 W → W.cell? ⟨b, o + j, none⟩ = some (.string ⟨ks[j].toArray⟩)) := fun W hB => by
        rw [(bcell (below2 hA hB (Nat.le_refl _))).1 _ _ hb]; exact hcj
      have HC1 := Lib.hid (fun W (hB : Below W0.heap.size W0 W) => l11At_any ks _ ks[j] W (hrow0.below hB) (by omega))
      have HT1 := Lib.hid (fun W => textOk_spec ks[j] W hsl)
      have hsn : keysOk (ks.take (j + 1)) = (keyOk ks[j] && decide (ks[j] ∉ ks.take j)) := by
        rw [List.take_succ_eq_append_getElem hlt, keysOk_snoc, HKO.out, Bool.true_and]
      have HSN := Lib.hid hsn
      have hB := hbel
      clear hsn hrow0 hrow hk hkids hcj
      by_cases q2 : validD ks[j] = true
      · have Q2 := Lib.hid q2
        by_cases q1 : ks[j].length ≤ 100
        · have q1' := decide_eq_false (show ¬ (100 : Int) < ks[j].length by omega)
          by_cases q3 : ks[j] ∈ ks.take j
          · have Q3 := Lib.hid (ixF_again ks j hlt 0 q3)
            have HF : Hid (Sh.fields ks m kids.length = false) := by
              show _ = _
              have : keysOk (ks.take (j + 1)) = false := by rw [HSN.out]; simp [q3]
              unfold Sh.fields; rw [keysOk_take _ this]; rfl
            have q4 : ((ixF ks ks[j] 0) != (j : Int)) = true := by have := Q3.out; simp at this ⊢; omega
            clear q2 q3
            go_wp2_with fail
            first | (go_region_held3 (fun W => (W.cell? ⟨w.heap.size, 3, none⟩ = some (.slice (some ⟨b, o, none⟩) ks.length c1) ∧ W.cell? ⟨w.heap.size, 4, none⟩ = some (.int .i64 m) ∧ W.cell? ⟨w.heap.size, 5, none⟩ = some (.slice a2 kids.length c2)) ∧ W.cell? ⟨b, o + j, none⟩ = some (.string ⟨ks[j].toArray⟩))
              (first | exact ⟨KB.out _ hB, KC.out _ hB⟩ | exact ⟨KB.out _ hB.drew, KC.out _ hB.drew⟩)
              (first | (go_at_call 55; with_reducible refine (HT1.out _).mono ?_; rw [Q2.out]; rintro e w1 ⟨rfl, hb1⟩; replace hB := below2 (by first | exact hB | exact hB.drew) hb1 (Nat.le_refl _)) | (go_at_call 36; refine (HC1.out _ (by first | exact hB | exact hB.drew)).mono ?_; rintro e w1 ⟨rfl, hb1⟩; replace hB := below2 (by first | exact hB | exact hB.drew) hb1 (Nat.le_refl _)))) | fail
            go_wp2
            go_ret
            exact ⟨by rw [← HOK.out, HF.out]; rfl, below2 hA hB (Nat.le_refl _)⟩
          · have Q3 := Lib.hid (ixF_first ks j hlt 0 q3)
            have HK : Hid (keysOk (ks.take (j + 1)) = true) := by
              show _ = _; rw [HSN.out]; simp [q3, keyOk, q1, q2]
            have q4 : ((ixF ks ks[j] 0) != (j : Int)) = false := by have := Q3.out; simp at this ⊢; omega
            clear q2 q3
            go_wp2_with fail
            first | (go_region_held3 (fun W => (W.cell? ⟨w.heap.size, 3, none⟩ = some (.slice (some ⟨b, o, none⟩) ks.length c1) ∧ W.cell? ⟨w.heap.size, 4, none⟩ = some (.int .i64 m) ∧ W.cell? ⟨w.heap.size, 5, none⟩ = some (.slice a2 kids.length c2)) ∧ W.cell? ⟨b, o + j, none⟩ = some (.string ⟨ks[j].toArray⟩))
              (first | exact ⟨KB.out _ hB, KC.out _ hB⟩ | exact ⟨KB.out _ hB.drew, KC.out _ hB.drew⟩)
              (first | (go_at_call 55; with_reducible refine (HT1.out _).mono ?_; rw [Q2.out]; rintro e w1 ⟨rfl, hb1⟩; replace hB := below2 (by first | exact hB | exact hB.drew) hb1 (Nat.le_refl _)) | (go_at_call 36; refine (HC1.out _ (by first | exact hB | exact hB.drew)).mono ?_; rintro e w1 ⟨rfl, hb1⟩; replace hB := below2 (by first | exact hB | exact hB.drew) hb1 (Nat.le_refl _)))) | fail
            go_wp2
            go_roundw
            case rel => exact ⟨j + 1, by omega, by go_num, HK.out, hB⟩
            case measure => simp [intOf]; omega
        · have q1' := decide_eq_true (show (100 : Int) < ks[j].length by omega)
          have HF : Hid (Sh.fields ks m kids.length = false) := by
            show _ = _
            have : keysOk (ks.take (j + 1)) = false := by rw [HSN.out]; simp [keyOk, q1]
            unfold Sh.fields; rw [keysOk_take _ this]; rfl
          clear q2 q1
          go_wp2_with fail
          refine wp_region_held_drew (S := (fun W => (W.cell? ⟨w.heap.size, 3, none⟩ = some (.slice (some ⟨b, o, none⟩) ks.length c1) ∧ W.cell? ⟨w.heap.size, 4, none⟩ = some (.int .i64 m) ∧ W.cell? ⟨w.heap.size, 5, none⟩ = some (.slice a2 kids.length c2)) ∧ W.cell? ⟨b, o + j, none⟩ = some (.string ⟨ks[j].toArray⟩))) (by kernel_rfl) ?_ (fun hHeld => ?_)
          · ((try dsimp only); (first | exact ⟨KB.out _ hB, KC.out _ hB⟩ | exact ⟨KB.out _ hB.drew, KC.out _ hB.drew⟩))
          refine takeW (i := 0) (fuel := 27) (d := some 11) (v := ?vb0) (listed' := #[true, false, false, false, false, false, false, false, false, false, false, false, false, false, false, false, false, false, false, false, false, false, false, false, false, false, false, false]) rfl rfl (by kernel_rfl) (by kernel_rfl) (by kernel_rfl) (by kernel_rfl) (by kernel_rfl) (fun _ _ _ h => h) (by kernel_rfl) (by assumption) ?hb0 ?rb0
          case hb0 => (intro w hSw; (try dsimp only at hSw); go_simp; all_goals with_reducible rfl)
          simp only [skipAct, Act.put, List.setIfInBounds_toArray, List.set_cons_zero, List.set_cons_succ]
          refine takeW (i := 1) (fuel := 26) (d := some 12) (v := ?vb1) (listed' := #[true, true, false, false, false, false, false, false, false, false, false, false, false, false, false, false, false, false, false, false, false, false, false, false, false, false, false, false]) rfl rfl (by kernel_rfl) (by kernel_rfl) (by kernel_rfl) (by kernel_rfl) (by kernel_rfl) (fun _ _ _ h => h) (by kernel_rfl) (by assumption) ?hb1 ?rb1
          case hb1 => (intro w hSw; (try dsimp only at hSw); go_simp; all_goals with_reducible rfl)
          simp only [skipAct, Act.put, List.setIfInBounds_toArray, List.set_cons_zero, List.set_cons_succ]
          refine takeW (i := 2) (fuel := 25) (d := some 13) (v := ?vb2) (listed' := #[true, true, true, false, false, false, false, false, false, false, false, false, false, false, false, false, false, false, false, false, false, false, false, false, false, false, false, false]) rfl rfl (by kernel_rfl) (by kernel_rfl) (by kernel_rfl) (by kernel_rfl) (by kernel_rfl) (fun _ _ _ h => h) (by kernel_rfl) (by assumption) ?hb2 ?rb2
          case hb2 => (intro w hSw; (try dsimp only at hSw); go_simp; all_goals with_reducible rfl)
          simp only [skipAct, Act.put, List.setIfInBounds_toArray, List.set_cons_zero, List.set_cons_succ]
          refine takeW (i := 3) (fuel := 24) (d := some 14) (v := ?vb3) (listed' := #[true, true, true, true, false, false, false, false, false, false, false, false, false, false, false, false, false, false, false, false, false, false, false, false, false, false, false, false]) rfl rfl (by kernel_rfl) (by kernel_rfl) (by kernel_rfl) (by kernel_rfl) (by kernel_rfl) (fun _ _ _ h => h) (by kernel_rfl) (by assumption) ?hb3 ?rb3
          case hb3 => (intro w hSw; (try dsimp only at hSw); go_simp; all_goals with_reducible rfl)
          simp only [skipAct, Act.put, List.setIfInBounds_toArray, List.set_cons_zero, List.set_cons_succ]
          refine takeW (i := 4) (fuel := 23) (d := some 15) (v := ?vb4) (listed' := #[true, true, true, true, true, false, false, false, false, false, false, false, false, false, false, false, false, false, false, false, false, false, false, false, false, false, false, false]) rfl rfl (by kernel_rfl) (by kernel_rfl) (by kernel_rfl) (by kernel_rfl) (by kernel_rfl) (fun _ _ _ h => h) (by kernel_rfl) (by assumption) ?hb4 ?rb4
          case hb4 => (intro w hSw; (try dsimp only at hSw); go_simp; all_goals with_reducible rfl)
          simp only [skipAct, Act.put, List.setIfInBounds_toArray, List.set_cons_zero, List.set_cons_succ]
          refine takeC (i := 5) (fuel := 22) (d := some 16) (listed' := #[true, true, true, true, true, true, false, false, false, false, false, false, false, false, false, false, false, false, false, false, false, false, false, false, false, false, false, false]) rfl rfl (by kernel_rfl) (by kernel_rfl) (by kernel_rfl) (by kernel_rfl) (fun K hK => ?cb5)
          go_simp
          (go_at_call 55; with_reducible refine (HT1.out _).mono ?_; rw [Q2.out]; rintro e w1 ⟨rfl, hb1⟩; replace hB := below2 (by first | exact hB | exact hB.drew) hb1 (Nat.le_refl _))
          go_wp2_with fail
          refine hK.out _ _ ?kb5 (fun hHeld => ?nb5)
          case kb5 => ((try dsimp only); (first | exact ⟨KB.out _ hB, KC.out _ hB⟩ | exact ⟨KB.out _ hB.drew, KC.out _ hB.drew⟩))
          clear hK K
          try simp only [skipAct, Act.put, List.setIfInBounds_toArray, List.set_cons_zero, List.set_cons_succ]
          refine takeW (i := 6) (fuel := 21) (d := some 17) (v := ?vb6) (listed' := #[true, true, true, true, true, true, true, false, false, false, false, false, false, false, false, false, false, false, false, false, false, false, false, false, false, false, false, false]) rfl rfl (by kernel_rfl) (by kernel_rfl) (by kernel_rfl) (by kernel_rfl) (by kernel_rfl) (fun _ _ _ h => h) (by kernel_rfl) (by assumption) ?hb6 ?rb6
          case hb6 => (intro w hSw; (try dsimp only at hSw); go_simp; all_goals with_reducible rfl)
          simp only [skipAct, Act.put, List.setIfInBounds_toArray, List.set_cons_zero, List.set_cons_succ]
          refine takeW (i := 7) (fuel := 20) (d := some 18) (v := ?vb7) (listed' := #[true, true, true, true, true, true, true, true, false, false, false, false, false, false, false, false, false, false, false, false, false, false, false, false, false, false, false, false]) rfl rfl (by kernel_rfl) (by kernel_rfl) (by kernel_rfl) (by kernel_rfl) (by kernel_rfl) (fun _ _ _ h => h) (by kernel_rfl) (by assumption) ?hb7 ?rb7
          case hb7 => (intro w hSw; (try dsimp only at hSw); go_simp; all_goals with_reducible rfl)
          simp only [skipAct, Act.put, List.setIfInBounds_toArray, List.set_cons_zero, List.set_cons_succ]
          refine takeW (i := 8) (fuel := 19) (d := some 19) (v := ?vb8) (listed' := #[true, true, true, true, true, true, true, true, true, false, false, false, false, false, false, false, false, false, false, false, false, false, false, false, false, false, false, false]) rfl rfl (by kernel_rfl) (by kernel_rfl) (by kernel_rfl) (by kernel_rfl) (by kernel_rfl) (fun _ _ _ h => h) (by kernel_rfl) (by assumption) ?hb8 ?rb8
          case hb8 => (intro w hSw; (try dsimp only at hSw); go_simp; all_goals with_reducible rfl)
          simp only [skipAct, Act.put, List.setIfInBounds_toArray, List.set_cons_zero, List.set_cons_succ]
          refine takeW (i := 9) (fuel := 18) (d := some 20) (v := ?vb9) (listed' := #[true, true, true, true, true, true, true, true, true, true, false, false, false, false, false, false, false, false, false, false, false, false, false, false, false, false, false, false]) rfl rfl (by kernel_rfl) (by kernel_rfl) (by kernel_rfl) (by kernel_rfl) (by kernel_rfl) (fun _ _ _ h => h) (by kernel_rfl) (by assumption) ?hb9 ?rb9
          case hb9 => (intro w hSw; (try dsimp only at hSw); go_simp; all_goals with_reducible rfl)
          simp only [skipAct, Act.put, List.setIfInBounds_toArray, List.set_cons_zero, List.set_cons_succ]
          refine takeW (i := 10) (fuel := 17) (d := some 21) (v := ?vb10) (listed' := #[true, true, true, true, true, true, true, true, true, true, true, false, false, false, false, false, false, false, false, false, false, false, false, false, false, false, false, false]) rfl rfl (by kernel_rfl) (by kernel_rfl) (by kernel_rfl) (by kernel_rfl) (by kernel_rfl) (fun _ _ _ h => h) (by kernel_rfl) (by assumption) ?hb10 ?rb10
          case hb10 => (intro w hSw; (try dsimp only at hSw); go_simp; all_goals with_reducible rfl)
          simp only [skipAct, Act.put, List.setIfInBounds_toArray, List.set_cons_zero, List.set_cons_succ]
          refine takeW (i := 11) (fuel := 16) (d := some 22) (v := ?vb11) (listed' := #[true, true, true, true, true, true, true, true, true, true, true, true, false, false, false, false, false, false, false, false, false, false, false, false, false, false, false, false]) rfl rfl (by kernel_rfl) (by kernel_rfl) (by kernel_rfl) (by kernel_rfl) (by kernel_rfl) (fun _ _ _ h => h) (by kernel_rfl) (by assumption) ?hb11 ?rb11
          case hb11 => (intro w hSw; (try dsimp only at hSw); go_simp; all_goals with_reducible rfl)
          simp only [skipAct, Act.put, List.setIfInBounds_toArray, List.set_cons_zero, List.set_cons_succ]
          refine takeW (i := 12) (fuel := 15) (d := some 23) (v := ?vb12) (listed' := #[true, true, true, true, true, true, true, true, true, true, true, true, true, false, false, false, false, false, false, false, false, false, false, false, false, false, false, false]) rfl rfl (by kernel_rfl) (by kernel_rfl) (by kernel_rfl) (by kernel_rfl) (by kernel_rfl) (fun _ _ _ h => h) (by kernel_rfl) (by assumption) ?hb12 ?rb12
          case hb12 => (intro w hSw; (try dsimp only at hSw); go_simp; all_goals with_reducible rfl)
          simp only [skipAct, Act.put, List.setIfInBounds_toArray, List.set_cons_zero, List.set_cons_succ]
          refine takeW (i := 13) (fuel := 14) (d := some 24) (v := ?vb13) (listed' := #[true, true, true, true, true, true, true, true, true, true, true, true, true, true, false, false, false, false, false, false, false, false, false, false, false, false, false, false]) rfl rfl (by kernel_rfl) (by kernel_rfl) (by kernel_rfl) (by kernel_rfl) (by kernel_rfl) (fun _ _ _ h => h) (by kernel_rfl) (by assumption) ?hb13 ?rb13
          case hb13 => (intro w hSw; (try dsimp only at hSw); go_simp; all_goals with_reducible rfl)
          simp only [skipAct, Act.put, List.setIfInBounds_toArray, List.set_cons_zero, List.set_cons_succ]
          refine takeW (i := 14) (fuel := 13) (d := some 25) (v := ?vb14) (listed' := #[true, true, true, true, true, true, true, true, true, true, true, true, true, true, true, false, false, false, false, false, false, false, false, false, false, false, false, false]) rfl rfl (by kernel_rfl) (by kernel_rfl) (by kernel_rfl) (by kernel_rfl) (by kernel_rfl) (fun _ _ _ h => h) (by kernel_rfl) (by assumption) ?hb14 ?rb14
          case hb14 => (intro w hSw; (try dsimp only at hSw); go_simp; all_goals with_reducible rfl)
          simp only [skipAct, Act.put, List.setIfInBounds_toArray, List.set_cons_zero, List.set_cons_succ]
          refine takeW (i := 15) (fuel := 12) (d := some 26) (v := ?vb15) (listed' := #[true, true, true, true, true, true, true, true, true, true, true, true, true, true, true, true, false, false, false, false, false, false, false, false, false, false, false, false]) rfl rfl (by kernel_rfl) (by kernel_rfl) (by kernel_rfl) (by kernel_rfl) (by kernel_rfl) (fun _ _ _ h => h) (by kernel_rfl) (by assumption) ?hb15 ?rb15
          case hb15 => (intro w hSw; (try dsimp only at hSw); go_simp; all_goals with_reducible rfl)
          simp only [skipAct, Act.put, List.setIfInBounds_toArray, List.set_cons_zero, List.set_cons_succ]
          refine takeW (i := 16) (fuel := 11) (d := some 27) (v := ?vb16) (listed' := #[true, true, true, true, true, true, true, true, true, true, true, true, true, true, true, true, true, false, false, false, false, false, false, false, false, false, false, false]) rfl rfl (by kernel_rfl) (by kernel_rfl) (by kernel_rfl) (by kernel_rfl) (by kernel_rfl) (fun _ _ _ h => h) (by kernel_rfl) (by assumption) ?hb16 ?rb16
          case hb16 => (intro w hSw; (try dsimp only at hSw); go_simp; all_goals with_reducible rfl)
          simp only [skipAct, Act.put, List.setIfInBounds_toArray, List.set_cons_zero, List.set_cons_succ]
          refine takeS (fuel := 1) (listed' := #[true, true, true, true, true, true, true, true, true, true, true, true, true, true, true, true, true, true, true, true, true, true, true, true, true, true, true, false]) (by kernel_rfl) (fun _ _ _ _ h => h) (by assumption) [(17, 28), (18, 29), (19, 30), (20, 31), (21, 32), (22, 33), (23, 34), (24, 35), (25, 36), (26, 37)] (by kernel_rfl) (by kernel_rfl) (by kernel_rfl) ?_
          simp only [skipAct, Act.put, List.setIfInBounds_toArray, List.set_cons_zero, List.set_cons_succ]
          refine takeW (i := 27) (fuel := 0) (d := some 38) (v := ?vb27) (listed' := #[true, true, true, true, true, true, true, true, true, true, true, true, true, true, true, true, true, true, true, true, true, true, true, true, true, true, true, true]) rfl rfl (by kernel_rfl) (by kernel_rfl) (by kernel_rfl) (by kernel_rfl) (by kernel_rfl) (fun _ _ _ h => h) (by kernel_rfl) (by assumption) ?hb27 ?rb27
          case hb27 => (intro w hSw; (try dsimp only at hSw); go_simp; all_goals with_reducible rfl)
          simp only [skipAct, Act.put, List.setIfInBounds_toArray, List.set_cons_zero, List.set_cons_succ]
          refine wpAnyH_done (by kernel_rfl) ?_ _
          go_wp2
          go_ret
          exact ⟨by rw [← HOK.out, HF.out]; rfl, below2 hA hB (Nat.le_refl _)⟩
      · have Q2 := Lib.hid (show validD ks[j] = false by simpa using q2)
        have HF : Hid (Sh.fields ks m kids.length = false) := by
          show _ = _
          have : keysOk (ks.take (j + 1)) = false := by rw [HSN.out]; simp [keyOk, q2]
          unfold Sh.fields; rw [keysOk_take _ this]; rfl
        clear q2
        go_wp2_with fail
        refine wp_region_held_drew (S := (fun W => (W.cell? ⟨w.heap.size, 3, none⟩ = some (.slice (some ⟨b, o, none⟩) ks.length c1) ∧ W.cell? ⟨w.heap.size, 4, none⟩ = some (.int .i64 m) ∧ W.cell? ⟨w.heap.size, 5, none⟩ = some (.slice a2 kids.length c2)) ∧ W.cell? ⟨b, o + j, none⟩ = some (.string ⟨ks[j].toArray⟩))) (by kernel_rfl) ?_ (fun hHeld => ?_)
        · ((try dsimp only); (first | exact ⟨KB.out _ hB, KC.out _ hB⟩ | exact ⟨KB.out _ hB.drew, KC.out _ hB.drew⟩))
        refine takeW (i := 0) (fuel := 27) (d := some 11) (v := ?va0) (listed' := #[true, false, false, false, false, false, false, false, false, false, false, false, false, false, false, false, false, false, false, false, false, false, false, false, false, false, false, false]) rfl rfl (by kernel_rfl) (by kernel_rfl) (by kernel_rfl) (by kernel_rfl) (by kernel_rfl) (fun _ _ _ h => h) (by kernel_rfl) (by assumption) ?ha0 ?ra0
        case ha0 => (intro w hSw; (try dsimp only at hSw); go_simp; all_goals with_reducible rfl)
        simp only [skipAct, Act.put, List.setIfInBounds_toArray, List.set_cons_zero, List.set_cons_succ]
        refine takeW (i := 1) (fuel := 26) (d := some 12) (v := ?va1) (listed' := #[true, true, false, false, false, false, false, false, false, false, false, false, false, false, false, false, false, false, false, false, false, false, false, false, false, false, false, false]) rfl rfl (by kernel_rfl) (by kernel_rfl) (by kernel_rfl) (by kernel_rfl) (by kernel_rfl) (fun _ _ _ h => h) (by kernel_rfl) (by assumption) ?ha1 ?ra1
        case ha1 => (intro w hSw; (try dsimp only at hSw); go_simp; all_goals with_reducible rfl)
        simp only [skipAct, Act.put, List.setIfInBounds_toArray, List.set_cons_zero, List.set_cons_succ]
        refine takeW (i := 2) (fuel := 25) (d := some 13) (v := ?va2) (listed' := #[true, true, true, false, false, false, false, false, false, false, false, false, false, false, false, false, false, false, false, false, false, false, false, false, false, false, false, false]) rfl rfl (by kernel_rfl) (by kernel_rfl) (by kernel_rfl) (by kernel_rfl) (by kernel_rfl) (fun _ _ _ h => h) (by kernel_rfl) (by assumption) ?ha2 ?ra2
        case ha2 => (intro w hSw; (try dsimp only at hSw); go_simp; all_goals with_reducible rfl)
        simp only [skipAct, Act.put, List.setIfInBounds_toArray, List.set_cons_zero, List.set_cons_succ]
        refine takeW (i := 3) (fuel := 24) (d := some 14) (v := ?va3) (listed' := #[true, true, true, true, false, false, false, false, false, false, false, false, false, false, false, false, false, false, false, false, false, false, false, false, false, false, false, false]) rfl rfl (by kernel_rfl) (by kernel_rfl) (by kernel_rfl) (by kernel_rfl) (by kernel_rfl) (fun _ _ _ h => h) (by kernel_rfl) (by assumption) ?ha3 ?ra3
        case ha3 => (intro w hSw; (try dsimp only at hSw); go_simp; all_goals with_reducible rfl)
        simp only [skipAct, Act.put, List.setIfInBounds_toArray, List.set_cons_zero, List.set_cons_succ]
        refine takeW (i := 4) (fuel := 23) (d := some 15) (v := ?va4) (listed' := #[true, true, true, true, true, false, false, false, false, false, false, false, false, false, false, false, false, false, false, false, false, false, false, false, false, false, false, false]) rfl rfl (by kernel_rfl) (by kernel_rfl) (by kernel_rfl) (by kernel_rfl) (by kernel_rfl) (fun _ _ _ h => h) (by kernel_rfl) (by assumption) ?ha4 ?ra4
        case ha4 => (intro w hSw; (try dsimp only at hSw); go_simp; all_goals with_reducible rfl)
        simp only [skipAct, Act.put, List.setIfInBounds_toArray, List.set_cons_zero, List.set_cons_succ]
        refine takeC (i := 5) (fuel := 22) (d := some 16) (listed' := #[true, true, true, true, true, true, false, false, false, false, false, false, false, false, false, false, false, false, false, false, false, false, false, false, false, false, false, false]) rfl rfl (by kernel_rfl) (by kernel_rfl) (by kernel_rfl) (by kernel_rfl) (fun K hK => ?ca5)
        go_simp
        (go_at_call 55; with_reducible refine (HT1.out _).mono ?_; rw [Q2.out]; rintro e w1 ⟨rfl, hb1⟩; replace hB := below2 (by first | exact hB | exact hB.drew) hb1 (Nat.le_refl _))
        go_wp2_with fail
        refine hK.out _ _ ?ka5 (fun hHeld => ?na5)
        case ka5 => ((try dsimp only); (first | exact ⟨KB.out _ hB, KC.out _ hB⟩ | exact ⟨KB.out _ hB.drew, KC.out _ hB.drew⟩))
        clear hK K
        try simp only [skipAct, Act.put, List.setIfInBounds_toArray, List.set_cons_zero, List.set_cons_succ]
        refine takeW (i := 6) (fuel := 21) (d := some 17) (v := ?va6) (listed' := #[true, true, true, true, true, true, true, false, false, false, false, false, false, false, false, false, false, false, false, false, false, false, false, false, false, false, false, false]) rfl rfl (by kernel_rfl) (by kernel_rfl) (by kernel_rfl) (by kernel_rfl) (by kernel_rfl) (fun _ _ _ h => h) (by kernel_rfl) (by assumption) ?ha6 ?ra6
        case ha6 => (intro w hSw; (try dsimp only at hSw); go_simp; all_goals with_reducible rfl)
        simp only [skipAct, Act.put, List.setIfInBounds_toArray, List.set_cons_zero, List.set_cons_succ]
        refine takeW (i := 7) (fuel := 20) (d := some 18) (v := ?va7) (listed' := #[true, true, true, true, true, true, true, true, false, false, false, false, false, false, false, false, false, false, false, false, false, false, false, false, false, false, false, false]) rfl rfl (by kernel_rfl) (by kernel_rfl) (by kernel_rfl) (by kernel_rfl) (by kernel_rfl) (fun _ _ _ h => h) (by kernel_rfl) (by assumption) ?ha7 ?ra7
        case ha7 => (intro w hSw; (try dsimp only at hSw); go_simp; all_goals with_reducible rfl)
        simp only [skipAct, Act.put, List.setIfInBounds_toArray, List.set_cons_zero, List.set_cons_succ]
        refine takeS (fuel := 13) (listed' := #[true, true, true, true, true, true, true, true, true, true, true, true, true, true, true, false, false, false, false, false, false, false, false, false, false, false, false, false]) (by kernel_rfl) (fun _ _ _ _ h => h) (by assumption) [(8, 19), (9, 20), (10, 21), (11, 22), (12, 23), (13, 24), (14, 25)] (by kernel_rfl) (by kernel_rfl) (by kernel_rfl) ?_
        simp only [skipAct, Act.put, List.setIfInBounds_toArray, List.set_cons_zero, List.set_cons_succ]
        refine takeW (i := 15) (fuel := 12) (d := some 26) (v := ?va15) (listed' := #[true, true, true, true, true, true, true, true, true, true, true, true, true, true, true, true, false, false, false, false, false, false, false, false, false, false, false, false]) rfl rfl (by kernel_rfl) (by kernel_rfl) (by kernel_rfl) (by kernel_rfl) (by kernel_rfl) (fun _ _ _ h => h) (by kernel_rfl) (by assumption) ?ha15 ?ra15
        case ha15 => (intro w hSw; (try dsimp only at hSw); go_simp; all_goals with_reducible rfl)
        simp only [skipAct, Act.put, List.setIfInBounds_toArray, List.set_cons_zero, List.set_cons_succ]
        refine takeW (i := 16) (fuel := 11) (d := some 27) (v := ?va16) (listed' := #[true, true, true, true, true, true, true, true, true, true, true, true, true, true, true, true, true, false, false, false, false, false, false, false, false, false, false, false]) rfl rfl (by kernel_rfl) (by kernel_rfl) (by kernel_rfl) (by kernel_rfl) (by kernel_rfl) (fun _ _ _ h => h) (by kernel_rfl) (by assumption) ?ha16 ?ra16
        case ha16 => (intro w hSw; (try dsimp only at hSw); go_simp; all_goals with_reducible rfl)
        simp only [skipAct, Act.put, List.setIfInBounds_toArray, List.set_cons_zero, List.set_cons_succ]
        refine takeS (fuel := 1) (listed' := #[true, true, true, true, true, true, true, true, true, true, true, true, true, true, true, true, true, true, true, true, true, true, true, true, true, true, true, false]) (by kernel_rfl) (fun _ _ _ _ h => h) (by assumption) [(17, 28), (18, 29), (19, 30), (20, 31), (21, 32), (22, 33), (23, 34), (24, 35), (25, 36), (26, 37)] (by kernel_rfl) (by kernel_rfl) (by kernel_rfl) ?_
        simp only [skipAct, Act.put, List.setIfInBounds_toArray, List.set_cons_zero, List.set_cons_succ]
        refine takeW (i := 27) (fuel := 0) (d := some 38) (v := ?va27) (listed' := #[true, true, true, true, true, true, true, true, true, true, true, true, true, true, true, true, true, true, true, true, true, true, true, true, true, true, true, true]) rfl rfl (by kernel_rfl) (by kernel_rfl) (by kernel_rfl) (by kernel_rfl) (by kernel_rfl) (fun _ _ _ h => h) (by kernel_rfl) (by assumption) ?ha27 ?ra27
        case ha27 => (intro w hSw; (try dsimp only at hSw); go_simp; all_goals with_reducible rfl)
        simp only [skipAct, Act.put, List.setIfInBounds_toArray, List.set_cons_zero, List.set_cons_succ]
        refine wpAnyH_done (by kernel_rfl) ?_ _
        go_wp2
        go_ret
        exact ⟨by rw [← HOK.out, HF.out]; rfl, below2 hA hB (Nat.le_refl _)⟩
    · obtain rfl : j = ks.length := by omega
      have HK := HKO.out
      rw [List.take_length] at HK
      have HF : Hid (ok = (decide (kids.length = ks.length) && (decide (0 ≤ m) && decide (m ≤ ks.length)))) := by
        show _ = _; rw [← HOK.out]; unfold Sh.fields; rw [HK]; rfl
      clear HK
      have hbelw := below2 hA hbel (Nat.le_refl _)
      by_cases q : kids.length = ks.length
      · have q' : ((ks.length : Int) == kids.length) = true := by simp [q]
        have Q := Lib.hid q; clear q
        go_wp2_with (go_at_call 52; refine (l01In_any _ _ _ _).mono ?_; rintro e w1 ⟨rfl, rfl⟩)
        go_ret
        exact ⟨by rw [HF.out, decide_eq_true Q.out]; rfl, hbelw⟩
      · have q' : ((ks.length : Int) == kids.length) = false := by simp; omega
        have Q := Lib.hid q; clear q
        go_wp2_with (go_at_call 52; refine (l01In_any _ _ _ _).mono ?_; rintro e w1 ⟨rfl, rfl⟩)
        go_ret
        exact ⟨by rw [HF.out, decide_eq_false Q.out]; rfl, hbelw⟩

end Go.Proofs.YtkeieeogkeonfaaGreatDoor

/- When a shape is right but for its kids: the reference's l15Own. -/
namespace Go.Proofs.YtkeieeogkeonfaaGreatDoor
open Go.RowKit
open Go.Lib (validD)

set_option maxHeartbeats 2000000 in
set_option maxRecDepth 10000 in
theorem l15Own_any (x : Sh) (cs : List Value) (w : World) (h : Rd w x.d cs) (hwf : x.wf) (hbk : x.bulk ≤ 4294967295) :
    Calls Tryz.prog 51 #[.agg cs.toArray] w fun e w' => e = .returned (.bool x.self) ∧ Below w.heap.size w w' := by
  have HF := Lib.hid (fun w1 (hb : Below w.heap.size w w1) => l15Keys_any x cs w1 (h.below hb) hwf hbk)
  obtain ⟨k, l, hi, ks, m, kids, v1, v2, rfl, rfl, hk, hkids⟩ := Sh.lay h
  obtain ⟨a1, c1, rfl, _⟩ := hk.strs
  obtain ⟨a2, c2, rfl⟩ := Rd.sl_form hkids
  rw [Sh.ds_map, List.length_map]
  simp only [Sh.ds_map, List.length_map] at HF
  have hA := fun o => (Below.refl w.heap.size w).alloc (Nat.le_refl _) o
  clear hk hkids h hwf hbk
  obtain ⟨ok, hok⟩ : ∃ ok, Sh.self (.mk k l hi ks m kids) = ok := ⟨_, rfl⟩
  rw [hok]
  have HOK := Lib.hid hok; clear hok
  by_cases k8 : k = 8
  · subst k8
    by_cases hl : l = 0
    · subst hl
      by_cases hhi : hi = 0
      · subst hhi
        have H : Hid (ok = Sh.fields ks m kids.length) := by show _ = _; rw [← HOK.out]; simp [Sh.self]
        clear HOK hA
        by_cases hks : ks = []
        · subst hks
          simp only [List.length_nil] at HF ⊢
          go_enter Tryz.func51, Tryz.ntmps51
          go_wp2_with (go_at_call 78; refine (HF.out _ ((Below.refl _ _).alloc (Nat.le_refl _) _)).mono ?_; rintro e w1 ⟨rfl, hb1⟩)
          all_goals (go_ret; exact ⟨by rw [H.out]; rfl, below2 ((Below.refl _ _).alloc (Nat.le_refl _) _) (by assumption) (Nat.le_refl _)⟩)
        · have gks : ((ks.length : Int) == 0) = false := by simpa using hks
          have HKS := Lib.hid hks; clear hks
          go_enter Tryz.func51, Tryz.ntmps51
          go_wp2_with (go_at_call 78; refine (HF.out _ ((Below.refl _ _).alloc (Nat.le_refl _) _)).mono ?_; rintro e w1 ⟨rfl, hb1⟩)
          all_goals (go_ret; exact ⟨by rw [H.out]; rfl, below2 ((Below.refl _ _).alloc (Nat.le_refl _) _) (by assumption) (Nat.le_refl _)⟩)
      · have ghi : (hi == 0) = false := by simpa using hhi
        have H : Hid (ok = false) := by show _ = _; rw [← HOK.out]; simp [Sh.self, hhi]
        clear HOK
        go_enter Tryz.func51, Tryz.ntmps51
        go_wp2
        all_goals (go_ret; exact ⟨by rw [H.out]; rfl, hA _⟩)
    · have gl : (l == 0) = false := by simpa using hl
      have H : Hid (ok = false) := by show _ = _; rw [← HOK.out]; simp [Sh.self, hl]
      clear HOK
      go_enter Tryz.func51, Tryz.ntmps51
      go_wp2
      all_goals (go_ret; exact ⟨by rw [H.out]; rfl, hA _⟩)
  by_cases k7 : k = 7
  · subst k7
    by_cases hks : ks = []
    · subst hks
      by_cases hm : m = 0
      · subst hm
        have H : Hid (ok = decide (kids.length = 1)) := by show _ = _; rw [← HOK.out]; simp [Sh.self]
        clear HOK
        go_enter Tryz.func51, Tryz.ntmps51
        go_wp2
        all_goals (go_ret; exact ⟨by rw [H.out]; exact ret_bool (by rw [Bool.eq_iff_iff]; simp <;> omega), hA _⟩)
      · have gm : (m == 0) = false := by simpa using hm
        have H : Hid (ok = false) := by show _ = _; rw [← HOK.out]; simp [Sh.self, hm]
        clear HOK
        go_enter Tryz.func51, Tryz.ntmps51
        go_wp2
        all_goals (go_ret; exact ⟨by rw [H.out]; rfl, hA _⟩)
    · have gks : ((ks.length : Int) == 0) = false := by simpa using hks
      have H : Hid (ok = false) := by show _ = _; rw [← HOK.out]; simp [Sh.self, hks]
      clear HOK
      go_enter Tryz.func51, Tryz.ntmps51
      go_wp2
      all_goals (go_ret; exact ⟨by rw [H.out]; rfl, hA _⟩)
  by_cases k9 : k = 9
  · subst k9
    by_cases hl : l = 0
    · subst hl
      by_cases hhi : hi = 0
      · subst hhi
        by_cases hks : ks = []
        · subst hks
          by_cases hm : m = 0
          · subst hm
            have H : Hid (ok = decide (2 ≤ kids.length)) := by show _ = _; rw [← HOK.out]; simp [Sh.self]
            clear HOK
            go_enter Tryz.func51, Tryz.ntmps51
            go_wp2
            all_goals (go_ret; exact ⟨by rw [H.out]; exact ret_bool (by rw [Bool.eq_iff_iff]; simp <;> omega), hA _⟩)
          · have gm : (m == 0) = false := by simpa using hm
            have H : Hid (ok = false) := by show _ = _; rw [← HOK.out]; simp [Sh.self, hm]
            clear HOK
            go_enter Tryz.func51, Tryz.ntmps51
            go_wp2
            all_goals (go_ret; exact ⟨by rw [H.out]; rfl, hA _⟩)
        · have gks : ((ks.length : Int) == 0) = false := by simpa using hks
          have H : Hid (ok = false) := by show _ = _; rw [← HOK.out]; simp [Sh.self, hks]
          clear HOK
          go_enter Tryz.func51, Tryz.ntmps51
          go_wp2
          all_goals (go_ret; exact ⟨by rw [H.out]; rfl, hA _⟩)
      · have ghi : (hi == 0) = false := by simpa using hhi
        have H : Hid (ok = false) := by show _ = _; rw [← HOK.out]; simp [Sh.self, hhi]
        clear HOK
        go_enter Tryz.func51, Tryz.ntmps51
        go_wp2
        all_goals (go_ret; exact ⟨by rw [H.out]; rfl, hA _⟩)
    · have gl : (l == 0) = false := by simpa using hl
      have H : Hid (ok = false) := by show _ = _; rw [← HOK.out]; simp [Sh.self, hl]
      clear HOK
      go_enter Tryz.func51, Tryz.ntmps51
      go_wp2
      all_goals (go_ret; exact ⟨by rw [H.out]; rfl, hA _⟩)
  by_cases k3 : k = 3
  · subst k3
    by_cases hks : ks = []
    · subst hks
      by_cases hm : m = 0
      · subst hm
        have H : Hid (ok = decide (kids = [])) := by show _ = _; rw [← HOK.out]; simp [Sh.self]
        clear HOK
        go_enter Tryz.func51, Tryz.ntmps51
        go_wp2
        all_goals (go_ret; exact ⟨by rw [H.out]; exact ret_bool (by rw [Bool.eq_iff_iff]; simp <;> omega), hA _⟩)
      · have gm : (m == 0) = false := by simpa using hm
        have H : Hid (ok = false) := by show _ = _; rw [← HOK.out]; simp [Sh.self, hm]
        clear HOK
        go_enter Tryz.func51, Tryz.ntmps51
        go_wp2
        all_goals (go_ret; exact ⟨by rw [H.out]; rfl, hA _⟩)
    · have gks : ((ks.length : Int) == 0) = false := by simpa using hks
      have H : Hid (ok = false) := by show _ = _; rw [← HOK.out]; simp [Sh.self, hks]
      clear HOK
      go_enter Tryz.func51, Tryz.ntmps51
      go_wp2
      all_goals (go_ret; exact ⟨by rw [H.out]; rfl, hA _⟩)
  by_cases k5 : k = 5
  · subst k5
    by_cases hks : ks = []
    · subst hks
      by_cases hm : m = 0
      · subst hm
        have H : Hid (ok = decide (kids = [])) := by show _ = _; rw [← HOK.out]; simp [Sh.self]
        clear HOK
        go_enter Tryz.func51, Tryz.ntmps51
        go_wp2
        all_goals (go_ret; exact ⟨by rw [H.out]; exact ret_bool (by rw [Bool.eq_iff_iff]; simp <;> omega), hA _⟩)
      · have gm : (m == 0) = false := by simpa using hm
        have H : Hid (ok = false) := by show _ = _; rw [← HOK.out]; simp [Sh.self, hm]
        clear HOK
        go_enter Tryz.func51, Tryz.ntmps51
        go_wp2
        all_goals (go_ret; exact ⟨by rw [H.out]; rfl, hA _⟩)
    · have gks : ((ks.length : Int) == 0) = false := by simpa using hks
      have H : Hid (ok = false) := by show _ = _; rw [← HOK.out]; simp [Sh.self, hks]
      clear HOK
      go_enter Tryz.func51, Tryz.ntmps51
      go_wp2
      all_goals (go_ret; exact ⟨by rw [H.out]; rfl, hA _⟩)
  by_cases k6 : k = 6
  · subst k6
    by_cases hks : ks = []
    · subst hks
      by_cases hm : m = 0
      · subst hm
        have H : Hid (ok = decide (kids = [])) := by show _ = _; rw [← HOK.out]; simp [Sh.self]
        clear HOK
        go_enter Tryz.func51, Tryz.ntmps51
        go_wp2
        all_goals (go_ret; exact ⟨by rw [H.out]; exact ret_bool (by rw [Bool.eq_iff_iff]; simp <;> omega), hA _⟩)
      · have gm : (m == 0) = false := by simpa using hm
        have H : Hid (ok = false) := by show _ = _; rw [← HOK.out]; simp [Sh.self, hm]
        clear HOK
        go_enter Tryz.func51, Tryz.ntmps51
        go_wp2
        all_goals (go_ret; exact ⟨by rw [H.out]; rfl, hA _⟩)
    · have gks : ((ks.length : Int) == 0) = false := by simpa using hks
      have H : Hid (ok = false) := by show _ = _; rw [← HOK.out]; simp [Sh.self, hks]
      clear HOK
      go_enter Tryz.func51, Tryz.ntmps51
      go_wp2
      all_goals (go_ret; exact ⟨by rw [H.out]; rfl, hA _⟩)
  by_cases k0 : k = 0
  · subst k0
    by_cases hl : l = 0
    · subst hl
      by_cases hhi : hi = 0
      · subst hhi
        by_cases hks : ks = []
        · subst hks
          by_cases hm : m = 0
          · subst hm
            have H : Hid (ok = decide (kids = [])) := by show _ = _; rw [← HOK.out]; simp [Sh.self]
            clear HOK
            go_enter Tryz.func51, Tryz.ntmps51
            go_wp2
            all_goals (go_ret; exact ⟨by rw [H.out]; exact ret_bool (by rw [Bool.eq_iff_iff]; simp <;> omega), hA _⟩)
          · have gm : (m == 0) = false := by simpa using hm
            have H : Hid (ok = false) := by show _ = _; rw [← HOK.out]; simp [Sh.self, hm]
            clear HOK
            go_enter Tryz.func51, Tryz.ntmps51
            go_wp2
            all_goals (go_ret; exact ⟨by rw [H.out]; rfl, hA _⟩)
        · have gks : ((ks.length : Int) == 0) = false := by simpa using hks
          have H : Hid (ok = false) := by show _ = _; rw [← HOK.out]; simp [Sh.self, hks]
          clear HOK
          go_enter Tryz.func51, Tryz.ntmps51
          go_wp2
          all_goals (go_ret; exact ⟨by rw [H.out]; rfl, hA _⟩)
      · have ghi : (hi == 0) = false := by simpa using hhi
        have H : Hid (ok = false) := by show _ = _; rw [← HOK.out]; simp [Sh.self, hhi]
        clear HOK
        go_enter Tryz.func51, Tryz.ntmps51
        go_wp2
        all_goals (go_ret; exact ⟨by rw [H.out]; rfl, hA _⟩)
    · have gl : (l == 0) = false := by simpa using hl
      have H : Hid (ok = false) := by show _ = _; rw [← HOK.out]; simp [Sh.self, hl]
      clear HOK
      go_enter Tryz.func51, Tryz.ntmps51
      go_wp2
      all_goals (go_ret; exact ⟨by rw [H.out]; rfl, hA _⟩)
  by_cases k1 : k = 1
  · subst k1
    by_cases hl : l = 0
    · subst hl
      by_cases hhi : hi = 0
      · subst hhi
        by_cases hks : ks = []
        · subst hks
          by_cases hm : m = 0
          · subst hm
            have H : Hid (ok = decide (kids = [])) := by show _ = _; rw [← HOK.out]; simp [Sh.self]
            clear HOK
            go_enter Tryz.func51, Tryz.ntmps51
            go_wp2
            all_goals (go_ret; exact ⟨by rw [H.out]; exact ret_bool (by rw [Bool.eq_iff_iff]; simp <;> omega), hA _⟩)
          · have gm : (m == 0) = false := by simpa using hm
            have H : Hid (ok = false) := by show _ = _; rw [← HOK.out]; simp [Sh.self, hm]
            clear HOK
            go_enter Tryz.func51, Tryz.ntmps51
            go_wp2
            all_goals (go_ret; exact ⟨by rw [H.out]; rfl, hA _⟩)
        · have gks : ((ks.length : Int) == 0) = false := by simpa using hks
          have H : Hid (ok = false) := by show _ = _; rw [← HOK.out]; simp [Sh.self, hks]
          clear HOK
          go_enter Tryz.func51, Tryz.ntmps51
          go_wp2
          all_goals (go_ret; exact ⟨by rw [H.out]; rfl, hA _⟩)
      · have ghi : (hi == 0) = false := by simpa using hhi
        have H : Hid (ok = false) := by show _ = _; rw [← HOK.out]; simp [Sh.self, hhi]
        clear HOK
        go_enter Tryz.func51, Tryz.ntmps51
        go_wp2
        all_goals (go_ret; exact ⟨by rw [H.out]; rfl, hA _⟩)
    · have gl : (l == 0) = false := by simpa using hl
      have H : Hid (ok = false) := by show _ = _; rw [← HOK.out]; simp [Sh.self, hl]
      clear HOK
      go_enter Tryz.func51, Tryz.ntmps51
      go_wp2
      all_goals (go_ret; exact ⟨by rw [H.out]; rfl, hA _⟩)
  by_cases k2 : k = 2
  · subst k2
    by_cases hl : l = 0
    · subst hl
      by_cases hhi : hi = 0
      · subst hhi
        by_cases hks : ks = []
        · subst hks
          by_cases hm : m = 0
          · subst hm
            have H : Hid (ok = decide (kids = [])) := by show _ = _; rw [← HOK.out]; simp [Sh.self]
            clear HOK
            go_enter Tryz.func51, Tryz.ntmps51
            go_wp2
            all_goals (go_ret; exact ⟨by rw [H.out]; exact ret_bool (by rw [Bool.eq_iff_iff]; simp <;> omega), hA _⟩)
          · have gm : (m == 0) = false := by simpa using hm
            have H : Hid (ok = false) := by show _ = _; rw [← HOK.out]; simp [Sh.self, hm]
            clear HOK
            go_enter Tryz.func51, Tryz.ntmps51
            go_wp2
            all_goals (go_ret; exact ⟨by rw [H.out]; rfl, hA _⟩)
        · have gks : ((ks.length : Int) == 0) = false := by simpa using hks
          have H : Hid (ok = false) := by show _ = _; rw [← HOK.out]; simp [Sh.self, hks]
          clear HOK
          go_enter Tryz.func51, Tryz.ntmps51
          go_wp2
          all_goals (go_ret; exact ⟨by rw [H.out]; rfl, hA _⟩)
      · have ghi : (hi == 0) = false := by simpa using hhi
        have H : Hid (ok = false) := by show _ = _; rw [← HOK.out]; simp [Sh.self, hhi]
        clear HOK
        go_enter Tryz.func51, Tryz.ntmps51
        go_wp2
        all_goals (go_ret; exact ⟨by rw [H.out]; rfl, hA _⟩)
    · have gl : (l == 0) = false := by simpa using hl
      have H : Hid (ok = false) := by show _ = _; rw [← HOK.out]; simp [Sh.self, hl]
      clear HOK
      go_enter Tryz.func51, Tryz.ntmps51
      go_wp2
      all_goals (go_ret; exact ⟨by rw [H.out]; rfl, hA _⟩)
  by_cases k4 : k = 4
  · subst k4
    by_cases hl : l = 0
    · subst hl
      by_cases hhi : hi = 0
      · subst hhi
        by_cases hks : ks = []
        · subst hks
          by_cases hm : m = 0
          · subst hm
            have H : Hid (ok = decide (kids = [])) := by show _ = _; rw [← HOK.out]; simp [Sh.self]
            clear HOK
            go_enter Tryz.func51, Tryz.ntmps51
            go_wp2
            all_goals (go_ret; exact ⟨by rw [H.out]; exact ret_bool (by rw [Bool.eq_iff_iff]; simp <;> omega), hA _⟩)
          · have gm : (m == 0) = false := by simpa using hm
            have H : Hid (ok = false) := by show _ = _; rw [← HOK.out]; simp [Sh.self, hm]
            clear HOK
            go_enter Tryz.func51, Tryz.ntmps51
            go_wp2
            all_goals (go_ret; exact ⟨by rw [H.out]; rfl, hA _⟩)
        · have gks : ((ks.length : Int) == 0) = false := by simpa using hks
          have H : Hid (ok = false) := by show _ = _; rw [← HOK.out]; simp [Sh.self, hks]
          clear HOK
          go_enter Tryz.func51, Tryz.ntmps51
          go_wp2
          all_goals (go_ret; exact ⟨by rw [H.out]; rfl, hA _⟩)
      · have ghi : (hi == 0) = false := by simpa using hhi
        have H : Hid (ok = false) := by show _ = _; rw [← HOK.out]; simp [Sh.self, hhi]
        clear HOK
        go_enter Tryz.func51, Tryz.ntmps51
        go_wp2
        all_goals (go_ret; exact ⟨by rw [H.out]; rfl, hA _⟩)
    · have gl : (l == 0) = false := by simpa using hl
      have H : Hid (ok = false) := by show _ = _; rw [← HOK.out]; simp [Sh.self, hl]
      clear HOK
      go_enter Tryz.func51, Tryz.ntmps51
      go_wp2
      all_goals (go_ret; exact ⟨by rw [H.out]; rfl, hA _⟩)
  have H : Hid (ok = false) := by show _ = _; rw [← HOK.out]; simp [Sh.self, k0, k1, k2, k3, k4, k5, k6, k7, k8, k9]
  have B0 : (k == 0) = false := by simpa using k0
  have B1 : (k == 1) = false := by simpa using k1
  have B2 : (k == 2) = false := by simpa using k2
  have B3 : (k == 3) = false := by simpa using k3
  have B4 : (k == 4) = false := by simpa using k4
  have B5 : (k == 5) = false := by simpa using k5
  have B6 : (k == 6) = false := by simpa using k6
  have B7 : (k == 7) = false := by simpa using k7
  have B8 : (k == 8) = false := by simpa using k8
  have B9 : (k == 9) = false := by simpa using k9
  clear HOK k0 k1 k2 k3 k4 k5 k6 k7 k8 k9
  go_enter Tryz.func51, Tryz.ntmps51
  go_wp2
  all_goals (go_ret; exact ⟨by rw [H.out]; rfl, hA _⟩)
end Go.Proofs.YtkeieeogkeonfaaGreatDoor

/- When a shape is right: the reference's l15Right, l15Many and ShapeOk. -/
namespace Go.Proofs.YtkeieeogkeonfaaGreatDoor
open Go.RowKit
open Go.Lib (validD)

def RtA (n : Nat) : Prop := ∀ (x : Sh) (cs : List Value) (d : Int) (w : World), x.nodes ≤ n → Rd w x.d cs → x.wf → x.bulk ≤ 4294967295 → -4611686018427387904 + x.nodes ≤ d → d ≤ 1000 →
  Calls Tryz.prog 30 #[.agg cs.toArray, .int .i64 d] w fun e w' => e = .returned (.bool (Sh.right d x)) ∧ Below w.heap.size w w'

theorem Sh.rights_false {d : Int} {xs : List Sh} (k : Nat) (hk : k < xs.length) (h : Sh.right d xs[k] = false) : Sh.rights d xs = false := by
  rw [Sh.rights_all]; apply Bool.eq_false_iff.2; intro hh
  rw [List.all_eq_true] at hh
  have := hh xs[k] (List.getElem_mem hk); rw [h] at this; cases this
theorem Sh.rights_snoc {d : Int} {xs : List Sh} (k : Nat) (hk : k < xs.length) (h : Sh.rights d (xs.take k) = true) (h2 : Sh.right d xs[k] = true) : Sh.rights d (xs.take (k + 1)) = true := by
  rw [List.take_succ_eq_append_getElem hk, Sh.rights_all, List.all_append]; rw [Sh.rights_all] at h; rw [h]; simp [h2]
theorem Sh.nodes_split (xs : List Sh) (k : Nat) (hk : k < xs.length) : Sh.nodess (xs.take (k + 1)) = Sh.nodess (xs.take k) + xs[k].nodes := by
  rw [List.take_succ_eq_append_getElem hk]
  have hn : ∀ (ls : List Sh) (x : Sh), Sh.nodess (ls ++ [x]) = Sh.nodess ls + x.nodes := by
    intro ls x; induction ls with
    | nil => simp [Sh.nodess]
    | cons a ls ih => simp only [List.cons_append, Sh.nodess, ih]; omega
  exact hn _ _
theorem Sh.nodess_take : ∀ (xs : List Sh) (k : Nat), Sh.nodess (xs.take k) ≤ Sh.nodess xs
  | [], k => by simp [Sh.nodess]
  | x :: xs, 0 => by simp [Sh.nodess]
  | x :: xs, k + 1 => by have := Sh.nodess_take xs k; simp only [List.take_succ_cons, Sh.nodess]; omega
mutual
theorem Sh.nodes_bulk : ∀ x : Sh, x.nodes ≤ x.bulk + 1
  | .mk _ _ _ ks _ kids => by have := Sh.nodess_bulks kids; simp only [Sh.nodes, Sh.bulk]; omega
theorem Sh.nodess_bulks : ∀ xs : List Sh, Sh.nodess xs ≤ xs.length + Sh.bulks xs
  | [] => by simp [Sh.nodess]
  | x :: xs => by have := Sh.nodes_bulk x; have := Sh.nodess_bulks xs; simp only [Sh.nodess, Sh.bulks, List.length_cons]; omega
end

set_option maxHeartbeats 2000000 in
set_option maxRecDepth 10000 in
theorem RtA_of {n : Nat} (hA : RtA n) : RtA (n + 1) := by
  intro x cs d w hn h hwf hbk hd1 hd2
  have HO := Lib.hid (fun w1 (hb : Below w.heap.size w w1) => l15Own_any x cs w1 (h.below hb) hwf hbk)
  obtain ⟨k, l, hi, ks, m, kids, v1, v2, rfl, rfl, hk, hkids⟩ := Sh.lay h
  have hnk : Sh.nodess kids ≤ n := by simp only [Sh.nodes] at hn; omega
  have hkw : Sh.wfs kids := hwf.2.2.2.2.2.2
  have hkb : kids.length + Sh.bulks kids ≤ 4294967295 := by simp only [Sh.bulk] at hbk; omega
  have hdn : -4611686018427387904 + (Sh.nodess kids : Int) + 1 ≤ d := by simp only [Sh.nodes] at hd1; omega
  obtain ⟨a1, c1, rfl⟩ := Rd.sl_form hk
  obtain ⟨a2, c2, rfl, hg⟩ := hkids.shapes
  simp only [List.length_map] at HO h ⊢
  obtain ⟨ok, hok⟩ : ∃ ok, Sh.right d (.mk k l hi ks m kids) = ok := ⟨_, rfl⟩
  rw [hok]
  have HOK := Lib.hid hok; clear hok
  obtain ⟨W0, hW0⟩ : ∃ W0, W0 = w.alloc (.cells #[.int .i64 k, .int .i64 l, .int .i64 hi, .slice a1 ks.length c1, .int .i64 m, .slice a2 kids.length c2] 39) := ⟨_, rfl⟩
  have HW := Lib.hid hW0
  have hA0 : Below w.heap.size w W0 := by rw [hW0]; exact (Below.refl _ _).alloc (Nat.le_refl _) _
  have hz : w.heap.size < W0.heap.size := by rw [hW0]; simp
  have KB : Hid (∀ W, Below W0.heap.size W0 W → W.cell? ⟨w.heap.size, 0, none⟩ = some (.int .i64 k) ∧ W.cell? ⟨w.heap.size, 1, none⟩ = some (.int .i64 l) ∧ W.cell? ⟨w.heap.size, 2, none⟩ = some (.int .i64 hi) ∧ W.cell? ⟨w.heap.size, 3, none⟩ = some (.slice a1 ks.length c1) ∧ W.cell? ⟨w.heap.size, 4, none⟩ = some (.int .i64 m) ∧ W.cell? ⟨w.heap.size, 5, none⟩ = some (.slice a2 kids.length c2)) := by
    intro W hb
    obtain ⟨hc, _⟩ := bcell hb
    simp only [hc _ _ hz]; subst hW0; simp
  clear hW0 h hk hkids hwf hbk
  go_enter Tryz.func30, Tryz.ntmps30
  go_wp2
  rw [← HW.out]
  go_loopw [5] (fun i wr => ∃ (j : Nat), j ≤ kids.length ∧ i = .int .i64 j ∧ Sh.rights (d - 1) (kids.take j) = true ∧ Below W0.heap.size W0 wr) (fun i _ => kids.length - (intOf i).toNat)
  case atStart => exact ⟨0, Nat.zero_le _, rfl, by simp [Sh.rights], Below.refl _ _⟩
  case round =>
    obtain ⟨j, hj, rfl, hr, hbel⟩ := hrel
    have HR := Lib.hid hr; clear hr
    obtain ⟨f0, f1, f2, f3, f4, f5⟩ := KB.out _ hbel
    have hbw := below2 hA0 hbel (Nat.le_refl _)
    by_cases hlt : j < kids.length
    · obtain ⟨_, _, b, o, rfl, hb, hcell⟩ := hg (by intro e; rw [e] at hlt; simp at hlt)
      obtain ⟨v0, v1, v2, v3, v4, v5, hr, d0, d1, d2, d3, d4, d5⟩ := hcell j hlt
      clear hcell hg
      obtain ⟨k1, k2, k3, a4, n4, m4, k5, a6, n6, m6, hcs⟩ := Sh.form hr
      simp only [List.cons.injEq, and_true] at hcs
      obtain ⟨rfl, rfl, rfl, rfl, rfl, rfl⟩ := hcs
      have hbc := (bcell hbw).1
      rw [← hbc _ _ hb] at d0 d1 d2 d3 d4 d5
      clear hbc
      have hi1 : (0 : Int) ≤ j := by omega
      have hi3 : (j : Int) < kids.length := by omega
      have hn1 := Sh.nodes_get kids j hlt
      have HC := Lib.hid (hA kids[j] _ (d - 1) wr (Nat.le_trans hn1 hnk) (hr.below hbw) (Sh.wfs_get hkw j hlt) (Sh.bulk_get' hkb j hlt) (by omega) (by omega))
      cases hv : Sh.right (d - 1) kids[j] with
      | true =>
        have HV := Lib.hid hv
        have HS := Lib.hid (Sh.rights_snoc j hlt HR.out hv)
        clear hv
        go_wp2_with (go_at_call 30; refine HC.out.mono ?_; rw [HV.out]; rintro e w1 ⟨rfl, hb1⟩)
        go_roundw
        case rel => exact ⟨j + 1, by omega, by go_num, HS.out, below2 hbel hb1 (Nat.le_refl _)⟩
        case measure => simp [intOf]; omega
      | false =>
        have HV := Lib.hid hv
        have HF := Lib.hid (show ok = false by rw [← HOK.out]; simp only [Sh.right]; rw [Sh.rights_false j hlt hv]; rfl)
        clear hv
        go_wp2_with (go_at_call 30; refine HC.out.mono ?_; rw [HV.out]; rintro e w1 ⟨rfl, hb1⟩)
        go_ret
        exact ⟨by rw [HF.out]; rfl, below2 hbw hb1 (Nat.le_refl _)⟩
    · obtain rfl : j = kids.length := by omega
      have h1 := HR.out
      rw [List.take_length] at h1
      have HF := Lib.hid (show ok = (decide (0 ≤ d) && Sh.self (.mk k l hi ks m kids)) by rw [← HOK.out]; simp only [Sh.right]; rw [h1]; rfl)
      clear h1
      by_cases hd0 : 0 ≤ d
      · have D0 := Lib.hid (decide_eq_true hd0)
        go_wp2_with (go_at_call 51; refine (HO.out _ hbw).mono ?_; rintro e w1 ⟨rfl, hb1⟩)
        go_ret
        exact ⟨by rw [HF.out, D0.out]; rfl, below2 hbw hb1 (Nat.le_refl _)⟩
      · have D0 := Lib.hid (decide_eq_false hd0)
        go_wp2
        go_ret
        exact ⟨by rw [HF.out, D0.out]; rfl, hbw⟩
theorem Rt_all : ∀ n, RtA n
  | 0 => fun x cs d w hn => absurd x.nodes_pos (by omega)
  | n + 1 => RtA_of (Rt_all n)

def MnA (n : Nat) : Prop := ∀ (x : Sh) (cs : List Value) (w : World), x.nodes ≤ n → Rd w x.d cs → x.bulk ≤ 4294967295 →
  Calls Tryz.prog 31 #[.agg cs.toArray] w fun e w' => e = .returned (.int .i64 (x.nodes : Nat)) ∧ Below w.heap.size w w'
set_option maxHeartbeats 2000000 in
set_option maxRecDepth 10000 in
theorem MnA_of {n : Nat} (hA : MnA n) : MnA (n + 1) := by
  intro x cs w hn h hbk
  obtain ⟨k, l, hi, ks, m, kids, v1, v2, rfl, rfl, hk, hkids⟩ := Sh.lay h
  have hnk : Sh.nodess kids ≤ n := by simp only [Sh.nodes] at hn; omega
  have hkb : kids.length + Sh.bulks kids ≤ 4294967295 := by simp only [Sh.bulk] at hbk; omega
  have hnb := Sh.nodess_bulks kids
  obtain ⟨a1, c1, rfl⟩ := Rd.sl_form hk
  obtain ⟨a2, c2, rfl, hg⟩ := hkids.shapes
  simp only [List.length_map]
  obtain ⟨W0, hW0⟩ : ∃ W0, W0 = w.alloc (.cells #[.int .i64 k, .int .i64 l, .int .i64 hi, .slice a1 ks.length c1, .int .i64 m, .slice a2 kids.length c2] 39) := ⟨_, rfl⟩
  have HW := Lib.hid hW0
  have hA0 : Below w.heap.size w W0 := by rw [hW0]; exact (Below.refl _ _).alloc (Nat.le_refl _) _
  have hz : w.heap.size < W0.heap.size := by rw [hW0]; simp
  have KB : Hid (∀ W, Below W0.heap.size W0 W → W.cell? ⟨w.heap.size, 5, none⟩ = some (.slice a2 kids.length c2)) := by
    intro W hb
    obtain ⟨hc, _⟩ := bcell hb
    simp only [hc _ _ hz]; subst hW0; simp
  clear hW0 h hk hkids hbk
  go_enter Tryz.func31, Tryz.ntmps31
  go_wp2
  rw [← HW.out]
  go_loopw [3, 4] (fun x i wr => ∃ (j : Nat), j ≤ kids.length ∧ i = .int .i64 j ∧ x = .int .i64 (1 + Sh.nodess (kids.take j) : Nat) ∧ Below W0.heap.size W0 wr) (fun _ i _ => kids.length - (intOf i).toNat)
  case atStart => exact ⟨0, Nat.zero_le _, rfl, by simp [Sh.nodess], Below.refl _ _⟩
  case round =>
    obtain ⟨j, hj, rfl, rfl, hbel⟩ := hrel
    have f5 := KB.out _ hbel
    have hbw := below2 hA0 hbel (Nat.le_refl _)
    by_cases hlt : j < kids.length
    · obtain ⟨_, _, b, o, rfl, hb, hcell⟩ := hg (by intro e; rw [e] at hlt; simp at hlt)
      obtain ⟨v0, v1, v2, v3, v4, v5, hr, d0, d1, d2, d3, d4, d5⟩ := hcell j hlt
      clear hcell hg
      obtain ⟨k1, k2, k3, a4, n4, m4, k5, a6, n6, m6, hcs⟩ := Sh.form hr
      simp only [List.cons.injEq, and_true] at hcs
      obtain ⟨rfl, rfl, rfl, rfl, rfl, rfl⟩ := hcs
      have hbc := (bcell hbw).1
      rw [← hbc _ _ hb] at d0 d1 d2 d3 d4 d5
      clear hbc
      have hi1 : (0 : Int) ≤ j := by omega
      have hi3 : (j : Int) < kids.length := by omega
      have hn1 := Sh.nodes_get kids j hlt
      have HC := Lib.hid (hA kids[j] _ wr (Nat.le_trans hn1 hnk) (hr.below hbw) (Sh.bulk_get' hkb j hlt))
      have HS := Lib.hid (Sh.nodes_split kids j hlt)
      have ht1 := Sh.nodess_take kids j
      obtain ⟨q, hq⟩ : ∃ q, Sh.nodess (kids.take j) = q := ⟨_, rfl⟩
      rw [hq] at HS ht1 ⊢
      clear hq
      obtain ⟨p, hp⟩ : ∃ p, kids[j].nodes = p := ⟨_, rfl⟩
      rw [hp] at HS hn1 HC
      clear hp
      go_wp2_with (go_at_call 31; refine HC.out.mono ?_; rintro e w1 ⟨rfl, hb1⟩)
      go_roundw
      case rel => exact ⟨j + 1, by omega, by go_num, by rw [HS.out]; go_num, below2 hbel hb1 (Nat.le_refl _)⟩
      case measure => simp [intOf]; omega
    · obtain rfl : j = kids.length := by omega
      rw [List.take_length]
      go_wp2
      go_ret
      exact ⟨rfl, hbw⟩
theorem Mn_all : ∀ n, MnA n
  | 0 => fun x cs w hn => absurd x.nodes_pos (by omega)
  | n + 1 => MnA_of (Mn_all n)

set_option maxHeartbeats 400000 in
set_option maxRecDepth 10000 in
theorem shapeOk_spec (x : Sh) (cs : List Value) (w : World) (h : Rd w x.d cs) (hwf : x.wf) (hbk : x.bulk ≤ 4294967295) :
    Calls Tryz.prog 16 #[.agg cs.toArray] w fun e w' => e = .returned (.bool x.ok) ∧ Below w.heap.size w w' := by
  obtain ⟨k, l, hi, a1, n1, c1, m, a2, n2, c2, rfl⟩ := Sh.form h
  obtain ⟨W0, hW0⟩ : ∃ W0, W0 = w.alloc (.cells #[.int .i64 k, .int .i64 l, .int .i64 hi, .slice a1 n1 c1, .int .i64 m, .slice a2 n2 c2] 39) := ⟨_, rfl⟩
  have HW := Lib.hid hW0
  have hA : Below w.heap.size w W0 := by rw [hW0]; exact (Below.refl _ _).alloc (Nat.le_refl _) _
  have hz : w.heap.size < W0.heap.size := by rw [hW0]; simp
  have KB : Hid (∀ W, Below W0.heap.size W0 W → W.cell? ⟨w.heap.size, 0, none⟩ = some (.int .i64 k) ∧ W.cell? ⟨w.heap.size, 1, none⟩ = some (.int .i64 l) ∧ W.cell? ⟨w.heap.size, 2, none⟩ = some (.int .i64 hi) ∧ W.cell? ⟨w.heap.size, 3, none⟩ = some (.slice a1 n1 c1) ∧ W.cell? ⟨w.heap.size, 4, none⟩ = some (.int .i64 m) ∧ W.cell? ⟨w.heap.size, 5, none⟩ = some (.slice a2 n2 c2)) := by
    intro W hb
    obtain ⟨hc, _⟩ := bcell hb
    simp only [hc _ _ hz]; subst hW0; simp
  have hnb := x.nodes_bulk
  have HR := Lib.hid (fun W (hb : Below W0.heap.size W0 W) => Rt_all x.nodes x _ 8 W (Nat.le_refl _) (h.below (below2 hA hb (Nat.le_refl _))) hwf hbk (by omega) (by decide))
  have HM := Lib.hid (fun W (hb : Below W0.heap.size W0 W) => Mn_all x.nodes x _ W (Nat.le_refl _) (h.below (below2 hA hb (Nat.le_refl _))) hbk)
  have hB := Below.refl W0.heap.size W0
  clear hW0 h
  go_enter Tryz.func16, Tryz.ntmps16
  cases hr : Sh.right 8 x with
  | true =>
    have HV := Lib.hid hr; clear hr
    go_wp2_with (first | (go_at_call 30; rw [← HW.out]; refine (HR.out _ hB).mono ?_; rw [HV.out]; rintro e w1 ⟨rfl, hb1⟩; obtain ⟨p0, p1, p2, p3, p4, p5⟩ := KB.out _ hb1) | (go_at_call 31; refine (HM.out _ hb1).mono ?_; rintro e w2 ⟨rfl, hb2⟩))
    go_ret
    refine ⟨ret_bool ?_, below2 hA (below2 hb1 hb2 (Nat.le_refl _)) (Nat.le_refl _)⟩
    unfold Sh.ok; rw [HV.out, Bool.true_and, Bool.eq_iff_iff]; simp; omega
  | false =>
    have HV := Lib.hid hr; clear hr
    go_wp2_with (first | (go_at_call 30; rw [← HW.out]; refine (HR.out _ hB).mono ?_; rw [HV.out]; rintro e w1 ⟨rfl, hb1⟩))
    go_ret
    refine ⟨ret_bool ?_, below2 hA hb1 (Nat.le_refl _)⟩
    unfold Sh.ok; rw [HV.out]; rfl
end Go.Proofs.YtkeieeogkeonfaaGreatDoor
