/- When a shape is right but for its kids: the reference's l15Keys and l15Own. -/
import Derived.Test.YtkeieeogkeonfaaDoorShapeIs
import Derived.Test.YtkeieeogkeonfaaDoorRegion
namespace Go.Proofs.YtkeieeogkeonfaaDoor
open Go.RowKit
open Go.Lib (validD)

theorem ixF_first (ls : List (List UInt8)) (k : Nat) (hk : k < ls.length) : ∀ i, ls[k] ∉ ls.take k → ixF (ls.drop 0) ls[k] i = i + k := by
  intro i h
  rw [List.drop_zero]
  induction ls generalizing k i with
  | nil => simp at hk
  | cons a r ih =>
    match k with
    | 0 => simp [ixF]
    | k + 1 =>
      simp only [List.take_succ_cons, List.mem_cons, not_or, List.getElem_cons_succ] at h ⊢
      unfold ixF; rw [if_neg (fun e => h.1 e.symm), ih k (by simpa using hk) (i + 1) h.2]; omega
theorem ixF_again (ls : List (List UInt8)) (k : Nat) (hk : k < ls.length) : ∀ i, ls[k] ∈ ls.take k → ixF ls ls[k] i ≠ i + k := by
  intro i h
  induction ls generalizing k i with
  | nil => simp at hk
  | cons a r ih =>
    match k with
    | 0 => simp at h
    | k + 1 =>
      simp only [List.take_succ_cons, List.mem_cons, List.getElem_cons_succ] at h ⊢
      unfold ixF; split
      · omega
      · rename_i hne
        rcases h with h | h
        · exact absurd h.symm hne
        · have := ih k (by simpa using hk) (i + 1) h; intro e; apply this; omega

set_option maxHeartbeats 8000000 in
set_option maxRecDepth 10000 in
theorem l15Keys_any (x : Sh) (cs : List Value) (w : World) (h : Rd w x.d cs) (hwf : x.wf) (hbk : x.bulk ≤ 4294967295) :
    Calls Tryd.prog 128 #[.agg cs.toArray] w fun e w' => e = .returned (.bool (match x with | .mk _ _ _ ks m kids => Sh.fields ks m kids.length)) ∧ Below w.heap.size w w' := by
  obtain ⟨k, l, hi, ks, m, kids, v1, v2, rfl, rfl, hk, hkids⟩ := Sh.lay h
  obtain ⟨ok, hok⟩ : ∃ ok, Sh.fields ks m kids.length = ok := ⟨_, rfl⟩
  simp only [hok]
  have HOK := Lib.hid hok; clear hok
  have hbk1 : ks.length ≤ 4294967295 ∧ kids.length ≤ 4294967295 := by simp only [Sh.bulk] at hbk; omega
  obtain ⟨hn1, hn2⟩ := hbk1
  have hstr : ∀ i (hi : i < ks.length), ks[i].length ≤ 4294967295 := fun i hi => by
    have h1 := ssBulk_snoc ks i hi; have h2 := ssBulk_take ks (i + 1); simp only [Sh.bulk] at hbk; omega
  have hrow := hk.strRow
  obtain ⟨a1, c1, rfl, hg⟩ := hk.strs
  obtain ⟨a2, c2, rfl⟩ := Rd.sl_form hkids
  rw [Sh.ds_map, List.length_map]
  have hm1 := hwf.2.2.2.2.1.1
  have hm2 := hwf.2.2.2.2.1.2
  clear hwf hbk h
  obtain ⟨W0, hW0⟩ : ∃ W0, W0 = w.alloc (.cells #[.int .i64 k, .int .i64 l, .int .i64 hi, .slice a1 ks.length c1, .int .i64 m, .slice a2 kids.length c2] 29) := ⟨_, rfl⟩
  have HW := Lib.hid hW0
  have hA : Below w.heap.size w W0 := by rw [hW0]; exact (Below.refl _ _).alloc (Nat.le_refl _) _
  have hz : w.heap.size < W0.heap.size := by rw [hW0]; simp
  have f3 : W0.cell? ⟨w.heap.size, 3, none⟩ = some (.slice a1 ks.length c1) := by rw [hW0]; simp
  have f4 : W0.cell? ⟨w.heap.size, 4, none⟩ = some (.int .i64 m) := by rw [hW0]; simp
  have f5 : W0.cell? ⟨w.heap.size, 5, none⟩ = some (.slice a2 kids.length c2) := by rw [hW0]; simp
  have hrow0 : StrRow W0 (.slice a1 ks.length c1) ks := by rw [hW0]; exact hrow.alloc _
  have KB : Hid (∀ W, Below W0.heap.size W0 W → W.cell? ⟨w.heap.size, 3, none⟩ = some (.slice a1 ks.length c1) ∧ W.cell? ⟨w.heap.size, 4, none⟩ = some (.int .i64 m) ∧ W.cell? ⟨w.heap.size, 5, none⟩ = some (.slice a2 kids.length c2)) := by
    intro W hb
    obtain ⟨hc, _⟩ := bcell hb
    simp only [hc _ _ hz]; exact ⟨f3, f4, f5⟩
  clear hW0 f3 f4 f5
  go_enter Tryd.func128, Tryd.ntmps128
  go_wp2
  rw [← HW.out]
  go_loopw [3] (fun i wr => ∃ (j : Nat), j ≤ ks.length ∧ i = .int .i64 j ∧ keysOk (ks.take j) = true ∧ Below W0.heap.size W0 wr) (fun i _ => ks.length - (intOf i).toNat)
  case atStart => exact ⟨0, Nat.zero_le _, rfl, by simp [keysOk], Below.refl _ _⟩
  case round =>
    obtain ⟨j, hj, rfl, hko, hbel⟩ := hrel
    have HKO := Lib.hid hko; clear hko
    obtain ⟨f3, f4, f5⟩ := KB.out _ hbel
    by_cases hlt : j < ks.length
    · obtain ⟨hc0, _, b, o, rfl, hb, hcell⟩ := hg (by intro e; rw [e] at hlt; simp at hlt)
      have hsl := hstr j hlt
      have hcj := hcell j hlt
      clear hcell hg hstr
      have hi1 : (0 : Int) ≤ j := by omega
      have hi3 : (j : Int) < ks.length := by omega
      have KC : Hid (∀ W, Below W0.heap.size W0 W → W.cell? ⟨b, o + j, none⟩ = some (.string ⟨ks[j].toArray⟩)) := fun W hB => by
        rw [(bcell (below2 hA hB (Nat.le_refl _))).1 _ _ hb]; exact hcj
      have HC1 := Lib.hid (fun W (hB : Below W0.heap.size W0 W) => l11At_any ks _ ks[j] W (hrow0.below hB) (by omega))
      have HT1 := Lib.hid (fun W => textOk_spec ks[j] W hsl)
      have hsn : keysOk (ks.take (j + 1)) = (keyOk ks[j] && decide (ks[j] ∉ ks.take j)) := by
        rw [List.take_succ_eq_append_getElem hlt, keysOk_snoc, HKO.out, Bool.true_and]
      have HSN := Lib.hid hsn
      have hB := hbel
      clear hsn hrow0 hrow hk hkids hcj
      by_cases q2 : validD ks[j] = true
      · have Q2 := Lib.hid q2
        by_cases q1 : ks[j].length ≤ 100
        · have q1' := decide_eq_false (show ¬ (100 : Int) < ks[j].length by omega)
          by_cases q3 : ks[j] ∈ ks.take j
          · have Q3 := Lib.hid (ixF_again ks j hlt 0 q3)
            have HF : Hid (Sh.fields ks m kids.length = false) := by
              show _ = _
              have : keysOk (ks.take (j + 1)) = false := by rw [HSN.out]; simp [q3]
              unfold Sh.fields; rw [keysOk_take _ this]; rfl
            have q4 : ((ixF ks ks[j] 0) != (j : Int)) = true := by have := Q3.out; simp at this ⊢; omega
            clear q2 q3
            go_wp2_with fail
            first | (go_region_held3 (fun W => (W.cell? ⟨w.heap.size, 3, none⟩ = some (.slice (some ⟨b, o, none⟩) ks.length c1) ∧ W.cell? ⟨w.heap.size, 4, none⟩ = some (.int .i64 m) ∧ W.cell? ⟨w.heap.size, 5, none⟩ = some (.slice a2 kids.length c2)) ∧ W.cell? ⟨b, o + j, none⟩ = some (.string ⟨ks[j].toArray⟩))
              (first | exact ⟨KB.out _ hB, KC.out _ hB⟩ | exact ⟨KB.out _ hB.drew, KC.out _ hB.drew⟩)
              (first | (go_at_call 123; with_reducible refine (HT1.out _).mono ?_; rw [Q2.out]; rintro e w1 ⟨rfl, hb1⟩; replace hB := below2 (by first | exact hB | exact hB.drew) hb1 (Nat.le_refl _)) | (go_at_call 94; refine (HC1.out _ (by first | exact hB | exact hB.drew)).mono ?_; rintro e w1 ⟨rfl, hb1⟩; replace hB := below2 (by first | exact hB | exact hB.drew) hb1 (Nat.le_refl _)))) | fail
            go_wp2
            go_ret
            exact ⟨by rw [← HOK.out, HF.out]; rfl, below2 hA hB (Nat.le_refl _)⟩
          · have Q3 := Lib.hid (ixF_first ks j hlt 0 q3)
            have HK : Hid (keysOk (ks.take (j + 1)) = true) := by
              show _ = _; rw [HSN.out]; simp [q3, keyOk, q1, q2]
            have q4 : ((ixF ks ks[j] 0) != (j : Int)) = false := by have := Q3.out; simp at this ⊢; omega
            clear q2 q3
            go_wp2_with fail
            first | (go_region_held3 (fun W => (W.cell? ⟨w.heap.size, 3, none⟩ = some (.slice (some ⟨b, o, none⟩) ks.length c1) ∧ W.cell? ⟨w.heap.size, 4, none⟩ = some (.int .i64 m) ∧ W.cell? ⟨w.heap.size, 5, none⟩ = some (.slice a2 kids.length c2)) ∧ W.cell? ⟨b, o + j, none⟩ = some (.string ⟨ks[j].toArray⟩))
              (first | exact ⟨KB.out _ hB, KC.out _ hB⟩ | exact ⟨KB.out _ hB.drew, KC.out _ hB.drew⟩)
              (first | (go_at_call 123; with_reducible refine (HT1.out _).mono ?_; rw [Q2.out]; rintro e w1 ⟨rfl, hb1⟩; replace hB := below2 (by first | exact hB | exact hB.drew) hb1 (Nat.le_refl _)) | (go_at_call 94; refine (HC1.out _ (by first | exact hB | exact hB.drew)).mono ?_; rintro e w1 ⟨rfl, hb1⟩; replace hB := below2 (by first | exact hB | exact hB.drew) hb1 (Nat.le_refl _)))) | fail
            go_wp2
            go_roundw
            case rel => exact ⟨j + 1, by omega, by go_num, HK.out, hB⟩
            case measure => simp [intOf]; omega
        · have q1' := decide_eq_true (show (100 : Int) < ks[j].length by omega)
          have HF : Hid (Sh.fields ks m kids.length = false) := by
            show _ = _
            have : keysOk (ks.take (j + 1)) = false := by rw [HSN.out]; simp [keyOk, q1]
            unfold Sh.fields; rw [keysOk_take _ this]; rfl
          clear q2 q1
          go_wp2_with fail
          refine wp_region_held_drew (S := (fun W => (W.cell? ⟨w.heap.size, 3, none⟩ = some (.slice (some ⟨b, o, none⟩) ks.length c1) ∧ W.cell? ⟨w.heap.size, 4, none⟩ = some (.int .i64 m) ∧ W.cell? ⟨w.heap.size, 5, none⟩ = some (.slice a2 kids.length c2)) ∧ W.cell? ⟨b, o + j, none⟩ = some (.string ⟨ks[j].toArray⟩))) (by kernel_rfl) ?_ (fun hHeld => ?_)
          · ((try dsimp only); (first | exact ⟨KB.out _ hB, KC.out _ hB⟩ | exact ⟨KB.out _ hB.drew, KC.out _ hB.drew⟩))
          refine takeW (i := 0) (fuel := 27) (d := some 11) (v := ?vb0) (listed' := #[true, false, false, false, false, false, false, false, false, false, false, false, false, false, false, false, false, false, false, false, false, false, false, false, false, false, false, false]) rfl rfl (by kernel_rfl) (by kernel_rfl) (by kernel_rfl) (by kernel_rfl) (by kernel_rfl) (fun _ _ _ h => h) (by kernel_rfl) (by assumption) ?hb0 ?rb0
          case hb0 => (intro w hSw; (try dsimp only at hSw); go_simp; all_goals with_reducible rfl)
          simp only [skipAct, Act.put, List.setIfInBounds_toArray, List.set_cons_zero, List.set_cons_succ]
          refine takeW (i := 1) (fuel := 26) (d := some 12) (v := ?vb1) (listed' := #[true, true, false, false, false, false, false, false, false, false, false, false, false, false, false, false, false, false, false, false, false, false, false, false, false, false, false, false]) rfl rfl (by kernel_rfl) (by kernel_rfl) (by kernel_rfl) (by kernel_rfl) (by kernel_rfl) (fun _ _ _ h => h) (by kernel_rfl) (by assumption) ?hb1 ?rb1
          case hb1 => (intro w hSw; (try dsimp only at hSw); go_simp; all_goals with_reducible rfl)
          simp only [skipAct, Act.put, List.setIfInBounds_toArray, List.set_cons_zero, List.set_cons_succ]
          refine takeW (i := 2) (fuel := 25) (d := some 13) (v := ?vb2) (listed' := #[true, true, true, false, false, false, false, false, false, false, false, false, false, false, false, false, false, false, false, false, false, false, false, false, false, false, false, false]) rfl rfl (by kernel_rfl) (by kernel_rfl) (by kernel_rfl) (by kernel_rfl) (by kernel_rfl) (fun _ _ _ h => h) (by kernel_rfl) (by assumption) ?hb2 ?rb2
          case hb2 => (intro w hSw; (try dsimp only at hSw); go_simp; all_goals with_reducible rfl)
          simp only [skipAct, Act.put, List.setIfInBounds_toArray, List.set_cons_zero, List.set_cons_succ]
          refine takeW (i := 3) (fuel := 24) (d := some 14) (v := ?vb3) (listed' := #[true, true, true, true, false, false, false, false, false, false, false, false, false, false, false, false, false, false, false, false, false, false, false, false, false, false, false, false]) rfl rfl (by kernel_rfl) (by kernel_rfl) (by kernel_rfl) (by kernel_rfl) (by kernel_rfl) (fun _ _ _ h => h) (by kernel_rfl) (by assumption) ?hb3 ?rb3
          case hb3 => (intro w hSw; (try dsimp only at hSw); go_simp; all_goals with_reducible rfl)
          simp only [skipAct, Act.put, List.setIfInBounds_toArray, List.set_cons_zero, List.set_cons_succ]
          refine takeW (i := 4) (fuel := 23) (d := some 15) (v := ?vb4) (listed' := #[true, true, true, true, true, false, false, false, false, false, false, false, false, false, false, false, false, false, false, false, false, false, false, false, false, false, false, false]) rfl rfl (by kernel_rfl) (by kernel_rfl) (by kernel_rfl) (by kernel_rfl) (by kernel_rfl) (fun _ _ _ h => h) (by kernel_rfl) (by assumption) ?hb4 ?rb4
          case hb4 => (intro w hSw; (try dsimp only at hSw); go_simp; all_goals with_reducible rfl)
          simp only [skipAct, Act.put, List.setIfInBounds_toArray, List.set_cons_zero, List.set_cons_succ]
          refine takeC (i := 5) (fuel := 22) (d := some 16) (listed' := #[true, true, true, true, true, true, false, false, false, false, false, false, false, false, false, false, false, false, false, false, false, false, false, false, false, false, false, false]) rfl rfl (by kernel_rfl) (by kernel_rfl) (by kernel_rfl) (by kernel_rfl) (fun K hK => ?cb5)
          go_simp
          (go_at_call 123; with_reducible refine (HT1.out _).mono ?_; rw [Q2.out]; rintro e w1 ⟨rfl, hb1⟩; replace hB := below2 (by first | exact hB | exact hB.drew) hb1 (Nat.le_refl _))
          go_wp2_with fail
          refine hK.out _ _ ?kb5 (fun hHeld => ?nb5)
          case kb5 => ((try dsimp only); (first | exact ⟨KB.out _ hB, KC.out _ hB⟩ | exact ⟨KB.out _ hB.drew, KC.out _ hB.drew⟩))
          clear hK K
          try simp only [skipAct, Act.put, List.setIfInBounds_toArray, List.set_cons_zero, List.set_cons_succ]
          refine takeW (i := 6) (fuel := 21) (d := some 17) (v := ?vb6) (listed' := #[true, true, true, true, true, true, true, false, false, false, false, false, false, false, false, false, false, false, false, false, false, false, false, false, false, false, false, false]) rfl rfl (by kernel_rfl) (by kernel_rfl) (by kernel_rfl) (by kernel_rfl) (by kernel_rfl) (fun _ _ _ h => h) (by kernel_rfl) (by assumption) ?hb6 ?rb6
          case hb6 => (intro w hSw; (try dsimp only at hSw); go_simp; all_goals with_reducible rfl)
          simp only [skipAct, Act.put, List.setIfInBounds_toArray, List.set_cons_zero, List.set_cons_succ]
          refine takeW (i := 7) (fuel := 20) (d := some 18) (v := ?vb7) (listed' := #[true, true, true, true, true, true, true, true, false, false, false, false, false, false, false, false, false, false, false, false, false, false, false, false, false, false, false, false]) rfl rfl (by kernel_rfl) (by kernel_rfl) (by kernel_rfl) (by kernel_rfl) (by kernel_rfl) (fun _ _ _ h => h) (by kernel_rfl) (by assumption) ?hb7 ?rb7
          case hb7 => (intro w hSw; (try dsimp only at hSw); go_simp; all_goals with_reducible rfl)
          simp only [skipAct, Act.put, List.setIfInBounds_toArray, List.set_cons_zero, List.set_cons_succ]
          refine takeW (i := 8) (fuel := 19) (d := some 19) (v := ?vb8) (listed' := #[true, true, true, true, true, true, true, true, true, false, false, false, false, false, false, false, false, false, false, false, false, false, false, false, false, false, false, false]) rfl rfl (by kernel_rfl) (by kernel_rfl) (by kernel_rfl) (by kernel_rfl) (by kernel_rfl) (fun _ _ _ h => h) (by kernel_rfl) (by assumption) ?hb8 ?rb8
          case hb8 => (intro w hSw; (try dsimp only at hSw); go_simp; all_goals with_reducible rfl)
          simp only [skipAct, Act.put, List.setIfInBounds_toArray, List.set_cons_zero, List.set_cons_succ]
          refine takeW (i := 9) (fuel := 18) (d := some 20) (v := ?vb9) (listed' := #[true, true, true, true, true, true, true, true, true, true, false, false, false, false, false, false, false, false, false, false, false, false, false, false, false, false, false, false]) rfl rfl (by kernel_rfl) (by kernel_rfl) (by kernel_rfl) (by kernel_rfl) (by kernel_rfl) (fun _ _ _ h => h) (by kernel_rfl) (by assumption) ?hb9 ?rb9
          case hb9 => (intro w hSw; (try dsimp only at hSw); go_simp; all_goals with_reducible rfl)
          simp only [skipAct, Act.put, List.setIfInBounds_toArray, List.set_cons_zero, List.set_cons_succ]
          refine takeW (i := 10) (fuel := 17) (d := some 21) (v := ?vb10) (listed' := #[true, true, true, true, true, true, true, true, true, true, true, false, false, false, false, false, false, false, false, false, false, false, false, false, false, false, false, false]) rfl rfl (by kernel_rfl) (by kernel_rfl) (by kernel_rfl) (by kernel_rfl) (by kernel_rfl) (fun _ _ _ h => h) (by kernel_rfl) (by assumption) ?hb10 ?rb10
          case hb10 => (intro w hSw; (try dsimp only at hSw); go_simp; all_goals with_reducible rfl)
          simp only [skipAct, Act.put, List.setIfInBounds_toArray, List.set_cons_zero, List.set_cons_succ]
          refine takeW (i := 11) (fuel := 16) (d := some 22) (v := ?vb11) (listed' := #[true, true, true, true, true, true, true, true, true, true, true, true, false, false, false, false, false, false, false, false, false, false, false, false, false, false, false, false]) rfl rfl (by kernel_rfl) (by kernel_rfl) (by kernel_rfl) (by kernel_rfl) (by kernel_rfl) (fun _ _ _ h => h) (by kernel_rfl) (by assumption) ?hb11 ?rb11
          case hb11 => (intro w hSw; (try dsimp only at hSw); go_simp; all_goals with_reducible rfl)
          simp only [skipAct, Act.put, List.setIfInBounds_toArray, List.set_cons_zero, List.set_cons_succ]
          refine takeW (i := 12) (fuel := 15) (d := some 23) (v := ?vb12) (listed' := #[true, true, true, true, true, true, true, true, true, true, true, true, true, false, false, false, false, false, false, false, false, false, false, false, false, false, false, false]) rfl rfl (by kernel_rfl) (by kernel_rfl) (by kernel_rfl) (by kernel_rfl) (by kernel_rfl) (fun _ _ _ h => h) (by kernel_rfl) (by assumption) ?hb12 ?rb12
          case hb12 => (intro w hSw; (try dsimp only at hSw); go_simp; all_goals with_reducible rfl)
          simp only [skipAct, Act.put, List.setIfInBounds_toArray, List.set_cons_zero, List.set_cons_succ]
          refine takeW (i := 13) (fuel := 14) (d := some 24) (v := ?vb13) (listed' := #[true, true, true, true, true, true, true, true, true, true, true, true, true, true, false, false, false, false, false, false, false, false, false, false, false, false, false, false]) rfl rfl (by kernel_rfl) (by kernel_rfl) (by kernel_rfl) (by kernel_rfl) (by kernel_rfl) (fun _ _ _ h => h) (by kernel_rfl) (by assumption) ?hb13 ?rb13
          case hb13 => (intro w hSw; (try dsimp only at hSw); go_simp; all_goals with_reducible rfl)
          simp only [skipAct, Act.put, List.setIfInBounds_toArray, List.set_cons_zero, List.set_cons_succ]
          refine takeW (i := 14) (fuel := 13) (d := some 25) (v := ?vb14) (listed' := #[true, true, true, true, true, true, true, true, true, true, true, true, true, true, true, false, false, false, false, false, false, false, false, false, false, false, false, false]) rfl rfl (by kernel_rfl) (by kernel_rfl) (by kernel_rfl) (by kernel_rfl) (by kernel_rfl) (fun _ _ _ h => h) (by kernel_rfl) (by assumption) ?hb14 ?rb14
          case hb14 => (intro w hSw; (try dsimp only at hSw); go_simp; all_goals with_reducible rfl)
          simp only [skipAct, Act.put, List.setIfInBounds_toArray, List.set_cons_zero, List.set_cons_succ]
          refine takeW (i := 15) (fuel := 12) (d := some 26) (v := ?vb15) (listed' := #[true, true, true, true, true, true, true, true, true, true, true, true, true, true, true, true, false, false, false, false, false, false, false, false, false, false, false, false]) rfl rfl (by kernel_rfl) (by kernel_rfl) (by kernel_rfl) (by kernel_rfl) (by kernel_rfl) (fun _ _ _ h => h) (by kernel_rfl) (by assumption) ?hb15 ?rb15
          case hb15 => (intro w hSw; (try dsimp only at hSw); go_simp; all_goals with_reducible rfl)
          simp only [skipAct, Act.put, List.setIfInBounds_toArray, List.set_cons_zero, List.set_cons_succ]
          refine takeW (i := 16) (fuel := 11) (d := some 27) (v := ?vb16) (listed' := #[true, true, true, true, true, true, true, true, true, true, true, true, true, true, true, true, true, false, false, false, false, false, false, false, false, false, false, false]) rfl rfl (by kernel_rfl) (by kernel_rfl) (by kernel_rfl) (by kernel_rfl) (by kernel_rfl) (fun _ _ _ h => h) (by kernel_rfl) (by assumption) ?hb16 ?rb16
          case hb16 => (intro w hSw; (try dsimp only at hSw); go_simp; all_goals with_reducible rfl)
          simp only [skipAct, Act.put, List.setIfInBounds_toArray, List.set_cons_zero, List.set_cons_succ]
          refine takeS (fuel := 1) (listed' := #[true, true, true, true, true, true, true, true, true, true, true, true, true, true, true, true, true, true, true, true, true, true, true, true, true, true, true, false]) (by kernel_rfl) (fun _ _ _ _ h => h) (by assumption) [(17, 28), (18, 29), (19, 30), (20, 31), (21, 32), (22, 33), (23, 34), (24, 35), (25, 36), (26, 37)] (by kernel_rfl) (by kernel_rfl) (by kernel_rfl) ?_
          simp only [skipAct, Act.put, List.setIfInBounds_toArray, List.set_cons_zero, List.set_cons_succ]
          refine takeW (i := 27) (fuel := 0) (d := some 38) (v := ?vb27) (listed' := #[true, true, true, true, true, true, true, true, true, true, true, true, true, true, true, true, true, true, true, true, true, true, true, true, true, true, true, true]) rfl rfl (by kernel_rfl) (by kernel_rfl) (by kernel_rfl) (by kernel_rfl) (by kernel_rfl) (fun _ _ _ h => h) (by kernel_rfl) (by assumption) ?hb27 ?rb27
          case hb27 => (intro w hSw; (try dsimp only at hSw); go_simp; all_goals with_reducible rfl)
          simp only [skipAct, Act.put, List.setIfInBounds_toArray, List.set_cons_zero, List.set_cons_succ]
          refine wpAnyH_done (by kernel_rfl) ?_ _
          go_wp2
          go_ret
          exact ⟨by rw [← HOK.out, HF.out]; rfl, below2 hA hB (Nat.le_refl _)⟩
      · have Q2 := Lib.hid (show validD ks[j] = false by simpa using q2)
        have HF : Hid (Sh.fields ks m kids.length = false) := by
          show _ = _
          have : keysOk (ks.take (j + 1)) = false := by rw [HSN.out]; simp [keyOk, q2]
          unfold Sh.fields; rw [keysOk_take _ this]; rfl
        clear q2
        go_wp2_with fail
        refine wp_region_held_drew (S := (fun W => (W.cell? ⟨w.heap.size, 3, none⟩ = some (.slice (some ⟨b, o, none⟩) ks.length c1) ∧ W.cell? ⟨w.heap.size, 4, none⟩ = some (.int .i64 m) ∧ W.cell? ⟨w.heap.size, 5, none⟩ = some (.slice a2 kids.length c2)) ∧ W.cell? ⟨b, o + j, none⟩ = some (.string ⟨ks[j].toArray⟩))) (by kernel_rfl) ?_ (fun hHeld => ?_)
        · ((try dsimp only); (first | exact ⟨KB.out _ hB, KC.out _ hB⟩ | exact ⟨KB.out _ hB.drew, KC.out _ hB.drew⟩))
        refine takeW (i := 0) (fuel := 27) (d := some 11) (v := ?va0) (listed' := #[true, false, false, false, false, false, false, false, false, false, false, false, false, false, false, false, false, false, false, false, false, false, false, false, false, false, false, false]) rfl rfl (by kernel_rfl) (by kernel_rfl) (by kernel_rfl) (by kernel_rfl) (by kernel_rfl) (fun _ _ _ h => h) (by kernel_rfl) (by assumption) ?ha0 ?ra0
        case ha0 => (intro w hSw; (try dsimp only at hSw); go_simp; all_goals with_reducible rfl)
        simp only [skipAct, Act.put, List.setIfInBounds_toArray, List.set_cons_zero, List.set_cons_succ]
        refine takeW (i := 1) (fuel := 26) (d := some 12) (v := ?va1) (listed' := #[true, true, false, false, false, false, false, false, false, false, false, false, false, false, false, false, false, false, false, false, false, false, false, false, false, false, false, false]) rfl rfl (by kernel_rfl) (by kernel_rfl) (by kernel_rfl) (by kernel_rfl) (by kernel_rfl) (fun _ _ _ h => h) (by kernel_rfl) (by assumption) ?ha1 ?ra1
        case ha1 => (intro w hSw; (try dsimp only at hSw); go_simp; all_goals with_reducible rfl)
        simp only [skipAct, Act.put, List.setIfInBounds_toArray, List.set_cons_zero, List.set_cons_succ]
        refine takeW (i := 2) (fuel := 25) (d := some 13) (v := ?va2) (listed' := #[true, true, true, false, false, false, false, false, false, false, false, false, false, false, false, false, false, false, false, false, false, false, false, false, false, false, false, false]) rfl rfl (by kernel_rfl) (by kernel_rfl) (by kernel_rfl) (by kernel_rfl) (by kernel_rfl) (fun _ _ _ h => h) (by kernel_rfl) (by assumption) ?ha2 ?ra2
        case ha2 => (intro w hSw; (try dsimp only at hSw); go_simp; all_goals with_reducible rfl)
        simp only [skipAct, Act.put, List.setIfInBounds_toArray, List.set_cons_zero, List.set_cons_succ]
        refine takeW (i := 3) (fuel := 24) (d := some 14) (v := ?va3) (listed' := #[true, true, true, true, false, false, false, false, false, false, false, false, false, false, false, false, false, false, false, false, false, false, false, false, false, false, false, false]) rfl rfl (by kernel_rfl) (by kernel_rfl) (by kernel_rfl) (by kernel_rfl) (by kernel_rfl) (fun _ _ _ h => h) (by kernel_rfl) (by assumption) ?ha3 ?ra3
        case ha3 => (intro w hSw; (try dsimp only at hSw); go_simp; all_goals with_reducible rfl)
        simp only [skipAct, Act.put, List.setIfInBounds_toArray, List.set_cons_zero, List.set_cons_succ]
        refine takeW (i := 4) (fuel := 23) (d := some 15) (v := ?va4) (listed' := #[true, true, true, true, true, false, false, false, false, false, false, false, false, false, false, false, false, false, false, false, false, false, false, false, false, false, false, false]) rfl rfl (by kernel_rfl) (by kernel_rfl) (by kernel_rfl) (by kernel_rfl) (by kernel_rfl) (fun _ _ _ h => h) (by kernel_rfl) (by assumption) ?ha4 ?ra4
        case ha4 => (intro w hSw; (try dsimp only at hSw); go_simp; all_goals with_reducible rfl)
        simp only [skipAct, Act.put, List.setIfInBounds_toArray, List.set_cons_zero, List.set_cons_succ]
        refine takeC (i := 5) (fuel := 22) (d := some 16) (listed' := #[true, true, true, true, true, true, false, false, false, false, false, false, false, false, false, false, false, false, false, false, false, false, false, false, false, false, false, false]) rfl rfl (by kernel_rfl) (by kernel_rfl) (by kernel_rfl) (by kernel_rfl) (fun K hK => ?ca5)
        go_simp
        (go_at_call 123; with_reducible refine (HT1.out _).mono ?_; rw [Q2.out]; rintro e w1 ⟨rfl, hb1⟩; replace hB := below2 (by first | exact hB | exact hB.drew) hb1 (Nat.le_refl _))
        go_wp2_with fail
        refine hK.out _ _ ?ka5 (fun hHeld => ?na5)
        case ka5 => ((try dsimp only); (first | exact ⟨KB.out _ hB, KC.out _ hB⟩ | exact ⟨KB.out _ hB.drew, KC.out _ hB.drew⟩))
        clear hK K
        try simp only [skipAct, Act.put, List.setIfInBounds_toArray, List.set_cons_zero, List.set_cons_succ]
        refine takeW (i := 6) (fuel := 21) (d := some 17) (v := ?va6) (listed' := #[true, true, true, true, true, true, true, false, false, false, false, false, false, false, false, false, false, false, false, false, false, false, false, false, false, false, false, false]) rfl rfl (by kernel_rfl) (by kernel_rfl) (by kernel_rfl) (by kernel_rfl) (by kernel_rfl) (fun _ _ _ h => h) (by kernel_rfl) (by assumption) ?ha6 ?ra6
        case ha6 => (intro w hSw; (try dsimp only at hSw); go_simp; all_goals with_reducible rfl)
        simp only [skipAct, Act.put, List.setIfInBounds_toArray, List.set_cons_zero, List.set_cons_succ]
        refine takeW (i := 7) (fuel := 20) (d := some 18) (v := ?va7) (listed' := #[true, true, true, true, true, true, true, true, false, false, false, false, false, false, false, false, false, false, false, false, false, false, false, false, false, false, false, false]) rfl rfl (by kernel_rfl) (by kernel_rfl) (by kernel_rfl) (by kernel_rfl) (by kernel_rfl) (fun _ _ _ h => h) (by kernel_rfl) (by assumption) ?ha7 ?ra7
        case ha7 => (intro w hSw; (try dsimp only at hSw); go_simp; all_goals with_reducible rfl)
        simp only [skipAct, Act.put, List.setIfInBounds_toArray, List.set_cons_zero, List.set_cons_succ]
        refine takeS (fuel := 13) (listed' := #[true, true, true, true, true, true, true, true, true, true, true, true, true, true, true, false, false, false, false, false, false, false, false, false, false, false, false, false]) (by kernel_rfl) (fun _ _ _ _ h => h) (by assumption) [(8, 19), (9, 20), (10, 21), (11, 22), (12, 23), (13, 24), (14, 25)] (by kernel_rfl) (by kernel_rfl) (by kernel_rfl) ?_
        simp only [skipAct, Act.put, List.setIfInBounds_toArray, List.set_cons_zero, List.set_cons_succ]
        refine takeW (i := 15) (fuel := 12) (d := some 26) (v := ?va15) (listed' := #[true, true, true, true, true, true, true, true, true, true, true, true, true, true, true, true, false, false, false, false, false, false, false, false, false, false, false, false]) rfl rfl (by kernel_rfl) (by kernel_rfl) (by kernel_rfl) (by kernel_rfl) (by kernel_rfl) (fun _ _ _ h => h) (by kernel_rfl) (by assumption) ?ha15 ?ra15
        case ha15 => (intro w hSw; (try dsimp only at hSw); go_simp; all_goals with_reducible rfl)
        simp only [skipAct, Act.put, List.setIfInBounds_toArray, List.set_cons_zero, List.set_cons_succ]
        refine takeW (i := 16) (fuel := 11) (d := some 27) (v := ?va16) (listed' := #[true, true, true, true, true, true, true, true, true, true, true, true, true, true, true, true, true, false, false, false, false, false, false, false, false, false, false, false]) rfl rfl (by kernel_rfl) (by kernel_rfl) (by kernel_rfl) (by kernel_rfl) (by kernel_rfl) (fun _ _ _ h => h) (by kernel_rfl) (by assumption) ?ha16 ?ra16
        case ha16 => (intro w hSw; (try dsimp only at hSw); go_simp; all_goals with_reducible rfl)
        simp only [skipAct, Act.put, List.setIfInBounds_toArray, List.set_cons_zero, List.set_cons_succ]
        refine takeS (fuel := 1) (listed' := #[true, true, true, true, true, true, true, true, true, true, true, true, true, true, true, true, true, true, true, true, true, true, true, true, true, true, true, false]) (by kernel_rfl) (fun _ _ _ _ h => h) (by assumption) [(17, 28), (18, 29), (19, 30), (20, 31), (21, 32), (22, 33), (23, 34), (24, 35), (25, 36), (26, 37)] (by kernel_rfl) (by kernel_rfl) (by kernel_rfl) ?_
        simp only [skipAct, Act.put, List.setIfInBounds_toArray, List.set_cons_zero, List.set_cons_succ]
        refine takeW (i := 27) (fuel := 0) (d := some 38) (v := ?va27) (listed' := #[true, true, true, true, true, true, true, true, true, true, true, true, true, true, true, true, true, true, true, true, true, true, true, true, true, true, true, true]) rfl rfl (by kernel_rfl) (by kernel_rfl) (by kernel_rfl) (by kernel_rfl) (by kernel_rfl) (fun _ _ _ h => h) (by kernel_rfl) (by assumption) ?ha27 ?ra27
        case ha27 => (intro w hSw; (try dsimp only at hSw); go_simp; all_goals with_reducible rfl)
        simp only [skipAct, Act.put, List.setIfInBounds_toArray, List.set_cons_zero, List.set_cons_succ]
        refine wpAnyH_done (by kernel_rfl) ?_ _
        go_wp2
        go_ret
        exact ⟨by rw [← HOK.out, HF.out]; rfl, below2 hA hB (Nat.le_refl _)⟩
    · obtain rfl : j = ks.length := by omega
      have HK := HKO.out
      rw [List.take_length] at HK
      have HF : Hid (ok = (decide (kids.length = ks.length) && (decide (0 ≤ m) && decide (m ≤ ks.length)))) := by
        show _ = _; rw [← HOK.out]; unfold Sh.fields; rw [HK]; rfl
      clear HK
      have hbelw := below2 hA hbel (Nat.le_refl _)
      by_cases q : kids.length = ks.length
      · have q' : ((ks.length : Int) == kids.length) = true := by simp [q]
        have Q := Lib.hid q; clear q
        go_wp2_with (go_at_call 121; refine (l01In_any _ _ _ _).mono ?_; rintro e w1 ⟨rfl, rfl⟩)
        go_ret
        exact ⟨by rw [HF.out, decide_eq_true Q.out]; rfl, hbelw⟩
      · have q' : ((ks.length : Int) == kids.length) = false := by simp; omega
        have Q := Lib.hid q; clear q
        go_wp2_with (go_at_call 121; refine (l01In_any _ _ _ _).mono ?_; rintro e w1 ⟨rfl, rfl⟩)
        go_ret
        exact ⟨by rw [HF.out, decide_eq_false Q.out]; rfl, hbelw⟩

end Go.Proofs.YtkeieeogkeonfaaDoor
