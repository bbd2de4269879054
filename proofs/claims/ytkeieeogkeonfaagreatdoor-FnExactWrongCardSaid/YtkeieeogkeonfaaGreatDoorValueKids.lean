/- Whether the kids of a value are as many as they may be, and its keys right: the program's isKey and areKids. -/
import Derived.Test.YtkeieeogkeonfaaGreatDoorValueOkS
import Derived.Test.YtkeieeogkeonfaaGreatDoorValueSame
namespace Go.Proofs.YtkeieeogkeonfaaGreatDoor
open Go.RowKit

set_option maxHeartbeats 400000 in
theorem isKey_any (x : V) (cs : List Value) (w : World) (h : Rd w x.d cs) :
    Calls Tryz.prog 82 #[.agg cs.toArray] w fun e w' => e = .returned (.bool (isKeyK x.kind)) ∧ Below w.heap.size w w' := by
  obtain ⟨k, m, e, s, kids, v1, rfl, rfl, hkids⟩ := V.lay h
  have HA := Lib.hid ((Below.refl w.heap.size w).alloc (Nat.le_refl _) (.cells #[.int .i64 k, .int .i64 m, .int .i64 e, .string ⟨s.toArray⟩, v1] 35))
  clear h hkids
  show Calls _ _ _ _ fun e' w' => e' = .returned (.bool (isKeyK k)) ∧ _
  by_cases h5 : k = 5
  · subst h5
    go_enter Tryz.func82, Tryz.ntmps82
    go_wp2
    go_ret
    exact ⟨rfl, HA.out⟩
  · have g5 : (k == 5) = false := by simpa using h5
    have H := Lib.hid (show isKeyK k = (k == 3) by unfold isKeyK; rw [decide_eq_false h5, Bool.false_or]; rfl)
    go_enter Tryz.func82, Tryz.ntmps82
    go_wp2
    go_ret
    exact ⟨by rw [H.out]; rfl, HA.out⟩

/-- as many kids as a value of this kind may have, keys right -/
def V.kidsOk (k : Int) (kids : List V) : Bool :=
  if k = 7 then true else if k = 9 then decide (kids.length = 1) else if k = 8 then pairsOkI kids else decide (kids = [])

theorem len0' (l : List V) : ((l.length : Int) == 0) = decide (l = []) := by
  cases l with
  | nil => rfl
  | cons a r => simp; omega

set_option maxHeartbeats 4000000 in
set_option maxRecDepth 10000 in
theorem areKids_any (x : V) (cs : List Value) (w : World) (h : Rd w x.d cs) (hbk : x.bulk ≤ 4294967295) :
    Calls Tryz.prog 57 #[.agg cs.toArray] w fun e w' => e = .returned (.bool (V.kidsOk x.kind x.kids)) ∧ Below w.heap.size w w' := by
  obtain ⟨q, n, e, s, xs, v1, rfl, rfl, hkids⟩ := V.lay h
  have hkb : xs.length + V.bulks xs ≤ 4294967295 := by simp only [V.bulk] at hbk; omega
  obtain ⟨a, c, rfl, hg⟩ := hkids.values
  show Calls _ _ _ _ fun e' w' => e' = .returned (.bool (V.kidsOk q xs)) ∧ _
  obtain ⟨ok, hok⟩ : ∃ ok, V.kidsOk q xs = ok := ⟨_, rfl⟩
  rw [hok]
  have HOK := Lib.hid hok; clear hok
  obtain ⟨W0, hW0⟩ : ∃ W0, W0 = w.alloc (.cells #[.int .i64 q, .int .i64 n, .int .i64 e, .string ⟨s.toArray⟩, .slice a xs.length c] 35) := ⟨_, rfl⟩
  have HW := Lib.hid hW0
  have hA0 : Below w.heap.size w W0 := by rw [hW0]; exact (Below.refl _ _).alloc (Nat.le_refl _) _
  have hz : w.heap.size < W0.heap.size := by rw [hW0]; simp
  have KB : Hid (∀ W, Below W0.heap.size W0 W → W.cell? ⟨w.heap.size, 0, none⟩ = some (.int .i64 q) ∧ W.cell? ⟨w.heap.size, 4, none⟩ = some (.slice a xs.length c)) := by
    intro W hb
    obtain ⟨hc, _⟩ := bcell hb
    simp only [hc _ _ hz]; subst hW0; simp
  clear hW0 h hkids hbk
  obtain ⟨f0, f4⟩ := KB.out _ (Below.refl _ _)
  by_cases q7 : q = 7
  · subst q7
    have H := Lib.hid (show ok = true by rw [← HOK.out]; rfl)
    go_enter Tryz.func57, Tryz.ntmps57
    go_wp2
    rw [← HW.out]
    go_ret
    exact ⟨by rw [H.out]; rfl, hA0⟩
  by_cases q9 : q = 9
  · subst q9
    have H := Lib.hid (show ok = decide (xs.length = 1) by rw [← HOK.out]; rfl)
    go_enter Tryz.func57, Tryz.ntmps57
    go_wp2
    rw [← HW.out]
    go_ret
    exact ⟨by rw [H.out]; exact ret_bool (by rw [Bool.eq_iff_iff]; simp; omega), hA0⟩
  by_cases q8 : q = 8
  · subst q8
    have HP := Lib.hid (show ok = pairsOkI xs by rw [← HOK.out]; rfl)
    obtain ⟨ks, hks⟩ : ∃ ks, odds xs = ks := ⟨_, rfl⟩
    have hkl : ks.length = (xs.length + 1) / 2 := by rw [← hks, odds_length]
    have HKG : Hid (∀ j (h1 : 2 * j < xs.length) (h2 : j < ks.length), ks[j] = xs[2 * j]) := by
      intro j h1 h2; subst hks; exact odds_get xs j h1
    have HKS := Lib.hid hks; clear hks
    clear q7 q9
    go_enter Tryz.func57, Tryz.ntmps57
    go_wp2
    rw [← HW.out]
    go_loopw [3] (fun i wr => ∃ (j k : Nat), k = 2 * j ∧ j ≤ ks.length ∧ i = .int .i64 k ∧ uniq id (ks.take j) = true ∧ Below W0.heap.size W0 wr) (fun i _ => xs.length + 1 - (intOf i).toNat)
    case atStart => exact ⟨0, 0, rfl, Nat.zero_le _, rfl, by simp [uniq], Below.refl _ _⟩
    case round =>
      obtain ⟨j, k, hkj, hj, rfl, hu, hbel⟩ := hrel
      have HKJ := Lib.hid hkj
      have HU := Lib.hid hu; clear hu f0 f4
      obtain ⟨f0, f4⟩ := KB.out _ hbel
      have hbw := below2 hA0 hbel (Nat.le_refl _)
      by_cases hlt : k < xs.length
      · have hjk : j < ks.length := by omega
        have hkk := HKG.out j (by omega) hjk
        obtain ⟨_, _, b, o, rfl, hb, hcell⟩ := hg (by intro e; rw [e] at hlt; simp at hlt)
        have HC := Lib.hid hcell
        obtain ⟨v0, v1, v2, v3, v4, hr, d0, d1, d2, d3, d4⟩ := hcell k hlt
        clear hcell
        obtain ⟨k1, k2, k3, s4, a6, n6, m6, hcs⟩ := V.form hr
        simp only [List.cons.injEq, and_true] at hcs
        obtain ⟨rfl, rfl, rfl, rfl, rfl⟩ := hcs
        have hbc := (bcell hbw).1
        rw [← hbc _ _ hb] at d0 d1 d2 d3 d4
        have HX := Lib.hid (show ks[j] = xs[k] by rw [hkk]; subst hkj; rfl)
        have hi1 : (0 : Int) ≤ k := by omega
        have hi3 : (k : Int) < xs.length := by omega
        have hbz : b < W0.heap.size := by have := hA0.size; omega
        have HD : Hid (∀ W, Below W0.heap.size W0 W → W.cell? ⟨b, o + k * 5, none⟩ = some (.int .i64 k1) ∧ W.cell? ⟨b, o + k * 5 + 1, none⟩ = some (.int .i64 k2) ∧ W.cell? ⟨b, o + k * 5 + 2, none⟩ = some (.int .i64 k3) ∧ W.cell? ⟨b, o + k * 5 + 3, none⟩ = some (.string ⟨s4.toArray⟩) ∧ W.cell? ⟨b, o + k * 5 + 4, none⟩ = some (.slice a6 n6 m6)) := by
          intro W hW
          have h1 := (bcell hW).1
          have h2 := (bcell hbel).1
          rw [h2 _ _ hbz] at d0 d1 d2 d3 d4
          simp only [h1 _ _ hbz]; exact ⟨d0, d1, d2, d3, d4⟩
        have HK1 := Lib.hid (fun W (hW : Below W0.heap.size W0 W) => isKey_any xs[k] _ W (hr.below (below2 hA0 hW (Nat.le_refl _))))
        have HXR := Lib.hid (fun W (hW : Below W0.heap.size W0 W) => (hr.below (below2 hA0 hW (Nat.le_refl _))))
        clear hbc hkk hkj hr
        cases hkey : isKeyK xs[k].kind with
        | true =>
          have HK := Lib.hid hkey; clear hkey
          go_wp2_with (go_at_call 82; refine (HK1.out _ hbel).mono ?_; rw [HK.out]; rintro e w1 ⟨rfl, hb1⟩; have hbe1 := below2 hbel hb1 (Nat.le_refl _); clear d0 d1 d2 d3 d4 f0 f4; obtain ⟨f0, f4⟩ := KB.out _ hbe1)
          go_loopw [4] (fun i wr => ∃ (m r : Nat), r = 2 * m ∧ m ≤ j ∧ i = .int .i64 r ∧ xs[k] ∉ ks.take m ∧ Below W0.heap.size W0 wr) (fun i _ => k + 1 - (intOf i).toNat)
          case atStart => exact ⟨0, 0, rfl, Nat.zero_le _, rfl, by simp, hbe1⟩
          case round =>
            obtain ⟨m, r, hrm, hm, rfl, hni, hbel2⟩ := hrel
            have HRM := Lib.hid hrm
            have HNI := Lib.hid hni; clear hni
            have hkj := HKJ.out
            have hbw2 := below2 hA0 hbel2 (Nat.le_refl _)
            clear f0 f4
            obtain ⟨f0, f4⟩ := KB.out _ hbel2
            by_cases hml : r < k
            · have hrx : r < xs.length := by omega
              have hmk : m < ks.length := by omega
              have hmm := HKG.out m (by omega) hmk
              obtain ⟨u0, u1, u2, u3, u4, hr2, e0, e1, e2, e3, e4⟩ := HC.out r hrx
              obtain ⟨y1, y2, y3, t4, b6, p6, r6, hcs2⟩ := V.form hr2
              simp only [List.cons.injEq, and_true] at hcs2
              obtain ⟨rfl, rfl, rfl, rfl, rfl⟩ := hcs2
              have HY := Lib.hid (show ks[m] = xs[r] by rw [hmm]; subst hrm; rfl)
              have HE : Hid (∀ W, Below W0.heap.size W0 W → W.cell? ⟨b, o + r * 5, none⟩ = some (.int .i64 y1) ∧ W.cell? ⟨b, o + r * 5 + 1, none⟩ = some (.int .i64 y2) ∧ W.cell? ⟨b, o + r * 5 + 2, none⟩ = some (.int .i64 y3) ∧ W.cell? ⟨b, o + r * 5 + 3, none⟩ = some (.string ⟨t4.toArray⟩) ∧ W.cell? ⟨b, o + r * 5 + 4, none⟩ = some (.slice b6 p6 r6)) := by
                intro W hW
                have h1 := (bcell (below2 hA0 hW (Nat.le_refl _))).1
                simp only [h1 _ _ hb]; exact ⟨e0, e1, e2, e3, e4⟩
              have hj1 : (0 : Int) ≤ r := by omega
              have hj3 : (r : Int) < xs.length := by omega
              have hj5 : (r : Int) < k := by omega
              have hm5 : m < j := by omega
              have hr5 : r + 2 < k + 3 := by omega
              have HS := Lib.hid (fun W (hW : Below W0.heap.size W0 W) => same_any xs[k] xs[r] _ _ W (HXR.out W hW) (hr2.below (below2 hA0 hW (Nat.le_refl _))) (V.bulk_get hkb k hlt) (V.bulk_get hkb r hrx))
              have hB := hbel2
              clear hmm hrm hkj e0 e1 e2 e3 e4 hr2 f0 f4
              by_cases heq : xs[k] = xs[r]
              · have HQ := Lib.hid (decide_eq_true heq)
                have HF := Lib.hid (show ok = false by
                  rw [HP.out]; unfold pairsOkI; rw [HKS.out, uniq_bad2 hjk (by
                    rw [HX.out, List.map_id]
                    exact List.mem_take_iff_getElem.2 ⟨m, by omega, by rw [HY.out, ← heq]; rfl⟩)]; rfl)
                clear heq
                go_wp2_with fail
                go_region_held3 (fun W => (W.cell? ⟨w.heap.size, 0, none⟩ = some (.int .i64 8) ∧ W.cell? ⟨w.heap.size, 4, none⟩ = some (.slice (some ⟨b, o, none⟩) xs.length c)) ∧ (W.cell? ⟨b, o + k * 5, none⟩ = some (.int .i64 k1) ∧ W.cell? ⟨b, o + k * 5 + 1, none⟩ = some (.int .i64 k2) ∧ W.cell? ⟨b, o + k * 5 + 2, none⟩ = some (.int .i64 k3) ∧ W.cell? ⟨b, o + k * 5 + 3, none⟩ = some (.string ⟨s4.toArray⟩) ∧ W.cell? ⟨b, o + k * 5 + 4, none⟩ = some (.slice a6 n6 m6)) ∧ W.cell? ⟨b, o + r * 5, none⟩ = some (.int .i64 y1) ∧ W.cell? ⟨b, o + r * 5 + 1, none⟩ = some (.int .i64 y2) ∧ W.cell? ⟨b, o + r * 5 + 2, none⟩ = some (.int .i64 y3) ∧ W.cell? ⟨b, o + r * 5 + 3, none⟩ = some (.string ⟨t4.toArray⟩) ∧ W.cell? ⟨b, o + r * 5 + 4, none⟩ = some (.slice b6 p6 r6))
                  (first | exact ⟨KB.out _ hB, HD.out _ hB, HE.out _ hB⟩ | exact ⟨KB.out _ hB.drew, HD.out _ hB.drew, HE.out _ hB.drew⟩)
                  (first | (go_at_call 83; with_reducible refine (HS.out _ (by first | exact hB | exact hB.drew)).mono ?_; rw [HQ.out]; rintro e w2 ⟨rfl, hb2⟩; replace hB := below2 (by first | exact hB | exact hB.drew) hb2 (Nat.le_refl _)))
                go_wp2
                go_ret
                exact ⟨by rw [HF.out]; rfl, below2 hA0 hB (Nat.le_refl _)⟩
              · have HQ := Lib.hid (decide_eq_false heq)
                have HM : Hid (xs[k] ∉ ks.take (m + 1)) := by
                  show _ ∉ _
                  rw [List.take_succ_eq_append_getElem hmk, List.mem_append, HY.out]
                  rintro (h | h)
                  · exact HNI.out h
                  · exact heq (by simpa using h)
                clear heq
                go_wp2_with fail
                go_region_held3 (fun W => (W.cell? ⟨w.heap.size, 0, none⟩ = some (.int .i64 8) ∧ W.cell? ⟨w.heap.size, 4, none⟩ = some (.slice (some ⟨b, o, none⟩) xs.length c)) ∧ (W.cell? ⟨b, o + k * 5, none⟩ = some (.int .i64 k1) ∧ W.cell? ⟨b, o + k * 5 + 1, none⟩ = some (.int .i64 k2) ∧ W.cell? ⟨b, o + k * 5 + 2, none⟩ = some (.int .i64 k3) ∧ W.cell? ⟨b, o + k * 5 + 3, none⟩ = some (.string ⟨s4.toArray⟩) ∧ W.cell? ⟨b, o + k * 5 + 4, none⟩ = some (.slice a6 n6 m6)) ∧ W.cell? ⟨b, o + r * 5, none⟩ = some (.int .i64 y1) ∧ W.cell? ⟨b, o + r * 5 + 1, none⟩ = some (.int .i64 y2) ∧ W.cell? ⟨b, o + r * 5 + 2, none⟩ = some (.int .i64 y3) ∧ W.cell? ⟨b, o + r * 5 + 3, none⟩ = some (.string ⟨t4.toArray⟩) ∧ W.cell? ⟨b, o + r * 5 + 4, none⟩ = some (.slice b6 p6 r6))
                  (first | exact ⟨KB.out _ hB, HD.out _ hB, HE.out _ hB⟩ | exact ⟨KB.out _ hB.drew, HD.out _ hB.drew, HE.out _ hB.drew⟩)
                  (first | (go_at_call 83; with_reducible refine (HS.out _ (by first | exact hB | exact hB.drew)).mono ?_; rw [HQ.out]; rintro e w2 ⟨rfl, hb2⟩; replace hB := below2 (by first | exact hB | exact hB.drew) hb2 (Nat.le_refl _)))
                go_wp2
                go_roundw
                case rel => exact ⟨m + 1, r + 2, by have := HRM.out; omega, by omega, by go_num, HM.out, hB⟩
                case measure => simp [intOf]; omega
            · obtain rfl : m = j := by omega
              have HM : Hid (uniq id (ks.take (m + 1)) = true) := uniq_more hjk HU.out (by rw [HX.out]; exact HK.out) (by rw [HX.out, List.map_id]; exact HNI.out)
              clear hrm hkj
              go_wp2
              go_roundw
              case rel => exact ⟨m + 1, k + 2, by have := HKJ.out; omega, by omega, by go_num, HM.out, hbel2⟩
              case measure => simp [intOf]; omega
        | false =>
          have HK := Lib.hid hkey
          have HF := Lib.hid (show ok = false by rw [HP.out]; unfold pairsOkI; rw [HKS.out, uniq_bad1 hjk (by rw [HX.out]; exact hkey)]; rfl)
          clear hkey
          go_wp2_with (go_at_call 82; refine (HK1.out _ hbel).mono ?_; rw [HK.out]; rintro e w1 ⟨rfl, hb1⟩)
          go_ret
          exact ⟨by rw [HF.out]; rfl, below2 hbw hb1 (Nat.le_refl _)⟩
      · obtain rfl : j = ks.length := by omega
        clear hkj
        have h1 := HU.out
        rw [List.take_length] at h1
        have HF := Lib.hid (show ok = decide (xs.length % 2 = 0) by rw [HP.out]; unfold pairsOkI; rw [HKS.out, h1]; rfl)
        clear h1
        go_wp2
        go_ret
        exact ⟨by rw [HF.out]; exact ret_bool (by rw [Bool.eq_iff_iff]; simp <;> omega), hbw⟩
  · have H := Lib.hid (show ok = decide (xs = []) by rw [← HOK.out]; unfold V.kidsOk; rw [if_neg q7, if_neg q9, if_neg q8])
    have g7 : (q == 7) = false := by simpa using q7
    have g8 : (q == 8) = false := by simpa using q8
    have g9 : (q == 9) = false := by simpa using q9
    go_enter Tryz.func57, Tryz.ntmps57
    go_wp2
    rw [← HW.out]
    go_ret
    exact ⟨by rw [H.out, ← len0']; rfl, hA0⟩
end Go.Proofs.YtkeieeogkeonfaaGreatDoor
