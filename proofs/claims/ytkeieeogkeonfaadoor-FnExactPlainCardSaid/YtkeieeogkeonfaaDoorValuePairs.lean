/- Whether values are keys and values by turns: the reference's l02Pairs. -/
import Derived.Test.YtkeieeogkeonfaaDoorValueDec
namespace Go.Proofs.YtkeieeogkeonfaaDoor
open Go.RowKit

theorem marks_snoc {α : Type} (f : V → α) (ks : List V) (m : Nat) (h : m < ks.length) : (ks.take (m + 1)).map f = (ks.take m).map f ++ [f ks[m]] := by
  rw [List.take_succ_eq_append_getElem h, List.map_append]; rfl

theorem uniq_more {α : Type} [DecidableEq α] {f : V → α} {ks : List V} {j : Nat} (hj : j < ks.length) (h : uniq f (ks.take j) = true) (hk : isKeyK ks[j].kind = true) (hn : f ks[j] ∉ (ks.take j).map f) : uniq f (ks.take (j + 1)) = true := by
  rw [List.take_succ_eq_append_getElem hj, uniq_snoc, h, hk, decide_eq_true hn]; rfl
theorem uniq_bad1 {α : Type} [DecidableEq α] {f : V → α} {ks : List V} {j : Nat} (hj : j < ks.length) (hk : isKeyK ks[j].kind = false) : uniq f ks = false := by
  apply uniq_take (j + 1)
  rw [List.take_succ_eq_append_getElem hj, uniq_snoc, hk, Bool.false_and, Bool.and_false]
theorem uniq_bad2 {α : Type} [DecidableEq α] {f : V → α} {ks : List V} {j : Nat} (hj : j < ks.length) (hn : f ks[j] ∈ (ks.take j).map f) : uniq f ks = false := by
  apply uniq_take (j + 1)
  rw [List.take_succ_eq_append_getElem hj, uniq_snoc, decide_eq_false (fun h => h hn), Bool.and_false, Bool.and_false]

set_option maxHeartbeats 4000000 in
set_option maxRecDepth 10000 in
theorem l02Pairs_any (xs : List V) (v : Value) (w : World) (h : Rd w (.sl 5 (V.ds xs)) [v]) (hlen : xs.length ≤ 4294967295) :
    Calls Tryd.prog 135 #[v] w fun e w' => e = .returned (.bool (pairsOk xs)) ∧ Below w.heap.size w w' := by
  obtain ⟨a, c, rfl, hg⟩ := h.values
  obtain ⟨ok, hok⟩ : ∃ ok, pairsOk xs = ok := ⟨_, rfl⟩
  rw [hok]
  have HOK := Lib.hid hok; clear hok h
  obtain ⟨ks, hks⟩ : ∃ ks, odds xs = ks := ⟨_, rfl⟩
  have hkl : ks.length = (xs.length + 1) / 2 := by rw [← hks, odds_length]
  have HKG : Hid (∀ j (h1 : 2 * j < xs.length) (h2 : j < ks.length), ks[j] = xs[2 * j]) := by
    intro j h1 h2; subst hks; exact odds_get xs j h1
  have HKS := Lib.hid hks; clear hks
  go_enter Tryd.func135, Tryd.ntmps135
  go_wp2
  go_loopw [3] (fun i wr => ∃ (j k : Nat), k = 2 * j ∧ j ≤ ks.length ∧ i = .int .i64 k ∧ uniq V.mark (ks.take j) = true ∧ Below w.heap.size w wr) (fun i _ => xs.length + 1 - (intOf i).toNat)
  case atStart => exact ⟨0, 0, rfl, Nat.zero_le _, rfl, by simp [uniq], Below.refl _ _⟩
  case round =>
    obtain ⟨j, k, hkj, hj, rfl, hu, hbel⟩ := hrel
    have HKJ := Lib.hid hkj
    have HU := Lib.hid hu; clear hu
    by_cases hlt : k < xs.length
    · have hjk : j < ks.length := by omega
      have hkk := HKG.out j (by omega) hjk
      obtain ⟨_, _, b, o, rfl, hb, hcell⟩ := hg (by intro e; rw [e] at hlt; simp at hlt)
      have HC := Lib.hid hcell
      obtain ⟨v0, v1, v2, v3, v4, hr, d0, d1, d2, d3, d4⟩ := hcell k hlt
      clear hcell
      obtain ⟨xk, xn, xe, xs', xkids, y4, hx, hcs, _⟩ := V.lay hr
      simp only [List.cons.injEq, and_true] at hcs
      obtain ⟨rfl, rfl, rfl, rfl, rfl⟩ := hcs
      have hbc := (bcell hbel).1
      have D0 := Lib.hid d0
      have D1 := Lib.hid d1
      have D3 := Lib.hid d3
      rw [← hbc _ _ hb] at d0 d1 d3
      clear hr d2 d4
      have hkx : ks[j] = .mk xk xn xe xs' xkids := by rw [hkk, ← hx]; subst hkj; rfl
      have hi1 : (0 : Int) ≤ k := by omega
      have hi3 : (k : Int) < xs.length := by omega
      have HX := Lib.hid hkx
      clear hbc hkk hx hkx hkj
      by_cases hkey : isKeyK xk = true
      · have HK := Lib.hid hkey
        have hkk : (xk != 5) = false ∨ ((xk != 5) = true ∧ (xk != 3) = false) := by simp [isKeyK] at hkey ⊢; omega
        clear hkey
        rcases hkk with hk5 | ⟨hk5, hk3⟩
        · go_wp2
          go_loopw [4] (fun i wr => ∃ (m r : Nat), r = 2 * m ∧ m ≤ j ∧ i = .int .i64 r ∧ (V.mk xk xn xe xs' xkids).mark ∉ (ks.take m).map V.mark ∧ Below w.heap.size w wr) (fun i _ => k + 1 - (intOf i).toNat)
          case atStart => exact ⟨0, 0, rfl, Nat.zero_le _, rfl, by simp, hbel⟩
          case round =>
            obtain ⟨m, r, hrm, hm, rfl, hni, hbel2⟩ := hrel
            have HRM := Lib.hid hrm
            have HNI := Lib.hid hni; clear hni
            have hkj := HKJ.out
            by_cases hml : r < k
            · have hmk : m < ks.length := by omega
              have hmm := HKG.out m (by omega) hmk
              obtain ⟨u0, u1, u2, u3, u4, hr2, e0, e1, e2, e3, e4⟩ := HC.out r (by omega)
              obtain ⟨yk, yn, ye, ys, ykids, y5, hy, hcs2, _⟩ := V.lay hr2
              simp only [List.cons.injEq, and_true] at hcs2
              obtain ⟨rfl, rfl, rfl, rfl, rfl⟩ := hcs2
              have hbc2 := (bcell hbel2).1
              rw [← hbc2 _ _ hb] at e0 e1 e3
              have d0' := (hbc2 _ _ hb).trans D0.out
              have d1' := (hbc2 _ _ hb).trans D1.out
              have d3' := (hbc2 _ _ hb).trans D3.out
              clear hr2 e2 e4 d0 d1 d3
              have hky : ks[m] = .mk yk yn ye ys ykids := by rw [hmm, ← hy]; subst hrm; rfl
              have HY := Lib.hid hky
              have hj1 : (0 : Int) ≤ r := by omega
              have hj3 : (r : Int) < xs.length := by omega
              have hj5 : (r : Int) < k := by omega
              have hm5 : m < j := by omega
              have hr5 : r + 2 < k + 3 := by omega
              clear hbc2 hmm hy hky hrm hkj
              by_cases heq : yk = xk ∧ yn = xn ∧ ys = xs'
              · obtain ⟨rfl, rfl, rfl⟩ := heq
                have HF : Hid (pairsOk xs = false) := by
                  show _ = _; unfold pairsOk; rw [HKS.out, uniq_bad2 hjk (by
                    rw [HX.out]
                    refine List.mem_map.2 ⟨ks[m], List.mem_take_iff_getElem.2 ⟨m, by omega, rfl⟩, by rw [HY.out]; rfl⟩)]; rfl
                have g1 : (yk == yk) = true := by simp
                have g2 : (yn == yn) = true := by simp
                go_wp2
                go_quiet (fail)
                go_wp2
                go_ret
                exact ⟨by rw [← HOK.out, HF.out]; rfl, by first | exact hbel2 | exact hbel2.drew | exact below_drewN hbel2 _⟩
              · have HM : Hid ((V.mk xk xn xe xs' xkids).mark ∉ (ks.take (m + 1)).map V.mark) := by
                  show _ ∉ _
                  rw [marks_snoc _ _ _ hmk, List.mem_append, HY.out]
                  rintro (h | h)
                  · exact HNI.out h
                  · simp only [List.mem_singleton, V.mark, V.kind, V.num, V.text, Prod.mk.injEq] at h
                    exact heq ⟨h.1.symm, h.2.1.symm, h.2.2.symm⟩
                by_cases h1 : yk = xk
                · subst h1
                  have g1 : (yk == yk) = true := by simp
                  by_cases h2 : yn = xn
                  · subst h2
                    have g2 : (yn == yn) = true := by simp
                    have h3 : ¬ ys = xs' := fun e => heq ⟨rfl, rfl, e⟩
                    have g3 : (ys == xs') = false := by simpa using h3
                    clear heq h3
                    go_wp2
                    go_quiet (fail)
                    go_wp2
                    go_roundw
                    case rel => exact ⟨m + 1, r + 2, by have := HRM.out; omega, by omega, by go_num, HM.out, by first | exact hbel2 | exact hbel2.drew | exact below_drewN hbel2 _⟩
                    case measure => simp [intOf]; omega
                  · have g2 : (yn == xn) = false := by simpa using h2
                    clear heq h2
                    go_wp2
                    go_quiet (fail)
                    go_wp2
                    go_roundw
                    case rel => exact ⟨m + 1, r + 2, by have := HRM.out; omega, by omega, by go_num, HM.out, by first | exact hbel2 | exact hbel2.drew | exact below_drewN hbel2 _⟩
                    case measure => simp [intOf]; omega
                · have g1 : (yk == xk) = false := by simpa using h1
                  clear heq h1
                  go_wp2
                  go_quiet (fail)
                  go_wp2
                  go_roundw
                  case rel => exact ⟨m + 1, r + 2, by have := HRM.out; omega, by omega, by go_num, HM.out, by first | exact hbel2 | exact hbel2.drew | exact below_drewN hbel2 _⟩
                  case measure => simp [intOf]; omega
            · obtain rfl : m = j := by omega
              have HM : Hid (uniq V.mark (ks.take (m + 1)) = true) := uniq_more hjk HU.out (by rw [HX.out]; exact HK.out) (by rw [HX.out]; exact HNI.out)
              clear hrm hkj
              go_wp2
              go_roundw
              case rel => exact ⟨m + 1, k + 2, by have := HKJ.out; omega, by omega, by go_num, HM.out, hbel2⟩
              case measure => simp [intOf]; omega
        · go_wp2
          go_loopw [4] (fun i wr => ∃ (m r : Nat), r = 2 * m ∧ m ≤ j ∧ i = .int .i64 r ∧ (V.mk xk xn xe xs' xkids).mark ∉ (ks.take m).map V.mark ∧ Below w.heap.size w wr) (fun i _ => k + 1 - (intOf i).toNat)
          case atStart => exact ⟨0, 0, rfl, Nat.zero_le _, rfl, by simp, hbel⟩
          case round =>
            obtain ⟨m, r, hrm, hm, rfl, hni, hbel2⟩ := hrel
            have HRM := Lib.hid hrm
            have HNI := Lib.hid hni; clear hni
            have hkj := HKJ.out
            by_cases hml : r < k
            · have hmk : m < ks.length := by omega
              have hmm := HKG.out m (by omega) hmk
              obtain ⟨u0, u1, u2, u3, u4, hr2, e0, e1, e2, e3, e4⟩ := HC.out r (by omega)
              obtain ⟨yk, yn, ye, ys, ykids, y5, hy, hcs2, _⟩ := V.lay hr2
              simp only [List.cons.injEq, and_true] at hcs2
              obtain ⟨rfl, rfl, rfl, rfl, rfl⟩ := hcs2
              have hbc2 := (bcell hbel2).1
              rw [← hbc2 _ _ hb] at e0 e1 e3
              have d0' := (hbc2 _ _ hb).trans D0.out
              have d1' := (hbc2 _ _ hb).trans D1.out
              have d3' := (hbc2 _ _ hb).trans D3.out
              clear hr2 e2 e4 d0 d1 d3
              have hky : ks[m] = .mk yk yn ye ys ykids := by rw [hmm, ← hy]; subst hrm; rfl
              have HY := Lib.hid hky
              have hj1 : (0 : Int) ≤ r := by omega
              have hj3 : (r : Int) < xs.length := by omega
              have hj5 : (r : Int) < k := by omega
              have hm5 : m < j := by omega
              have hr5 : r + 2 < k + 3 := by omega
              clear hbc2 hmm hy hky hrm hkj
              by_cases heq : yk = xk ∧ yn = xn ∧ ys = xs'
              · obtain ⟨rfl, rfl, rfl⟩ := heq
                have HF : Hid (pairsOk xs = false) := by
                  show _ = _; unfold pairsOk; rw [HKS.out, uniq_bad2 hjk (by
                    rw [HX.out]
                    refine List.mem_map.2 ⟨ks[m], List.mem_take_iff_getElem.2 ⟨m, by omega, rfl⟩, by rw [HY.out]; rfl⟩)]; rfl
                have g1 : (yk == yk) = true := by simp
                have g2 : (yn == yn) = true := by simp
                go_wp2
                go_quiet (fail)
                go_wp2
                go_ret
                exact ⟨by rw [← HOK.out, HF.out]; rfl, by first | exact hbel2 | exact hbel2.drew | exact below_drewN hbel2 _⟩
              · have HM : Hid ((V.mk xk xn xe xs' xkids).mark ∉ (ks.take (m + 1)).map V.mark) := by
                  show _ ∉ _
                  rw [marks_snoc _ _ _ hmk, List.mem_append, HY.out]
                  rintro (h | h)
                  · exact HNI.out h
                  · simp only [List.mem_singleton, V.mark, V.kind, V.num, V.text, Prod.mk.injEq] at h
                    exact heq ⟨h.1.symm, h.2.1.symm, h.2.2.symm⟩
                by_cases h1 : yk = xk
                · subst h1
                  have g1 : (yk == yk) = true := by simp
                  by_cases h2 : yn = xn
                  · subst h2
                    have g2 : (yn == yn) = true := by simp
                    have h3 : ¬ ys = xs' := fun e => heq ⟨rfl, rfl, e⟩
                    have g3 : (ys == xs') = false := by simpa using h3
                    clear heq h3
                    go_wp2
                    go_quiet (fail)
                    go_wp2
                    go_roundw
                    case rel => exact ⟨m + 1, r + 2, by have := HRM.out; omega, by omega, by go_num, HM.out, by first | exact hbel2 | exact hbel2.drew | exact below_drewN hbel2 _⟩
                    case measure => simp [intOf]; omega
                  · have g2 : (yn == xn) = false := by simpa using h2
                    clear heq h2
                    go_wp2
                    go_quiet (fail)
                    go_wp2
                    go_roundw
                    case rel => exact ⟨m + 1, r + 2, by have := HRM.out; omega, by omega, by go_num, HM.out, by first | exact hbel2 | exact hbel2.drew | exact below_drewN hbel2 _⟩
                    case measure => simp [intOf]; omega
                · have g1 : (yk == xk) = false := by simpa using h1
                  clear heq h1
                  go_wp2
                  go_quiet (fail)
                  go_wp2
                  go_roundw
                  case rel => exact ⟨m + 1, r + 2, by have := HRM.out; omega, by omega, by go_num, HM.out, by first | exact hbel2 | exact hbel2.drew | exact below_drewN hbel2 _⟩
                  case measure => simp [intOf]; omega
            · obtain rfl : m = j := by omega
              have HM : Hid (uniq V.mark (ks.take (m + 1)) = true) := uniq_more hjk HU.out (by rw [HX.out]; exact HK.out) (by rw [HX.out]; exact HNI.out)
              clear hrm hkj
              go_wp2
              go_roundw
              case rel => exact ⟨m + 1, k + 2, by have := HKJ.out; omega, by omega, by go_num, HM.out, hbel2⟩
              case measure => simp [intOf]; omega
      · have hk5 : (xk != 5) = true := by simp [isKeyK] at hkey ⊢; omega
        have hk3 : (xk != 3) = true := by simp [isKeyK] at hkey ⊢; omega
        have HF : Hid (pairsOk xs = false) := by
          show _ = _; unfold pairsOk; rw [HKS.out, uniq_bad1 hjk (by rw [HX.out]; simpa [V.kind] using hkey)]; rfl
        clear hkey
        go_wp2
        go_ret
        exact ⟨by rw [← HOK.out, HF.out]; rfl, hbel⟩
    · obtain rfl : j = ks.length := by omega
      clear hkj
      have h1 := HU.out
      rw [List.take_length] at h1
      have HF : Hid (pairsOk xs = (decide (xs.length % 2 = 0) && decide (xs.length ≤ 300))) := by
        show _ = _; unfold pairsOk; rw [HKS.out, h1]; rfl
      clear h1
      by_cases he : xs.length % 2 = 0
      · have he' : ((xs.length : Int) % 2 == 0) = true := by simp; omega
        rw [decide_eq_true he] at HF
        clear he
        go_wp2
        go_ret
        exact ⟨by rw [← HOK.out, HF.out]; go_num, hbel⟩
      · have he' : ((xs.length : Int) % 2 == 0) = false := by simp; omega
        rw [decide_eq_false he] at HF
        clear he
        go_wp2
        go_ret
        exact ⟨by rw [← HOK.out, HF.out]; rfl, hbel⟩
end Go.Proofs.YtkeieeogkeonfaaDoor
