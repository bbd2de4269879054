/- Decimals of a value: the program's fits and isDec, the reference's l02Whole. -/
import Derived.Test.YtkeieeogkeonfaaGreatDoorValueDef
import Derived.Test.YtkeieeogkeonfaaGreatDoorRead
import Derived.Deep.RegionHeld3
import Derived.Deep.QuietTactic
import Derived.BigQuiet
import Derived.StillTailTactics
import Derived.Test.YtkeieeogkeonfaaGreatDoorTextS
import Derived.Test.YtkeieeogkeonfaaGreatDoorKeep
namespace Go.Proofs.YtkeieeogkeonfaaGreatDoor
open Go.RowKit

theorem fitsN_yes {k : Nat} {n : Int} (h : -9223372036854775808 ≤ n * 10 ∧ n * 10 ≤ 9223372036854775807) : fitsN (k + 1) n = fitsN k (n * 10) := by
  show (inR _ _ _ && _) = _; rw [inR_yes h]; rfl
theorem fitsN_no {k : Nat} {n : Int} (h : ¬ (-9223372036854775808 ≤ n * 10 ∧ n * 10 ≤ 9223372036854775807)) : fitsN (k + 1) n = false := by
  show (inR _ _ _ && _) = _; rw [inR_no h]; rfl
theorem tdiv10 (q : Int) : Int.tdiv q 10 * 10 - 9 ≤ q ∧ q ≤ Int.tdiv q 10 * 10 + 9 ∧ (0 ≤ q → Int.tdiv q 10 * 10 ≤ q) ∧ (q ≤ 0 → q ≤ Int.tdiv q 10 * 10) := by
  have h1 := Int.mul_tdiv_add_tmod q 10
  have h2 := Int.tmod_lt_of_pos q (show (0 : Int) < 10 by decide)
  have h3 : -10 < Int.tmod q 10 := by have := Int.tmod_lt_of_pos (-q) (show (0 : Int) < 10 by decide); rw [Int.neg_tmod] at this; omega
  have h4 : 0 ≤ q → 0 ≤ Int.tmod q 10 := fun h => Int.tmod_nonneg 10 h
  have h5 : q ≤ 0 → Int.tmod q 10 ≤ 0 := fun h => by have := Int.tmod_nonneg 10 (show 0 ≤ -q by omega); rw [Int.neg_tmod] at this; omega
  refine ⟨by omega, by omega, fun h => ?_, fun h => ?_⟩
  · have := h4 h; omega
  · have := h5 h; omega
theorem wrap_no {n : Int} (h : ¬ (-9223372036854775808 ≤ n * 10 ∧ n * 10 ≤ 9223372036854775807)) : (wrap64 (Int.tdiv (wrap64 (n * 10)) 10) != n) = true := by
  simp only [bne_iff_ne, ne_eq]
  intro e
  have hq : -9223372036854775808 ≤ wrap64 (n * 10) ∧ wrap64 (n * 10) ≤ 9223372036854775807 := by unfold wrap64; omega
  generalize wrap64 (n * 10) = q at e hq
  obtain ⟨a, b, c, d⟩ := tdiv10 q
  have : wrap64 (Int.tdiv q 10) = Int.tdiv q 10 := by unfold wrap64; omega
  rw [this] at e
  subst e
  by_cases h0 : 0 ≤ q
  · have := c h0; omega
  · have := d (by omega); omega

set_option maxHeartbeats 400000 in
theorem l02Whole_any (n : Int) (k : Nat) (w : World) (hn : i64ok n) (hk : k ≤ 1000) :
    Calls Tryz.prog 76 #[.int .i64 n, .int .i64 k] w fun e w' => e = .returned (.bool (decide (0 < k) && fitsN k n)) ∧ w = w' := by
  obtain ⟨ok, hok⟩ : ∃ ok, fitsN k n = ok := ⟨_, rfl⟩
  rw [hok]
  have HOK := Lib.hid hok; clear hok
  go_enter Tryz.func76, Tryz.ntmps76
  go_wp2
  go_loopw [0, 5] (fun x i wr => ∃ (j : Nat) (m : Int), j ≤ k ∧ i = .int .i64 j ∧ x = .int .i64 m ∧ i64ok m ∧ fitsN (k - j) m = ok ∧ w = wr) (fun _ i _ => k - (intOf i).toNat)
  case atStart => exact ⟨0, n, Nat.zero_le _, rfl, rfl, hn, HOK.out, rfl⟩
  case round =>
    obtain ⟨j, m, hj, rfl, rfl, hm, hf, rfl⟩ := hrel
    by_cases hlt : j < k
    · obtain ⟨r, hr⟩ : ∃ r, k - j = r + 1 := ⟨k - j - 1, by omega⟩
      rw [hr] at hf
      have hlt' : (j : Int) < k := by omega
      by_cases hin : -9223372036854775808 ≤ m * 10 ∧ m * 10 ≤ 9223372036854775807
      · rw [fitsN_yes hin] at hf
        have HF := Lib.hid hf; clear hf
        go_wp2
        exact ⟨⟨j + 1, m * 10, by omega, by go_num, rfl, hin, by rw [show k - (j + 1) = r by omega]; exact HF.out, trivial⟩, by simp [intOf]; omega⟩
      · rw [fitsN_no hin] at hf
        have HF := Lib.hid hf; clear hf
        have hw := wrap_no hin
        go_wp2
        go_ret
        exact ⟨by rw [← HF.out]; simp, rfl⟩
    · obtain rfl : j = k := by omega
      rw [Nat.sub_self] at hf
      have HF := Lib.hid (show true = ok from hf); clear hf
      go_wp2
      go_ret
      exact ⟨by rw [← HF.out]; simp, rfl⟩

def fitsR (ok : Bool) (p : Int) : Value := if ok then .tuple #[.int .i64 p, .bool true] else .tuple #[.int .i64 0, .bool false]
theorem fitsR_yes (p : Int) : .tuple #[.int .i64 p, .bool true] = fitsR true p := rfl
theorem fitsR_no (p : Int) : .tuple #[.int .i64 0, .bool false] = fitsR false p := rfl
set_option maxHeartbeats 400000 in
theorem fits_any (n : Int) (k : Nat) (w : World) (hn : i64ok n) (hk : k ≤ 1000) :
    Calls Tryz.prog 97 #[.int .i64 n, .int .i64 k] w fun e w' => e = .returned (fitsR (fitsN k n) (n * 10 ^ k)) ∧ w = w' := by
  obtain ⟨ok, hok⟩ : ∃ ok, fitsN k n = ok := ⟨_, rfl⟩
  obtain ⟨p, hp⟩ : ∃ p, n * 10 ^ k = p := ⟨_, rfl⟩
  rw [hok, hp]
  have HOK := Lib.hid hok; clear hok
  have HP := Lib.hid hp; clear hp
  go_enter Tryz.func97, Tryz.ntmps97
  go_wp2
  go_loopw [0, 1] (fun x i wr => ∃ (j : Nat) (m : Int), j ≤ k ∧ i = .int .i64 j ∧ x = .int .i64 m ∧ i64ok m ∧ fitsN j m = ok ∧ m * 10 ^ j = p ∧ w = wr) (fun _ i _ => (intOf i).toNat)
  case atStart => exact ⟨k, n, Nat.le_refl _, rfl, rfl, hn, HOK.out, HP.out, rfl⟩
  case round =>
    obtain ⟨j, m, hj, rfl, rfl, hm, hf, hpp, rfl⟩ := hrel
    by_cases hj0 : j = 0
    · subst hj0
      have HF := Lib.hid (show true = ok from hf)
      have HPP := Lib.hid (show m = p by simpa using hpp)
      clear hf hpp
      go_wp2
      go_ret2
      exact ⟨by rw [← HF.out, HPP.out]; rfl, rfl⟩
    · obtain ⟨r, rfl⟩ : ∃ r, j = r + 1 := ⟨j - 1, by omega⟩
      have hj1 : (0 : Int) < (r + 1 : Nat) := by omega
      have hpp2 : m * 10 * 10 ^ r = p := by rw [← hpp, Int.pow_succ, Int.mul_assoc, Int.mul_comm 10]
      have HPP := Lib.hid hpp2
      by_cases hm0 : m = 0
      · subst hm0
        have h0 : ∀ r, fitsN r 0 = true := by intro r; induction r with
          | zero => rfl
          | succ r ih => rw [fitsN_yes (by decide)]; exact ih
        have HF := Lib.hid (show true = ok by rw [← hf, h0])
        have HP0 := Lib.hid (show (0 : Int) = p by simpa using hpp)
        clear hf hpp hpp2 h0
        go_wp2
        go_ret2
        exact ⟨by rw [← HF.out, ← HP0.out]; rfl, rfl⟩
      · have hne : (m != 0) = true := by simpa using hm0
        by_cases hin : -9223372036854775808 ≤ m * 10 ∧ m * 10 ≤ 9223372036854775807
        · rw [fitsN_yes hin] at hf
          have HF := Lib.hid hf; clear hf hpp hpp2
          have g1 : ¬ (922337203685477580 : Int) < m := by omega
          have g2 : ¬ m < (-922337203685477580 : Int) := by omega
          go_wp2
          exact ⟨⟨r, m * 10, by omega, by go_num, rfl, hin, HF.out, HPP.out, trivial⟩, by simp [intOf]⟩
        · rw [fitsN_no hin] at hf
          have HF := Lib.hid hf; clear hf hpp hpp2
          by_cases g1 : (922337203685477580 : Int) < m
          · go_wp2
            go_ret2
            exact ⟨by rw [← HF.out]; rfl, rfl⟩
          · have g2 : m < (-922337203685477580 : Int) := by omega
            go_wp2
            go_ret2
            exact ⟨by rw [← HF.out]; rfl, rfl⟩

theorem decOk_e {n e : Int} (h : ¬ (-20 ≤ e ∧ e ≤ 20)) : decOk n e = false := by unfold decOk; rw [inR_no h]; rfl
set_option maxHeartbeats 1000000 in
set_option maxRecDepth 10000 in
theorem isDec_any (x : V) (cs : List Value) (w : World) (h : Rd w x.d cs) (hwf : x.wf) :
    Calls Tryz.prog 81 #[.agg cs.toArray] w fun e w' => e = .returned (.bool (decOk x.num x.exp)) ∧ Below w.heap.size w w' := by
  obtain ⟨k, n, e, s, kids, v1, rfl, rfl, hkids⟩ := V.lay h
  obtain ⟨a1, c1, rfl⟩ := Rd.sl_form hkids
  obtain ⟨hk, hn, he, hs, _⟩ := hwf
  have H1 := Lib.hid (decOk_e (n := n) (e := e))
  show Calls _ _ _ _ fun e' w' => e' = .returned (.bool (decOk n e)) ∧ _
  obtain ⟨ok, hok⟩ : ∃ ok, decOk n e = ok := ⟨_, rfl⟩
  rw [hok]
  have HA := Lib.hid ((Below.refl w.heap.size w).alloc (Nat.le_refl _) (.cells #[.int .i64 k, .int .i64 n, .int .i64 e, .string ⟨s.toArray⟩, .slice a1 (V.ds kids).length c1] 35))
  clear h hkids
  by_cases h1 : -20 ≤ e ∧ e ≤ 20
  · by_cases h2 : e = 0
    · have H : Hid (ok = false) := by show _ = _; rw [← hok, h2]; unfold decOk; rw [inR_yes (by decide)]; simp
      subst h2
      clear hok
      go_enter Tryz.func81, Tryz.ntmps81
      go_wp2
      go_ret
      exact ⟨by rw [H.out]; rfl, HA.out⟩
    · have g2 : (e == 0) = false := by simpa using h2
      by_cases h3 : -999999999999999999 ≤ n ∧ n ≤ 999999999999999999
      · by_cases h4 : Int.tmod n 10 = 0
        · have H : Hid (ok = false) := by show _ = _; rw [← hok]; unfold decOk; rw [h4]; simp
          have g4 : (Int.tmod n 10 == 0) = true := by simpa using h4
          clear hok
          go_enter Tryz.func81, Tryz.ntmps81
          go_wp2
          go_ret
          exact ⟨by rw [H.out]; rfl, HA.out⟩
        · have g4 : (Int.tmod n 10 == 0) = false := by simpa using h4
          by_cases h5 : 0 < e
          · obtain ⟨j, rfl⟩ : ∃ j : Nat, e = j := ⟨e.toNat, by omega⟩
            have H : Hid (ok = !fitsN j n) := by show _ = _; rw [← hok]; unfold decOk; rw [inR_yes h1, inR_yes h3]; simp [h4, show j ≠ 0 by omega, show 0 < j by omega]
            clear hok
            go_enter Tryz.func81, Tryz.ntmps81
            cases hf : fitsN j n with
            | true =>
              have HF := Lib.hid hf; clear hf
              go_wp2_with (first | (go_at_call 63; refine (within_any _ _ _ _).mono ?_; rintro e w1 ⟨rfl, rfl⟩; first | rw [inR_yes h1] | rw [inR_yes h3]) | (go_at_call 97; refine (fits_any n j _ hn (by omega)).mono ?_; rw [HF.out]; rintro e w1 ⟨rfl, rfl⟩; simp only [fitsR, if_true]))
              go_ret
              exact ⟨by rw [H.out, HF.out]; rfl, HA.out⟩
            | false =>
              have HF := Lib.hid hf; clear hf
              go_wp2_with (first | (go_at_call 63; refine (within_any _ _ _ _).mono ?_; rintro e w1 ⟨rfl, rfl⟩; first | rw [inR_yes h1] | rw [inR_yes h3]) | (go_at_call 97; refine (fits_any n j _ hn (by omega)).mono ?_; rw [HF.out]; rintro e w1 ⟨rfl, rfl⟩; simp only [fitsR, Bool.false_eq_true, if_false]))
              go_ret
              exact ⟨by rw [H.out, HF.out]; rfl, HA.out⟩
          · have H : Hid (ok = true) := by show _ = _; rw [← hok]; unfold decOk; rw [inR_yes h1, inR_yes h3]; simp [h2, h4, h5]
            clear hok
            go_enter Tryz.func81, Tryz.ntmps81
            go_wp2
            go_ret
            exact ⟨by rw [H.out]; rfl, HA.out⟩
      · have H : Hid (ok = false) := by show _ = _; rw [← hok]; unfold decOk; rw [inR_no h3]; simp
        clear hok
        go_enter Tryz.func81, Tryz.ntmps81
        go_wp2
        all_goals (go_ret; exact ⟨by rw [H.out]; rfl, HA.out⟩)
  · have H : Hid (ok = false) := hok.symm.trans (H1.out h1)
    clear hok
    go_enter Tryz.func81, Tryz.ntmps81
    go_wp2
    all_goals (go_ret; exact ⟨by rw [H.out]; rfl, HA.out⟩)
end Go.Proofs.YtkeieeogkeonfaaGreatDoor

/- Whether values are keys and values by turns: the reference's l02Pairs. -/
namespace Go.Proofs.YtkeieeogkeonfaaGreatDoor
open Go.RowKit

theorem marks_snoc {α : Type} (f : V → α) (ks : List V) (m : Nat) (h : m < ks.length) : (ks.take (m + 1)).map f = (ks.take m).map f ++ [f ks[m]] := by
  rw [List.take_succ_eq_append_getElem h, List.map_append]; rfl

theorem uniq_more {α : Type} [DecidableEq α] {f : V → α} {ks : List V} {j : Nat} (hj : j < ks.length) (h : uniq f (ks.take j) = true) (hk : isKeyK ks[j].kind = true) (hn : f ks[j] ∉ (ks.take j).map f) : uniq f (ks.take (j + 1)) = true := by
  rw [List.take_succ_eq_append_getElem hj, uniq_snoc, h, hk, decide_eq_true hn]; rfl
theorem uniq_bad1 {α : Type} [DecidableEq α] {f : V → α} {ks : List V} {j : Nat} (hj : j < ks.length) (hk : isKeyK ks[j].kind = false) : uniq f ks = false := by
  apply uniq_take (j + 1)
  rw [List.take_succ_eq_append_getElem hj, uniq_snoc, hk, Bool.false_and, Bool.and_false]
theorem uniq_bad2 {α : Type} [DecidableEq α] {f : V → α} {ks : List V} {j : Nat} (hj : j < ks.length) (hn : f ks[j] ∈ (ks.take j).map f) : uniq f ks = false := by
  apply uniq_take (j + 1)
  rw [List.take_succ_eq_append_getElem hj, uniq_snoc, decide_eq_false (fun h => h hn), Bool.and_false, Bool.and_false]

set_option maxHeartbeats 4000000 in
set_option maxRecDepth 10000 in
theorem l02Pairs_any (xs : List V) (v : Value) (w : World) (h : Rd w (.sl 5 (V.ds xs)) [v]) (hlen : xs.length ≤ 4294967295) :
    Calls Tryz.prog 77 #[v] w fun e w' => e = .returned (.bool (pairsOk xs)) ∧ Below w.heap.size w w' := by
  obtain ⟨a, c, rfl, hg⟩ := h.values
  obtain ⟨ok, hok⟩ : ∃ ok, pairsOk xs = ok := ⟨_, rfl⟩
  rw [hok]
  have HOK := Lib.hid hok; clear hok h
  obtain ⟨ks, hks⟩ : ∃ ks, odds xs = ks := ⟨_, rfl⟩
  have hkl : ks.length = (xs.length + 1) / 2 := by rw [← hks, odds_length]
  have HKG : Hid (∀ j (h1 : 2 * j < xs.length) (h2 : j < ks.length), ks[j] = xs[2 * j]) := by
    intro j h1 h2; subst hks; exact odds_get xs j h1
  have HKS := Lib.hid hks; clear hks
  go_enter Tryz.func77, Tryz.ntmps77
  go_wp2
  go_loopw [3] (fun i wr => ∃ (j k : Nat), k = 2 * j ∧ j ≤ ks.length ∧ i = .int .i64 k ∧ uniq V.mark (ks.take j) = true ∧ Below w.heap.size w wr) (fun i _ => xs.length + 1 - (intOf i).toNat)
  case atStart => exact ⟨0, 0, rfl, Nat.zero_le _, rfl, by simp [uniq], Below.refl _ _⟩
  case round =>
    obtain ⟨j, k, hkj, hj, rfl, hu, hbel⟩ := hrel
    have HKJ := Lib.hid hkj
    have HU := Lib.hid hu; clear hu
    by_cases hlt : k < xs.length
    · have hjk : j < ks.length := by omega
      have hkk := HKG.out j (by omega) hjk
      obtain ⟨_, _, b, o, rfl, hb, hcell⟩ := hg (by intro e; rw [e] at hlt; simp at hlt)
      have HC := Lib.hid hcell
      obtain ⟨v0, v1, v2, v3, v4, hr, d0, d1, d2, d3, d4⟩ := hcell k hlt
      clear hcell
      obtain ⟨xk, xn, xe, xs', xkids, y4, hx, hcs, _⟩ := V.lay hr
      simp only [List.cons.injEq, and_true] at hcs
      obtain ⟨rfl, rfl, rfl, rfl, rfl⟩ := hcs
      have hbc := (bcell hbel).1
      have D0 := Lib.hid d0
      have D1 := Lib.hid d1
      have D3 := Lib.hid d3
      rw [← hbc _ _ hb] at d0 d1 d3
      clear hr d2 d4
      have hkx : ks[j] = .mk xk xn xe xs' xkids := by rw [hkk, ← hx]; subst hkj; rfl
      have hi1 : (0 : Int) ≤ k := by omega
      have hi3 : (k : Int) < xs.length := by omega
      have HX := Lib.hid hkx
      clear hbc hkk hx hkx hkj
      by_cases hkey : isKeyK xk = true
      · have HK := Lib.hid hkey
        have hkk : (xk != 5) = false ∨ ((xk != 5) = true ∧ (xk != 3) = false) := by simp [isKeyK] at hkey ⊢; omega
        clear hkey
        rcases hkk with hk5 | ⟨hk5, hk3⟩
        · go_wp2
          go_loopw [4] (fun i wr => ∃ (m r : Nat), r = 2 * m ∧ m ≤ j ∧ i = .int .i64 r ∧ (V.mk xk xn xe xs' xkids).mark ∉ (ks.take m).map V.mark ∧ Below w.heap.size w wr) (fun i _ => k + 1 - (intOf i).toNat)
          case atStart => exact ⟨0, 0, rfl, Nat.zero_le _, rfl, by simp, hbel⟩
          case round =>
            obtain ⟨m, r, hrm, hm, rfl, hni, hbel2⟩ := hrel
            have HRM := Lib.hid hrm
            have HNI := Lib.hid hni; clear hni
            have hkj := HKJ.out
            by_cases hml : r < k
            · have hmk : m < ks.length := by omega
              have hmm := HKG.out m (by omega) hmk
              obtain ⟨u0, u1, u2, u3, u4, hr2, e0, e1, e2, e3, e4⟩ := HC.out r (by omega)
              obtain ⟨yk, yn, ye, ys, ykids, y5, hy, hcs2, _⟩ := V.lay hr2
              simp only [List.cons.injEq, and_true] at hcs2
              obtain ⟨rfl, rfl, rfl, rfl, rfl⟩ := hcs2
              have hbc2 := (bcell hbel2).1
              rw [← hbc2 _ _ hb] at e0 e1 e3
              have d0' := (hbc2 _ _ hb).trans D0.out
              have d1' := (hbc2 _ _ hb).trans D1.out
              have d3' := (hbc2 _ _ hb).trans D3.out
              clear hr2 e2 e4 d0 d1 d3
              have hky : ks[m] = .mk yk yn ye ys ykids := by rw [hmm, ← hy]; subst hrm; rfl
              have HY := Lib.hid hky
              have hj1 : (0 : Int) ≤ r := by omega
              have hj3 : (r : Int) < xs.length := by omega
              have hj5 : (r : Int) < k := by omega
              have hm5 : m < j := by omega
              have hr5 : r + 2 < k + 3 := by omega
              clear hbc2 hmm hy hky hrm hkj
              by_cases heq : yk = xk ∧ yn = xn ∧ ys = xs'
              · obtain ⟨rfl, rfl, rfl⟩ := heq
                have HF : Hid (pairsOk xs = false) := by
                  show _ = _; unfold pairsOk; rw [HKS.out, uniq_bad2 hjk (by
                    rw [HX.out]
                    refine List.mem_map.2 ⟨ks[m], List.mem_take_iff_getElem.2 ⟨m, by omega, rfl⟩, by rw [HY.out]; rfl⟩)]; rfl
                have g1 : (yk == yk) = true := by simp
                have g2 : (yn == yn) = true := by simp
                go_wp2
                go_quiet (fail)
                go_wp2
                go_ret
                exact ⟨by rw [← HOK.out, HF.out]; rfl, by first | exact hbel2 | exact hbel2.drew | exact below_drewN hbel2 _⟩
              · have HM : Hid ((V.mk xk xn xe xs' xkids).mark ∉ (ks.take (m + 1)).map V.mark) := by
                  show _ ∉ _
                  rw [marks_snoc _ _ _ hmk, List.mem_append, HY.out]
                  rintro (h | h)
                  · exact HNI.out h
                  · simp only [List.mem_singleton, V.mark, V.kind, V.num, V.text, Prod.mk.injEq] at h
                    exact heq ⟨h.1.symm, h.2.1.symm, h.2.2.symm⟩
                by_cases h1 : yk = xk
                · subst h1
                  have g1 : (yk == yk) = true := by simp
                  by_cases h2 : yn = xn
                  · subst h2
                    have g2 : (yn == yn) = true := by simp
                    have h3 : ¬ ys = xs' := fun e => heq ⟨rfl, rfl, e⟩
                    have g3 : (ys == xs') = false := by simpa using h3
                    clear heq h3
                    go_wp2
                    go_quiet (fail)
                    go_wp2
                    go_roundw
                    case rel => exact ⟨m + 1, r + 2, by have := HRM.out; omega, by omega, by go_num, HM.out, by first | exact hbel2 | exact hbel2.drew | exact below_drewN hbel2 _⟩
                    case measure => simp [intOf]; omega
                  · have g2 : (yn == xn) = false := by simpa using h2
                    clear heq h2
                    go_wp2
                    go_quiet (fail)
                    go_wp2
                    go_roundw
                    case rel => exact ⟨m + 1, r + 2, by have := HRM.out; omega, by omega, by go_num, HM.out, by first | exact hbel2 | exact hbel2.drew | exact below_drewN hbel2 _⟩
                    case measure => simp [intOf]; omega
                · have g1 : (yk == xk) = false := by simpa using h1
                  clear heq h1
                  go_wp2
                  go_quiet (fail)
                  go_wp2
                  go_roundw
                  case rel => exact ⟨m + 1, r + 2, by have := HRM.out; omega, by omega, by go_num, HM.out, by first | exact hbel2 | exact hbel2.drew | exact below_drewN hbel2 _⟩
                  case measure => simp [intOf]; omega
            · obtain rfl : m = j := by omega
              have HM : Hid (uniq V.mark (ks.take (m + 1)) = true) := uniq_more hjk HU.out (by rw [HX.out]; exact HK.out) (by rw [HX.out]; exact HNI.out)
              clear hrm hkj
              go_wp2
              go_roundw
              case rel => exact ⟨m + 1, k + 2, by have := HKJ.out; omega, by omega, by go_num, HM.out, hbel2⟩
              case measure => simp [intOf]; omega
        · go_wp2
          go_loopw [4] (fun i wr => ∃ (m r : Nat), r = 2 * m ∧ m ≤ j ∧ i = .int .i64 r ∧ (V.mk xk xn xe xs' xkids).mark ∉ (ks.take m).map V.mark ∧ Below w.heap.size w wr) (fun i _ => k + 1 - (intOf i).toNat)
          case atStart => exact ⟨0, 0, rfl, Nat.zero_le _, rfl, by simp, hbel⟩
          case round =>
            obtain ⟨m, r, hrm, hm, rfl, hni, hbel2⟩ := hrel
            have HRM := Lib.hid hrm
            have HNI := Lib.hid hni; clear hni
            have hkj := HKJ.out
            by_cases hml : r < k
            · have hmk : m < ks.length := by omega
              have hmm := HKG.out m (by omega) hmk
              obtain ⟨u0, u1, u2, u3, u4, hr2, e0, e1, e2, e3, e4⟩ := HC.out r (by omega)
              obtain ⟨yk, yn, ye, ys, ykids, y5, hy, hcs2, _⟩ := V.lay hr2
              simp only [List.cons.injEq, and_true] at hcs2
              obtain ⟨rfl, rfl, rfl, rfl, rfl⟩ := hcs2
              have hbc2 := (bcell hbel2).1
              rw [← hbc2 _ _ hb] at e0 e1 e3
              have d0' := (hbc2 _ _ hb).trans D0.out
              have d1' := (hbc2 _ _ hb).trans D1.out
              have d3' := (hbc2 _ _ hb).trans D3.out
              clear hr2 e2 e4 d0 d1 d3
              have hky : ks[m] = .mk yk yn ye ys ykids := by rw [hmm, ← hy]; subst hrm; rfl
              have HY := Lib.hid hky
              have hj1 : (0 : Int) ≤ r := by omega
              have hj3 : (r : Int) < xs.length := by omega
              have hj5 : (r : Int) < k := by omega
              have hm5 : m < j := by omega
              have hr5 : r + 2 < k + 3 := by omega
              clear hbc2 hmm hy hky hrm hkj
              by_cases heq : yk = xk ∧ yn = xn ∧ ys = xs'
              · obtain ⟨rfl, rfl, rfl⟩ := heq
                have HF : Hid (pairsOk xs = false) := by
                  show _ = _; unfold pairsOk; rw [HKS.out, uniq_bad2 hjk (by
                    rw [HX.out]
                    refine List.mem_map.2 ⟨ks[m], List.mem_take_iff_getElem.2 ⟨m, by omega, rfl⟩, by rw [HY.out]; rfl⟩)]; rfl
                have g1 : (yk == yk) = true := by simp
                have g2 : (yn == yn) = true := by simp
                go_wp2
                go_quiet (fail)
                go_wp2
                go_ret
                exact ⟨by rw [← HOK.out, HF.out]; rfl, by first | exact hbel2 | exact hbel2.drew | exact below_drewN hbel2 _⟩
              · have HM : Hid ((V.mk xk xn xe xs' xkids).mark ∉ (ks.take (m + 1)).map V.mark) := by
                  show _ ∉ _
                  rw [marks_snoc _ _ _ hmk, List.mem_append, HY.out]
                  rintro (h | h)
                  · exact HNI.out h
                  · simp only [List.mem_singleton, V.mark, V.kind, V.num, V.text, Prod.mk.injEq] at h
                    exact heq ⟨h.1.symm, h.2.1.symm, h.2.2.symm⟩
                by_cases h1 : yk = xk
                · subst h1
                  have g1 : (yk == yk) = true := by simp
                  by_cases h2 : yn = xn
                  · subst h2
                    have g2 : (yn == yn) = true := by simp
                    have h3 : ¬ ys = xs' := fun e => heq ⟨rfl, rfl, e⟩
                    have g3 : (ys == xs') = false := by simpa using h3
                    clear heq h3
                    go_wp2
                    go_quiet (fail)
                    go_wp2
                    go_roundw
                    case rel => exact ⟨m + 1, r + 2, by have := HRM.out; omega, by omega, by go_num, HM.out, by first | exact hbel2 | exact hbel2.drew | exact below_drewN hbel2 _⟩
                    case measure => simp [intOf]; omega
                  · have g2 : (yn == xn) = false := by simpa using h2
                    clear heq h2
                    go_wp2
                    go_quiet (fail)
                    go_wp2
                    go_roundw
                    case rel => exact ⟨m + 1, r + 2, by have := HRM.out; omega, by omega, by go_num, HM.out, by first | exact hbel2 | exact hbel2.drew | exact below_drewN hbel2 _⟩
                    case measure => simp [intOf]; omega
                · have g1 : (yk == xk) = false := by simpa using h1
                  clear heq h1
                  go_wp2
                  go_quiet (fail)
                  go_wp2
                  go_roundw
                  case rel => exact ⟨m + 1, r + 2, by have := HRM.out; omega, by omega, by go_num, HM.out, by first | exact hbel2 | exact hbel2.drew | exact below_drewN hbel2 _⟩
                  case measure => simp [intOf]; omega
            · obtain rfl : m = j := by omega
              have HM : Hid (uniq V.mark (ks.take (m + 1)) = true) := uniq_more hjk HU.out (by rw [HX.out]; exact HK.out) (by rw [HX.out]; exact HNI.out)
              clear hrm hkj
              go_wp2
              go_roundw
              case rel => exact ⟨m + 1, k + 2, by have := HKJ.out; omega, by omega, by go_num, HM.out, hbel2⟩
              case measure => simp [intOf]; omega
      · have hk5 : (xk != 5) = true := by simp [isKeyK] at hkey ⊢; omega
        have hk3 : (xk != 3) = true := by simp [isKeyK] at hkey ⊢; omega
        have HF : Hid (pairsOk xs = false) := by
          show _ = _; unfold pairsOk; rw [HKS.out, uniq_bad1 hjk (by rw [HX.out]; simpa [V.kind] using hkey)]; rfl
        clear hkey
        go_wp2
        go_ret
        exact ⟨by rw [← HOK.out, HF.out]; rfl, hbel⟩
    · obtain rfl : j = ks.length := by omega
      clear hkj
      have h1 := HU.out
      rw [List.take_length] at h1
      have HF : Hid (pairsOk xs = (decide (xs.length % 2 = 0) && decide (xs.length ≤ 300))) := by
        show _ = _; unfold pairsOk; rw [HKS.out, h1]; rfl
      clear h1
      by_cases he : xs.length % 2 = 0
      · have he' : ((xs.length : Int) % 2 == 0) = true := by simp; omega
        rw [decide_eq_true he] at HF
        clear he
        go_wp2
        go_ret
        exact ⟨by rw [← HOK.out, HF.out]; go_num, hbel⟩
      · have he' : ((xs.length : Int) % 2 == 0) = false := by simp; omega
        rw [decide_eq_false he] at HF
        clear he
        go_wp2
        go_ret
        exact ⟨by rw [← HOK.out, HF.out]; rfl, hbel⟩
end Go.Proofs.YtkeieeogkeonfaaGreatDoor

/- When a value is right but for its kids: the reference's l02Own. -/
namespace Go.Proofs.YtkeieeogkeonfaaGreatDoor
open Go.RowKit
open Go.Lib (validD)

theorem isE (s : List UInt8) : s.isEmpty = decide (s = []) := by cases s <;> simp
theorem len0 (l : List V) : ((l.length : Int) == 0) = decide (l = []) := by
  cases l with
  | nil => rfl
  | cons a r => simp; omega
theorem len1 (l : List V) : ((l.length : Int) == 1) = decide (l.length = 1) := by rw [Bool.eq_iff_iff]; simp; omega

set_option maxHeartbeats 400000 in
theorem l02Whole_int (n e : Int) (w : World) (hn : i64ok n) (he : -1000 ≤ e ∧ e ≤ 1000) :
    Calls Tryz.prog 76 #[.int .i64 n, .int .i64 e] w fun r w' => r = .returned (.bool (decide (0 < e) && fitsN e.toNat n)) ∧ w = w' := by
  by_cases h : 0 < e
  · obtain ⟨k, rfl⟩ : ∃ k : Nat, e = k := ⟨e.toNat, by omega⟩
    refine (l02Whole_any n k w hn (by omega)).mono ?_
    rintro r w' ⟨rfl, rfl⟩
    exact ⟨ret_bool (by rw [decide_eq_true (show 0 < k by omega), decide_eq_true h]; rfl), rfl⟩
  · have H := Lib.hid (show (decide (0 < e) && fitsN e.toNat n) = false by rw [decide_eq_false h]; rfl)
    have h2 : ¬ (0 : Int) < e := h
    go_enter Tryz.func76, Tryz.ntmps76
    go_wp2
    go_loopw [5] (fun i wr => i = .int .i64 0 ∧ w = wr) (fun _ _ => 0)
    case atStart => exact ⟨rfl, rfl⟩
    case round =>
      obtain ⟨rfl, rfl⟩ := hrel
      go_wp2
      go_ret
      exact ⟨by rw [H.out]; simp <;> omega, rfl⟩

set_option maxHeartbeats 4000000 in
set_option maxRecDepth 10000 in
theorem l02Own_any (x : V) (cs : List Value) (w : World) (h : Rd w x.d cs) (hwf : x.wf) (hbk : x.bulk ≤ 4294967295) :
    Calls Tryz.prog 50 #[.agg cs.toArray] w fun e w' => e = .returned (.bool x.self) ∧ Below w.heap.size w w' := by
  obtain ⟨k, n, e, s, kids, v1, rfl, rfl, hkids⟩ := V.lay h
  have hP := Lib.hid (fun w1 (hb : Below w.heap.size w w1) => l02Pairs_any kids v1 w1 (hkids.below hb) (by simp only [V.bulk] at hbk; omega))
  obtain ⟨a1, c1, rfl⟩ := Rd.sl_form hkids
  rw [V.ds_map, List.length_map] at hP ⊢
  have hsl : s.length ≤ 4294967295 := by simp only [V.bulk] at hbk; omega
  have hkl : kids.length ≤ 4294967295 := by simp only [V.bulk] at hbk; omega
  obtain ⟨hk, hn, he, _, _, _⟩ := hwf
  obtain ⟨ok, hok⟩ : ∃ ok, V.self (.mk k n e s kids) = ok := ⟨_, rfl⟩
  rw [hok]
  have hA := (Below.refl w.heap.size w).alloc (Nat.le_refl _) (.cells #[.int .i64 k, .int .i64 n, .int .i64 e, .string ⟨s.toArray⟩, .slice a1 kids.length c1] 35)
  clear h hkids hbk
  have HOK := Lib.hid hok; clear hok
  have HA := Lib.hid hA; clear hA; have hW0 := Lib.hid hn; clear hW0
  by_cases q7 : k = 7
  · subst q7
    go_enter Tryz.func50, Tryz.ntmps50
    go_wp2
    go_quiet (fail)
    go_wp2
    all_goals (go_ret; refine ⟨ret_bool ?_, by first | exact below_drewN ((Below.refl _ _).alloc (Nat.le_refl _) _) _ | exact below2 (below_drewN ((Below.refl _ _).alloc (Nat.le_refl _) _) _) (by assumption) (by first | exact Nat.le_refl _ | simp)⟩; rw [← HOK.out]; simp_all [V.self, V.selfBy, isE, len0, len1] <;> (intros; omega))
  by_cases q0 : k = 0
  · subst q0
    go_enter Tryz.func50, Tryz.ntmps50
    go_wp2
    go_quiet (fail)
    go_wp2
    all_goals (go_ret; refine ⟨ret_bool ?_, by first | exact below_drewN ((Below.refl _ _).alloc (Nat.le_refl _) _) _ | exact below2 (below_drewN ((Below.refl _ _).alloc (Nat.le_refl _) _) _) (by assumption) (by first | exact Nat.le_refl _ | simp)⟩; rw [← HOK.out]; simp_all [V.self, V.selfBy, isE, len0, len1] <;> (intros; omega))
  by_cases q1 : k = 1
  · subst q1
    go_enter Tryz.func50, Tryz.ntmps50
    go_wp2
    go_quiet (fail)
    go_wp2
    all_goals (go_ret; refine ⟨ret_bool ?_, by first | exact below_drewN ((Below.refl _ _).alloc (Nat.le_refl _) _) _ | exact below2 (below_drewN ((Below.refl _ _).alloc (Nat.le_refl _) _) _) (by assumption) (by first | exact Nat.le_refl _ | simp)⟩; rw [← HOK.out]; simp_all [V.self, V.selfBy, isE, len0, len1] <;> (intros; omega))
  by_cases q2 : k = 2
  · subst q2
    go_enter Tryz.func50, Tryz.ntmps50
    go_wp2
    go_quiet (fail)
    go_wp2
    all_goals (go_ret; refine ⟨ret_bool ?_, by first | exact below_drewN ((Below.refl _ _).alloc (Nat.le_refl _) _) _ | exact below2 (below_drewN ((Below.refl _ _).alloc (Nat.le_refl _) _) _) (by assumption) (by first | exact Nat.le_refl _ | simp)⟩; rw [← HOK.out]; simp_all [V.self, V.selfBy, isE, len0, len1] <;> (intros; omega))
  by_cases q3 : k = 3
  · subst q3
    go_enter Tryz.func50, Tryz.ntmps50
    go_wp2
    go_quiet (fail)
    go_wp2
    all_goals (go_ret; refine ⟨ret_bool ?_, by first | exact below_drewN ((Below.refl _ _).alloc (Nat.le_refl _) _) _ | exact below2 (below_drewN ((Below.refl _ _).alloc (Nat.le_refl _) _) _) (by assumption) (by first | exact Nat.le_refl _ | simp)⟩; rw [← HOK.out]; simp_all [V.self, V.selfBy, isE, len0, len1] <;> (intros; omega))
  by_cases q6 : k = 6
  · subst q6
    by_cases hs2 : s.length ≤ 2000
    · skip
      go_enter Tryz.func50, Tryz.ntmps50
      go_wp2
      go_quiet (fail)
      go_wp2
      all_goals (go_ret; refine ⟨ret_bool ?_, by first | exact below_drewN ((Below.refl _ _).alloc (Nat.le_refl _) _) _ | exact below2 (below_drewN ((Below.refl _ _).alloc (Nat.le_refl _) _) _) (by assumption) (by first | exact Nat.le_refl _ | simp)⟩; rw [← HOK.out]; simp_all [V.self, V.selfBy, isE, len0, len1] <;> (intros; omega))
    · skip
      go_enter Tryz.func50, Tryz.ntmps50
      go_wp2
      go_quiet (fail)
      go_wp2
      all_goals (go_ret; refine ⟨ret_bool ?_, by first | exact below_drewN ((Below.refl _ _).alloc (Nat.le_refl _) _) _ | exact below2 (below_drewN ((Below.refl _ _).alloc (Nat.le_refl _) _) _) (by assumption) (by first | exact Nat.le_refl _ | simp)⟩; rw [← HOK.out]; simp_all [V.self, V.selfBy, isE, len0, len1] <;> (intros; omega))
  by_cases q5 : k = 5
  · subst q5
    by_cases hs2 : s.length ≤ 2000
    · skip
      go_enter Tryz.func50, Tryz.ntmps50
      go_wp2
      go_quiet (fail)
      go_wp2_with (go_at_call 55; refine (textOk_spec s _ hsl).mono ?_; rintro e1 w1 ⟨rfl, hb1⟩; have f3 : w1.cell? ⟨w.heap.size, 3, none⟩ = some (.string ⟨s.toArray⟩) := (by rw [(bcell hb1).1 _ _ (by simp)]; simp [go_sem]); have f4 : w1.cell? ⟨w.heap.size, 4, none⟩ = some (.slice a1 kids.length c1) := (by rw [(bcell hb1).1 _ _ (by simp)]; simp [go_sem]))
      all_goals (go_ret; refine ⟨ret_bool ?_, by first | exact below_drewN ((Below.refl _ _).alloc (Nat.le_refl _) _) _ | exact below2 (below_drewN ((Below.refl _ _).alloc (Nat.le_refl _) _) _) (by assumption) (by first | exact Nat.le_refl _ | simp)⟩; rw [← HOK.out]; simp_all [V.self, V.selfBy, isE, len0, len1] <;> (intros; omega))
    · skip
      go_enter Tryz.func50, Tryz.ntmps50
      go_wp2
      go_quiet (fail)
      go_wp2_with (go_at_call 55; refine (textOk_spec s _ hsl).mono ?_; rintro e1 w1 ⟨rfl, hb1⟩; have f3 : w1.cell? ⟨w.heap.size, 3, none⟩ = some (.string ⟨s.toArray⟩) := (by rw [(bcell hb1).1 _ _ (by simp)]; simp [go_sem]); have f4 : w1.cell? ⟨w.heap.size, 4, none⟩ = some (.slice a1 kids.length c1) := (by rw [(bcell hb1).1 _ _ (by simp)]; simp [go_sem]))
      all_goals (go_ret; refine ⟨ret_bool ?_, by first | exact below_drewN ((Below.refl _ _).alloc (Nat.le_refl _) _) _ | exact below2 (below_drewN ((Below.refl _ _).alloc (Nat.le_refl _) _) _) (by assumption) (by first | exact Nat.le_refl _ | simp)⟩; rw [← HOK.out]; simp_all [V.self, V.selfBy, isE, len0, len1] <;> (intros; omega))
  by_cases q8 : k = 8
  · subst q8
    go_enter Tryz.func50, Tryz.ntmps50
    go_wp2
    go_quiet (fail)
    go_wp2_with (go_at_call 77; refine (hP.out _ (below_drewN ((Below.refl _ _).alloc (Nat.le_refl _) _) _)).mono ?_; rintro e1 w1 ⟨rfl, hb1⟩)
    all_goals (go_ret; refine ⟨ret_bool ?_, by first | exact below_drewN ((Below.refl _ _).alloc (Nat.le_refl _) _) _ | exact below2 (below_drewN ((Below.refl _ _).alloc (Nat.le_refl _) _) _) (by assumption) (by first | exact Nat.le_refl _ | simp)⟩; rw [← HOK.out]; simp_all [V.self, V.selfBy, isE, len0, len1] <;> (intros; omega))
  by_cases q9 : k = 9
  · subst q9
    go_enter Tryz.func50, Tryz.ntmps50
    go_wp2
    go_quiet (fail)
    go_wp2_with (go_at_call 52; refine (l01In_any _ _ _ _).mono ?_; rintro e1 w1 ⟨rfl, rfl⟩)
    all_goals (go_ret; refine ⟨ret_bool ?_, by first | exact below_drewN ((Below.refl _ _).alloc (Nat.le_refl _) _) _ | exact below2 (below_drewN ((Below.refl _ _).alloc (Nat.le_refl _) _) _) (by assumption) (by first | exact Nat.le_refl _ | simp)⟩; rw [← HOK.out]; simp_all [V.self, V.selfBy, isE, len0, len1] <;> (intros; omega))
  by_cases q4 : k = 4
  · subst q4
    by_cases g1 : Int.tmod n 10 = 0
    · have g1' : (Int.tmod n 10 != 0) = false := by simpa using g1
      have H := Lib.hid (show ok = false by rw [← HOK.out]; simp [V.self, V.selfBy, decOk, g1])
      go_enter Tryz.func50, Tryz.ntmps50
      go_wp2
      go_quiet (fail)
      go_wp2
      go_ret
      exact ⟨by rw [H.out]; rfl, below_drewN ((Below.refl _ _).alloc (Nat.le_refl _) _) _⟩
    · have g1' : (Int.tmod n 10 != 0) = true := by simpa using g1
      by_cases g2 : -20 ≤ e ∧ e ≤ 20
      · by_cases g3 : e = 0
        · subst g3
          have H := Lib.hid (show ok = false by rw [← HOK.out]; simp [V.self, V.selfBy, decOk])
          go_enter Tryz.func50, Tryz.ntmps50
          go_wp2
          go_quiet (fail)
          go_wp2_with (go_at_call 52; refine (l01In_any _ _ _ _).mono ?_; rintro e1 w1 ⟨rfl, rfl⟩)
          all_goals (go_ret; exact ⟨by rw [H.out]; rfl, below_drewN ((Below.refl _ _).alloc (Nat.le_refl _) _) _⟩)
        · have g3' : (e == 0) = false := by simpa using g3
          by_cases g4 : -999999999999999999 ≤ n ∧ n ≤ 999999999999999999
          · by_cases g5 : s = []
            · subst g5
              by_cases g6 : kids = []
              · subst g6
                have H := Lib.hid (show ok = !(decide (0 < e) && fitsN e.toNat n) by rw [← HOK.out]; simp [V.self, V.selfBy, decOk, inR_yes g2, inR_yes g4, g1, g3])
                go_enter Tryz.func50, Tryz.ntmps50
                go_wp2
                go_quiet (fail)
                go_wp2_with (first | (go_at_call 52; refine (l01In_any _ _ _ _).mono ?_; rintro e1 w1 ⟨rfl, rfl⟩; first | rw [inR_yes g2] | rw [inR_yes g4]) | (go_at_call 76; refine (l02Whole_int n e _ hn (by omega)).mono ?_; rintro e1 w1 ⟨rfl, rfl⟩))
                go_ret
                exact ⟨by rw [H.out]; simp, below_drewN ((Below.refl _ _).alloc (Nat.le_refl _) _) _⟩
              · have H := Lib.hid (show ok = false by rw [← HOK.out]; simp [V.self, V.selfBy, g6])
                have g6' : ((kids.length : Int) == 0) = false := by rw [len0, decide_eq_false g6]
                go_enter Tryz.func50, Tryz.ntmps50
                go_wp2
                go_quiet (fail)
                go_wp2_with (first | (go_at_call 52; refine (l01In_any _ _ _ _).mono ?_; rintro e1 w1 ⟨rfl, rfl⟩; first | rw [inR_yes g2] | rw [inR_yes g4]))
                go_ret
                exact ⟨by rw [H.out]; rfl, below_drewN ((Below.refl _ _).alloc (Nat.le_refl _) _) _⟩
            · have H := Lib.hid (show ok = false by rw [← HOK.out]; simp [V.self, V.selfBy, g5])
              have g5' : s.isEmpty = false := by rw [isE, decide_eq_false g5]
              go_enter Tryz.func50, Tryz.ntmps50
              go_wp2
              go_quiet (fail)
              go_wp2_with (first | (go_at_call 52; refine (l01In_any _ _ _ _).mono ?_; rintro e1 w1 ⟨rfl, rfl⟩; first | rw [inR_yes g2] | rw [inR_yes g4]))
              go_ret
              exact ⟨by rw [H.out]; rfl, below_drewN ((Below.refl _ _).alloc (Nat.le_refl _) _) _⟩
          · have H := Lib.hid (show ok = false by rw [← HOK.out]; simp [V.self, V.selfBy, decOk, inR_no g4])
            go_enter Tryz.func50, Tryz.ntmps50
            go_wp2
            go_quiet (fail)
            go_wp2_with (first | (go_at_call 52; refine (l01In_any _ _ _ _).mono ?_; rintro e1 w1 ⟨rfl, rfl⟩; first | rw [inR_no g4] | rw [inR_yes g2]))
            go_ret
            exact ⟨by rw [H.out]; rfl, below_drewN ((Below.refl _ _).alloc (Nat.le_refl _) _) _⟩
      · have H := Lib.hid (show ok = false by rw [← HOK.out]; simp [V.self, V.selfBy, decOk, inR_no g2])
        have H2 := Lib.hid (inR_no g2)
        go_enter Tryz.func50, Tryz.ntmps50
        go_wp2
        go_quiet (fail)
        go_wp2_with (go_at_call 52; refine (l01In_any _ _ _ _).mono ?_; rintro e1 w1 ⟨rfl, rfl⟩; try rw [H2.out])
        all_goals (go_ret; exact ⟨by rw [H.out]; rfl, below_drewN ((Below.refl _ _).alloc (Nat.le_refl _) _) _⟩)
  have H := Lib.hid (show ok = false by rw [← HOK.out]; simp [V.self, V.selfBy, q0, q1, q2, q3, q4, q5, q6, q7, q8, q9])
  go_enter Tryz.func50, Tryz.ntmps50
  go_wp2
  go_quiet (fail)
  go_wp2
  all_goals (go_ret; exact ⟨by rw [H.out]; rfl, below_drewN ((Below.refl _ _).alloc (Nat.le_refl _) _) _⟩)
end Go.Proofs.YtkeieeogkeonfaaGreatDoor

/- When a value is right: the reference's l02Right, Nodes and ValueOk. -/
namespace Go.Proofs.YtkeieeogkeonfaaGreatDoor
open Go.RowKit

def VRtA (n : Nat) : Prop := ∀ (x : V) (cs : List Value) (d : Int) (w : World), x.nodes ≤ n → Rd w x.d cs → x.wf → x.bulk ≤ 4294967295 → -1000 ≤ d → d ≤ 1000 →
  Calls Tryz.prog 28 #[.agg cs.toArray, .int .i64 d] w fun e w' => e = .returned (.bool (V.rightBy pairsOk d x)) ∧ Below w.heap.size w w'

theorem V.rights_false {q : List V → Bool} {d : Int} {xs : List V} (k : Nat) (hk : k < xs.length) (h : V.rightBy q d xs[k] = false) : V.rightsBy q d xs = false := by
  rw [V.rightsBy_all]; apply Bool.eq_false_iff.2; intro hh
  rw [List.all_eq_true] at hh
  have := hh xs[k] (List.getElem_mem hk); rw [h] at this; cases this
theorem V.rights_snoc {q : List V → Bool} {d : Int} {xs : List V} (k : Nat) (hk : k < xs.length) (h : V.rightsBy q d (xs.take k) = true) (h2 : V.rightBy q d xs[k] = true) : V.rightsBy q d (xs.take (k + 1)) = true := by
  rw [List.take_succ_eq_append_getElem hk, V.rightsBy_all, List.all_append]; rw [V.rightsBy_all] at h; rw [h]; simp [h2]
theorem V.nodes_split (xs : List V) (k : Nat) (hk : k < xs.length) : V.nodess (xs.take (k + 1)) = V.nodess (xs.take k) + xs[k].nodes := by
  rw [List.take_succ_eq_append_getElem hk]
  have hn : ∀ (ls : List V) (x : V), V.nodess (ls ++ [x]) = V.nodess ls + x.nodes := by
    intro ls x; induction ls with
    | nil => simp [V.nodess]
    | cons a ls ih => simp only [List.cons_append, V.nodess, ih]; omega
  exact hn _ _
theorem V.nodess_take : ∀ (xs : List V) (k : Nat), V.nodess (xs.take k) ≤ V.nodess xs
  | [], k => by simp [V.nodess]
  | x :: xs, 0 => by simp [V.nodess]
  | x :: xs, k + 1 => by have := V.nodess_take xs k; simp only [List.take_succ_cons, V.nodess]; omega
mutual
theorem V.nodes_bulk : ∀ x : V, x.nodes ≤ x.bulk + 1
  | .mk _ _ _ s kids => by have := V.nodess_bulks kids; simp only [V.nodes, V.bulk]; omega
theorem V.nodess_bulks : ∀ xs : List V, V.nodess xs ≤ xs.length + V.bulks xs
  | [] => by simp [V.nodess]
  | x :: xs => by have := V.nodes_bulk x; have := V.nodess_bulks xs; simp only [V.nodess, V.bulks, List.length_cons]; omega
end

theorem V.bulk_get' {ls : List V} {m : Nat} (h : ls.length + V.bulks ls ≤ m) (k : Nat) (hk : k < ls.length) : ls[k].bulk ≤ m := by
  have h1 := V.bulks_snoc ls k hk; have h2 := V.bulks_take ls (k + 1); omega

set_option maxHeartbeats 2000000 in
set_option maxRecDepth 10000 in
theorem VRtA_of {n : Nat} (hA : VRtA n) : VRtA (n + 1) := by
  intro x cs d w hn h hwf hbk hd1 hd2
  have HO := Lib.hid (fun w1 (hb : Below w.heap.size w w1) => l02Own_any x cs w1 (h.below hb) hwf hbk)
  obtain ⟨k, m, e, s, kids, v1, rfl, rfl, hkids⟩ := V.lay h
  have hnk : V.nodess kids ≤ n := by simp only [V.nodes] at hn; omega
  have hkw : V.wfs kids := hwf.2.2.2.2.2
  have hkb : kids.length + V.bulks kids ≤ 4294967295 := by simp only [V.bulk] at hbk; omega
  obtain ⟨a2, c2, rfl, hg⟩ := hkids.values
  obtain ⟨ok, hok⟩ : ∃ ok, V.rightBy pairsOk d (.mk k m e s kids) = ok := ⟨_, rfl⟩
  rw [hok]
  have HOK := Lib.hid hok; clear hok
  obtain ⟨W0, hW0⟩ : ∃ W0, W0 = w.alloc (.cells #[.int .i64 k, .int .i64 m, .int .i64 e, .string ⟨s.toArray⟩, .slice a2 kids.length c2] 35) := ⟨_, rfl⟩
  have HW := Lib.hid hW0
  have hA0 : Below w.heap.size w W0 := by rw [hW0]; exact (Below.refl _ _).alloc (Nat.le_refl _) _
  have hz : w.heap.size < W0.heap.size := by rw [hW0]; simp
  have KB : Hid (∀ W, Below W0.heap.size W0 W → W.cell? ⟨w.heap.size, 0, none⟩ = some (.int .i64 k) ∧ W.cell? ⟨w.heap.size, 1, none⟩ = some (.int .i64 m) ∧ W.cell? ⟨w.heap.size, 2, none⟩ = some (.int .i64 e) ∧ W.cell? ⟨w.heap.size, 3, none⟩ = some (.string ⟨s.toArray⟩) ∧ W.cell? ⟨w.heap.size, 4, none⟩ = some (.slice a2 kids.length c2)) := by
    intro W hb
    obtain ⟨hc, _⟩ := bcell hb
    simp only [hc _ _ hz]; subst hW0; simp
  clear hW0 h hkids hwf hbk
  obtain ⟨f0, f1, f2, f3, f4⟩ := KB.out _ (Below.refl _ _)
  by_cases hd0 : d < 0
  · have HF := Lib.hid (show ok = false by rw [← HOK.out]; simp only [V.rightBy]; rw [decide_eq_false (show ¬ 0 ≤ d by omega)]; simp)
    go_enter Tryz.func28, Tryz.ntmps28
    go_wp2
    rw [← HW.out]
    go_ret
    exact ⟨by rw [HF.out]; rfl, hA0⟩
  have D0 := Lib.hid (decide_eq_true (show 0 ≤ d by omega))
  cases hs : V.self (.mk k m e s kids) with
  | false =>
    have HS := Lib.hid hs
    have HF := Lib.hid (show ok = false by rw [← HOK.out]; simp only [V.rightBy]; rw [show V.selfBy pairsOk (.mk k m e s kids) = false from hs]; simp)
    clear hs
    go_enter Tryz.func28, Tryz.ntmps28
    go_wp2_with (go_at_call 50; rw [← HW.out]; refine (HO.out _ hA0).mono ?_; rw [HS.out]; rintro e w1 ⟨rfl, hb1⟩)
    go_ret
    exact ⟨by rw [HF.out]; rfl, below2 hA0 hb1 (Nat.le_refl _)⟩
  | true =>
  have HS := Lib.hid hs
  have HF0 := Lib.hid (show ok = V.rightsBy pairsOk (d - 1) kids by rw [← HOK.out]; simp only [V.rightBy]; rw [show V.selfBy pairsOk (.mk k m e s kids) = true from hs, D0.out]; simp)
  clear hs
  go_enter Tryz.func28, Tryz.ntmps28
  go_wp2_with (go_at_call 50; rw [← HW.out]; refine (HO.out _ hA0).mono ?_; rw [HS.out]; rintro e w1 ⟨rfl, hb1⟩)
  go_loopw [5] (fun i wr => ∃ (j : Nat), j ≤ kids.length ∧ i = .int .i64 j ∧ V.rightsBy pairsOk (d - 1) (kids.take j) = true ∧ Below W0.heap.size W0 wr) (fun i _ => kids.length - (intOf i).toNat)
  case atStart => exact ⟨0, Nat.zero_le _, rfl, by simp [V.rightsBy], hb1⟩
  case round =>
    obtain ⟨j, hj, rfl, hr, hbel⟩ := hrel
    have HR := Lib.hid hr; clear hr f0 f1 f2 f3 f4
    obtain ⟨f0, f1, f2, f3, f4⟩ := KB.out _ hbel
    have hbw := below2 hA0 hbel (Nat.le_refl _)
    by_cases hlt : j < kids.length
    · obtain ⟨_, _, b, o, rfl, hb, hcell⟩ := hg (by intro e; rw [e] at hlt; simp at hlt)
      obtain ⟨v0, v1, v2, v3, v4, hr, d0, d1, d2, d3, d4⟩ := hcell j hlt
      clear hcell hg
      obtain ⟨k1, k2, k3, s4, a6, n6, m6, hcs⟩ := V.form hr
      simp only [List.cons.injEq, and_true] at hcs
      obtain ⟨rfl, rfl, rfl, rfl, rfl⟩ := hcs
      have hbc := (bcell hbw).1
      rw [← hbc _ _ hb] at d0 d1 d2 d3 d4
      clear hbc
      have hi1 : (0 : Int) ≤ j := by omega
      have hi3 : (j : Int) < kids.length := by omega
      have hn1 := V.nodes_get kids j hlt
      have HC := Lib.hid (hA kids[j] _ (d - 1) wr (Nat.le_trans hn1 hnk) (hr.below hbw) (V.wfs_get hkw j hlt) (V.bulk_get' hkb j hlt) (by omega) (by omega))
      cases hv : V.rightBy pairsOk (d - 1) kids[j] with
      | true =>
        have HV := Lib.hid hv
        have HS2 := Lib.hid (V.rights_snoc j hlt HR.out hv)
        clear hv
        go_wp2_with (go_at_call 28; refine HC.out.mono ?_; rw [HV.out]; rintro e w2 ⟨rfl, hb2⟩)
        go_roundw
        case rel => exact ⟨j + 1, by omega, by go_num, HS2.out, below2 hbel hb2 (Nat.le_refl _)⟩
        case measure => simp [intOf]; omega
      | false =>
        have HV := Lib.hid hv
        have HF := Lib.hid (show ok = false by rw [HF0.out]; exact V.rights_false j hlt hv)
        clear hv
        go_wp2_with (go_at_call 28; refine HC.out.mono ?_; rw [HV.out]; rintro e w2 ⟨rfl, hb2⟩)
        go_ret
        exact ⟨by rw [HF.out]; rfl, below2 hbw hb2 (Nat.le_refl _)⟩
    · obtain rfl : j = kids.length := by omega
      have h1 := HR.out
      rw [List.take_length] at h1
      have HF := Lib.hid (show ok = true by rw [HF0.out]; exact h1)
      clear h1
      go_wp2
      go_ret
      exact ⟨by rw [HF.out]; rfl, hbw⟩
theorem VRt_all : ∀ n, VRtA n
  | 0 => fun x cs d w hn => absurd x.nodes_pos (by omega)
  | n + 1 => VRtA_of (VRt_all n)

def VMnA (n : Nat) : Prop := ∀ (x : V) (cs : List Value) (w : World), x.nodes ≤ n → Rd w x.d cs → x.bulk ≤ 4294967295 →
  Calls Tryz.prog 29 #[.agg cs.toArray] w fun e w' => e = .returned (.int .i64 (x.nodes : Nat)) ∧ Below w.heap.size w w'
set_option maxHeartbeats 2000000 in
set_option maxRecDepth 10000 in
theorem VMnA_of {n : Nat} (hA : VMnA n) : VMnA (n + 1) := by
  intro x cs w hn h hbk
  obtain ⟨k, m, e, s, kids, v1, rfl, rfl, hkids⟩ := V.lay h
  have hnk : V.nodess kids ≤ n := by simp only [V.nodes] at hn; omega
  have hkb : kids.length + V.bulks kids ≤ 4294967295 := by simp only [V.bulk] at hbk; omega
  have hnb := V.nodess_bulks kids
  obtain ⟨a2, c2, rfl, hg⟩ := hkids.values
  obtain ⟨W0, hW0⟩ : ∃ W0, W0 = w.alloc (.cells #[.int .i64 k, .int .i64 m, .int .i64 e, .string ⟨s.toArray⟩, .slice a2 kids.length c2] 35) := ⟨_, rfl⟩
  have HW := Lib.hid hW0
  have hA0 : Below w.heap.size w W0 := by rw [hW0]; exact (Below.refl _ _).alloc (Nat.le_refl _) _
  have hz : w.heap.size < W0.heap.size := by rw [hW0]; simp
  have KB : Hid (∀ W, Below W0.heap.size W0 W → W.cell? ⟨w.heap.size, 4, none⟩ = some (.slice a2 kids.length c2)) := by
    intro W hb
    obtain ⟨hc, _⟩ := bcell hb
    simp only [hc _ _ hz]; subst hW0; simp
  clear hW0 h hkids hbk
  go_enter Tryz.func29, Tryz.ntmps29
  go_wp2
  rw [← HW.out]
  go_loopw [3, 4] (fun x i wr => ∃ (j : Nat), j ≤ kids.length ∧ i = .int .i64 j ∧ x = .int .i64 (1 + V.nodess (kids.take j) : Nat) ∧ Below W0.heap.size W0 wr) (fun _ i _ => kids.length - (intOf i).toNat)
  case atStart => exact ⟨0, Nat.zero_le _, rfl, by simp [V.nodess], Below.refl _ _⟩
  case round =>
    obtain ⟨j, hj, rfl, rfl, hbel⟩ := hrel
    have f5 := KB.out _ hbel
    have hbw := below2 hA0 hbel (Nat.le_refl _)
    by_cases hlt : j < kids.length
    · obtain ⟨_, _, b, o, rfl, hb, hcell⟩ := hg (by intro e; rw [e] at hlt; simp at hlt)
      obtain ⟨v0, v1, v2, v3, v4, hr, d0, d1, d2, d3, d4⟩ := hcell j hlt
      clear hcell hg
      obtain ⟨k1, k2, k3, s4, a6, n6, m6, hcs⟩ := V.form hr
      simp only [List.cons.injEq, and_true] at hcs
      obtain ⟨rfl, rfl, rfl, rfl, rfl⟩ := hcs
      have hbc := (bcell hbw).1
      rw [← hbc _ _ hb] at d0 d1 d2 d3 d4
      clear hbc
      have hi1 : (0 : Int) ≤ j := by omega
      have hi3 : (j : Int) < kids.length := by omega
      have hn1 := V.nodes_get kids j hlt
      have HC := Lib.hid (hA kids[j] _ wr (Nat.le_trans hn1 hnk) (hr.below hbw) (V.bulk_get' hkb j hlt))
      have HS := Lib.hid (V.nodes_split kids j hlt)
      have ht1 := V.nodess_take kids j
      obtain ⟨q, hq⟩ : ∃ q, V.nodess (kids.take j) = q := ⟨_, rfl⟩
      rw [hq] at HS ht1 ⊢
      clear hq
      obtain ⟨p, hp⟩ : ∃ p, kids[j].nodes = p := ⟨_, rfl⟩
      rw [hp] at HS hn1 HC
      clear hp
      go_wp2_with (go_at_call 29; refine HC.out.mono ?_; rintro e w1 ⟨rfl, hb1⟩)
      go_roundw
      case rel => exact ⟨j + 1, by omega, by go_num, by rw [HS.out]; go_num, below2 hbel hb1 (Nat.le_refl _)⟩
      case measure => simp [intOf]; omega
    · obtain rfl : j = kids.length := by omega
      rw [List.take_length]
      go_wp2
      go_ret
      exact ⟨rfl, hbw⟩
theorem VMn_all : ∀ n, VMnA n
  | 0 => fun x cs w hn => absurd x.nodes_pos (by omega)
  | n + 1 => VMnA_of (VMn_all n)

set_option maxHeartbeats 400000 in
set_option maxRecDepth 10000 in
theorem valueOk_spec (x : V) (cs : List Value) (w : World) (h : Rd w x.d cs) (hwf : x.wf) (hbk : x.bulk ≤ 4294967295) :
    Calls Tryz.prog 15 #[.agg cs.toArray] w fun e w' => e = .returned (.bool x.ok) ∧ Below w.heap.size w w' := by
  obtain ⟨k, m, e, s, a2, n2, c2, rfl⟩ := V.form h
  obtain ⟨W0, hW0⟩ : ∃ W0, W0 = w.alloc (.cells #[.int .i64 k, .int .i64 m, .int .i64 e, .string ⟨s.toArray⟩, .slice a2 n2 c2] 35) := ⟨_, rfl⟩
  have HW := Lib.hid hW0
  have hA : Below w.heap.size w W0 := by rw [hW0]; exact (Below.refl _ _).alloc (Nat.le_refl _) _
  have hz : w.heap.size < W0.heap.size := by rw [hW0]; simp
  have KB : Hid (∀ W, Below W0.heap.size W0 W → W.cell? ⟨w.heap.size, 0, none⟩ = some (.int .i64 k) ∧ W.cell? ⟨w.heap.size, 1, none⟩ = some (.int .i64 m) ∧ W.cell? ⟨w.heap.size, 2, none⟩ = some (.int .i64 e) ∧ W.cell? ⟨w.heap.size, 3, none⟩ = some (.string ⟨s.toArray⟩) ∧ W.cell? ⟨w.heap.size, 4, none⟩ = some (.slice a2 n2 c2)) := by
    intro W hb
    obtain ⟨hc, _⟩ := bcell hb
    simp only [hc _ _ hz]; subst hW0; simp
  have hnb := x.nodes_bulk
  have HR := Lib.hid (fun W (hb : Below W0.heap.size W0 W) => VRt_all x.nodes x _ 12 W (Nat.le_refl _) (h.below (below2 hA hb (Nat.le_refl _))) hwf hbk (by decide) (by decide))
  have HM := Lib.hid (fun W (hb : Below W0.heap.size W0 W) => VMn_all x.nodes x _ W (Nat.le_refl _) (h.below (below2 hA hb (Nat.le_refl _))) hbk)
  have hB := Below.refl W0.heap.size W0
  clear hW0 h
  go_enter Tryz.func15, Tryz.ntmps15
  cases hr : V.rightBy pairsOk 12 x with
  | true =>
    have HV := Lib.hid hr; clear hr
    go_wp2_with (first | (go_at_call 28; rw [← HW.out]; refine (HR.out _ hB).mono ?_; rw [HV.out]; rintro e w1 ⟨rfl, hb1⟩; obtain ⟨p0, p1, p2, p3, p4⟩ := KB.out _ hb1) | (go_at_call 29; refine (HM.out _ hb1).mono ?_; rintro e w2 ⟨rfl, hb2⟩))
    go_ret
    refine ⟨ret_bool ?_, below2 hA (below2 hb1 hb2 (Nat.le_refl _)) (Nat.le_refl _)⟩
    unfold V.ok; rw [HV.out, Bool.true_and, Bool.eq_iff_iff]; simp; omega
  | false =>
    have HV := Lib.hid hr; clear hr
    go_wp2_with (first | (go_at_call 28; rw [← HW.out]; refine (HR.out _ hB).mono ?_; rw [HV.out]; rintro e w1 ⟨rfl, hb1⟩))
    go_ret
    refine ⟨ret_bool ?_, below2 hA hb1 (Nat.le_refl _)⟩
    unfold V.ok; rw [HV.out]; rfl
end Go.Proofs.YtkeieeogkeonfaaGreatDoor
