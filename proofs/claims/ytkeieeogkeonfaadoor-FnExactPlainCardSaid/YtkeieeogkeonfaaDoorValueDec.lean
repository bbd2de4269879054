/- Decimals of a value: the program's fits and isDec, the reference's l02Whole. -/
import Derived.Test.YtkeieeogkeonfaaDoorValueDef
import Derived.Test.YtkeieeogkeonfaaDoorRead
import Derived.Deep.RegionHeld3
import Derived.Deep.QuietTactic
import Derived.BigQuiet
import Derived.StillTailTactics
namespace Go.Proofs.YtkeieeogkeonfaaDoor
open Go.RowKit

theorem fitsN_yes {k : Nat} {n : Int} (h : -9223372036854775808 ≤ n * 10 ∧ n * 10 ≤ 9223372036854775807) : fitsN (k + 1) n = fitsN k (n * 10) := by
  show (inR _ _ _ && _) = _; rw [inR_yes h]; rfl
theorem fitsN_no {k : Nat} {n : Int} (h : ¬ (-9223372036854775808 ≤ n * 10 ∧ n * 10 ≤ 9223372036854775807)) : fitsN (k + 1) n = false := by
  show (inR _ _ _ && _) = _; rw [inR_no h]; rfl
theorem tdiv10 (q : Int) : Int.tdiv q 10 * 10 - 9 ≤ q ∧ q ≤ Int.tdiv q 10 * 10 + 9 ∧ (0 ≤ q → Int.tdiv q 10 * 10 ≤ q) ∧ (q ≤ 0 → q ≤ Int.tdiv q 10 * 10) := by
  have h1 := Int.mul_tdiv_add_tmod q 10
  have h2 := Int.tmod_lt_of_pos q (show (0 : Int) < 10 by decide)
  have h3 : -10 < Int.tmod q 10 := by have := Int.tmod_lt_of_pos (-q) (show (0 : Int) < 10 by decide); rw [Int.neg_tmod] at this; omega
  have h4 : 0 ≤ q → 0 ≤ Int.tmod q 10 := fun h => Int.tmod_nonneg 10 h
  have h5 : q ≤ 0 → Int.tmod q 10 ≤ 0 := fun h => by have := Int.tmod_nonneg 10 (show 0 ≤ -q by omega); rw [Int.neg_tmod] at this; omega
  refine ⟨by omega, by omega, fun h => ?_, fun h => ?_⟩
  · have := h4 h; omega
  · have := h5 h; omega
theorem wrap_no {n : Int} (h : ¬ (-9223372036854775808 ≤ n * 10 ∧ n * 10 ≤ 9223372036854775807)) : (wrap64 (Int.tdiv (wrap64 (n * 10)) 10) != n) = true := by
  simp only [bne_iff_ne, ne_eq]
  intro e
  have hq : -9223372036854775808 ≤ wrap64 (n * 10) ∧ wrap64 (n * 10) ≤ 9223372036854775807 := by unfold wrap64; omega
  generalize wrap64 (n * 10) = q at e hq
  obtain ⟨a, b, c, d⟩ := tdiv10 q
  have : wrap64 (Int.tdiv q 10) = Int.tdiv q 10 := by unfold wrap64; omega
  rw [this] at e
  subst e
  by_cases h0 : 0 ≤ q
  · have := c h0; omega
  · have := d (by omega); omega

set_option maxHeartbeats 400000 in
theorem l02Whole_any (n : Int) (k : Nat) (w : World) (hn : i64ok n) (hk : k ≤ 1000) :
    Calls Tryd.prog 134 #[.int .i64 n, .int .i64 k] w fun e w' => e = .returned (.bool (decide (0 < k) && fitsN k n)) ∧ w = w' := by
  obtain ⟨ok, hok⟩ : ∃ ok, fitsN k n = ok := ⟨_, rfl⟩
  rw [hok]
  have HOK := Lib.hid hok; clear hok
  go_enter Tryd.func134, Tryd.ntmps134
  go_wp2
  go_loopw [0, 5] (fun x i wr => ∃ (j : Nat) (m : Int), j ≤ k ∧ i = .int .i64 j ∧ x = .int .i64 m ∧ i64ok m ∧ fitsN (k - j) m = ok ∧ w = wr) (fun _ i _ => k - (intOf i).toNat)
  case atStart => exact ⟨0, n, Nat.zero_le _, rfl, rfl, hn, HOK.out, rfl⟩
  case round =>
    obtain ⟨j, m, hj, rfl, rfl, hm, hf, rfl⟩ := hrel
    by_cases hlt : j < k
    · obtain ⟨r, hr⟩ : ∃ r, k - j = r + 1 := ⟨k - j - 1, by omega⟩
      rw [hr] at hf
      have hlt' : (j : Int) < k := by omega
      by_cases hin : -9223372036854775808 ≤ m * 10 ∧ m * 10 ≤ 9223372036854775807
      · rw [fitsN_yes hin] at hf
        have HF := Lib.hid hf; clear hf
        go_wp2
        exact ⟨⟨j + 1, m * 10, by omega, by go_num, rfl, hin, by rw [show k - (j + 1) = r by omega]; exact HF.out, trivial⟩, by simp [intOf]; omega⟩
      · rw [fitsN_no hin] at hf
        have HF := Lib.hid hf; clear hf
        have hw := wrap_no hin
        go_wp2
        go_ret
        exact ⟨by rw [← HF.out]; simp, rfl⟩
    · obtain rfl : j = k := by omega
      rw [Nat.sub_self] at hf
      have HF := Lib.hid (show true = ok from hf); clear hf
      go_wp2
      go_ret
      exact ⟨by rw [← HF.out]; simp, rfl⟩

def fitsR (ok : Bool) (p : Int) : Value := if ok then .tuple #[.int .i64 p, .bool true] else .tuple #[.int .i64 0, .bool false]
theorem fitsR_yes (p : Int) : .tuple #[.int .i64 p, .bool true] = fitsR true p := rfl
theorem fitsR_no (p : Int) : .tuple #[.int .i64 0, .bool false] = fitsR false p := rfl
set_option maxHeartbeats 400000 in
theorem fits_any (n : Int) (k : Nat) (w : World) (hn : i64ok n) (hk : k ≤ 1000) :
    Calls Tryd.prog 149 #[.int .i64 n, .int .i64 k] w fun e w' => e = .returned (fitsR (fitsN k n) (n * 10 ^ k)) ∧ w = w' := by
  obtain ⟨ok, hok⟩ : ∃ ok, fitsN k n = ok := ⟨_, rfl⟩
  obtain ⟨p, hp⟩ : ∃ p, n * 10 ^ k = p := ⟨_, rfl⟩
  rw [hok, hp]
  have HOK := Lib.hid hok; clear hok
  have HP := Lib.hid hp; clear hp
  go_enter Tryd.func149, Tryd.ntmps149
  go_wp2
  go_loopw [0, 1] (fun x i wr => ∃ (j : Nat) (m : Int), j ≤ k ∧ i = .int .i64 j ∧ x = .int .i64 m ∧ i64ok m ∧ fitsN j m = ok ∧ m * 10 ^ j = p ∧ w = wr) (fun _ i _ => (intOf i).toNat)
  case atStart => exact ⟨k, n, Nat.le_refl _, rfl, rfl, hn, HOK.out, HP.out, rfl⟩
  case round =>
    obtain ⟨j, m, hj, rfl, rfl, hm, hf, hpp, rfl⟩ := hrel
    by_cases hj0 : j = 0
    · subst hj0
      have HF := Lib.hid (show true = ok from hf)
      have HPP := Lib.hid (show m = p by simpa using hpp)
      clear hf hpp
      go_wp2
      go_ret2
      exact ⟨by rw [← HF.out, HPP.out]; rfl, rfl⟩
    · obtain ⟨r, rfl⟩ : ∃ r, j = r + 1 := ⟨j - 1, by omega⟩
      have hj1 : (0 : Int) < (r + 1 : Nat) := by omega
      have hpp2 : m * 10 * 10 ^ r = p := by rw [← hpp, Int.pow_succ, Int.mul_assoc, Int.mul_comm 10]
      have HPP := Lib.hid hpp2
      by_cases hm0 : m = 0
      · subst hm0
        have h0 : ∀ r, fitsN r 0 = true := by intro r; induction r with
          | zero => rfl
          | succ r ih => rw [fitsN_yes (by decide)]; exact ih
        have HF := Lib.hid (show true = ok by rw [← hf, h0])
        have HP0 := Lib.hid (show (0 : Int) = p by simpa using hpp)
        clear hf hpp hpp2 h0
        go_wp2
        go_ret2
        exact ⟨by rw [← HF.out, ← HP0.out]; rfl, rfl⟩
      · have hne : (m != 0) = true := by simpa using hm0
        by_cases hin : -9223372036854775808 ≤ m * 10 ∧ m * 10 ≤ 9223372036854775807
        · rw [fitsN_yes hin] at hf
          have HF := Lib.hid hf; clear hf hpp hpp2
          have g1 : ¬ (922337203685477580 : Int) < m := by omega
          have g2 : ¬ m < (-922337203685477580 : Int) := by omega
          go_wp2
          exact ⟨⟨r, m * 10, by omega, by go_num, rfl, hin, HF.out, HPP.out, trivial⟩, by simp [intOf]⟩
        · rw [fitsN_no hin] at hf
          have HF := Lib.hid hf; clear hf hpp hpp2
          by_cases g1 : (922337203685477580 : Int) < m
          · go_wp2
            go_ret2
            exact ⟨by rw [← HF.out]; rfl, rfl⟩
          · have g2 : m < (-922337203685477580 : Int) := by omega
            go_wp2
            go_ret2
            exact ⟨by rw [← HF.out]; rfl, rfl⟩

theorem decOk_e {n e : Int} (h : ¬ (-20 ≤ e ∧ e ≤ 20)) : decOk n e = false := by unfold decOk; rw [inR_no h]; rfl
set_option maxHeartbeats 1000000 in
set_option maxRecDepth 10000 in
theorem isDec_any (x : V) (cs : List Value) (w : World) (h : Rd w x.d cs) (hwf : x.wf) :
    Calls Tryd.prog 136 #[.agg cs.toArray] w fun e w' => e = .returned (.bool (decOk x.num x.exp)) ∧ Below w.heap.size w w' := by
  obtain ⟨k, n, e, s, kids, v1, rfl, rfl, hkids⟩ := V.lay h
  obtain ⟨a1, c1, rfl⟩ := Rd.sl_form hkids
  obtain ⟨hk, hn, he, hs, _⟩ := hwf
  have H1 := Lib.hid (decOk_e (n := n) (e := e))
  show Calls _ _ _ _ fun e' w' => e' = .returned (.bool (decOk n e)) ∧ _
  obtain ⟨ok, hok⟩ : ∃ ok, decOk n e = ok := ⟨_, rfl⟩
  rw [hok]
  have HA := Lib.hid ((Below.refl w.heap.size w).alloc (Nat.le_refl _) (.cells #[.int .i64 k, .int .i64 n, .int .i64 e, .string ⟨s.toArray⟩, .slice a1 (V.ds kids).length c1] 41))
  clear h hkids
  by_cases h1 : -20 ≤ e ∧ e ≤ 20
  · by_cases h2 : e = 0
    · have H : Hid (ok = false) := by show _ = _; rw [← hok, h2]; unfold decOk; rw [inR_yes (by decide)]; simp
      subst h2
      clear hok
      go_enter Tryd.func136, Tryd.ntmps136
      go_wp2
      go_ret
      exact ⟨by rw [H.out]; rfl, HA.out⟩
    · have g2 : (e == 0) = false := by simpa using h2
      by_cases h3 : -999999999999999999 ≤ n ∧ n ≤ 999999999999999999
      · by_cases h4 : Int.tmod n 10 = 0
        · have H : Hid (ok = false) := by show _ = _; rw [← hok]; unfold decOk; rw [h4]; simp
          have g4 : (Int.tmod n 10 == 0) = true := by simpa using h4
          clear hok
          go_enter Tryd.func136, Tryd.ntmps136
          go_wp2
          go_ret
          exact ⟨by rw [H.out]; rfl, HA.out⟩
        · have g4 : (Int.tmod n 10 == 0) = false := by simpa using h4
          by_cases h5 : 0 < e
          · obtain ⟨j, rfl⟩ : ∃ j : Nat, e = j := ⟨e.toNat, by omega⟩
            have H : Hid (ok = !fitsN j n) := by show _ = _; rw [← hok]; unfold decOk; rw [inR_yes h1, inR_yes h3]; simp [h4, show j ≠ 0 by omega, show 0 < j by omega]
            clear hok
            go_enter Tryd.func136, Tryd.ntmps136
            cases hf : fitsN j n with
            | true =>
              have HF := Lib.hid hf; clear hf
              go_wp2_with (first | (go_at_call 129; refine (within_any _ _ _ _).mono ?_; rintro e w1 ⟨rfl, rfl⟩; first | rw [inR_yes h1] | rw [inR_yes h3]) | (go_at_call 149; refine (fits_any n j _ hn (by omega)).mono ?_; rw [HF.out]; rintro e w1 ⟨rfl, rfl⟩; simp only [fitsR, if_true]))
              go_ret
              exact ⟨by rw [H.out, HF.out]; rfl, HA.out⟩
            | false =>
              have HF := Lib.hid hf; clear hf
              go_wp2_with (first | (go_at_call 129; refine (within_any _ _ _ _).mono ?_; rintro e w1 ⟨rfl, rfl⟩; first | rw [inR_yes h1] | rw [inR_yes h3]) | (go_at_call 149; refine (fits_any n j _ hn (by omega)).mono ?_; rw [HF.out]; rintro e w1 ⟨rfl, rfl⟩; simp only [fitsR, Bool.false_eq_true, if_false]))
              go_ret
              exact ⟨by rw [H.out, HF.out]; rfl, HA.out⟩
          · have H : Hid (ok = true) := by show _ = _; rw [← hok]; unfold decOk; rw [inR_yes h1, inR_yes h3]; simp [h2, h4, h5]
            clear hok
            go_enter Tryd.func136, Tryd.ntmps136
            go_wp2
            go_ret
            exact ⟨by rw [H.out]; rfl, HA.out⟩
      · have H : Hid (ok = false) := by show _ = _; rw [← hok]; unfold decOk; rw [inR_no h3]; simp
        clear hok
        go_enter Tryd.func136, Tryd.ntmps136
        go_wp2
        all_goals (go_ret; exact ⟨by rw [H.out]; rfl, HA.out⟩)
  · have H : Hid (ok = false) := hok.symm.trans (H1.out h1)
    clear hok
    go_enter Tryd.func136, Tryd.ntmps136
    go_wp2
    all_goals (go_ret; exact ⟨by rw [H.out]; rfl, HA.out⟩)
end Go.Proofs.YtkeieeogkeonfaaDoor
