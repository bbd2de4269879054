/- Part 5 of the proof: contracts and walks. -/
import Derived.Test.YthngfihpnfoppaaDoorPa4
import Derived.Deep.RegionHeld3
import Derived.Deep.QuietTactic
import Derived.BigQuiet
import Derived.StillTailTactics
import Derived.RegionTactic
import Derived.ChangeAlike
import Derived.Deep.RegionLaw
import Derived.Deep.DeepCutAuto
import GoSem.Claims
namespace Go.Proofs.YthngfihpnfoppaaDoor
open Go.RowKit

theorem fitsN_yes {k : Nat} {n : Int} (h : -9223372036854775808 ≤ n * 10 ∧ n * 10 ≤ 9223372036854775807) : fitsN (k + 1) n = fitsN k (n * 10) := by
  show (inR _ _ _ && _) = _; rw [inR_yes h]; rfl
theorem fitsN_no {k : Nat} {n : Int} (h : ¬ (-9223372036854775808 ≤ n * 10 ∧ n * 10 ≤ 9223372036854775807)) : fitsN (k + 1) n = false := by
  show (inR _ _ _ && _) = _; rw [inR_no h]; rfl
theorem tdiv10 (q : Int) : Int.tdiv q 10 * 10 - 9 ≤ q ∧ q ≤ Int.tdiv q 10 * 10 + 9 ∧ (0 ≤ q → Int.tdiv q 10 * 10 ≤ q) ∧ (q ≤ 0 → q ≤ Int.tdiv q 10 * 10) := by
  have h1 := Int.mul_tdiv_add_tmod q 10
  have h2 := Int.tmod_lt_of_pos q (show (0 : Int) < 10 by decide)
  have h3 : -10 < Int.tmod q 10 := by have := Int.tmod_lt_of_pos (-q) (show (0 : Int) < 10 by decide); rw [Int.neg_tmod] at this; omega
  have h4 : 0 ≤ q → 0 ≤ Int.tmod q 10 := fun h => Int.tmod_nonneg 10 h
  have h5 : q ≤ 0 → Int.tmod q 10 ≤ 0 := fun h => by have := Int.tmod_nonneg 10 (show 0 ≤ -q by omega); rw [Int.neg_tmod] at this; omega
  refine ⟨by omega, by omega, fun h => ?_, fun h => ?_⟩
  · have := h4 h; omega
  · have := h5 h; omega
theorem wrap_no {n : Int} (h : ¬ (-9223372036854775808 ≤ n * 10 ∧ n * 10 ≤ 9223372036854775807)) : (wrap64 (Int.tdiv (wrap64 (n * 10)) 10) != n) = true := by
  simp only [bne_iff_ne, ne_eq]
  intro e
  have hq : -9223372036854775808 ≤ wrap64 (n * 10) ∧ wrap64 (n * 10) ≤ 9223372036854775807 := by unfold wrap64; omega
  generalize wrap64 (n * 10) = q at e hq
  obtain ⟨a, b, c, d⟩ := tdiv10 q
  have : wrap64 (Int.tdiv q 10) = Int.tdiv q 10 := by unfold wrap64; omega
  rw [this] at e
  subst e
  by_cases h0 : 0 ≤ q
  · have := c h0; omega
  · have := d (by omega); omega

set_option maxHeartbeats 400000 in
theorem l02Whole_any (n : Int) (k : Nat) (w : World) (hn : i64ok n) (hk : k ≤ 1000) :
    Calls Tryd.prog 49 #[.int .i64 n, .int .i64 k] w fun e w' => e = .returned (.bool (decide (0 < k) && fitsN k n)) ∧ w = w' := by
  obtain ⟨ok, hok⟩ : ∃ ok, fitsN k n = ok := ⟨_, rfl⟩
  rw [hok]
  have HOK := Lib.hid hok; clear hok
  go_enter Tryd.func49, Tryd.ntmps49
  go_wp2
  go_loopw [0, 5] (fun x i wr => ∃ (j : Nat) (m : Int), j ≤ k ∧ i = .int .i64 j ∧ x = .int .i64 m ∧ i64ok m ∧ fitsN (k - j) m = ok ∧ w = wr) (fun _ i _ => k - (intOf i).toNat)
  case atStart => exact ⟨0, n, Nat.zero_le _, rfl, rfl, hn, HOK.out, rfl⟩
  case round =>
    obtain ⟨j, m, hj, rfl, rfl, hm, hf, rfl⟩ := hrel
    by_cases hlt : j < k
    · obtain ⟨r, hr⟩ : ∃ r, k - j = r + 1 := ⟨k - j - 1, by omega⟩
      rw [hr] at hf
      have hlt' : (j : Int) < k := by omega
      by_cases hin : -9223372036854775808 ≤ m * 10 ∧ m * 10 ≤ 9223372036854775807
      · rw [fitsN_yes hin] at hf
        have HF := Lib.hid hf; clear hf
        go_wp2
        exact ⟨⟨j + 1, m * 10, by omega, by go_num, rfl, hin, by rw [show k - (j + 1) = r by omega]; exact HF.out, trivial⟩, by simp [intOf]; omega⟩
      · rw [fitsN_no hin] at hf
        have HF := Lib.hid hf; clear hf
        have hw := wrap_no hin
        go_wp2
        go_ret
        exact ⟨by rw [← HF.out]; simp, rfl⟩
    · obtain rfl : j = k := by omega
      rw [Nat.sub_self] at hf
      have HF := Lib.hid (show true = ok from hf); clear hf
      go_wp2
      go_ret
      exact ⟨by rw [← HF.out]; simp, rfl⟩

def fitsR (ok : Bool) (p : Int) : Value := if ok then .tuple #[.int .i64 p, .bool true] else .tuple #[.int .i64 0, .bool false]
theorem fitsR_yes (p : Int) : .tuple #[.int .i64 p, .bool true] = fitsR true p := rfl
theorem fitsR_no (p : Int) : .tuple #[.int .i64 0, .bool false] = fitsR false p := rfl
set_option maxHeartbeats 400000 in
theorem fits_any (n : Int) (k : Nat) (w : World) (hn : i64ok n) (hk : k ≤ 1000) :
    Calls Tryd.prog 60 #[.int .i64 n, .int .i64 k] w fun e w' => e = .returned (fitsR (fitsN k n) (n * 10 ^ k)) ∧ w = w' := by
  obtain ⟨ok, hok⟩ : ∃ ok, fitsN k n = ok := ⟨_, rfl⟩
  obtain ⟨p, hp⟩ : ∃ p, n * 10 ^ k = p := ⟨_, rfl⟩
  rw [hok, hp]
  have HOK := Lib.hid hok; clear hok
  have HP := Lib.hid hp; clear hp
  go_enter Tryd.func60, Tryd.ntmps60
  go_wp2
  go_loopw [0, 1] (fun x i wr => ∃ (j : Nat) (m : Int), j ≤ k ∧ i = .int .i64 j ∧ x = .int .i64 m ∧ i64ok m ∧ fitsN j m = ok ∧ m * 10 ^ j = p ∧ w = wr) (fun _ i _ => (intOf i).toNat)
  case atStart => exact ⟨k, n, Nat.le_refl _, rfl, rfl, hn, HOK.out, HP.out, rfl⟩
  case round =>
    obtain ⟨j, m, hj, rfl, rfl, hm, hf, hpp, rfl⟩ := hrel
    by_cases hj0 : j = 0
    · subst hj0
      have HF := Lib.hid (show true = ok from hf)
      have HPP := Lib.hid (show m = p by simpa using hpp)
      clear hf hpp
      go_wp2
      go_ret2
      exact ⟨by rw [← HF.out, HPP.out]; rfl, rfl⟩
    · obtain ⟨r, rfl⟩ : ∃ r, j = r + 1 := ⟨j - 1, by omega⟩
      have hj1 : (0 : Int) < (r + 1 : Nat) := by omega
      have hpp2 : m * 10 * 10 ^ r = p := by rw [← hpp, Int.pow_succ, Int.mul_assoc, Int.mul_comm 10]
      have HPP := Lib.hid hpp2
      by_cases hm0 : m = 0
      · subst hm0
        have h0 : ∀ r, fitsN r 0 = true := by intro r; induction r with
          | zero => rfl
          | succ r ih => rw [fitsN_yes (by decide)]; exact ih
        have HF := Lib.hid (show true = ok by rw [← hf, h0])
        have HP0 := Lib.hid (show (0 : Int) = p by simpa using hpp)
        clear hf hpp hpp2 h0
        go_wp2
        go_ret2
        exact ⟨by rw [← HF.out, ← HP0.out]; rfl, rfl⟩
      · have hne : (m != 0) = true := by simpa using hm0
        by_cases hin : -9223372036854775808 ≤ m * 10 ∧ m * 10 ≤ 9223372036854775807
        · rw [fitsN_yes hin] at hf
          have HF := Lib.hid hf; clear hf hpp hpp2
          have g1 : ¬ (922337203685477580 : Int) < m := by omega
          have g2 : ¬ m < (-922337203685477580 : Int) := by omega
          go_wp2
          exact ⟨⟨r, m * 10, by omega, by go_num, rfl, hin, HF.out, HPP.out, trivial⟩, by simp [intOf]⟩
        · rw [fitsN_no hin] at hf
          have HF := Lib.hid hf; clear hf hpp hpp2
          by_cases g1 : (922337203685477580 : Int) < m
          · go_wp2
            go_ret2
            exact ⟨by rw [← HF.out]; rfl, rfl⟩
          · have g2 : m < (-922337203685477580 : Int) := by omega
            go_wp2
            go_ret2
            exact ⟨by rw [← HF.out]; rfl, rfl⟩

theorem decOk_e {n e : Int} (h : ¬ (-20 ≤ e ∧ e ≤ 20)) : decOk n e = false := by unfold decOk; rw [inR_no h]; rfl
set_option maxHeartbeats 1000000 in
set_option maxRecDepth 10000 in
theorem isDec_any (x : V) (cs : List Value) (w : World) (h : Rd w x.d cs) (hwf : x.wf) :
    Calls Tryd.prog 52 #[.agg cs.toArray] w fun e w' => e = .returned (.bool (decOk x.num x.exp)) ∧ Below w.heap.size w w' := by
  obtain ⟨k, n, e, s, kids, v1, rfl, rfl, hkids⟩ := V.lay h
  obtain ⟨a1, c1, rfl⟩ := Rd.sl_form hkids
  obtain ⟨hk, hn, he, hs, _⟩ := hwf
  have H1 := Lib.hid (decOk_e (n := n) (e := e))
  show Calls _ _ _ _ fun e' w' => e' = .returned (.bool (decOk n e)) ∧ _
  obtain ⟨ok, hok⟩ : ∃ ok, decOk n e = ok := ⟨_, rfl⟩
  rw [hok]
  have HA := Lib.hid ((Below.refl w.heap.size w).alloc (Nat.le_refl _) (.cells #[.int .i64 k, .int .i64 n, .int .i64 e, .string ⟨s.toArray⟩, .slice a1 (V.ds kids).length c1] 26))
  clear h hkids
  by_cases h1 : -20 ≤ e ∧ e ≤ 20
  · by_cases h2 : e = 0
    · have H : Hid (ok = false) := by show _ = _; rw [← hok, h2]; unfold decOk; rw [inR_yes (by decide)]; simp
      subst h2
      clear hok
      go_enter Tryd.func52, Tryd.ntmps52
      go_wp2
      go_ret
      exact ⟨by rw [H.out]; rfl, HA.out⟩
    · have g2 : (e == 0) = false := by simpa using h2
      by_cases h3 : -999999999999999999 ≤ n ∧ n ≤ 999999999999999999
      · by_cases h4 : Int.tmod n 10 = 0
        · have H : Hid (ok = false) := by show _ = _; rw [← hok]; unfold decOk; rw [h4]; simp
          have g4 : (Int.tmod n 10 == 0) = true := by simpa using h4
          clear hok
          go_enter Tryd.func52, Tryd.ntmps52
          go_wp2
          go_ret
          exact ⟨by rw [H.out]; rfl, HA.out⟩
        · have g4 : (Int.tmod n 10 == 0) = false := by simpa using h4
          by_cases h5 : 0 < e
          · obtain ⟨j, rfl⟩ : ∃ j : Nat, e = j := ⟨e.toNat, by omega⟩
            have H : Hid (ok = !fitsN j n) := by show _ = _; rw [← hok]; unfold decOk; rw [inR_yes h1, inR_yes h3]; simp [h4, show j ≠ 0 by omega, show 0 < j by omega]
            clear hok
            go_enter Tryd.func52, Tryd.ntmps52
            cases hf : fitsN j n with
            | true =>
              have HF := Lib.hid hf; clear hf
              go_wp2_with (first | (go_at_call 54; refine (within_any _ _ _ _).mono ?_; rintro e w1 ⟨rfl, rfl⟩; first | rw [inR_yes h1] | rw [inR_yes h3]) | (go_at_call 60; refine (fits_any n j _ hn (by omega)).mono ?_; rw [HF.out]; rintro e w1 ⟨rfl, rfl⟩; simp only [fitsR, if_true]))
              go_ret
              exact ⟨by rw [H.out, HF.out]; rfl, HA.out⟩
            | false =>
              have HF := Lib.hid hf; clear hf
              go_wp2_with (first | (go_at_call 54; refine (within_any _ _ _ _).mono ?_; rintro e w1 ⟨rfl, rfl⟩; first | rw [inR_yes h1] | rw [inR_yes h3]) | (go_at_call 60; refine (fits_any n j _ hn (by omega)).mono ?_; rw [HF.out]; rintro e w1 ⟨rfl, rfl⟩; simp only [fitsR, Bool.false_eq_true, if_false]))
              go_ret
              exact ⟨by rw [H.out, HF.out]; rfl, HA.out⟩
          · have H : Hid (ok = true) := by show _ = _; rw [← hok]; unfold decOk; rw [inR_yes h1, inR_yes h3]; simp [h2, h4, h5]
            clear hok
            go_enter Tryd.func52, Tryd.ntmps52
            go_wp2
            go_ret
            exact ⟨by rw [H.out]; rfl, HA.out⟩
      · have H : Hid (ok = false) := by show _ = _; rw [← hok]; unfold decOk; rw [inR_no h3]; simp
        clear hok
        go_enter Tryd.func52, Tryd.ntmps52
        go_wp2
        all_goals (go_ret; exact ⟨by rw [H.out]; rfl, HA.out⟩)
  · have H : Hid (ok = false) := hok.symm.trans (H1.out h1)
    clear hok
    go_enter Tryd.func52, Tryd.ntmps52
    go_wp2
    all_goals (go_ret; exact ⟨by rw [H.out]; rfl, HA.out⟩)
end Go.Proofs.YthngfihpnfoppaaDoor

/- Whether values are keys and values by turns: the reference's l02Pairs. -/
namespace Go.Proofs.YthngfihpnfoppaaDoor
open Go.RowKit

theorem marks_snoc {α : Type} (f : V → α) (ks : List V) (m : Nat) (h : m < ks.length) : (ks.take (m + 1)).map f = (ks.take m).map f ++ [f ks[m]] := by
  rw [List.take_succ_eq_append_getElem h, List.map_append]; rfl

theorem uniq_more {α : Type} [DecidableEq α] {f : V → α} {ks : List V} {j : Nat} (hj : j < ks.length) (h : uniq f (ks.take j) = true) (hk : isKeyK ks[j].kind = true) (hn : f ks[j] ∉ (ks.take j).map f) : uniq f (ks.take (j + 1)) = true := by
  rw [List.take_succ_eq_append_getElem hj, uniq_snoc, h, hk, decide_eq_true hn]; rfl
theorem uniq_bad1 {α : Type} [DecidableEq α] {f : V → α} {ks : List V} {j : Nat} (hj : j < ks.length) (hk : isKeyK ks[j].kind = false) : uniq f ks = false := by
  apply uniq_take (j + 1)
  rw [List.take_succ_eq_append_getElem hj, uniq_snoc, hk, Bool.false_and, Bool.and_false]
theorem uniq_bad2 {α : Type} [DecidableEq α] {f : V → α} {ks : List V} {j : Nat} (hj : j < ks.length) (hn : f ks[j] ∈ (ks.take j).map f) : uniq f ks = false := by
  apply uniq_take (j + 1)
  rw [List.take_succ_eq_append_getElem hj, uniq_snoc, decide_eq_false (fun h => h hn), Bool.and_false, Bool.and_false]

set_option maxHeartbeats 4000000 in
set_option maxRecDepth 10000 in
theorem l02Pairs_any (xs : List V) (v : Value) (w : World) (h : Rd w (.sl 5 (V.ds xs)) [v]) (hlen : xs.length ≤ 4294967295) :
    Calls Tryd.prog 51 #[v] w fun e w' => e = .returned (.bool (pairsOk xs)) ∧ Below w.heap.size w w' := by
  obtain ⟨a, c, rfl, hg⟩ := h.values
  obtain ⟨ok, hok⟩ : ∃ ok, pairsOk xs = ok := ⟨_, rfl⟩
  rw [hok]
  have HOK := Lib.hid hok; clear hok h
  obtain ⟨ks, hks⟩ : ∃ ks, odds xs = ks := ⟨_, rfl⟩
  have hkl : ks.length = (xs.length + 1) / 2 := by rw [← hks, odds_length]
  have HKG : Hid (∀ j (h1 : 2 * j < xs.length) (h2 : j < ks.length), ks[j] = xs[2 * j]) := by
    intro j h1 h2; subst hks; exact odds_get xs j h1
  have HKS := Lib.hid hks; clear hks
  go_enter Tryd.func51, Tryd.ntmps51
  go_wp2
  go_loopw [3] (fun i wr => ∃ (j k : Nat), k = 2 * j ∧ j ≤ ks.length ∧ i = .int .i64 k ∧ uniq V.mark (ks.take j) = true ∧ Below w.heap.size w wr) (fun i _ => xs.length + 1 - (intOf i).toNat)
  case atStart => exact ⟨0, 0, rfl, Nat.zero_le _, rfl, by simp [uniq], Below.refl _ _⟩
  case round =>
    obtain ⟨j, k, hkj, hj, rfl, hu, hbel⟩ := hrel
    have HKJ := Lib.hid hkj
    have HU := Lib.hid hu; clear hu
    by_cases hlt : k < xs.length
    · have hjk : j < ks.length := by omega
      have hkk := HKG.out j (by omega) hjk
      obtain ⟨_, _, b, o, rfl, hb, hcell⟩ := hg (by intro e; rw [e] at hlt; simp at hlt)
      have HC := Lib.hid hcell
      obtain ⟨v0, v1, v2, v3, v4, hr, d0, d1, d2, d3, d4⟩ := hcell k hlt
      clear hcell
      obtain ⟨xk, xn, xe, xs', xkids, y4, hx, hcs, _⟩ := V.lay hr
      simp only [List.cons.injEq, and_true] at hcs
      obtain ⟨rfl, rfl, rfl, rfl, rfl⟩ := hcs
      have hbc := (bcell hbel).1
      have D0 := Lib.hid d0
      have D1 := Lib.hid d1
      have D3 := Lib.hid d3
      rw [← hbc _ _ hb] at d0 d1 d3
      clear hr d2 d4
      have hkx : ks[j] = .mk xk xn xe xs' xkids := by rw [hkk, ← hx]; subst hkj; rfl
      have hi1 : (0 : Int) ≤ k := by omega
      have hi3 : (k : Int) < xs.length := by omega
      have HX := Lib.hid hkx
      clear hbc hkk hx hkx hkj
      by_cases hkey : isKeyK xk = true
      · have HK := Lib.hid hkey
        have hkk : (xk != 5) = false ∨ ((xk != 5) = true ∧ (xk != 3) = false) := by simp [isKeyK] at hkey ⊢; omega
        clear hkey
        rcases hkk with hk5 | ⟨hk5, hk3⟩
        · go_wp2
          go_loopw [4] (fun i wr => ∃ (m r : Nat), r = 2 * m ∧ m ≤ j ∧ i = .int .i64 r ∧ (V.mk xk xn xe xs' xkids).mark ∉ (ks.take m).map V.mark ∧ Below w.heap.size w wr) (fun i _ => k + 1 - (intOf i).toNat)
          case atStart => exact ⟨0, 0, rfl, Nat.zero_le _, rfl, by simp, hbel⟩
          case round =>
            obtain ⟨m, r, hrm, hm, rfl, hni, hbel2⟩ := hrel
            have HRM := Lib.hid hrm
            have HNI := Lib.hid hni; clear hni
            have hkj := HKJ.out
            by_cases hml : r < k
            · have hmk : m < ks.length := by omega
              have hmm := HKG.out m (by omega) hmk
              obtain ⟨u0, u1, u2, u3, u4, hr2, e0, e1, e2, e3, e4⟩ := HC.out r (by omega)
              obtain ⟨yk, yn, ye, ys, ykids, y5, hy, hcs2, _⟩ := V.lay hr2
              simp only [List.cons.injEq, and_true] at hcs2
              obtain ⟨rfl, rfl, rfl, rfl, rfl⟩ := hcs2
              have hbc2 := (bcell hbel2).1
              rw [← hbc2 _ _ hb] at e0 e1 e3
              have d0' := (hbc2 _ _ hb).trans D0.out
              have d1' := (hbc2 _ _ hb).trans D1.out
              have d3' := (hbc2 _ _ hb).trans D3.out
              clear hr2 e2 e4 d0 d1 d3
              have hky : ks[m] = .mk yk yn ye ys ykids := by rw [hmm, ← hy]; subst hrm; rfl
              have HY := Lib.hid hky
              have hj1 : (0 : Int) ≤ r := by omega
              have hj3 : (r : Int) < xs.length := by omega
              have hj5 : (r : Int) < k := by omega
              have hm5 : m < j := by omega
              have hr5 : r + 2 < k + 3 := by omega
              clear hbc2 hmm hy hky hrm hkj
              by_cases heq : yk = xk ∧ yn = xn ∧ ys = xs'
              · obtain ⟨rfl, rfl, rfl⟩ := heq
                have HF : Hid (pairsOk xs = false) := by
                  show _ = _; unfold pairsOk; rw [HKS.out, uniq_bad2 hjk (by
                    rw [HX.out]
                    refine List.mem_map.2 ⟨ks[m], List.mem_take_iff_getElem.2 ⟨m, by omega, rfl⟩, by rw [HY.out]; rfl⟩)]; rfl
                have g1 : (yk == yk) = true := by simp
                have g2 : (yn == yn) = true := by simp
                go_wp2
                go_quiet (fail)
                go_wp2
                go_ret
                exact ⟨by rw [← HOK.out, HF.out]; rfl, by first | exact hbel2 | exact hbel2.drew | exact below_drewN hbel2 _⟩
              · have HM : Hid ((V.mk xk xn xe xs' xkids).mark ∉ (ks.take (m + 1)).map V.mark) := by
                  show _ ∉ _
                  rw [marks_snoc _ _ _ hmk, List.mem_append, HY.out]
                  rintro (h | h)
                  · exact HNI.out h
                  · simp only [List.mem_singleton, V.mark, V.kind, V.num, V.text, Prod.mk.injEq] at h
                    exact heq ⟨h.1.symm, h.2.1.symm, h.2.2.symm⟩
                by_cases h1 : yk = xk
                · subst h1
                  have g1 : (yk == yk) = true := by simp
                  by_cases h2 : yn = xn
                  · subst h2
                    have g2 : (yn == yn) = true := by simp
                    have h3 : ¬ ys = xs' := fun e => heq ⟨rfl, rfl, e⟩
                    have g3 : (ys == xs') = false := by simpa using h3
                    clear heq h3
                    go_wp2
                    go_quiet (fail)
                    go_wp2
                    go_roundw
                    case rel => exact ⟨m + 1, r + 2, by have := HRM.out; omega, by omega, by go_num, HM.out, by first | exact hbel2 | exact hbel2.drew | exact below_drewN hbel2 _⟩
                    case measure => simp [intOf]; omega
                  · have g2 : (yn == xn) = false := by simpa using h2
                    clear heq h2
                    go_wp2
                    go_quiet (fail)
                    go_wp2
                    go_roundw
                    case rel => exact ⟨m + 1, r + 2, by have := HRM.out; omega, by omega, by go_num, HM.out, by first | exact hbel2 | exact hbel2.drew | exact below_drewN hbel2 _⟩
                    case measure => simp [intOf]; omega
                · have g1 : (yk == xk) = false := by simpa using h1
                  clear heq h1
                  go_wp2
                  go_quiet (fail)
                  go_wp2
                  go_roundw
                  case rel => exact ⟨m + 1, r + 2, by have := HRM.out; omega, by omega, by go_num, HM.out, by first | exact hbel2 | exact hbel2.drew | exact below_drewN hbel2 _⟩
                  case measure => simp [intOf]; omega
            · obtain rfl : m = j := by omega
              have HM : Hid (uniq V.mark (ks.take (m + 1)) = true) := uniq_more hjk HU.out (by rw [HX.out]; exact HK.out) (by rw [HX.out]; exact HNI.out)
              clear hrm hkj
              go_wp2
              go_roundw
              case rel => exact ⟨m + 1, k + 2, by have := HKJ.out; omega, by omega, by go_num, HM.out, hbel2⟩
              case measure => simp [intOf]; omega
        · go_wp2
          go_loopw [4] (fun i wr => ∃ (m r : Nat), r = 2 * m ∧ m ≤ j ∧ i = .int .i64 r ∧ (V.mk xk xn xe xs' xkids).mark ∉ (ks.take m).map V.mark ∧ Below w.heap.size w wr) (fun i _ => k + 1 - (intOf i).toNat)
          case atStart => exact ⟨0, 0, rfl, Nat.zero_le _, rfl, by simp, hbel⟩
          case round =>
            obtain ⟨m, r, hrm, hm, rfl, hni, hbel2⟩ := hrel
            have HRM := Lib.hid hrm
            have HNI := Lib.hid hni; clear hni
            have hkj := HKJ.out
            by_cases hml : r < k
            · have hmk : m < ks.length := by omega
              have hmm := HKG.out m (by omega) hmk
              obtain ⟨u0, u1, u2, u3, u4, hr2, e0, e1, e2, e3, e4⟩ := HC.out r (by omega)
              obtain ⟨yk, yn, ye, ys, ykids, y5, hy, hcs2, _⟩ := V.lay hr2
              simp only [List.cons.injEq, and_true] at hcs2
              obtain ⟨rfl, rfl, rfl, rfl, rfl⟩ := hcs2
              have hbc2 := (bcell hbel2).1
              rw [← hbc2 _ _ hb] at e0 e1 e3
              have d0' := (hbc2 _ _ hb).trans D0.out
              have d1' := (hbc2 _ _ hb).trans D1.out
              have d3' := (hbc2 _ _ hb).trans D3.out
              clear hr2 e2 e4 d0 d1 d3
              have hky : ks[m] = .mk yk yn ye ys ykids := by rw [hmm, ← hy]; subst hrm; rfl
              have HY := Lib.hid hky
              have hj1 : (0 : Int) ≤ r := by omega
              have hj3 : (r : Int) < xs.length := by omega
              have hj5 : (r : Int) < k := by omega
              have hm5 : m < j := by omega
              have hr5 : r + 2 < k + 3 := by omega
              clear hbc2 hmm hy hky hrm hkj
              by_cases heq : yk = xk ∧ yn = xn ∧ ys = xs'
              · obtain ⟨rfl, rfl, rfl⟩ := heq
                have HF : Hid (pairsOk xs = false) := by
                  show _ = _; unfold pairsOk; rw [HKS.out, uniq_bad2 hjk (by
                    rw [HX.out]
                    refine List.mem_map.2 ⟨ks[m], List.mem_take_iff_getElem.2 ⟨m, by omega, rfl⟩, by rw [HY.out]; rfl⟩)]; rfl
                have g1 : (yk == yk) = true := by simp
                have g2 : (yn == yn) = true := by simp
                go_wp2
                go_quiet (fail)
                go_wp2
                go_ret
                exact ⟨by rw [← HOK.out, HF.out]; rfl, by first | exact hbel2 | exact hbel2.drew | exact below_drewN hbel2 _⟩
              · have HM : Hid ((V.mk xk xn xe xs' xkids).mark ∉ (ks.take (m + 1)).map V.mark) := by
                  show _ ∉ _
                  rw [marks_snoc _ _ _ hmk, List.mem_append, HY.out]
                  rintro (h | h)
                  · exact HNI.out h
                  · simp only [List.mem_singleton, V.mark, V.kind, V.num, V.text, Prod.mk.injEq] at h
                    exact heq ⟨h.1.symm, h.2.1.symm, h.2.2.symm⟩
                by_cases h1 : yk = xk
                · subst h1
                  have g1 : (yk == yk) = true := by simp
                  by_cases h2 : yn = xn
                  · subst h2
                    have g2 : (yn == yn) = true := by simp
                    have h3 : ¬ ys = xs' := fun e => heq ⟨rfl, rfl, e⟩
                    have g3 : (ys == xs') = false := by simpa using h3
                    clear heq h3
                    go_wp2
                    go_quiet (fail)
                    go_wp2
                    go_roundw
                    case rel => exact ⟨m + 1, r + 2, by have := HRM.out; omega, by omega, by go_num, HM.out, by first | exact hbel2 | exact hbel2.drew | exact below_drewN hbel2 _⟩
                    case measure => simp [intOf]; omega
                  · have g2 : (yn == xn) = false := by simpa using h2
                    clear heq h2
                    go_wp2
                    go_quiet (fail)
                    go_wp2
                    go_roundw
                    case rel => exact ⟨m + 1, r + 2, by have := HRM.out; omega, by omega, by go_num, HM.out, by first | exact hbel2 | exact hbel2.drew | exact below_drewN hbel2 _⟩
                    case measure => simp [intOf]; omega
                · have g1 : (yk == xk) = false := by simpa using h1
                  clear heq h1
                  go_wp2
                  go_quiet (fail)
                  go_wp2
                  go_roundw
                  case rel => exact ⟨m + 1, r + 2, by have := HRM.out; omega, by omega, by go_num, HM.out, by first | exact hbel2 | exact hbel2.drew | exact below_drewN hbel2 _⟩
                  case measure => simp [intOf]; omega
            · obtain rfl : m = j := by omega
              have HM : Hid (uniq V.mark (ks.take (m + 1)) = true) := uniq_more hjk HU.out (by rw [HX.out]; exact HK.out) (by rw [HX.out]; exact HNI.out)
              clear hrm hkj
              go_wp2
              go_roundw
              case rel => exact ⟨m + 1, k + 2, by have := HKJ.out; omega, by omega, by go_num, HM.out, hbel2⟩
              case measure => simp [intOf]; omega
      · have hk5 : (xk != 5) = true := by simp [isKeyK] at hkey ⊢; omega
        have hk3 : (xk != 3) = true := by simp [isKeyK] at hkey ⊢; omega
        have HF : Hid (pairsOk xs = false) := by
          show _ = _; unfold pairsOk; rw [HKS.out, uniq_bad1 hjk (by rw [HX.out]; simpa [V.kind] using hkey)]; rfl
        clear hkey
        go_wp2
        go_ret
        exact ⟨by rw [← HOK.out, HF.out]; rfl, hbel⟩
    · obtain rfl : j = ks.length := by omega
      clear hkj
      have h1 := HU.out
      rw [List.take_length] at h1
      have HF : Hid (pairsOk xs = (decide (xs.length % 2 = 0) && decide (xs.length ≤ 300))) := by
        show _ = _; unfold pairsOk; rw [HKS.out, h1]; rfl
      clear h1
      by_cases he : xs.length % 2 = 0
      · have he' : ((xs.length : Int) % 2 == 0) = true := by simp; omega
        rw [decide_eq_true he] at HF
        clear he
        go_wp2
        go_ret
        exact ⟨by rw [← HOK.out, HF.out]; go_num, hbel⟩
      · have he' : ((xs.length : Int) % 2 == 0) = false := by simp; omega
        rw [decide_eq_false he] at HF
        clear he
        go_wp2
        go_ret
        exact ⟨by rw [← HOK.out, HF.out]; rfl, hbel⟩
end Go.Proofs.YthngfihpnfoppaaDoor

/- When a value is right but for its kids: the reference's l02Own. -/
namespace Go.Proofs.YthngfihpnfoppaaDoor
open Go.RowKit
open Go.Lib (validD)

theorem isE (s : List UInt8) : s.isEmpty = decide (s = []) := by cases s <;> simp
theorem len0 (l : List V) : ((l.length : Int) == 0) = decide (l = []) := by
  cases l with
  | nil => rfl
  | cons a r => simp; omega
theorem len1 (l : List V) : ((l.length : Int) == 1) = decide (l.length = 1) := by rw [Bool.eq_iff_iff]; simp; omega

set_option maxHeartbeats 400000 in
theorem l02Whole_int (n e : Int) (w : World) (hn : i64ok n) (he : -1000 ≤ e ∧ e ≤ 1000) :
    Calls Tryd.prog 49 #[.int .i64 n, .int .i64 e] w fun r w' => r = .returned (.bool (decide (0 < e) && fitsN e.toNat n)) ∧ w = w' := by
  by_cases h : 0 < e
  · obtain ⟨k, rfl⟩ : ∃ k : Nat, e = k := ⟨e.toNat, by omega⟩
    refine (l02Whole_any n k w hn (by omega)).mono ?_
    rintro r w' ⟨rfl, rfl⟩
    exact ⟨ret_bool (by rw [decide_eq_true (show 0 < k by omega), decide_eq_true h]; rfl), rfl⟩
  · have H := Lib.hid (show (decide (0 < e) && fitsN e.toNat n) = false by rw [decide_eq_false h]; rfl)
    have h2 : ¬ (0 : Int) < e := h
    go_enter Tryd.func49, Tryd.ntmps49
    go_wp2
    go_loopw [5] (fun i wr => i = .int .i64 0 ∧ w = wr) (fun _ _ => 0)
    case atStart => exact ⟨rfl, rfl⟩
    case round =>
      obtain ⟨rfl, rfl⟩ := hrel
      go_wp2
      go_ret
      exact ⟨by rw [H.out]; simp <;> omega, rfl⟩

set_option maxHeartbeats 4000000 in
set_option maxRecDepth 10000 in
theorem l02Own_any (x : V) (cs : List Value) (w : World) (h : Rd w x.d cs) (hwf : x.wf) (hbk : x.bulk ≤ 4294967295) :
    Calls Tryd.prog 38 #[.agg cs.toArray] w fun e w' => e = .returned (.bool x.self) ∧ Below w.heap.size w w' := by
  obtain ⟨k, n, e, s, kids, v1, rfl, rfl, hkids⟩ := V.lay h
  have hP := Lib.hid (fun w1 (hb : Below w.heap.size w w1) => l02Pairs_any kids v1 w1 (hkids.below hb) (by simp only [V.bulk] at hbk; omega))
  obtain ⟨a1, c1, rfl⟩ := Rd.sl_form hkids
  rw [V.ds_map, List.length_map] at hP ⊢
  have hsl : s.length ≤ 4294967295 := by simp only [V.bulk] at hbk; omega
  have hkl : kids.length ≤ 4294967295 := by simp only [V.bulk] at hbk; omega
  obtain ⟨hk, hn, he, _, _, _⟩ := hwf
  obtain ⟨ok, hok⟩ : ∃ ok, V.self (.mk k n e s kids) = ok := ⟨_, rfl⟩
  rw [hok]
  have hA := (Below.refl w.heap.size w).alloc (Nat.le_refl _) (.cells #[.int .i64 k, .int .i64 n, .int .i64 e, .string ⟨s.toArray⟩, .slice a1 kids.length c1] 26)
  clear h hkids hbk
  have HOK := Lib.hid hok; clear hok
  have HA := Lib.hid hA; clear hA; have hW0 := Lib.hid hn; clear hW0
  by_cases q7 : k = 7
  · subst q7
    go_enter Tryd.func38, Tryd.ntmps38
    go_wp2
    go_quiet (fail)
    go_wp2
    all_goals (go_ret; refine ⟨ret_bool ?_, by first | exact below_drewN ((Below.refl _ _).alloc (Nat.le_refl _) _) _ | exact below2 (below_drewN ((Below.refl _ _).alloc (Nat.le_refl _) _) _) (by assumption) (by first | exact Nat.le_refl _ | simp)⟩; rw [← HOK.out]; simp_all [V.self, V.selfBy, isE] <;> (intros; omega))
  by_cases q0 : k = 0
  · subst q0
    go_enter Tryd.func38, Tryd.ntmps38
    go_wp2
    go_quiet (fail)
    go_wp2
    all_goals (go_ret; refine ⟨ret_bool ?_, by first | exact below_drewN ((Below.refl _ _).alloc (Nat.le_refl _) _) _ | exact below2 (below_drewN ((Below.refl _ _).alloc (Nat.le_refl _) _) _) (by assumption) (by first | exact Nat.le_refl _ | simp)⟩; rw [← HOK.out]; simp_all [V.self, V.selfBy, len0] <;> (intros; omega))
  by_cases q1 : k = 1
  · subst q1
    go_enter Tryd.func38, Tryd.ntmps38
    go_wp2
    go_quiet (fail)
    go_wp2
    all_goals (go_ret; refine ⟨ret_bool ?_, by first | exact below_drewN ((Below.refl _ _).alloc (Nat.le_refl _) _) _ | exact below2 (below_drewN ((Below.refl _ _).alloc (Nat.le_refl _) _) _) (by assumption) (by first | exact Nat.le_refl _ | simp)⟩; rw [← HOK.out]; simp_all [V.self, V.selfBy, len0] <;> (intros; omega))
  by_cases q2 : k = 2
  · subst q2
    go_enter Tryd.func38, Tryd.ntmps38
    go_wp2
    go_quiet (fail)
    go_wp2
    all_goals (go_ret; refine ⟨ret_bool ?_, by first | exact below_drewN ((Below.refl _ _).alloc (Nat.le_refl _) _) _ | exact below2 (below_drewN ((Below.refl _ _).alloc (Nat.le_refl _) _) _) (by assumption) (by first | exact Nat.le_refl _ | simp)⟩; rw [← HOK.out]; simp_all [V.self, V.selfBy, len0] <;> (intros; omega))
  by_cases q3 : k = 3
  · subst q3
    go_enter Tryd.func38, Tryd.ntmps38
    go_wp2
    go_quiet (fail)
    go_wp2
    all_goals (go_ret; refine ⟨ret_bool ?_, by first | exact below_drewN ((Below.refl _ _).alloc (Nat.le_refl _) _) _ | exact below2 (below_drewN ((Below.refl _ _).alloc (Nat.le_refl _) _) _) (by assumption) (by first | exact Nat.le_refl _ | simp)⟩; rw [← HOK.out]; simp_all [V.self, V.selfBy, len0] <;> (intros; omega))
  by_cases q6 : k = 6
  · subst q6
    by_cases hs2 : s.length ≤ 2000
    · skip
      go_enter Tryd.func38, Tryd.ntmps38
      go_wp2
      go_quiet (fail)
      go_wp2
      all_goals (go_ret; refine ⟨ret_bool ?_, by first | exact below_drewN ((Below.refl _ _).alloc (Nat.le_refl _) _) _ | exact below2 (below_drewN ((Below.refl _ _).alloc (Nat.le_refl _) _) _) (by assumption) (by first | exact Nat.le_refl _ | simp)⟩; rw [← HOK.out]; simp_all [V.self, V.selfBy, len0] <;> (intros; omega))
    · skip
      go_enter Tryd.func38, Tryd.ntmps38
      go_wp2
      go_quiet (fail)
      go_wp2
      all_goals (go_ret; refine ⟨ret_bool ?_, by first | exact below_drewN ((Below.refl _ _).alloc (Nat.le_refl _) _) _ | exact below2 (below_drewN ((Below.refl _ _).alloc (Nat.le_refl _) _) _) (by assumption) (by first | exact Nat.le_refl _ | simp)⟩; rw [← HOK.out]; simp_all [V.self, V.selfBy] <;> (intros; omega))
  by_cases q5 : k = 5
  · subst q5
    by_cases hs2 : s.length ≤ 2000
    · skip
      go_enter Tryd.func38, Tryd.ntmps38
      go_wp2
      go_quiet (fail)
      go_wp2_with (go_at_call 50; refine (textOk_spec s _ hsl).mono ?_; rintro e1 w1 ⟨rfl, hb1⟩; have f3 : w1.cell? ⟨w.heap.size, 3, none⟩ = some (.string ⟨s.toArray⟩) := (by rw [(bcell hb1).1 _ _ (by simp)]; simp [go_sem]); have f4 : w1.cell? ⟨w.heap.size, 4, none⟩ = some (.slice a1 kids.length c1) := (by rw [(bcell hb1).1 _ _ (by simp)]; simp [go_sem]))
      all_goals (go_ret; refine ⟨ret_bool ?_, by first | exact below_drewN ((Below.refl _ _).alloc (Nat.le_refl _) _) _ | exact below2 (below_drewN ((Below.refl _ _).alloc (Nat.le_refl _) _) _) (by assumption) (by first | exact Nat.le_refl _ | simp)⟩; rw [← HOK.out]; simp_all [V.self, V.selfBy, len0] <;> (intros; omega))
    · skip
      go_enter Tryd.func38, Tryd.ntmps38
      go_wp2
      go_quiet (fail)
      go_wp2_with (go_at_call 50; refine (textOk_spec s _ hsl).mono ?_; rintro e1 w1 ⟨rfl, hb1⟩; have f3 : w1.cell? ⟨w.heap.size, 3, none⟩ = some (.string ⟨s.toArray⟩) := (by rw [(bcell hb1).1 _ _ (by simp)]; simp [go_sem]); have f4 : w1.cell? ⟨w.heap.size, 4, none⟩ = some (.slice a1 kids.length c1) := (by rw [(bcell hb1).1 _ _ (by simp)]; simp [go_sem]))
      all_goals (go_ret; refine ⟨ret_bool ?_, by first | exact below_drewN ((Below.refl _ _).alloc (Nat.le_refl _) _) _ | exact below2 (below_drewN ((Below.refl _ _).alloc (Nat.le_refl _) _) _) (by assumption) (by first | exact Nat.le_refl _ | simp)⟩; rw [← HOK.out]; simp_all [V.self, V.selfBy] <;> (intros; omega))
  by_cases q8 : k = 8
  · subst q8
    go_enter Tryd.func38, Tryd.ntmps38
    go_wp2
    go_quiet (fail)
    go_wp2_with (go_at_call 51; refine (hP.out _ (below_drewN ((Below.refl _ _).alloc (Nat.le_refl _) _) _)).mono ?_; rintro e1 w1 ⟨rfl, hb1⟩)
    all_goals (go_ret; refine ⟨ret_bool ?_, by first | exact below_drewN ((Below.refl _ _).alloc (Nat.le_refl _) _) _ | exact below2 (below_drewN ((Below.refl _ _).alloc (Nat.le_refl _) _) _) (by assumption) (by first | exact Nat.le_refl _ | simp)⟩; rw [← HOK.out]; simp_all [V.self, V.selfBy] <;> (intros; omega))
  by_cases q9 : k = 9
  · subst q9
    go_enter Tryd.func38, Tryd.ntmps38
    go_wp2
    go_quiet (fail)
    go_wp2_with (go_at_call 48; refine (l01In_any _ _ _ _).mono ?_; rintro e1 w1 ⟨rfl, rfl⟩)
    all_goals (go_ret; refine ⟨ret_bool ?_, by first | exact below_drewN ((Below.refl _ _).alloc (Nat.le_refl _) _) _ | exact below2 (below_drewN ((Below.refl _ _).alloc (Nat.le_refl _) _) _) (by assumption) (by first | exact Nat.le_refl _ | simp)⟩; rw [← HOK.out]; simp_all [V.self, V.selfBy, len1] <;> (intros; omega))
  by_cases q4 : k = 4
  · subst q4
    by_cases g1 : Int.tmod n 10 = 0
    · have g1' : (Int.tmod n 10 != 0) = false := by simpa using g1
      have H := Lib.hid (show ok = false by rw [← HOK.out]; simp [V.self, V.selfBy, decOk, g1])
      go_enter Tryd.func38, Tryd.ntmps38
      go_wp2
      go_quiet (fail)
      go_wp2
      go_ret
      exact ⟨by rw [H.out]; rfl, below_drewN ((Below.refl _ _).alloc (Nat.le_refl _) _) _⟩
    · have g1' : (Int.tmod n 10 != 0) = true := by simpa using g1
      by_cases g2 : -20 ≤ e ∧ e ≤ 20
      · by_cases g3 : e = 0
        · subst g3
          have H := Lib.hid (show ok = false by rw [← HOK.out]; simp [V.self, V.selfBy, decOk])
          go_enter Tryd.func38, Tryd.ntmps38
          go_wp2
          go_quiet (fail)
          go_wp2_with (go_at_call 48; refine (l01In_any _ _ _ _).mono ?_; rintro e1 w1 ⟨rfl, rfl⟩)
          all_goals (go_ret; exact ⟨by rw [H.out]; rfl, below_drewN ((Below.refl _ _).alloc (Nat.le_refl _) _) _⟩)
        · have g3' : (e == 0) = false := by simpa using g3
          by_cases g4 : -999999999999999999 ≤ n ∧ n ≤ 999999999999999999
          · by_cases g5 : s = []
            · subst g5
              by_cases g6 : kids = []
              · subst g6
                have H := Lib.hid (show ok = !(decide (0 < e) && fitsN e.toNat n) by rw [← HOK.out]; simp [V.self, V.selfBy, decOk, inR_yes g2, inR_yes g4, g1, g3])
                go_enter Tryd.func38, Tryd.ntmps38
                go_wp2
                go_quiet (fail)
                go_wp2_with (first | (go_at_call 48; refine (l01In_any _ _ _ _).mono ?_; rintro e1 w1 ⟨rfl, rfl⟩; first | rw [inR_yes g2] | rw [inR_yes g4]) | (go_at_call 49; refine (l02Whole_int n e _ hn (by omega)).mono ?_; rintro e1 w1 ⟨rfl, rfl⟩))
                go_ret
                exact ⟨by rw [H.out]; simp, below_drewN ((Below.refl _ _).alloc (Nat.le_refl _) _) _⟩
              · have H := Lib.hid (show ok = false by rw [← HOK.out]; simp [V.self, V.selfBy, g6])
                have g6' : ((kids.length : Int) == 0) = false := by rw [len0, decide_eq_false g6]
                go_enter Tryd.func38, Tryd.ntmps38
                go_wp2
                go_quiet (fail)
                go_wp2_with (first | (go_at_call 48; refine (l01In_any _ _ _ _).mono ?_; rintro e1 w1 ⟨rfl, rfl⟩; first | rw [inR_yes g2] | rw [inR_yes g4]))
                go_ret
                exact ⟨by rw [H.out]; rfl, below_drewN ((Below.refl _ _).alloc (Nat.le_refl _) _) _⟩
            · have H := Lib.hid (show ok = false by rw [← HOK.out]; simp [V.self, V.selfBy, g5])
              have g5' : s.isEmpty = false := by rw [isE, decide_eq_false g5]
              go_enter Tryd.func38, Tryd.ntmps38
              go_wp2
              go_quiet (fail)
              go_wp2_with (first | (go_at_call 48; refine (l01In_any _ _ _ _).mono ?_; rintro e1 w1 ⟨rfl, rfl⟩; first | rw [inR_yes g2] | rw [inR_yes g4]))
              go_ret
              exact ⟨by rw [H.out]; rfl, below_drewN ((Below.refl _ _).alloc (Nat.le_refl _) _) _⟩
          · have H := Lib.hid (show ok = false by rw [← HOK.out]; simp [V.self, V.selfBy, decOk, inR_no g4])
            go_enter Tryd.func38, Tryd.ntmps38
            go_wp2
            go_quiet (fail)
            go_wp2_with (first | (go_at_call 48; refine (l01In_any _ _ _ _).mono ?_; rintro e1 w1 ⟨rfl, rfl⟩; first | rw [inR_no g4] | rw [inR_yes g2]))
            go_ret
            exact ⟨by rw [H.out]; rfl, below_drewN ((Below.refl _ _).alloc (Nat.le_refl _) _) _⟩
      · have H := Lib.hid (show ok = false by rw [← HOK.out]; simp [V.self, V.selfBy, decOk, inR_no g2])
        have H2 := Lib.hid (inR_no g2)
        go_enter Tryd.func38, Tryd.ntmps38
        go_wp2
        go_quiet (fail)
        go_wp2_with (go_at_call 48; refine (l01In_any _ _ _ _).mono ?_; rintro e1 w1 ⟨rfl, rfl⟩; try rw [H2.out])
        all_goals (go_ret; exact ⟨by rw [H.out]; rfl, below_drewN ((Below.refl _ _).alloc (Nat.le_refl _) _) _⟩)
  have H := Lib.hid (show ok = false by rw [← HOK.out]; simp [V.self, V.selfBy, q0, q1, q2, q3, q4, q5, q6, q7, q8, q9])
  go_enter Tryd.func38, Tryd.ntmps38
  go_wp2
  go_quiet (fail)
  go_wp2
  all_goals (go_ret; exact ⟨by rw [H.out]; rfl, below_drewN ((Below.refl _ _).alloc (Nat.le_refl _) _) _⟩)
end Go.Proofs.YthngfihpnfoppaaDoor

/- When a value is right: the reference's l02Right, Nodes and ValueOk. -/
namespace Go.Proofs.YthngfihpnfoppaaDoor
open Go.RowKit

def VRtA (n : Nat) : Prop := ∀ (x : V) (cs : List Value) (d : Int) (w : World), x.nodes ≤ n → Rd w x.d cs → x.wf → x.bulk ≤ 4294967295 → -1000 ≤ d → d ≤ 1000 →
  Calls Tryd.prog 20 #[.agg cs.toArray, .int .i64 d] w fun e w' => e = .returned (.bool (V.rightBy pairsOk d x)) ∧ Below w.heap.size w w'

theorem V.rights_false {q : List V → Bool} {d : Int} {xs : List V} (k : Nat) (hk : k < xs.length) (h : V.rightBy q d xs[k] = false) : V.rightsBy q d xs = false := by
  rw [V.rightsBy_all]; apply Bool.eq_false_iff.2; intro hh
  rw [List.all_eq_true] at hh
  have := hh xs[k] (List.getElem_mem hk); rw [h] at this; cases this
theorem V.rights_snoc {q : List V → Bool} {d : Int} {xs : List V} (k : Nat) (hk : k < xs.length) (h : V.rightsBy q d (xs.take k) = true) (h2 : V.rightBy q d xs[k] = true) : V.rightsBy q d (xs.take (k + 1)) = true := by
  rw [List.take_succ_eq_append_getElem hk, V.rightsBy_all, List.all_append]; rw [V.rightsBy_all] at h; rw [h]; simp [h2]
theorem V.nodes_split (xs : List V) (k : Nat) (hk : k < xs.length) : V.nodess (xs.take (k + 1)) = V.nodess (xs.take k) + xs[k].nodes := by
  rw [List.take_succ_eq_append_getElem hk]
  have hn : ∀ (ls : List V) (x : V), V.nodess (ls ++ [x]) = V.nodess ls + x.nodes := by
    intro ls x; induction ls with
    | nil => simp [V.nodess]
    | cons a ls ih => simp only [List.cons_append, V.nodess, ih]; omega
  exact hn _ _
theorem V.nodess_take : ∀ (xs : List V) (k : Nat), V.nodess (xs.take k) ≤ V.nodess xs
  | [], k => by simp [V.nodess]
  | x :: xs, 0 => by simp [V.nodess]
  | x :: xs, k + 1 => by have := V.nodess_take xs k; simp only [List.take_succ_cons, V.nodess]; omega
mutual
theorem V.nodes_bulk : ∀ x : V, x.nodes ≤ x.bulk + 1
  | .mk _ _ _ s kids => by have := V.nodess_bulks kids; simp only [V.nodes, V.bulk]; omega
theorem V.nodess_bulks : ∀ xs : List V, V.nodess xs ≤ xs.length + V.bulks xs
  | [] => by simp [V.nodess]
  | x :: xs => by have := V.nodes_bulk x; have := V.nodess_bulks xs; simp only [V.nodess, V.bulks, List.length_cons]; omega
end

theorem V.bulk_get' {ls : List V} {m : Nat} (h : ls.length + V.bulks ls ≤ m) (k : Nat) (hk : k < ls.length) : ls[k].bulk ≤ m := by
  have h1 := V.bulks_snoc ls k hk; have h2 := V.bulks_take ls (k + 1); omega

set_option maxHeartbeats 2000000 in
set_option maxRecDepth 10000 in
theorem VRtA_of {n : Nat} (hA : VRtA n) : VRtA (n + 1) := by
  intro x cs d w hn h hwf hbk hd1 hd2
  have HO := Lib.hid (fun w1 (hb : Below w.heap.size w w1) => l02Own_any x cs w1 (h.below hb) hwf hbk)
  obtain ⟨k, m, e, s, kids, v1, rfl, rfl, hkids⟩ := V.lay h
  have hnk : V.nodess kids ≤ n := by simp only [V.nodes] at hn; omega
  have hkw : V.wfs kids := hwf.2.2.2.2.2
  have hkb : kids.length + V.bulks kids ≤ 4294967295 := by simp only [V.bulk] at hbk; omega
  obtain ⟨a2, c2, rfl, hg⟩ := hkids.values
  obtain ⟨ok, hok⟩ : ∃ ok, V.rightBy pairsOk d (.mk k m e s kids) = ok := ⟨_, rfl⟩
  rw [hok]
  have HOK := Lib.hid hok; clear hok
  obtain ⟨W0, hW0⟩ : ∃ W0, W0 = w.alloc (.cells #[.int .i64 k, .int .i64 m, .int .i64 e, .string ⟨s.toArray⟩, .slice a2 kids.length c2] 26) := ⟨_, rfl⟩
  have HW := Lib.hid hW0
  have hA0 : Below w.heap.size w W0 := by rw [hW0]; exact (Below.refl _ _).alloc (Nat.le_refl _) _
  have hz : w.heap.size < W0.heap.size := by rw [hW0]; simp
  have KB : Hid (∀ W, Below W0.heap.size W0 W → W.cell? ⟨w.heap.size, 0, none⟩ = some (.int .i64 k) ∧ W.cell? ⟨w.heap.size, 1, none⟩ = some (.int .i64 m) ∧ W.cell? ⟨w.heap.size, 2, none⟩ = some (.int .i64 e) ∧ W.cell? ⟨w.heap.size, 3, none⟩ = some (.string ⟨s.toArray⟩) ∧ W.cell? ⟨w.heap.size, 4, none⟩ = some (.slice a2 kids.length c2)) := by
    intro W hb
    obtain ⟨hc, _⟩ := bcell hb
    simp only [hc _ _ hz]; subst hW0; simp
  clear hW0 h hkids hwf hbk
  obtain ⟨f0, f1, f2, f3, f4⟩ := KB.out _ (Below.refl _ _)
  by_cases hd0 : d < 0
  · have HF := Lib.hid (show ok = false by rw [← HOK.out]; simp only [V.rightBy]; rw [decide_eq_false (show ¬ 0 ≤ d by omega)]; simp)
    go_enter Tryd.func20, Tryd.ntmps20
    go_wp2
    rw [← HW.out]
    go_ret
    exact ⟨by rw [HF.out]; rfl, hA0⟩
  have D0 := Lib.hid (decide_eq_true (show 0 ≤ d by omega))
  cases hs : V.self (.mk k m e s kids) with
  | false =>
    have HS := Lib.hid hs
    have HF := Lib.hid (show ok = false by rw [← HOK.out]; simp only [V.rightBy]; rw [show V.selfBy pairsOk (.mk k m e s kids) = false from hs]; simp)
    clear hs
    go_enter Tryd.func20, Tryd.ntmps20
    go_wp2_with (go_at_call 38; rw [← HW.out]; refine (HO.out _ hA0).mono ?_; rw [HS.out]; rintro e w1 ⟨rfl, hb1⟩)
    go_ret
    exact ⟨by rw [HF.out]; rfl, below2 hA0 hb1 (Nat.le_refl _)⟩
  | true =>
  have HS := Lib.hid hs
  have HF0 := Lib.hid (show ok = V.rightsBy pairsOk (d - 1) kids by rw [← HOK.out]; simp only [V.rightBy]; rw [show V.selfBy pairsOk (.mk k m e s kids) = true from hs, D0.out]; simp)
  clear hs
  go_enter Tryd.func20, Tryd.ntmps20
  go_wp2_with (go_at_call 38; rw [← HW.out]; refine (HO.out _ hA0).mono ?_; rw [HS.out]; rintro e w1 ⟨rfl, hb1⟩)
  go_loopw [5] (fun i wr => ∃ (j : Nat), j ≤ kids.length ∧ i = .int .i64 j ∧ V.rightsBy pairsOk (d - 1) (kids.take j) = true ∧ Below W0.heap.size W0 wr) (fun i _ => kids.length - (intOf i).toNat)
  case atStart => exact ⟨0, Nat.zero_le _, rfl, by simp [V.rightsBy], hb1⟩
  case round =>
    obtain ⟨j, hj, rfl, hr, hbel⟩ := hrel
    have HR := Lib.hid hr; clear hr f0 f1 f2 f3 f4
    obtain ⟨f0, f1, f2, f3, f4⟩ := KB.out _ hbel
    have hbw := below2 hA0 hbel (Nat.le_refl _)
    by_cases hlt : j < kids.length
    · obtain ⟨_, _, b, o, rfl, hb, hcell⟩ := hg (by intro e; rw [e] at hlt; simp at hlt)
      obtain ⟨v0, v1, v2, v3, v4, hr, d0, d1, d2, d3, d4⟩ := hcell j hlt
      clear hcell hg
      obtain ⟨k1, k2, k3, s4, a6, n6, m6, hcs⟩ := V.form hr
      simp only [List.cons.injEq, and_true] at hcs
      obtain ⟨rfl, rfl, rfl, rfl, rfl⟩ := hcs
      have hbc := (bcell hbw).1
      rw [← hbc _ _ hb] at d0 d1 d2 d3 d4
      clear hbc
      have hi1 : (0 : Int) ≤ j := by omega
      have hi3 : (j : Int) < kids.length := by omega
      have hn1 := V.nodes_get kids j hlt
      have HC := Lib.hid (hA kids[j] _ (d - 1) wr (Nat.le_trans hn1 hnk) (hr.below hbw) (V.wfs_get hkw j hlt) (V.bulk_get' hkb j hlt) (by omega) (by omega))
      cases hv : V.rightBy pairsOk (d - 1) kids[j] with
      | true =>
        have HV := Lib.hid hv
        have HS2 := Lib.hid (V.rights_snoc j hlt HR.out hv)
        clear hv
        go_wp2_with (go_at_call 20; refine HC.out.mono ?_; rw [HV.out]; rintro e w2 ⟨rfl, hb2⟩)
        go_roundw
        case rel => exact ⟨j + 1, by omega, by go_num, HS2.out, below2 hbel hb2 (Nat.le_refl _)⟩
        case measure => simp [intOf]; omega
      | false =>
        have HV := Lib.hid hv
        have HF := Lib.hid (show ok = false by rw [HF0.out]; exact V.rights_false j hlt hv)
        clear hv
        go_wp2_with (go_at_call 20; refine HC.out.mono ?_; rw [HV.out]; rintro e w2 ⟨rfl, hb2⟩)
        go_ret
        exact ⟨by rw [HF.out]; rfl, below2 hbw hb2 (Nat.le_refl _)⟩
    · obtain rfl : j = kids.length := by omega
      have h1 := HR.out
      rw [List.take_length] at h1
      have HF := Lib.hid (show ok = true by rw [HF0.out]; exact h1)
      clear h1
      go_wp2
      go_ret
      exact ⟨by rw [HF.out]; rfl, hbw⟩
theorem VRt_all : ∀ n, VRtA n
  | 0 => fun x cs d w hn => absurd x.nodes_pos (by omega)
  | n + 1 => VRtA_of (VRt_all n)

def VMnA (n : Nat) : Prop := ∀ (x : V) (cs : List Value) (w : World), x.nodes ≤ n → Rd w x.d cs → x.bulk ≤ 4294967295 →
  Calls Tryd.prog 21 #[.agg cs.toArray] w fun e w' => e = .returned (.int .i64 (x.nodes : Nat)) ∧ Below w.heap.size w w'
set_option maxHeartbeats 2000000 in
set_option maxRecDepth 10000 in
theorem VMnA_of {n : Nat} (hA : VMnA n) : VMnA (n + 1) := by
  intro x cs w hn h hbk
  obtain ⟨k, m, e, s, kids, v1, rfl, rfl, hkids⟩ := V.lay h
  have hnk : V.nodess kids ≤ n := by simp only [V.nodes] at hn; omega
  have hkb : kids.length + V.bulks kids ≤ 4294967295 := by simp only [V.bulk] at hbk; omega
  have hnb := V.nodess_bulks kids
  obtain ⟨a2, c2, rfl, hg⟩ := hkids.values
  obtain ⟨W0, hW0⟩ : ∃ W0, W0 = w.alloc (.cells #[.int .i64 k, .int .i64 m, .int .i64 e, .string ⟨s.toArray⟩, .slice a2 kids.length c2] 26) := ⟨_, rfl⟩
  have HW := Lib.hid hW0
  have hA0 : Below w.heap.size w W0 := by rw [hW0]; exact (Below.refl _ _).alloc (Nat.le_refl _) _
  have hz : w.heap.size < W0.heap.size := by rw [hW0]; simp
  have KB : Hid (∀ W, Below W0.heap.size W0 W → W.cell? ⟨w.heap.size, 4, none⟩ = some (.slice a2 kids.length c2)) := by
    intro W hb
    obtain ⟨hc, _⟩ := bcell hb
    simp only [hc _ _ hz]; subst hW0; simp
  clear hW0 h hkids hbk
  go_enter Tryd.func21, Tryd.ntmps21
  go_wp2
  rw [← HW.out]
  go_loopw [3, 4] (fun x i wr => ∃ (j : Nat), j ≤ kids.length ∧ i = .int .i64 j ∧ x = .int .i64 (1 + V.nodess (kids.take j) : Nat) ∧ Below W0.heap.size W0 wr) (fun _ i _ => kids.length - (intOf i).toNat)
  case atStart => exact ⟨0, Nat.zero_le _, rfl, by simp [V.nodess], Below.refl _ _⟩
  case round =>
    obtain ⟨j, hj, rfl, rfl, hbel⟩ := hrel
    have f5 := KB.out _ hbel
    have hbw := below2 hA0 hbel (Nat.le_refl _)
    by_cases hlt : j < kids.length
    · obtain ⟨_, _, b, o, rfl, hb, hcell⟩ := hg (by intro e; rw [e] at hlt; simp at hlt)
      obtain ⟨v0, v1, v2, v3, v4, hr, d0, d1, d2, d3, d4⟩ := hcell j hlt
      clear hcell hg
      obtain ⟨k1, k2, k3, s4, a6, n6, m6, hcs⟩ := V.form hr
      simp only [List.cons.injEq, and_true] at hcs
      obtain ⟨rfl, rfl, rfl, rfl, rfl⟩ := hcs
      have hbc := (bcell hbw).1
      rw [← hbc _ _ hb] at d0 d1 d2 d3 d4
      clear hbc
      have hi1 : (0 : Int) ≤ j := by omega
      have hi3 : (j : Int) < kids.length := by omega
      have hn1 := V.nodes_get kids j hlt
      have HC := Lib.hid (hA kids[j] _ wr (Nat.le_trans hn1 hnk) (hr.below hbw) (V.bulk_get' hkb j hlt))
      have HS := Lib.hid (V.nodes_split kids j hlt)
      have ht1 := V.nodess_take kids j
      obtain ⟨q, hq⟩ : ∃ q, V.nodess (kids.take j) = q := ⟨_, rfl⟩
      rw [hq] at HS ht1 ⊢
      clear hq
      obtain ⟨p, hp⟩ : ∃ p, kids[j].nodes = p := ⟨_, rfl⟩
      rw [hp] at HS hn1 HC
      clear hp
      go_wp2_with (go_at_call 21; refine HC.out.mono ?_; rintro e w1 ⟨rfl, hb1⟩)
      go_roundw
      case rel => exact ⟨j + 1, by omega, by go_num, by rw [HS.out]; go_num, below2 hbel hb1 (Nat.le_refl _)⟩
      case measure => simp [intOf]; omega
    · obtain rfl : j = kids.length := by omega
      rw [List.take_length]
      go_wp2
      go_ret
      exact ⟨rfl, hbw⟩
theorem VMn_all : ∀ n, VMnA n
  | 0 => fun x cs w hn => absurd x.nodes_pos (by omega)
  | n + 1 => VMnA_of (VMn_all n)

set_option maxHeartbeats 400000 in
set_option maxRecDepth 10000 in
theorem valueOk_spec (x : V) (cs : List Value) (w : World) (h : Rd w x.d cs) (hwf : x.wf) (hbk : x.bulk ≤ 4294967295) :
    Calls Tryd.prog 10 #[.agg cs.toArray] w fun e w' => e = .returned (.bool x.ok) ∧ Below w.heap.size w w' := by
  obtain ⟨k, m, e, s, a2, n2, c2, rfl⟩ := V.form h
  obtain ⟨W0, hW0⟩ : ∃ W0, W0 = w.alloc (.cells #[.int .i64 k, .int .i64 m, .int .i64 e, .string ⟨s.toArray⟩, .slice a2 n2 c2] 26) := ⟨_, rfl⟩
  have HW := Lib.hid hW0
  have hA : Below w.heap.size w W0 := by rw [hW0]; exact (Below.refl _ _).alloc (Nat.le_refl _) _
  have hz : w.heap.size < W0.heap.size := by rw [hW0]; simp
  have KB : Hid (∀ W, Below W0.heap.size W0 W → W.cell? ⟨w.heap.size, 0, none⟩ = some (.int .i64 k) ∧ W.cell? ⟨w.heap.size, 1, none⟩ = some (.int .i64 m) ∧ W.cell? ⟨w.heap.size, 2, none⟩ = some (.int .i64 e) ∧ W.cell? ⟨w.heap.size, 3, none⟩ = some (.string ⟨s.toArray⟩) ∧ W.cell? ⟨w.heap.size, 4, none⟩ = some (.slice a2 n2 c2)) := by
    intro W hb
    obtain ⟨hc, _⟩ := bcell hb
    simp only [hc _ _ hz]; subst hW0; simp
  have hnb := x.nodes_bulk
  have HR := Lib.hid (fun W (hb : Below W0.heap.size W0 W) => VRt_all x.nodes x _ 12 W (Nat.le_refl _) (h.below (below2 hA hb (Nat.le_refl _))) hwf hbk (by decide) (by decide))
  have HM := Lib.hid (fun W (hb : Below W0.heap.size W0 W) => VMn_all x.nodes x _ W (Nat.le_refl _) (h.below (below2 hA hb (Nat.le_refl _))) hbk)
  have hB := Below.refl W0.heap.size W0
  clear hW0 h
  go_enter Tryd.func10, Tryd.ntmps10
  cases hr : V.rightBy pairsOk 12 x with
  | true =>
    have HV := Lib.hid hr; clear hr
    go_wp2_with (first | (go_at_call 20; rw [← HW.out]; refine (HR.out _ hB).mono ?_; rw [HV.out]; rintro e w1 ⟨rfl, hb1⟩; obtain ⟨p0, p1, p2, p3, p4⟩ := KB.out _ hb1) | (go_at_call 21; refine (HM.out _ hb1).mono ?_; rintro e w2 ⟨rfl, hb2⟩))
    go_ret
    refine ⟨ret_bool ?_, below2 hA (below2 hb1 hb2 (Nat.le_refl _)) (Nat.le_refl _)⟩
    unfold V.ok; rw [HV.out, Bool.true_and, Bool.eq_iff_iff]; simp; omega
  | false =>
    have HV := Lib.hid hr; clear hr
    go_wp2_with (first | (go_at_call 20; rw [← HW.out]; refine (HR.out _ hB).mono ?_; rw [HV.out]; rintro e w1 ⟨rfl, hb1⟩))
    go_ret
    refine ⟨ret_bool ?_, below2 hA hb1 (Nat.le_refl _)⟩
    unfold V.ok; rw [HV.out]; rfl
end Go.Proofs.YthngfihpnfoppaaDoor

namespace Go.Proofs.YthngfihpnfoppaaDoor
open Go.RowKit

theorem V.bulk_get {ls : List V} {m : Nat} (h : ls.length + V.bulks ls ≤ m) (k : Nat) (hk : k < ls.length) : ls[k].bulk ≤ m := by
  have h1 := V.bulks_snoc ls k hk; have h2 := V.bulks_take ls (k + 1); omega

theorem V.ne_mk {k m e k' m' e' : Int} {s s' : List UInt8} {kids kids' : List V} (h : ¬ (k = k' ∧ m = m' ∧ e = e' ∧ s = s' ∧ kids = kids')) :
    decide (V.mk k m e s kids = V.mk k' m' e' s' kids') = false := decide_eq_false (by simpa using h)
end Go.Proofs.YthngfihpnfoppaaDoor

namespace Go.Proofs.YthngfihpnfoppaaDoor
open Go.RowKit

def VSmA (n : Nat) : Prop := ∀ (x y : V) (cs ds : List Value) (w : World), x.nodes ≤ n → Rd w x.d cs → Rd w y.d ds → x.bulk ≤ 4294967295 → y.bulk ≤ 4294967295 →
  Calls Tryd.prog 56 #[.agg cs.toArray, .agg ds.toArray] w fun e w' => e = .returned (.bool (decide (x = y))) ∧ Below w.heap.size w w'
def VSmB (n : Nat) : Prop := ∀ (x y : List V) (va vb : Value) (w : World), V.nodess x ≤ n → Rd w (.sl 5 (V.ds x)) [va] → Rd w (.sl 5 (V.ds y)) [vb] → x.length + V.bulks x ≤ 4294967295 → y.length + V.bulks y ≤ 4294967295 →
  Calls Tryd.prog 62 #[va, vb, .func (.func 56) #[] #[]] w fun e w' => e = .returned (.bool (decide (x = y))) ∧ Below w.heap.size w w'

set_option maxHeartbeats 800000 in
theorem VSmB_of {n : Nat} (hA : VSmA n) : VSmB n := by
  intro la lb va vb w hn h h2 hla hlb
  obtain ⟨a, c, rfl, hg⟩ := h.values
  obtain ⟨a', c', rfl, hg'⟩ := h2.values
  by_cases hlen : la.length = lb.length
  · have hlt : ((la.length : Int) != (lb.length : Int)) = false := by simp [hlen]
    have HL := Lib.hid hlen; clear hlen
    go_enter Tryd.func62, Tryd.ntmps62
    go_wp2
    go_loopw [17] (fun i wr => ∃ (k : Nat), k ≤ la.length ∧ i = .int .i64 k ∧ la.take k = lb.take k ∧ Below w.heap.size w wr) (fun i _ => la.length - (intOf i).toNat)
    case atStart => exact ⟨0, Nat.zero_le _, rfl, by simp, Below.refl _ _⟩
    case round =>
      obtain ⟨k, hk, rfl, htk, hbel⟩ := hrel
      have HT := Lib.hid htk; clear htk
      by_cases hk1 : k < la.length
      · have hk2 : k < lb.length := by have := HL.out; omega
        obtain ⟨_, _, b, o, rfl, hb, hcell⟩ := hg (by intro e; rw [e] at hk1; simp at hk1)
        obtain ⟨_, _, b', o', rfl, hb', hcell'⟩ := hg' (by intro e; rw [e] at hk2; simp at hk2)
        obtain ⟨v0, v1, v2, v3, v4, hr, c0, c1, c2, c3, c4⟩ := hcell k hk1
        obtain ⟨x0, x1, x2, x3, x4, hs, d0, d1, d2, d3, d4⟩ := hcell' k hk2
        obtain ⟨k1, k2, k3, s4, a6, n6, m6, hcs⟩ := V.form hr
        obtain ⟨j1, j2, j3, t4, b6, p6, q6, hds⟩ := V.form hs
        simp only [List.cons.injEq, and_true] at hcs hds
        obtain ⟨rfl, rfl, rfl, rfl, rfl⟩ := hcs
        obtain ⟨rfl, rfl, rfl, rfl, rfl⟩ := hds
        clear hcell hcell' hg hg'
        obtain ⟨hbc, _⟩ := bcell hbel
        have hsz := hbel.size
        have hi1 : (0 : Int) ≤ k := by omega
        have hi2 : (k : Int) < lb.length := by omega
        have hi3 : (k : Int) < la.length := by omega
        have hz1 : b < wr.heap.size := by omega
        have hz2 : b' < wr.heap.size := by omega
        have hnk := Nat.le_trans (V.nodes_get la k hk1) hn
        have hr' := hr.below hbel
        have hs' := hs.below hbel
        have hA2 := (hbel.alloc hsz (.cells #[.int .i64 k1, .int .i64 k2, .int .i64 k3, .string ⟨s4.toArray⟩, .slice a6 n6 m6] 26)).alloc (by simp; omega) (.cells #[.int .i64 j1, .int .i64 j2, .int .i64 j3, .string ⟨t4.toArray⟩, .slice b6 p6 q6] 26)
        by_cases he : la[k] = lb[k]
        · have hd := Lib.hid (decide_eq_true he)
          have HE := Lib.hid he
          clear he
          go_wp2_with (go_at_call 56; refine (hA _ _ _ _ _ hnk ((hr'.alloc _).alloc _) ((hs'.alloc _).alloc _) (V.bulk_get hla k hk1) (V.bulk_get hlb k hk2)).mono ?_; rw [hd.out]; rintro e w1 ⟨rfl, hb1⟩)
          go_roundw
          case rel => exact ⟨k + 1, by omega, by go_num, take_eq_snoc HT.out hk1 hk2 HE.out, below2 hA2 hb1 (Nat.le_refl _)⟩
          case measure => simp [intOf] <;> omega
        · have hd := Lib.hid (decide_eq_false he)
          have HE := Lib.hid (decide_eq_false (ne_of_get hk1 hk2 he))
          clear he
          go_wp2_with (go_at_call 56; refine (hA _ _ _ _ _ hnk ((hr'.alloc _).alloc _) ((hs'.alloc _).alloc _) (V.bulk_get hla k hk1) (V.bulk_get hlb k hk2)).mono ?_; rw [hd.out]; rintro e w1 ⟨rfl, hb1⟩)
          go_ret
          exact ⟨by rw [HE.out]; rfl, below2 hA2 hb1 (Nat.le_refl _)⟩
      · obtain rfl : k = la.length := by omega
        have he : la = lb := by have := HT.out; rw [List.take_length, HL.out, List.take_length] at this; exact this
        have H := Lib.hid (decide_eq_true he)
        clear he
        go_wp2
        go_ret
        exact ⟨by rw [H.out]; rfl, hbel⟩
  · have H := Lib.hid (decide_eq_false (show ¬ la = lb from fun e => hlen (by rw [e])))
    go_enter Tryd.func62, Tryd.ntmps62
    go_wp2
    go_ret
    exact ⟨by rw [H.out]; rfl, Below.refl _ _⟩

set_option maxHeartbeats 800000 in
theorem VSmA_of {n : Nat} (hB : VSmB n) : VSmA (n + 1) := by
  intro x y cs ds w hn h h2 hx hy
  obtain ⟨k, m, q, s, kids, v1, rfl, rfl, hkids⟩ := V.lay h
  obtain ⟨k', m', q', s', kids', v1', rfl, rfl, hkids'⟩ := V.lay h2
  have hnk : V.nodess kids ≤ n := by simp only [V.nodes] at hn; omega
  simp only [V.bulk] at hx hy
  have hA := ((Below.refl w.heap.size w).alloc (Nat.le_refl _) (.cells #[.int .i64 k, .int .i64 m, .int .i64 q, .string ⟨s.toArray⟩, v1] 26)).alloc (by simp) (.cells #[.int .i64 k', .int .i64 m', .int .i64 q', .string ⟨s'.toArray⟩, v1'] 26)
  by_cases e1 : k = k' ∧ m = m' ∧ q = q' ∧ s = s'
  · obtain ⟨rfl, rfl, rfl, rfl⟩ := e1
    go_enter Tryd.func56, Tryd.ntmps56
    go_wp2_with fail
    refine (hB _ _ _ _ _ hnk ((hkids.below hA)) (hkids'.below hA) (by omega) (by omega)).mono ?_
    by_cases e4 : kids = kids'
    · subst e4
      rw [decide_eq_true rfl]
      rintro e w2 ⟨rfl, hb2⟩
      go_wp2
      go_ret
      exact ⟨by simp, below2 hA hb2 (Nat.le_refl _)⟩
    · have H := Lib.hid (V.ne_mk (k := k) (m := m) (e := q) (s := s) (kids := kids) (k' := k) (m' := m) (e' := q) (s' := s) (kids' := kids') (by simp [e4]))
      rw [decide_eq_false e4]
      rintro e w2 ⟨rfl, hb2⟩
      clear e4
      go_wp2
      go_ret
      exact ⟨by rw [H.out]; rfl, below2 hA hb2 (Nat.le_refl _)⟩
  · have H := Lib.hid (V.ne_mk (k := k) (m := m) (e := q) (s := s) (kids := kids) (k' := k') (m' := m') (e' := q') (s' := s') (kids' := kids') (by rintro ⟨a, b, c, d, _⟩; exact e1 ⟨a, b, c, d⟩))
    have HA := Lib.hid hA
    by_cases c1 : k = k'
    · subst c1
      by_cases c2 : m = m'
      · subst c2
        by_cases c3 : q = q'
        · subst c3
          have c4 : (s == s') = false := by simpa using fun c => e1 ⟨rfl, rfl, rfl, c⟩
          clear e1
          go_enter Tryd.func56, Tryd.ntmps56
          go_wp2_with fail
          go_ret
          exact ⟨by rw [H.out]; rfl, HA.out⟩
        · clear e1
          have c4 : (q == q') = false := by simpa using c3
          go_enter Tryd.func56, Tryd.ntmps56
          go_wp2_with fail
          go_ret
          exact ⟨by rw [H.out]; rfl, HA.out⟩
      · clear e1
        have c4 : (m == m') = false := by simpa using c2
        go_enter Tryd.func56, Tryd.ntmps56
        go_wp2_with fail
        go_ret
        exact ⟨by rw [H.out]; rfl, HA.out⟩
    · clear e1
      have c4 : (k == k') = false := by simpa using c1
      go_enter Tryd.func56, Tryd.ntmps56
      go_wp2_with fail
      go_ret
      exact ⟨by rw [H.out]; rfl, HA.out⟩
theorem VSm_all : ∀ n, VSmA n
  | 0 => fun x y cs ds w hn => absurd x.nodes_pos (by omega)
  | n + 1 => VSmA_of (VSmB_of (VSm_all n))
theorem same_any (x y : V) (cs ds : List Value) (w : World) (h : Rd w x.d cs) (h2 : Rd w y.d ds) (hx : x.bulk ≤ 4294967295) (hy : y.bulk ≤ 4294967295) :
    Calls Tryd.prog 56 #[.agg cs.toArray, .agg ds.toArray] w fun e w' => e = .returned (.bool (decide (x = y))) ∧ Below w.heap.size w w' := VSm_all x.nodes x y cs ds w (Nat.le_refl _) h h2 hx hy
end Go.Proofs.YthngfihpnfoppaaDoor

namespace Go.Proofs.YthngfihpnfoppaaDoor
open Go.RowKit

set_option maxHeartbeats 400000 in
theorem isKey_any (x : V) (cs : List Value) (w : World) (h : Rd w x.d cs) :
    Calls Tryd.prog 55 #[.agg cs.toArray] w fun e w' => e = .returned (.bool (isKeyK x.kind)) ∧ Below w.heap.size w w' := by
  obtain ⟨k, m, e, s, kids, v1, rfl, rfl, hkids⟩ := V.lay h
  have HA := Lib.hid ((Below.refl w.heap.size w).alloc (Nat.le_refl _) (.cells #[.int .i64 k, .int .i64 m, .int .i64 e, .string ⟨s.toArray⟩, v1] 26))
  clear h hkids
  show Calls _ _ _ _ fun e' w' => e' = .returned (.bool (isKeyK k)) ∧ _
  by_cases h5 : k = 5
  · subst h5
    go_enter Tryd.func55, Tryd.ntmps55
    go_wp2
    go_ret
    exact ⟨rfl, HA.out⟩
  · have g5 : (k == 5) = false := by simpa using h5
    have H := Lib.hid (show isKeyK k = (k == 3) by unfold isKeyK; rw [decide_eq_false h5, Bool.false_or]; rfl)
    go_enter Tryd.func55, Tryd.ntmps55
    go_wp2
    go_ret
    exact ⟨by rw [H.out]; rfl, HA.out⟩

/-- as many kids as a value of this kind may have, keys right -/
def V.kidsOk (k : Int) (kids : List V) : Bool :=
  if k = 7 then true else if k = 9 then decide (kids.length = 1) else if k = 8 then pairsOkI kids else decide (kids = [])

theorem len0' (l : List V) : ((l.length : Int) == 0) = decide (l = []) := by
  cases l with
  | nil => rfl
  | cons a r => simp; omega

set_option maxHeartbeats 4000000 in
set_option maxRecDepth 10000 in
theorem areKids_any (x : V) (cs : List Value) (w : World) (h : Rd w x.d cs) (hbk : x.bulk ≤ 4294967295) :
    Calls Tryd.prog 44 #[.agg cs.toArray] w fun e w' => e = .returned (.bool (V.kidsOk x.kind x.kids)) ∧ Below w.heap.size w w' := by
  obtain ⟨q, n, e, s, xs, v1, rfl, rfl, hkids⟩ := V.lay h
  have hkb : xs.length + V.bulks xs ≤ 4294967295 := by simp only [V.bulk] at hbk; omega
  obtain ⟨a, c, rfl, hg⟩ := hkids.values
  show Calls _ _ _ _ fun e' w' => e' = .returned (.bool (V.kidsOk q xs)) ∧ _
  obtain ⟨ok, hok⟩ : ∃ ok, V.kidsOk q xs = ok := ⟨_, rfl⟩
  rw [hok]
  have HOK := Lib.hid hok; clear hok
  obtain ⟨W0, hW0⟩ : ∃ W0, W0 = w.alloc (.cells #[.int .i64 q, .int .i64 n, .int .i64 e, .string ⟨s.toArray⟩, .slice a xs.length c] 26) := ⟨_, rfl⟩
  have HW := Lib.hid hW0
  have hA0 : Below w.heap.size w W0 := by rw [hW0]; exact (Below.refl _ _).alloc (Nat.le_refl _) _
  have hz : w.heap.size < W0.heap.size := by rw [hW0]; simp
  have KB : Hid (∀ W, Below W0.heap.size W0 W → W.cell? ⟨w.heap.size, 0, none⟩ = some (.int .i64 q) ∧ W.cell? ⟨w.heap.size, 4, none⟩ = some (.slice a xs.length c)) := by
    intro W hb
    obtain ⟨hc, _⟩ := bcell hb
    simp only [hc _ _ hz]; subst hW0; simp
  clear hW0 h hkids hbk
  obtain ⟨f0, f4⟩ := KB.out _ (Below.refl _ _)
  by_cases q7 : q = 7
  · subst q7
    have H := Lib.hid (show ok = true by rw [← HOK.out]; rfl)
    go_enter Tryd.func44, Tryd.ntmps44
    go_wp2
    rw [← HW.out]
    go_ret
    exact ⟨by rw [H.out]; rfl, hA0⟩
  by_cases q9 : q = 9
  · subst q9
    have H := Lib.hid (show ok = decide (xs.length = 1) by rw [← HOK.out]; rfl)
    go_enter Tryd.func44, Tryd.ntmps44
    go_wp2
    rw [← HW.out]
    go_ret
    exact ⟨by rw [H.out]; exact ret_bool (by rw [Bool.eq_iff_iff]; simp; omega), hA0⟩
  by_cases q8 : q = 8
  · subst q8
    have HP := Lib.hid (show ok = pairsOkI xs by rw [← HOK.out]; rfl)
    obtain ⟨ks, hks⟩ : ∃ ks, odds xs = ks := ⟨_, rfl⟩
    have hkl : ks.length = (xs.length + 1) / 2 := by rw [← hks, odds_length]
    have HKG : Hid (∀ j (h1 : 2 * j < xs.length) (h2 : j < ks.length), ks[j] = xs[2 * j]) := by
      intro j h1 h2; subst hks; exact odds_get xs j h1
    have HKS := Lib.hid hks; clear hks
    clear q7 q9
    go_enter Tryd.func44, Tryd.ntmps44
    go_wp2
    rw [← HW.out]
    go_loopw [3] (fun i wr => ∃ (j k : Nat), k = 2 * j ∧ j ≤ ks.length ∧ i = .int .i64 k ∧ uniq id (ks.take j) = true ∧ Below W0.heap.size W0 wr) (fun i _ => xs.length + 1 - (intOf i).toNat)
    case atStart => exact ⟨0, 0, rfl, Nat.zero_le _, rfl, by simp [uniq], Below.refl _ _⟩
    case round =>
      obtain ⟨j, k, hkj, hj, rfl, hu, hbel⟩ := hrel
      have HKJ := Lib.hid hkj
      have HU := Lib.hid hu; clear hu f0 f4
      obtain ⟨f0, f4⟩ := KB.out _ hbel
      have hbw := below2 hA0 hbel (Nat.le_refl _)
      by_cases hlt : k < xs.length
      · have hjk : j < ks.length := by omega
        have hkk := HKG.out j (by omega) hjk
        obtain ⟨_, _, b, o, rfl, hb, hcell⟩ := hg (by intro e; rw [e] at hlt; simp at hlt)
        have HC := Lib.hid hcell
        obtain ⟨v0, v1, v2, v3, v4, hr, d0, d1, d2, d3, d4⟩ := hcell k hlt
        clear hcell
        obtain ⟨k1, k2, k3, s4, a6, n6, m6, hcs⟩ := V.form hr
        simp only [List.cons.injEq, and_true] at hcs
        obtain ⟨rfl, rfl, rfl, rfl, rfl⟩ := hcs
        have hbc := (bcell hbw).1
        rw [← hbc _ _ hb] at d0 d1 d2 d3 d4
        have HX := Lib.hid (show ks[j] = xs[k] by rw [hkk]; subst hkj; rfl)
        have hi1 : (0 : Int) ≤ k := by omega
        have hi3 : (k : Int) < xs.length := by omega
        have hbz : b < W0.heap.size := by have := hA0.size; omega
        have HD : Hid (∀ W, Below W0.heap.size W0 W → W.cell? ⟨b, o + k * 5, none⟩ = some (.int .i64 k1) ∧ W.cell? ⟨b, o + k * 5 + 1, none⟩ = some (.int .i64 k2) ∧ W.cell? ⟨b, o + k * 5 + 2, none⟩ = some (.int .i64 k3) ∧ W.cell? ⟨b, o + k * 5 + 3, none⟩ = some (.string ⟨s4.toArray⟩) ∧ W.cell? ⟨b, o + k * 5 + 4, none⟩ = some (.slice a6 n6 m6)) := by
          intro W hW
          have h1 := (bcell hW).1
          have h2 := (bcell hbel).1
          rw [h2 _ _ hbz] at d0 d1 d2 d3 d4
          simp only [h1 _ _ hbz]; exact ⟨d0, d1, d2, d3, d4⟩
        have HK1 := Lib.hid (fun W (hW : Below W0.heap.size W0 W) => isKey_any xs[k] _ W (hr.below (below2 hA0 hW (Nat.le_refl _))))
        have HXR := Lib.hid (fun W (hW : Below W0.heap.size W0 W) => (hr.below (below2 hA0 hW (Nat.le_refl _))))
        clear hbc hkk hkj hr
        cases hkey : isKeyK xs[k].kind with
        | true =>
          have HK := Lib.hid hkey; clear hkey
          go_wp2_with (go_at_call 55; refine (HK1.out _ hbel).mono ?_; rw [HK.out]; rintro e w1 ⟨rfl, hb1⟩; have hbe1 := below2 hbel hb1 (Nat.le_refl _); clear d0 d1 d2 d3 d4 f0 f4; obtain ⟨f0, f4⟩ := KB.out _ hbe1)
          go_loopw [4] (fun i wr => ∃ (m r : Nat), r = 2 * m ∧ m ≤ j ∧ i = .int .i64 r ∧ xs[k] ∉ ks.take m ∧ Below W0.heap.size W0 wr) (fun i _ => k + 1 - (intOf i).toNat)
          case atStart => exact ⟨0, 0, rfl, Nat.zero_le _, rfl, by simp, hbe1⟩
          case round =>
            obtain ⟨m, r, hrm, hm, rfl, hni, hbel2⟩ := hrel
            have HRM := Lib.hid hrm
            have HNI := Lib.hid hni; clear hni
            have hkj := HKJ.out
            have hbw2 := below2 hA0 hbel2 (Nat.le_refl _)
            clear f0 f4
            obtain ⟨f0, f4⟩ := KB.out _ hbel2
            by_cases hml : r < k
            · have hrx : r < xs.length := by omega
              have hmk : m < ks.length := by omega
              have hmm := HKG.out m (by omega) hmk
              obtain ⟨u0, u1, u2, u3, u4, hr2, e0, e1, e2, e3, e4⟩ := HC.out r hrx
              obtain ⟨y1, y2, y3, t4, b6, p6, r6, hcs2⟩ := V.form hr2
              simp only [List.cons.injEq, and_true] at hcs2
              obtain ⟨rfl, rfl, rfl, rfl, rfl⟩ := hcs2
              have HY := Lib.hid (show ks[m] = xs[r] by rw [hmm]; subst hrm; rfl)
              have HE : Hid (∀ W, Below W0.heap.size W0 W → W.cell? ⟨b, o + r * 5, none⟩ = some (.int .i64 y1) ∧ W.cell? ⟨b, o + r * 5 + 1, none⟩ = some (.int .i64 y2) ∧ W.cell? ⟨b, o + r * 5 + 2, none⟩ = some (.int .i64 y3) ∧ W.cell? ⟨b, o + r * 5 + 3, none⟩ = some (.string ⟨t4.toArray⟩) ∧ W.cell? ⟨b, o + r * 5 + 4, none⟩ = some (.slice b6 p6 r6)) := by
                intro W hW
                have h1 := (bcell (below2 hA0 hW (Nat.le_refl _))).1
                simp only [h1 _ _ hb]; exact ⟨e0, e1, e2, e3, e4⟩
              have hj1 : (0 : Int) ≤ r := by omega
              have hj3 : (r : Int) < xs.length := by omega
              have hj5 : (r : Int) < k := by omega
              have hm5 : m < j := by omega
              have hr5 : r + 2 < k + 3 := by omega
              have HS := Lib.hid (fun W (hW : Below W0.heap.size W0 W) => same_any xs[k] xs[r] _ _ W (HXR.out W hW) (hr2.below (below2 hA0 hW (Nat.le_refl _))) (V.bulk_get hkb k hlt) (V.bulk_get hkb r hrx))
              have hB := hbel2
              clear hmm hrm hkj e0 e1 e2 e3 e4 hr2 f0 f4
              by_cases heq : xs[k] = xs[r]
              · have HQ := Lib.hid (decide_eq_true heq)
                have HF := Lib.hid (show ok = false by
                  rw [HP.out]; unfold pairsOkI; rw [HKS.out, uniq_bad2 hjk (by
                    rw [HX.out, List.map_id]
                    exact List.mem_take_iff_getElem.2 ⟨m, by omega, by rw [HY.out, ← heq]; rfl⟩)]; rfl)
                clear heq
                go_wp2_with fail
                go_region_held3 (fun W => (W.cell? ⟨w.heap.size, 0, none⟩ = some (.int .i64 8) ∧ W.cell? ⟨w.heap.size, 4, none⟩ = some (.slice (some ⟨b, o, none⟩) xs.length c)) ∧ (W.cell? ⟨b, o + k * 5, none⟩ = some (.int .i64 k1) ∧ W.cell? ⟨b, o + k * 5 + 1, none⟩ = some (.int .i64 k2) ∧ W.cell? ⟨b, o + k * 5 + 2, none⟩ = some (.int .i64 k3) ∧ W.cell? ⟨b, o + k * 5 + 3, none⟩ = some (.string ⟨s4.toArray⟩) ∧ W.cell? ⟨b, o + k * 5 + 4, none⟩ = some (.slice a6 n6 m6)) ∧ W.cell? ⟨b, o + r * 5, none⟩ = some (.int .i64 y1) ∧ W.cell? ⟨b, o + r * 5 + 1, none⟩ = some (.int .i64 y2) ∧ W.cell? ⟨b, o + r * 5 + 2, none⟩ = some (.int .i64 y3) ∧ W.cell? ⟨b, o + r * 5 + 3, none⟩ = some (.string ⟨t4.toArray⟩) ∧ W.cell? ⟨b, o + r * 5 + 4, none⟩ = some (.slice b6 p6 r6))
                  (first | exact ⟨KB.out _ hB, HD.out _ hB, HE.out _ hB⟩ | exact ⟨KB.out _ hB.drew, HD.out _ hB.drew, HE.out _ hB.drew⟩)
                  (first | (go_at_call 56; with_reducible refine (HS.out _ (by first | exact hB | exact hB.drew)).mono ?_; rw [HQ.out]; rintro e w2 ⟨rfl, hb2⟩; replace hB := below2 (by first | exact hB | exact hB.drew) hb2 (Nat.le_refl _)))
                go_wp2
                go_ret
                exact ⟨by rw [HF.out]; rfl, below2 hA0 hB (Nat.le_refl _)⟩
              · have HQ := Lib.hid (decide_eq_false heq)
                have HM : Hid (xs[k] ∉ ks.take (m + 1)) := by
                  show _ ∉ _
                  rw [List.take_succ_eq_append_getElem hmk, List.mem_append, HY.out]
                  rintro (h | h)
                  · exact HNI.out h
                  · exact heq (by simpa using h)
                clear heq
                go_wp2_with fail
                go_region_held3 (fun W => (W.cell? ⟨w.heap.size, 0, none⟩ = some (.int .i64 8) ∧ W.cell? ⟨w.heap.size, 4, none⟩ = some (.slice (some ⟨b, o, none⟩) xs.length c)) ∧ (W.cell? ⟨b, o + k * 5, none⟩ = some (.int .i64 k1) ∧ W.cell? ⟨b, o + k * 5 + 1, none⟩ = some (.int .i64 k2) ∧ W.cell? ⟨b, o + k * 5 + 2, none⟩ = some (.int .i64 k3) ∧ W.cell? ⟨b, o + k * 5 + 3, none⟩ = some (.string ⟨s4.toArray⟩) ∧ W.cell? ⟨b, o + k * 5 + 4, none⟩ = some (.slice a6 n6 m6)) ∧ W.cell? ⟨b, o + r * 5, none⟩ = some (.int .i64 y1) ∧ W.cell? ⟨b, o + r * 5 + 1, none⟩ = some (.int .i64 y2) ∧ W.cell? ⟨b, o + r * 5 + 2, none⟩ = some (.int .i64 y3) ∧ W.cell? ⟨b, o + r * 5 + 3, none⟩ = some (.string ⟨t4.toArray⟩) ∧ W.cell? ⟨b, o + r * 5 + 4, none⟩ = some (.slice b6 p6 r6))
                  (first | exact ⟨KB.out _ hB, HD.out _ hB, HE.out _ hB⟩ | exact ⟨KB.out _ hB.drew, HD.out _ hB.drew, HE.out _ hB.drew⟩)
                  (first | (go_at_call 56; with_reducible refine (HS.out _ (by first | exact hB | exact hB.drew)).mono ?_; rw [HQ.out]; rintro e w2 ⟨rfl, hb2⟩; replace hB := below2 (by first | exact hB | exact hB.drew) hb2 (Nat.le_refl _)))
                go_wp2
                go_roundw
                case rel => exact ⟨m + 1, r + 2, by have := HRM.out; omega, by omega, by go_num, HM.out, hB⟩
                case measure => simp [intOf]; omega
            · obtain rfl : m = j := by omega
              have HM : Hid (uniq id (ks.take (m + 1)) = true) := uniq_more hjk HU.out (by rw [HX.out]; exact HK.out) (by rw [HX.out, List.map_id]; exact HNI.out)
              clear hrm hkj
              go_wp2
              go_roundw
              case rel => exact ⟨m + 1, k + 2, by have := HKJ.out; omega, by omega, by go_num, HM.out, hbel2⟩
              case measure => simp [intOf]; omega
        | false =>
          have HK := Lib.hid hkey
          have HF := Lib.hid (show ok = false by rw [HP.out]; unfold pairsOkI; rw [HKS.out, uniq_bad1 hjk (by rw [HX.out]; exact hkey)]; rfl)
          clear hkey
          go_wp2_with (go_at_call 55; refine (HK1.out _ hbel).mono ?_; rw [HK.out]; rintro e w1 ⟨rfl, hb1⟩)
          go_ret
          exact ⟨by rw [HF.out]; rfl, below2 hbw hb1 (Nat.le_refl _)⟩
      · obtain rfl : j = ks.length := by omega
        clear hkj
        have h1 := HU.out
        rw [List.take_length] at h1
        have HF := Lib.hid (show ok = decide (xs.length % 2 = 0) by rw [HP.out]; unfold pairsOkI; rw [HKS.out, h1]; rfl)
        clear h1
        go_wp2
        go_ret
        exact ⟨by rw [HF.out]; exact ret_bool (by rw [Bool.eq_iff_iff]; simp <;> omega), hbw⟩
  · have H := Lib.hid (show ok = decide (xs = []) by rw [← HOK.out]; unfold V.kidsOk; rw [if_neg q7, if_neg q9, if_neg q8])
    have g7 : (q == 7) = false := by simpa using q7
    have g8 : (q == 8) = false := by simpa using q8
    have g9 : (q == 9) = false := by simpa using q9
    go_enter Tryd.func44, Tryd.ntmps44
    go_wp2
    rw [← HW.out]
    go_ret
    exact ⟨by rw [H.out, ← len0']; rfl, hA0⟩
end Go.Proofs.YthngfihpnfoppaaDoor

namespace Go.Proofs.YthngfihpnfoppaaDoor
open Go.RowKit
open Go.Lib (validD)

/-- right but for the kids, of a value of this kind -/
def V.node : V → Bool
  | .mk k n e s _ =>
    if k = 0 ∨ k = 1 ∨ k = 2 ∨ k = 7 ∨ k = 8 then decide (n = 0) && (decide (e = 0) && decide (s = []))
    else if k = 3 then decide (e = 0) && decide (s = [])
    else if k = 4 then decOk n e && decide (s = [])
    else if k = 5 then decide (s.length ≤ 2000) && (validD s && (decide (n = 0) && decide (e = 0)))
    else if k = 6 then decide (s.length ≤ 2000) && (decide (n = 0) && decide (e = 0))
    else if k = 9 then inR n 0 1000000 && (decide (e = 0) && decide (s = []))
    else false
theorem V.selfI_node (x : V) : x.selfI = (x.node && V.kidsOk x.kind x.kids) := by
  obtain ⟨k, n, e, s, kids⟩ := x
  show V.selfBy pairsOkI _ = (_ && V.kidsOk k kids)
  unfold V.node V.kidsOk V.selfBy
  by_cases h0 : k = 0 ∨ k = 1 ∨ k = 2
  · rcases h0 with rfl | rfl | rfl <;> simp [Bool.and_assoc]
  by_cases h3 : k = 3
  · subst h3; simp [Bool.and_assoc]
  by_cases h4 : k = 4
  · subst h4; simp [Bool.and_assoc]
  by_cases h5 : k = 5
  · subst h5
    show (decide (n = 0) && (decide (e = 0) && (validD s && (decide (s.length ≤ 2000) && decide (kids = []))))) = ((decide (s.length ≤ 2000) && (validD s && (decide (n = 0) && decide (e = 0)))) && decide (kids = []))
    cases decide (n = 0) <;> cases decide (e = 0) <;> cases validD s <;> cases decide (s.length ≤ 2000) <;> cases decide (kids = []) <;> rfl
  by_cases h6 : k = 6
  · subst h6
    show (decide (n = 0) && (decide (e = 0) && (decide (s.length ≤ 2000) && decide (kids = [])))) = ((decide (s.length ≤ 2000) && (decide (n = 0) && decide (e = 0))) && decide (kids = []))
    cases decide (n = 0) <;> cases decide (e = 0) <;> cases decide (s.length ≤ 2000) <;> cases decide (kids = []) <;> rfl
  by_cases h7 : k = 7
  · subst h7; simp
  by_cases h8 : k = 8
  · subst h8; simp [Bool.and_assoc]
  by_cases h9 : k = 9
  · subst h9; simp [Bool.and_assoc]
  · have a0 : k ≠ 0 := fun e => h0 (.inl e)
    have a1 : k ≠ 1 := fun e => h0 (.inr (.inl e))
    have a2 : k ≠ 2 := fun e => h0 (.inr (.inr e))
    simp [a0, a1, a2, h3, h4, h5, h6, h7, h8, h9]

set_option maxHeartbeats 4000000 in
set_option maxRecDepth 10000 in
theorem isNode_any (x : V) (cs : List Value) (w : World) (h : Rd w x.d cs) (hwf : x.wf) (hbk : x.bulk ≤ 4294967295) (hT : Tabs w) :
    Calls Tryd.prog 43 #[.agg cs.toArray] w fun e w' => e = .returned (.bool x.node) ∧ Below w.heap.size w w' := by
  obtain ⟨k, n, e, s, kids, v1, rfl, rfl, hkids⟩ := V.lay h
  obtain ⟨a1, c1, rfl⟩ := Rd.sl_form hkids
  rw [V.ds_map, List.length_map] at h ⊢
  have hsl : s.length ≤ 4294967295 := by simp only [V.bulk] at hbk; omega
  have HD := Lib.hid (fun w1 (hb : Below w.heap.size w w1) => isDec_any _ _ w1 (h.below hb) hwf)
  clear h hkids hbk hwf
  obtain ⟨ok, hok⟩ : ∃ ok, V.node (.mk k n e s kids) = ok := ⟨_, rfl⟩
  rw [hok]
  have HOK := Lib.hid hok; clear hok
  by_cases q0 : k = 0
  · subst q0
    go_enter Tryd.func43, Tryd.ntmps43
    go_wp2
    all_goals (go_ret; refine ⟨ret_bool ?_, by first | exact ((Below.refl _ _).alloc (Nat.le_refl _) _).alloc (by simp) _ | exact below_drewN (((Below.refl _ _).alloc (Nat.le_refl _) _).alloc (by simp) _) _⟩; rw [← HOK.out]; simp_all [V.node, isE])
  by_cases q1 : k = 1
  · subst q1
    go_enter Tryd.func43, Tryd.ntmps43
    go_wp2
    all_goals (go_ret; refine ⟨ret_bool ?_, by first | exact ((Below.refl _ _).alloc (Nat.le_refl _) _).alloc (by simp) _ | exact below_drewN (((Below.refl _ _).alloc (Nat.le_refl _) _).alloc (by simp) _) _⟩; rw [← HOK.out]; simp_all [V.node, isE])
  by_cases q2 : k = 2
  · subst q2
    go_enter Tryd.func43, Tryd.ntmps43
    go_wp2
    all_goals (go_ret; refine ⟨ret_bool ?_, by first | exact ((Below.refl _ _).alloc (Nat.le_refl _) _).alloc (by simp) _ | exact below_drewN (((Below.refl _ _).alloc (Nat.le_refl _) _).alloc (by simp) _) _⟩; rw [← HOK.out]; simp_all [V.node, isE])
  by_cases q7 : k = 7
  · subst q7
    go_enter Tryd.func43, Tryd.ntmps43
    go_wp2
    all_goals (go_ret; refine ⟨ret_bool ?_, by first | exact ((Below.refl _ _).alloc (Nat.le_refl _) _).alloc (by simp) _ | exact below_drewN (((Below.refl _ _).alloc (Nat.le_refl _) _).alloc (by simp) _) _⟩; rw [← HOK.out]; simp_all [V.node, isE])
  by_cases q8 : k = 8
  · subst q8
    go_enter Tryd.func43, Tryd.ntmps43
    go_wp2
    all_goals (go_ret; refine ⟨ret_bool ?_, by first | exact ((Below.refl _ _).alloc (Nat.le_refl _) _).alloc (by simp) _ | exact below_drewN (((Below.refl _ _).alloc (Nat.le_refl _) _).alloc (by simp) _) _⟩; rw [← HOK.out]; simp_all [V.node, isE])
  by_cases q3 : k = 3
  · subst q3
    go_enter Tryd.func43, Tryd.ntmps43
    go_wp2
    all_goals (go_ret; refine ⟨ret_bool ?_, by first | exact ((Below.refl _ _).alloc (Nat.le_refl _) _).alloc (by simp) _ | exact below_drewN (((Below.refl _ _).alloc (Nat.le_refl _) _).alloc (by simp) _) _⟩; rw [← HOK.out]; simp_all [V.node, isE])
  by_cases q9 : k = 9
  · subst q9
    by_cases g : 0 ≤ n ∧ n ≤ 1000000
    · have H := Lib.hid (show ok = (decide (e = 0) && decide (s = [])) by rw [← HOK.out]; simp [V.node, inR_yes g])
      go_enter Tryd.func43, Tryd.ntmps43
      go_wp2
      all_goals (go_ret; refine ⟨ret_bool ?_, by first | exact ((Below.refl _ _).alloc (Nat.le_refl _) _).alloc (by simp) _ | exact (((Below.refl _ _).alloc (Nat.le_refl _) _).alloc (by simp) _).setCell (by simp) _⟩; rw [H.out]; simp_all [isE])
    · have H := Lib.hid (show ok = false by rw [← HOK.out]; simp [V.node, inR_no g])
      have H2 := Lib.hid (inR_no g)
      go_enter Tryd.func43, Tryd.ntmps43
      go_wp2_with (go_at_call 54; refine (within_any _ _ _ _).mono ?_; rw [H2.out]; rintro e1 w1 ⟨rfl, rfl⟩)
      all_goals (go_ret; exact ⟨by rw [H.out]; rfl, ((Below.refl _ _).alloc (Nat.le_refl _) _).alloc (by simp) _⟩)
  by_cases q6 : k = 6
  · subst q6
    by_cases g : s.length ≤ 2000
    · have H := Lib.hid (show ok = (decide (n = 0) && decide (e = 0)) by rw [← HOK.out]; simp [V.node, g])
      go_enter Tryd.func43, Tryd.ntmps43
      go_wp2
      all_goals (go_ret; refine ⟨ret_bool ?_, by first | exact ((Below.refl _ _).alloc (Nat.le_refl _) _).alloc (by simp) _ | exact (((Below.refl _ _).alloc (Nat.le_refl _) _).alloc (by simp) _).setCell (by simp) _⟩; rw [H.out]; simp_all [])
    · have H := Lib.hid (show ok = false by rw [← HOK.out]; simp [V.node, g])
      have g' : (2000 : Int) < s.length := by omega
      go_enter Tryd.func43, Tryd.ntmps43
      go_wp2
      all_goals (go_ret; exact ⟨by rw [H.out]; rfl, ((Below.refl _ _).alloc (Nat.le_refl _) _).alloc (by simp) _⟩)
  by_cases q5 : k = 5
  · subst q5
    by_cases g : s.length ≤ 2000
    · have g' : ¬ (2000 : Int) < s.length := by omega
      have g2 := decide_eq_false g'
      cases hv : validD s with
      | true =>
        have HV := Lib.hid hv
        have H := Lib.hid (show ok = (decide (n = 0) && decide (e = 0)) by rw [← HOK.out]; simp [V.node, g, hv])
        clear hv
        go_enter Tryd.func43, Tryd.ntmps43
        go_wp2_with (go_at_call 53; refine (textOk_impl s _ hsl (hT.below (((Below.refl _ _).alloc (Nat.le_refl _) _).alloc (by simp) _))).mono ?_; rw [HV.out]; rintro e1 w1 ⟨rfl, hb1⟩; have C := (bcell hb1).1; have F := (bcell hb1).2; have hz1 := hb1.size; have z1 : w.heap.size < w1.heap.size := (by simp at hz1; omega); have z2 : w.heap.size + 1 < w1.heap.size := (by simp at hz1; omega); have f1 : w1.cell? ⟨w.heap.size, 1, none⟩ = some (.int .i64 n) := (by rw [C _ _ (by simp <;> omega)]; simp [go_sem]); have f2 : w1.cell? ⟨w.heap.size, 2, none⟩ = some (.int .i64 e) := (by rw [C _ _ (by simp <;> omega)]; simp [go_sem]); have f3 : w1.cell? ⟨w.heap.size, 3, none⟩ = some (.string ⟨s.toArray⟩) := (by rw [C _ _ (by simp <;> omega)]; simp [go_sem]); have p1 : w1.cell? ⟨w.heap.size + 1, 1, none⟩ = some (.int .i64 0) := (by rw [C _ _ (by simp <;> omega)]; simp [go_sem]); have p2 : w1.cell? ⟨w.heap.size + 1, 2, none⟩ = some (.int .i64 0) := (by rw [C _ _ (by simp <;> omega)]; simp [go_sem]); have p3 : w1.cell? ⟨w.heap.size + 1, 3, none⟩ = some (.string ⟨#[]⟩) := (by rw [C _ _ (by simp <;> omega)]; simp [go_sem]); have p9 : w1.frozen? ⟨w.heap.size + 1, 3, none⟩ = false := (by rw [F _ _ (by simp <;> omega)]; simp [go_sem]); clear C F hz1)
        all_goals (go_ret; refine ⟨ret_bool ?_, by first | exact (below2 (((Below.refl _ _).alloc (Nat.le_refl _) _).alloc (by simp) _) hb1 (Nat.le_refl _)).setCell (by simp) _ | exact below2 (((Below.refl _ _).alloc (Nat.le_refl _) _).alloc (by simp) _) hb1 (Nat.le_refl _)⟩; rw [H.out]; simp_all [])
      | false =>
        have HV := Lib.hid hv
        have H := Lib.hid (show ok = false by rw [← HOK.out]; simp [V.node, hv])
        clear hv
        go_enter Tryd.func43, Tryd.ntmps43
        go_wp2_with (go_at_call 53; refine (textOk_impl s _ hsl (hT.below (((Below.refl _ _).alloc (Nat.le_refl _) _).alloc (by simp) _))).mono ?_; rw [HV.out]; rintro e1 w1 ⟨rfl, hb1⟩)
        go_ret
        exact ⟨by rw [H.out]; rfl, below2 (((Below.refl _ _).alloc (Nat.le_refl _) _).alloc (by simp) _) hb1 (Nat.le_refl _)⟩
    · have H := Lib.hid (show ok = false by rw [← HOK.out]; simp [V.node, g])
      have g' : (2000 : Int) < s.length := by omega
      go_enter Tryd.func43, Tryd.ntmps43
      go_wp2
      all_goals (go_ret; exact ⟨by rw [H.out]; rfl, ((Below.refl _ _).alloc (Nat.le_refl _) _).alloc (by simp) _⟩)
  by_cases q4 : k = 4
  · subst q4
    cases hv : decOk n e with
    | true =>
      have HV := Lib.hid (show decOk (V.num (.mk 4 n e s kids)) (V.exp (.mk 4 n e s kids)) = true from hv)
      have H := Lib.hid (show ok = decide (s = []) by rw [← HOK.out]; simp [V.node, hv])
      clear hv
      go_enter Tryd.func43, Tryd.ntmps43
      go_wp2_with (go_at_call 52; refine (HD.out _ (((Below.refl _ _).alloc (Nat.le_refl _) _).alloc (by simp) _)).mono ?_; rw [HV.out]; rintro e1 w1 ⟨rfl, hb1⟩; have C := (bcell hb1).1; have F := (bcell hb1).2; have hz1 := hb1.size; have z1 : w.heap.size < w1.heap.size := (by simp at hz1; omega); have z2 : w.heap.size + 1 < w1.heap.size := (by simp at hz1; omega); have f1 : w1.cell? ⟨w.heap.size, 1, none⟩ = some (.int .i64 n) := (by rw [C _ _ (by simp <;> omega)]; simp [go_sem]); have f2 : w1.cell? ⟨w.heap.size, 2, none⟩ = some (.int .i64 e) := (by rw [C _ _ (by simp <;> omega)]; simp [go_sem]); have f3 : w1.cell? ⟨w.heap.size, 3, none⟩ = some (.string ⟨s.toArray⟩) := (by rw [C _ _ (by simp <;> omega)]; simp [go_sem]); have p1 : w1.cell? ⟨w.heap.size + 1, 1, none⟩ = some (.int .i64 0) := (by rw [C _ _ (by simp <;> omega)]; simp [go_sem]); have p2 : w1.cell? ⟨w.heap.size + 1, 2, none⟩ = some (.int .i64 0) := (by rw [C _ _ (by simp <;> omega)]; simp [go_sem]); have p3 : w1.cell? ⟨w.heap.size + 1, 3, none⟩ = some (.string ⟨#[]⟩) := (by rw [C _ _ (by simp <;> omega)]; simp [go_sem]); have p8 : w1.frozen? ⟨w.heap.size + 1, 1, none⟩ = false := (by rw [F _ _ (by simp <;> omega)]; simp [go_sem]); have p9 : w1.frozen? ⟨w.heap.size + 1, 2, none⟩ = false := (by rw [F _ _ (by simp <;> omega)]; simp [go_sem]); clear C F hz1)
      have hbel : Below w.heap.size w w1 := below2 (((Below.refl _ _).alloc (Nat.le_refl _) _).alloc (by simp) _) hb1 (Nat.le_refl _)
      go_region
      all_goals (go_wp2; go_ret; refine ⟨ret_bool ?_, by first | exact ((hbel.setCell (by simp) _).setCell (by simp) _).drew | exact (hbel.setCell (by simp) _).setCell (by simp) _ | exact below_drewN ((hbel.setCell (by simp) _).setCell (by simp) _) _⟩; rw [H.out]; simp [isE])
    | false =>
      have HV := Lib.hid (show decOk (V.num (.mk 4 n e s kids)) (V.exp (.mk 4 n e s kids)) = false from hv)
      have H := Lib.hid (show ok = false by rw [← HOK.out]; simp [V.node, hv])
      clear hv
      go_enter Tryd.func43, Tryd.ntmps43
      go_wp2_with (go_at_call 52; refine (HD.out _ (((Below.refl _ _).alloc (Nat.le_refl _) _).alloc (by simp) _)).mono ?_; rw [HV.out]; rintro e1 w1 ⟨rfl, hb1⟩)
      go_ret
      exact ⟨by rw [H.out]; rfl, below2 (((Below.refl _ _).alloc (Nat.le_refl _) _).alloc (by simp) _) hb1 (Nat.le_refl _)⟩
  have H := Lib.hid (show ok = false by rw [← HOK.out]; simp [V.node, q0, q1, q2, q3, q4, q5, q6, q7, q8, q9])
  go_enter Tryd.func43, Tryd.ntmps43
  go_wp2
  all_goals (go_ret; exact ⟨by rw [H.out]; rfl, ((Below.refl _ _).alloc (Nat.le_refl _) _).alloc (by simp) _⟩)
end Go.Proofs.YthngfihpnfoppaaDoor

namespace Go.Proofs.YthngfihpnfoppaaDoor
open Go.RowKit

section
variable {P : Program} {ops : Array Oper} {Q : Exit → Act → World → Prop} {md : Region.Mode} {S : World → Prop}

/-- an operation that yields its value in every world that meets S is taken first -/
theorem takeW {i F fuel : Nat} {oi : Oper} {d : Option Tmp} {v : Value} {listed listed' : Array Bool} {a : Act} {w : World} (hi : ops[i]? = some oi) (hd : oi.dst = d) (hF : F = fuel + 1) (hl : listed.setIfInBounds i true = listed')
    (hs : Region.noSelect ops = true) (hf : Region.free md ops listed i = true) (hr : (Region.ready md ops listed).contains i = true)
    (hQ : ∀ c a w, Q (.panic c) (a.put d v) w → Q (.panic c) a w) (hw : Region.wanted oi (yielded ops a.tmps) = true) (hS : S w)
    (hv : ∀ w, S w → (execOp a.eval oi).run P w = .ok (.value v) w)
    (h : wpAnyH P md ops Q S fuel listed' (a.put d v) w) : wpAnyH P md ops Q S F listed a w := by
  subst hF hd hl
  exact wpAnyH_take hi hs hf hr hQ (.inl ⟨hw, hv⟩) hS h

/-- the operations i (with their temporaries d), each passed over -/
def skipFine (md : Region.Mode) (ops : Array Oper) : List (Nat × Tmp) → Array Bool → Array Value → Bool
  | [], _, _ => true
  | (i, d) :: r, listed, tmps => (match ops[i]? with | some o => decide (o.dst = some d) && !Region.wanted o (yielded ops tmps) | none => false) && (Region.free md ops listed i && ((Region.ready md ops listed).contains i &&
      skipFine md ops r (listed.setIfInBounds i true) (tmps.setIfInBounds d undef)))
def skipListed : List (Nat × Tmp) → Array Bool → Array Bool
  | [], listed => listed
  | (i, _) :: r, listed => skipListed r (listed.setIfInBounds i true)
def skipAct : List (Nat × Tmp) → Act → Act
  | [], a => a
  | (_, d) :: r, a => skipAct r { a with tmps := a.tmps.setIfInBounds d undef }
theorem takeS {w : World} (hs : Region.noSelect ops = true) (hQ : ∀ c a d w, Q (.panic c) (a.put (some d) undef) w → Q (.panic c) a w) (hS : S w) : ∀ (l : List (Nat × Tmp)) {F fuel : Nat} {listed listed' : Array Bool} {a : Act}, F = fuel + l.length → skipListed l listed = listed' →
    skipFine md ops l listed a.tmps = true → wpAnyH P md ops Q S fuel listed' (skipAct l a) w → wpAnyH P md ops Q S F listed a w
  | [], F, fuel, listed, listed', a, hF, hl, _, h => by subst hF hl; exact h
  | (i, d) :: r, F, fuel, listed, listed', a, hF, hl, hk, h => by
    subst hF hl
    simp only [skipFine, Bool.and_eq_true] at hk
    obtain ⟨h1, h2, h3, h4⟩ := hk
    cases ho : ops[i]? with
    | none => rw [ho] at h1; cases h1
    | some o =>
      rw [ho] at h1
      simp only [Bool.and_eq_true, decide_eq_true_eq, Bool.not_eq_true'] at h1
      obtain ⟨hd, hw⟩ := h1
      refine wpAnyH_take (fuel := fuel + r.length) (v := undef) ho hs h2 h3 (by rw [hd]; exact fun c a w => hQ c a d w) (.inr ⟨hw, rfl⟩) hS ?_
      rw [hd]
      exact takeS hs hQ hS r rfl rfl h4 h

/-- a call (or whatever may do more) comes up, it alone -/
theorem takeC {i F fuel : Nat} {oi : Oper} {d : Option Tmp} {listed listed' : Array Bool} {a : Act} {w : World} (hi : ops[i]? = some oi) (_hd : oi.dst = d) (hF : F = fuel + 1) (hl : listed.setIfInBounds i true = listed')
    (hr : Region.ready md ops listed = [i]) (hw : Region.wanted oi (yielded ops a.tmps) = true)
    (h : ∀ K' : Act → World → Prop, Shut (∀ a w, S w → (S w → wpAnyH P md ops Q S fuel listed' a w) → K' a w) → Oper.wp P oi a w K' Q) : wpAnyH P md ops Q S F listed a w := by
  subst hF hl _hd
  refine wpAnyH_ready hr (by simp) (AllReadyH.cons hi (fun K' hK => ?_) AllReadyH.nil)
  rw [if_pos hw]; exact h K' hK
end
end Go.Proofs.YthngfihpnfoppaaDoor

namespace Go.Proofs.YthngfihpnfoppaaDoor
open Go.RowKit

def intBox (w : World) (g : Nat) (n : Int) : Prop := w.heap[g]? = some (.cells #[.int .i64 n] 3 (0, 0))
theorem intBox.cell {w : World} {g : Nat} {n : Int} (h : intBox w g n) : w.cell? ⟨g, 0, none⟩ = some (.int .i64 n) := cell_of_one h
theorem intBox.free {w : World} {g : Nat} {n : Int} (h : intBox w g n) : w.frozen? ⟨g, 0, none⟩ = false := free_of_one h
theorem intBox.lt {w : World} {g : Nat} {n : Int} (h : intBox w g n) : g < w.heap.size := lt_of_block h
theorem intBox.below {w w' : World} {g : Nat} {n : Int} (h : intBox w g n) (hb : Below w.heap.size w w') : intBox w' g n := (hb.block g h.lt).trans h
theorem intBox.keep {S : Nat → Prop} {w w' : World} {g : Nat} {n : Int} (h : intBox w g n) (hk : Keep S w w') (hs : ¬ S g) : intBox w' g n := (hk.block g h.lt hs).trans h
/-- the program's two tables lie below N -/
def GlobN (N : Nat) : Prop := 0 < N ∧ 1 < N
theorem Tabs.keep {S : Nat → Prop} {w w' : World} {N : Nat} (h : Tabs w) (hg : GlobN N) (hk : Keep S w w') (hN : N ≤ w.heap.size) (hs : ∀ k, k < N → ¬ S k) : Tabs w' := h.below' (hk.below hN hs) hg.1 hg.2
end Go.Proofs.YthngfihpnfoppaaDoor

namespace Go.Proofs.YthngfihpnfoppaaDoor
open Go.RowKit
open Go.Lib (validD)

def vGood (deep : Nat) (L : Int) (x : V) : Bool := V.rightBy pairsOkI (12 - deep) x && decide ((x.nodes : Int) ≤ L)
def vGoods (deep : Nat) (L : Int) (xs : List V) : Bool := V.rightsBy pairsOkI (12 - deep) xs && decide ((V.nodess xs : Int) ≤ L)

def VIsA (n : Nat) : Prop := ∀ (x : V) (cs : List Value) (deep N g : Nat) (L : Int) (w : World), x.nodes ≤ n → RdN N w x.d cs → N ≤ g → intBox w g L → x.wf → x.bulk ≤ 4294967295 → Tabs w → GlobN N → deep ≤ 1000000 → 0 ≤ L ∧ L ≤ 1000 →
  Calls Tryd.prog 29 #[.agg cs.toArray, .int .i64 deep, .pointer (some ⟨g, 0, none⟩)] w fun e w' => e = .returned (.bool (vGood deep L x)) ∧ (∃ L' : Int, intBox w' g L' ∧ (vGood deep L x = true → L' = L - x.nodes)) ∧ Keep (· = g) w w'

theorem vGood_no1 {deep : Nat} {L : Int} {x : V} (h : L - 1 < 0) : vGood deep L x = false := by
  have := x.nodes_pos; unfold vGood; rw [decide_eq_false (by omega), Bool.and_false]
theorem vGood_no2 {deep : Nat} {L : Int} {x : V} (h : (12 : Int) < deep) : vGood deep L x = false := by
  obtain ⟨k, m, e, s, kids⟩ := x
  unfold vGood; simp only [V.rightBy]; rw [decide_eq_false (show ¬ (0 : Int) ≤ 12 - deep by omega)]; simp
theorem V.nodess_ge : ∀ xs : List V, xs.length ≤ V.nodess xs
  | [] => by simp
  | x :: xs => by have := x.nodes_pos; have := V.nodess_ge xs; simp only [V.nodess, List.length_cons]; omega
theorem vGood_no3 {deep : Nat} {L : Int} {k m e : Int} {s : List UInt8} {kids : List V} (h : L - 1 < kids.length) : vGood deep L (.mk k m e s kids) = false := by
  have := V.nodess_ge kids; unfold vGood; rw [decide_eq_false (by simp only [V.nodes]; omega), Bool.and_false]
theorem vGood_no5 {deep : Nat} {L : Int} {x : V} (h : x.selfI = false) : vGood deep L x = false := by
  obtain ⟨k, m, e, s, kids⟩ := x
  unfold vGood; simp only [V.rightBy]; rw [show V.selfBy pairsOkI (.mk k m e s kids) = false from h]; simp
theorem vGood_yes {deep : Nat} {L : Int} {k m e : Int} {s : List UInt8} {kids : List V} (h2 : ¬ (12 : Int) < deep) (ho : V.selfI (.mk k m e s kids) = true) :
    vGood deep L (.mk k m e s kids) = vGoods (deep + 1) (L - 1) kids := by
  unfold vGood vGoods; simp only [V.rightBy, V.nodes]
  rw [show V.selfBy pairsOkI (.mk k m e s kids) = true from ho, decide_eq_true (show (0 : Int) ≤ 12 - deep by omega), show (12 : Int) - deep - 1 = 12 - (deep + 1 : Nat) by omega, Bool.and_true, Bool.and_true]
  congr 1; exact decide_eq_decide.2 (by omega)

def VIsC (n : Nat) : Prop := ∀ (xs : List V) (va : Value) (deep N g bd bl : Nat) (L : Int) (w : World), V.nodess xs ≤ n → RdN N w (.sl 5 (V.ds xs)) [va] → N ≤ g → intBox w g L → intBox w bd deep → bd ≠ g → w.cell? ⟨bl, 0, none⟩ = some (.pointer (some ⟨g, 0, none⟩)) → bl ≠ g →
    V.wfs xs → xs.length + V.bulks xs ≤ 4294967295 → Tabs w → GlobN N → deep ≤ 1000 → 0 ≤ L ∧ L ≤ 1000 →
  Calls Tryd.prog 45 #[va, .func (.func 46) #[] #[.pointer (some ⟨bd, 0, none⟩), .pointer (some ⟨bl, 0, none⟩)]] w fun e w' => e = .returned (.bool (!vGoods (deep + 1) L xs)) ∧ (∃ L' : Int, intBox w' g L' ∧ (vGoods (deep + 1) L xs = true → L' = L - V.nodess xs)) ∧ Keep (· = g) w w'

set_option maxHeartbeats 4000000 in
set_option maxRecDepth 10000 in
theorem VIsA_of {n : Nat} (hC : VIsC n) : VIsA (n + 1) := by
  intro x cs deep N g L w hn h hNg hbox hwf hbk hT hG hdeep hL
  obtain ⟨k, m, e, s, kids, v2, hx, rfl, hkids⟩ := V.layS h
  subst hx
  have hnk : V.nodess kids ≤ n := by simp only [V.nodes] at hn; omega
  obtain ⟨hL1, hL2⟩ := hL
  obtain ⟨M, rfl⟩ : ∃ M, L = M + 1 := ⟨L - 1, by omega⟩
  have hglt := hbox.lt
  obtain ⟨a2, c2, rfl⟩ := Rd.sl_form (Rd.of hkids)
  simp only [V.ds_map, List.length_map] at h hkids ⊢
  rw [← V.ds_map] at hkids
  have hfree := hbox.free
  have hcell := hbox.cell
  obtain ⟨W0, hW0⟩ : ∃ W0, W0 = ((((w.setCell ⟨g, 0, none⟩ (.int .i64 M)).alloc (.cells #[.int .i64 k, .int .i64 m, .int .i64 e, .string ⟨s.toArray⟩, .slice a2 kids.length c2] 26)).alloc (.cells #[.int .i64 deep] 3)).alloc (.cells #[.pointer (some ⟨g, 0, none⟩)] 48)) := ⟨_, rfl⟩
  have HW := Lib.hid hW0
  have hK0 : Keep (· = g) w W0 := by rw [hW0]; exact (((Keep.setCell (S := (· = g)) (p := ⟨g, 0, none⟩) (Keep.refl _ _) (.inl rfl) _).alloc _).alloc _).alloc _
  have hb0 : intBox W0 g M := by
    rw [hW0]
    have : intBox (w.setCell ⟨g, 0, none⟩ (.int .i64 M)) g M := one_setCell hbox
    exact ((this.below ((Below.refl _ _).alloc (Nat.le_refl _) _)).below ((Below.refl _ _).alloc (Nat.le_refl _) _)).below ((Below.refl _ _).alloc (Nat.le_refl _) _)
  have hbd0 : intBox W0 (w.heap.size + 1) deep := by
    rw [hW0]; unfold intBox; rw [Below.heap_alloc _ _ _ (by simp [World.setCell])]
    have := heap_alloc_new ((w.setCell ⟨g, 0, none⟩ (.int .i64 M)).alloc (.cells #[.int .i64 k, .int .i64 m, .int .i64 e, .string ⟨s.toArray⟩, .slice a2 kids.length c2] 26)) (.cells #[.int .i64 deep] 3)
    simpa [World.setCell] using this
  have hng : ∀ k, k < N → ¬ k = g := by intro k hk e; omega
  have hN : N ≤ w.heap.size := by omega
  have hss : (w.setCell ⟨g, 0, none⟩ (.int .i64 M)).heap.size = w.heap.size := by simp [World.setCell]
  have hsz : W0.heap.size = w.heap.size + 3 := by rw [hW0]; simp [hss]
  have s1 : g < w.heap.size + 1 := by omega
  have s2 : g < w.heap.size + 1 + 1 := by omega
  have s3 : g < w.heap.size + 1 + 1 + 1 := by omega
  have q1 : ¬ g = w.heap.size := by omega
  have q2 : ¬ g = w.heap.size + 1 := by omega
  have q3 : ¬ g = w.heap.size + 1 + 1 := by omega
  have KB : Hid (∀ W, Below W0.heap.size W0 W → W.cell? ⟨w.heap.size, 0, none⟩ = some (.int .i64 k) ∧ W.cell? ⟨w.heap.size, 1, none⟩ = some (.int .i64 m) ∧ W.cell? ⟨w.heap.size, 2, none⟩ = some (.int .i64 e) ∧ W.cell? ⟨w.heap.size, 3, none⟩ = some (.string ⟨s.toArray⟩) ∧ W.cell? ⟨w.heap.size, 4, none⟩ = some (.slice a2 kids.length c2) ∧ W.cell? ⟨w.heap.size + 1, 0, none⟩ = some (.int .i64 deep) ∧ W.cell? ⟨w.heap.size + 1 + 1, 0, none⟩ = some (.pointer (some ⟨g, 0, none⟩)) ∧ W.cell? ⟨g, 0, none⟩ = some (.int .i64 M)) := by
    intro W hb
    obtain ⟨hc, _⟩ := bcell hb
    have z1 : w.heap.size < W0.heap.size := by omega
    have z2 : w.heap.size + 1 < W0.heap.size := by omega
    have z3 : w.heap.size + 1 + 1 < W0.heap.size := by omega
    have z4 : g < W0.heap.size := by omega
    simp only [hc _ _ z1, hc _ _ z2, hc _ _ z3, hc _ _ z4, hb0.cell]
    subst hW0
    simp [go_sem, hss]
  have hT0 := Lib.hid (hT.keep hG hK0 hN hng)
  have HR := Lib.hid (show ∀ W, Below W0.heap.size W0 W → RdN N W (V.d (.mk k m e s kids)) [.int .i64 k, .int .i64 m, .int .i64 e, .string ⟨s.toArray⟩, .slice a2 kids.length c2] from fun W hb => (h.keep hK0 hN hng).below (hb.mono (by omega)))
  have HRk := Lib.hid (show ∀ W, Below W0.heap.size W0 W → RdN N W (.sl 5 (V.ds kids)) [.slice a2 kids.length c2] from fun W hb => (RdN.keep hkids hK0 hN hng).below (hb.mono (by omega)))
  have HF := Lib.hid (fun W (hb : Below W0.heap.size W0 W) => isNode_any _ _ W (HR.out W hb).rd hwf hbk (hT0.out.below hb))
  have HQ := Lib.hid (fun W (hb : Below W0.heap.size W0 W) => areKids_any _ _ W (HR.out W hb).rd hbk)
  clear h hkids hT hbox hW0 hng hss q1 q2 q3
  by_cases qc1 : M < 0
  · have dqc1 := decide_eq_true qc1
    have H := Lib.hid (vGood_no1 (deep := deep) (L := M + 1) (x := .mk k m e s kids) (by omega))
    go_enter Tryd.func29, Tryd.ntmps29
    go_wp2
    rw [← HW.out]
    have hB := Below.refl W0.heap.size W0
    obtain ⟨p0, p1, p2, p3, p4, p6, p7, p8⟩ := KB.out _ hB
    go_quiet (fail)
    go_wp2
    go_ret
    exact ⟨by rw [H.out]; rfl, ⟨M, hb0.below (by first | exact hB | exact hB.drew | exact Go.below_drewN hB _), fun h => by rw [H.out] at h; cases h⟩, hK0.then (by first | exact hB | exact hB.drew | exact Go.below_drewN hB _)⟩
  have dqc1 := decide_eq_false qc1
  by_cases qc2 : (12 : Int) < deep
  · have dqc2 := decide_eq_true qc2
    have H := Lib.hid (vGood_no2 (L := M + 1) (x := .mk k m e s kids) qc2)
    go_enter Tryd.func29, Tryd.ntmps29
    go_wp2
    rw [← HW.out]
    have hB := Below.refl W0.heap.size W0
    obtain ⟨p0, p1, p2, p3, p4, p6, p7, p8⟩ := KB.out _ hB
    go_quiet (fail)
    go_wp2
    go_ret
    exact ⟨by rw [H.out]; rfl, ⟨M, hb0.below (by first | exact hB | exact hB.drew | exact Go.below_drewN hB _), fun h => by rw [H.out] at h; cases h⟩, hK0.then (by first | exact hB | exact hB.drew | exact Go.below_drewN hB _)⟩
  have dqc2 := decide_eq_false qc2
  by_cases qc3 : M < kids.length
  · have dqc3 := decide_eq_true qc3
    have H := Lib.hid (vGood_no3 (deep := deep) (L := M + 1) (k := k) (m := m) (e := e) (s := s) (kids := kids) (by omega))
    go_enter Tryd.func29, Tryd.ntmps29
    go_wp2
    rw [← HW.out]
    have hB := Below.refl W0.heap.size W0
    obtain ⟨p0, p1, p2, p3, p4, p6, p7, p8⟩ := KB.out _ hB
    go_quiet (fail)
    go_wp2
    go_ret
    exact ⟨by rw [H.out]; rfl, ⟨M, hb0.below (by first | exact hB | exact hB.drew | exact Go.below_drewN hB _), fun h => by rw [H.out] at h; cases h⟩, hK0.then (by first | exact hB | exact hB.drew | exact Go.below_drewN hB _)⟩
  have dqc3 := decide_eq_false qc3
  have HSN := Lib.hid (V.selfI_node (.mk k m e s kids))
  cases hnode : V.node (.mk k m e s kids) with
  | false =>
    have HO := Lib.hid hnode
    have H := Lib.hid (vGood_no5 (deep := deep) (L := M + 1) (x := .mk k m e s kids) (by rw [HSN.out, hnode]; rfl))
    clear hnode
    go_enter Tryd.func29, Tryd.ntmps29
    go_wp2
    rw [← HW.out]
    have hB := Below.refl W0.heap.size W0
    refine wp_region_held_drew (S := (fun W => W.cell? ⟨w.heap.size, 0, none⟩ = some (.int .i64 k) ∧ W.cell? ⟨w.heap.size, 1, none⟩ = some (.int .i64 m) ∧ W.cell? ⟨w.heap.size, 2, none⟩ = some (.int .i64 e) ∧ W.cell? ⟨w.heap.size, 3, none⟩ = some (.string ⟨s.toArray⟩) ∧ W.cell? ⟨w.heap.size, 4, none⟩ = some (.slice a2 kids.length c2) ∧ W.cell? ⟨w.heap.size + 1, 0, none⟩ = some (.int .i64 deep) ∧ W.cell? ⟨w.heap.size + 1 + 1, 0, none⟩ = some (.pointer (some ⟨g, 0, none⟩)) ∧ W.cell? ⟨g, 0, none⟩ = some (.int .i64 M))) (by kernel_rfl) ?_ (fun hHeld => ?_)
    · ((try dsimp only); (first | exact KB.out _ hB | exact KB.out _ hB.drew))
    refine takeW (i := 0) (fuel := 26) (d := some 12) (v := ?vr0) (listed' := #[true, false, false, false, false, false, false, false, false, false, false, false, false, false, false, false, false, false, false, false, false, false, false, false, false, false, false]) rfl rfl (by kernel_rfl) (by kernel_rfl) (by kernel_rfl) (by kernel_rfl) (by kernel_rfl) (fun _ _ _ h => h) (by kernel_rfl) (by assumption) ?hr0 ?rr0
    case hr0 => (intro w hSw; (try dsimp only at hSw); go_simp; all_goals with_reducible rfl)
    simp only [Act.put, List.setIfInBounds_toArray, List.set_cons_zero, List.set_cons_succ]
    refine takeW (i := 1) (fuel := 25) (d := some 13) (v := ?vr1) (listed' := #[true, true, false, false, false, false, false, false, false, false, false, false, false, false, false, false, false, false, false, false, false, false, false, false, false, false, false]) rfl rfl (by kernel_rfl) (by kernel_rfl) (by kernel_rfl) (by kernel_rfl) (by kernel_rfl) (fun _ _ _ h => h) (by kernel_rfl) (by assumption) ?hr1 ?rr1
    case hr1 => (intro w hSw; (try dsimp only at hSw); go_simp; all_goals with_reducible rfl)
    simp only [Act.put, List.setIfInBounds_toArray, List.set_cons_zero, List.set_cons_succ]
    refine takeW (i := 2) (fuel := 24) (d := some 14) (v := ?vr2) (listed' := #[true, true, true, false, false, false, false, false, false, false, false, false, false, false, false, false, false, false, false, false, false, false, false, false, false, false, false]) rfl rfl (by kernel_rfl) (by kernel_rfl) (by kernel_rfl) (by kernel_rfl) (by kernel_rfl) (fun _ _ _ h => h) (by kernel_rfl) (by assumption) ?hr2 ?rr2
    case hr2 => (intro w hSw; (try dsimp only at hSw); go_simp; all_goals with_reducible rfl)
    simp only [Act.put, List.setIfInBounds_toArray, List.set_cons_zero, List.set_cons_succ]
    refine takeW (i := 3) (fuel := 23) (d := some 15) (v := ?vr3) (listed' := #[true, true, true, true, false, false, false, false, false, false, false, false, false, false, false, false, false, false, false, false, false, false, false, false, false, false, false]) rfl rfl (by kernel_rfl) (by kernel_rfl) (by kernel_rfl) (by kernel_rfl) (by kernel_rfl) (fun _ _ _ h => h) (by kernel_rfl) (by assumption) ?hr3 ?rr3
    case hr3 => (intro w hSw; (try dsimp only at hSw); go_simp; all_goals with_reducible rfl)
    simp only [Act.put, List.setIfInBounds_toArray, List.set_cons_zero, List.set_cons_succ]
    refine takeW (i := 4) (fuel := 22) (d := some 16) (v := ?vr4) (listed' := #[true, true, true, true, true, false, false, false, false, false, false, false, false, false, false, false, false, false, false, false, false, false, false, false, false, false, false]) rfl rfl (by kernel_rfl) (by kernel_rfl) (by kernel_rfl) (by kernel_rfl) (by kernel_rfl) (fun _ _ _ h => h) (by kernel_rfl) (by assumption) ?hr4 ?rr4
    case hr4 => (intro w hSw; (try dsimp only at hSw); go_simp; all_goals with_reducible rfl)
    simp only [Act.put, List.setIfInBounds_toArray, List.set_cons_zero, List.set_cons_succ]
    refine takeW (i := 5) (fuel := 21) (d := some 17) (v := ?vr5) (listed' := #[true, true, true, true, true, true, false, false, false, false, false, false, false, false, false, false, false, false, false, false, false, false, false, false, false, false, false]) rfl rfl (by kernel_rfl) (by kernel_rfl) (by kernel_rfl) (by kernel_rfl) (by kernel_rfl) (fun _ _ _ h => h) (by kernel_rfl) (by assumption) ?hr5 ?rr5
    case hr5 => (intro w hSw; (try dsimp only at hSw); go_simp; all_goals with_reducible rfl)
    simp only [Act.put, List.setIfInBounds_toArray, List.set_cons_zero, List.set_cons_succ]
    refine takeW (i := 6) (fuel := 20) (d := some 18) (v := ?vr6) (listed' := #[true, true, true, true, true, true, true, false, false, false, false, false, false, false, false, false, false, false, false, false, false, false, false, false, false, false, false]) rfl rfl (by kernel_rfl) (by kernel_rfl) (by kernel_rfl) (by kernel_rfl) (by kernel_rfl) (fun _ _ _ h => h) (by kernel_rfl) (by assumption) ?hr6 ?rr6
    case hr6 => (intro w hSw; (try dsimp only at hSw); go_simp; all_goals with_reducible rfl)
    simp only [Act.put, List.setIfInBounds_toArray, List.set_cons_zero, List.set_cons_succ]
    refine takeW (i := 7) (fuel := 19) (d := some 19) (v := ?vr7) (listed' := #[true, true, true, true, true, true, true, true, false, false, false, false, false, false, false, false, false, false, false, false, false, false, false, false, false, false, false]) rfl rfl (by kernel_rfl) (by kernel_rfl) (by kernel_rfl) (by kernel_rfl) (by kernel_rfl) (fun _ _ _ h => h) (by kernel_rfl) (by assumption) ?hr7 ?rr7
    case hr7 => (intro w hSw; (try dsimp only at hSw); go_simp; all_goals with_reducible rfl)
    simp only [Act.put, List.setIfInBounds_toArray, List.set_cons_zero, List.set_cons_succ]
    refine takeW (i := 8) (fuel := 18) (d := some 20) (v := ?vr8) (listed' := #[true, true, true, true, true, true, true, true, true, false, false, false, false, false, false, false, false, false, false, false, false, false, false, false, false, false, false]) rfl rfl (by kernel_rfl) (by kernel_rfl) (by kernel_rfl) (by kernel_rfl) (by kernel_rfl) (fun _ _ _ h => h) (by kernel_rfl) (by assumption) ?hr8 ?rr8
    case hr8 => (intro w hSw; (try dsimp only at hSw); go_simp; all_goals with_reducible rfl)
    simp only [Act.put, List.setIfInBounds_toArray, List.set_cons_zero, List.set_cons_succ]
    refine takeW (i := 9) (fuel := 17) (d := some 21) (v := ?vr9) (listed' := #[true, true, true, true, true, true, true, true, true, true, false, false, false, false, false, false, false, false, false, false, false, false, false, false, false, false, false]) rfl rfl (by kernel_rfl) (by kernel_rfl) (by kernel_rfl) (by kernel_rfl) (by kernel_rfl) (fun _ _ _ h => h) (by kernel_rfl) (by assumption) ?hr9 ?rr9
    case hr9 => (intro w hSw; (try dsimp only at hSw); go_simp; all_goals with_reducible rfl)
    simp only [Act.put, List.setIfInBounds_toArray, List.set_cons_zero, List.set_cons_succ]
    refine takeW (i := 10) (fuel := 16) (d := some 22) (v := ?vr10) (listed' := #[true, true, true, true, true, true, true, true, true, true, true, false, false, false, false, false, false, false, false, false, false, false, false, false, false, false, false]) rfl rfl (by kernel_rfl) (by kernel_rfl) (by kernel_rfl) (by kernel_rfl) (by kernel_rfl) (fun _ _ _ h => h) (by kernel_rfl) (by assumption) ?hr10 ?rr10
    case hr10 => (intro w hSw; (try dsimp only at hSw); go_simp; all_goals with_reducible rfl)
    simp only [Act.put, List.setIfInBounds_toArray, List.set_cons_zero, List.set_cons_succ]
    refine takeW (i := 11) (fuel := 15) (d := some 23) (v := ?vr11) (listed' := #[true, true, true, true, true, true, true, true, true, true, true, true, false, false, false, false, false, false, false, false, false, false, false, false, false, false, false]) rfl rfl (by kernel_rfl) (by kernel_rfl) (by kernel_rfl) (by kernel_rfl) (by kernel_rfl) (fun _ _ _ h => h) (by kernel_rfl) (by assumption) ?hr11 ?rr11
    case hr11 => (intro w hSw; (try dsimp only at hSw); go_simp; all_goals with_reducible rfl)
    simp only [Act.put, List.setIfInBounds_toArray, List.set_cons_zero, List.set_cons_succ]
    refine takeW (i := 12) (fuel := 14) (d := some 24) (v := ?vr12) (listed' := #[true, true, true, true, true, true, true, true, true, true, true, true, true, false, false, false, false, false, false, false, false, false, false, false, false, false, false]) rfl rfl (by kernel_rfl) (by kernel_rfl) (by kernel_rfl) (by kernel_rfl) (by kernel_rfl) (fun _ _ _ h => h) (by kernel_rfl) (by assumption) ?hr12 ?rr12
    case hr12 => (intro w hSw; (try dsimp only at hSw); go_simp; all_goals with_reducible rfl)
    simp only [Act.put, List.setIfInBounds_toArray, List.set_cons_zero, List.set_cons_succ]
    refine takeW (i := 13) (fuel := 13) (d := some 25) (v := ?vr13) (listed' := #[true, true, true, true, true, true, true, true, true, true, true, true, true, true, false, false, false, false, false, false, false, false, false, false, false, false, false]) rfl rfl (by kernel_rfl) (by kernel_rfl) (by kernel_rfl) (by kernel_rfl) (by kernel_rfl) (fun _ _ _ h => h) (by kernel_rfl) (by assumption) ?hr13 ?rr13
    case hr13 => (intro w hSw; (try dsimp only at hSw); go_simp; all_goals with_reducible rfl)
    simp only [Act.put, List.setIfInBounds_toArray, List.set_cons_zero, List.set_cons_succ]
    refine takeW (i := 14) (fuel := 12) (d := some 26) (v := ?vr14) (listed' := #[true, true, true, true, true, true, true, true, true, true, true, true, true, true, true, false, false, false, false, false, false, false, false, false, false, false, false]) rfl rfl (by kernel_rfl) (by kernel_rfl) (by kernel_rfl) (by kernel_rfl) (by kernel_rfl) (fun _ _ _ h => h) (by kernel_rfl) (by assumption) ?hr14 ?rr14
    case hr14 => (intro w hSw; (try dsimp only at hSw); go_simp; all_goals with_reducible rfl)
    simp only [Act.put, List.setIfInBounds_toArray, List.set_cons_zero, List.set_cons_succ]
    refine takeW (i := 15) (fuel := 11) (d := some 27) (v := ?vr15) (listed' := #[true, true, true, true, true, true, true, true, true, true, true, true, true, true, true, true, false, false, false, false, false, false, false, false, false, false, false]) rfl rfl (by kernel_rfl) (by kernel_rfl) (by kernel_rfl) (by kernel_rfl) (by kernel_rfl) (fun _ _ _ h => h) (by kernel_rfl) (by assumption) ?hr15 ?rr15
    case hr15 => (intro w hSw; (try dsimp only at hSw); go_simp; all_goals with_reducible rfl)
    simp only [Act.put, List.setIfInBounds_toArray, List.set_cons_zero, List.set_cons_succ]
    refine takeW (i := 16) (fuel := 10) (d := some 28) (v := ?vr16) (listed' := #[true, true, true, true, true, true, true, true, true, true, true, true, true, true, true, true, true, false, false, false, false, false, false, false, false, false, false]) rfl rfl (by kernel_rfl) (by kernel_rfl) (by kernel_rfl) (by kernel_rfl) (by kernel_rfl) (fun _ _ _ h => h) (by kernel_rfl) (by assumption) ?hr16 ?rr16
    case hr16 => (intro w hSw; (try dsimp only at hSw); go_simp; all_goals with_reducible rfl)
    simp only [Act.put, List.setIfInBounds_toArray, List.set_cons_zero, List.set_cons_succ]
    refine takeW (i := 17) (fuel := 9) (d := some 29) (v := ?vr17) (listed' := #[true, true, true, true, true, true, true, true, true, true, true, true, true, true, true, true, true, true, false, false, false, false, false, false, false, false, false]) rfl rfl (by kernel_rfl) (by kernel_rfl) (by kernel_rfl) (by kernel_rfl) (by kernel_rfl) (fun _ _ _ h => h) (by kernel_rfl) (by assumption) ?hr17 ?rr17
    case hr17 => (intro w hSw; (try dsimp only at hSw); go_simp; all_goals with_reducible rfl)
    simp only [Act.put, List.setIfInBounds_toArray, List.set_cons_zero, List.set_cons_succ]
    refine takeW (i := 18) (fuel := 8) (d := some 30) (v := ?vr18) (listed' := #[true, true, true, true, true, true, true, true, true, true, true, true, true, true, true, true, true, true, true, false, false, false, false, false, false, false, false]) rfl rfl (by kernel_rfl) (by kernel_rfl) (by kernel_rfl) (by kernel_rfl) (by kernel_rfl) (fun _ _ _ h => h) (by kernel_rfl) (by assumption) ?hr18 ?rr18
    case hr18 => (intro w hSw; (try dsimp only at hSw); go_simp; all_goals with_reducible rfl)
    simp only [Act.put, List.setIfInBounds_toArray, List.set_cons_zero, List.set_cons_succ]
    refine takeC (i := 19) (fuel := 7) (d := some 31) (listed' := #[true, true, true, true, true, true, true, true, true, true, true, true, true, true, true, true, true, true, true, true, false, false, false, false, false, false, false]) rfl rfl (by kernel_rfl) (by kernel_rfl) (by kernel_rfl) (by kernel_rfl) (fun K hK => ?cr19)
    go_simp
    ((go_at_call 43; with_reducible refine (HF.out _ (by first | exact hB | exact hB.drew)).mono ?_; rw [HO.out]; rintro e1 w1 ⟨rfl, hb1⟩; replace hB := below2 (by first | exact hB | exact hB.drew) hb1 (Nat.le_refl _)))
    go_wp2_with fail
    refine hK.out _ _ ?kr19 (fun hHeld => ?nr19)
    case kr19 => ((try dsimp only); (first | exact KB.out _ hB | exact KB.out _ hB.drew))
    clear hK K
    try simp only [skipAct, Act.put, List.setIfInBounds_toArray, List.set_cons_zero, List.set_cons_succ]
    refine takeW (i := 20) (fuel := 6) (d := some 32) (v := ?vr20) (listed' := #[true, true, true, true, true, true, true, true, true, true, true, true, true, true, true, true, true, true, true, true, true, false, false, false, false, false, false]) rfl rfl (by kernel_rfl) (by kernel_rfl) (by kernel_rfl) (by kernel_rfl) (by kernel_rfl) (fun _ _ _ h => h) (by kernel_rfl) (by assumption) ?hr20 ?rr20
    case hr20 => (intro w hSw; (try dsimp only at hSw); go_simp; all_goals with_reducible rfl)
    simp only [Act.put, List.setIfInBounds_toArray, List.set_cons_zero, List.set_cons_succ]
    refine takeW (i := 21) (fuel := 5) (d := some 33) (v := ?vr21) (listed' := #[true, true, true, true, true, true, true, true, true, true, true, true, true, true, true, true, true, true, true, true, true, true, false, false, false, false, false]) rfl rfl (by kernel_rfl) (by kernel_rfl) (by kernel_rfl) (by kernel_rfl) (by kernel_rfl) (fun _ _ _ h => h) (by kernel_rfl) (by assumption) ?hr21 ?rr21
    case hr21 => (intro w hSw; (try dsimp only at hSw); go_simp; all_goals with_reducible rfl)
    simp only [Act.put, List.setIfInBounds_toArray, List.set_cons_zero, List.set_cons_succ]
    refine takeW (i := 22) (fuel := 4) (d := some 34) (v := ?vr22) (listed' := #[true, true, true, true, true, true, true, true, true, true, true, true, true, true, true, true, true, true, true, true, true, true, true, false, false, false, false]) rfl rfl (by kernel_rfl) (by kernel_rfl) (by kernel_rfl) (by kernel_rfl) (by kernel_rfl) (fun _ _ _ h => h) (by kernel_rfl) (by assumption) ?hr22 ?rr22
    case hr22 => (intro w hSw; (try dsimp only at hSw); go_simp; all_goals with_reducible rfl)
    simp only [Act.put, List.setIfInBounds_toArray, List.set_cons_zero, List.set_cons_succ]
    refine takeS (fuel := 1) (listed' := #[true, true, true, true, true, true, true, true, true, true, true, true, true, true, true, true, true, true, true, true, true, true, true, true, true, true, false]) (by kernel_rfl) (fun _ _ _ _ h => h) (by assumption) [(23, 35), (24, 36), (25, 37)] (by kernel_rfl) (by kernel_rfl) (by kernel_rfl) ?_
    simp only [skipAct, List.setIfInBounds_toArray, List.set_cons_zero, List.set_cons_succ]
    refine takeW (i := 26) (fuel := 0) (d := some 38) (v := ?vr26) (listed' := #[true, true, true, true, true, true, true, true, true, true, true, true, true, true, true, true, true, true, true, true, true, true, true, true, true, true, true]) rfl rfl (by kernel_rfl) (by kernel_rfl) (by kernel_rfl) (by kernel_rfl) (by kernel_rfl) (fun _ _ _ h => h) (by kernel_rfl) (by assumption) ?hr26 ?rr26
    case hr26 => (intro w hSw; (try dsimp only at hSw); go_simp; all_goals with_reducible rfl)
    simp only [Act.put, List.setIfInBounds_toArray, List.set_cons_zero, List.set_cons_succ]
    refine wpAnyH_done (by kernel_rfl) ?_ _
    go_wp2
    go_ret
    exact ⟨by rw [H.out]; rfl, ⟨M, hb0.below (by first | exact hB | exact hB.drew | exact Go.below_drewN hB _), fun h => by rw [H.out] at h; cases h⟩, hK0.then (by first | exact hB | exact hB.drew | exact Go.below_drewN hB _)⟩
  | true =>
    have HO := Lib.hid hnode
    cases hkk : V.kidsOk k kids with
    | false =>
      have HKK := Lib.hid (show V.kidsOk (V.kind (.mk k m e s kids)) (V.kids (.mk k m e s kids)) = false from hkk)
      have H := Lib.hid (vGood_no5 (deep := deep) (L := M + 1) (x := .mk k m e s kids) (by rw [HSN.out, hnode]; exact hkk))
      clear hnode hkk
      go_enter Tryd.func29, Tryd.ntmps29
      go_wp2
      rw [← HW.out]
      have hB := Below.refl W0.heap.size W0
      go_region_held3 (fun W => W.cell? ⟨w.heap.size, 0, none⟩ = some (.int .i64 k) ∧ W.cell? ⟨w.heap.size, 1, none⟩ = some (.int .i64 m) ∧ W.cell? ⟨w.heap.size, 2, none⟩ = some (.int .i64 e) ∧ W.cell? ⟨w.heap.size, 3, none⟩ = some (.string ⟨s.toArray⟩) ∧ W.cell? ⟨w.heap.size, 4, none⟩ = some (.slice a2 kids.length c2) ∧ W.cell? ⟨w.heap.size + 1, 0, none⟩ = some (.int .i64 deep) ∧ W.cell? ⟨w.heap.size + 1 + 1, 0, none⟩ = some (.pointer (some ⟨g, 0, none⟩)) ∧ W.cell? ⟨g, 0, none⟩ = some (.int .i64 M))
        (first | exact KB.out _ hB | exact KB.out _ hB.drew)
        (first | (go_at_call 43; with_reducible refine (HF.out _ (by first | exact hB | exact hB.drew)).mono ?_; rw [HO.out]; rintro e1 w1 ⟨rfl, hb1⟩; replace hB := below2 (by first | exact hB | exact hB.drew) hb1 (Nat.le_refl _)) | (go_at_call 44; with_reducible refine (HQ.out _ (by first | exact hB | exact hB.drew)).mono ?_; rw [HKK.out]; rintro e1 w1 ⟨rfl, hb1⟩; replace hB := below2 (by first | exact hB | exact hB.drew) hb1 (Nat.le_refl _)))
      go_wp2
      go_ret
      exact ⟨by rw [H.out]; rfl, ⟨M, hb0.below (by first | exact hB | exact hB.drew | exact Go.below_drewN hB _), fun h => by rw [H.out] at h; cases h⟩, hK0.then (by first | exact hB | exact hB.drew | exact Go.below_drewN hB _)⟩
    | true =>
      have HKK := Lib.hid (show V.kidsOk (V.kind (.mk k m e s kids)) (V.kids (.mk k m e s kids)) = true from hkk)
      have H0 := vGood_yes (L := M + 1) qc2 (show V.selfI (.mk k m e s kids) = true by rw [HSN.out, hnode]; exact hkk)
      rw [show M + 1 - 1 = M by omega] at H0
      have H := Lib.hid H0
      clear H0 hnode hkk
      go_enter Tryd.func29, Tryd.ntmps29
      go_wp2
      rw [← HW.out]
      have hB := Below.refl W0.heap.size W0
      go_region_held3 (fun W => W.cell? ⟨w.heap.size, 0, none⟩ = some (.int .i64 k) ∧ W.cell? ⟨w.heap.size, 1, none⟩ = some (.int .i64 m) ∧ W.cell? ⟨w.heap.size, 2, none⟩ = some (.int .i64 e) ∧ W.cell? ⟨w.heap.size, 3, none⟩ = some (.string ⟨s.toArray⟩) ∧ W.cell? ⟨w.heap.size, 4, none⟩ = some (.slice a2 kids.length c2) ∧ W.cell? ⟨w.heap.size + 1, 0, none⟩ = some (.int .i64 deep) ∧ W.cell? ⟨w.heap.size + 1 + 1, 0, none⟩ = some (.pointer (some ⟨g, 0, none⟩)) ∧ W.cell? ⟨g, 0, none⟩ = some (.int .i64 M))
        (first | exact KB.out _ hB | exact KB.out _ hB.drew)
        (first | (go_at_call 43; with_reducible refine (HF.out _ (by first | exact hB | exact hB.drew)).mono ?_; rw [HO.out]; rintro e1 w1 ⟨rfl, hb1⟩; replace hB := below2 (by first | exact hB | exact hB.drew) hb1 (Nat.le_refl _)) | (go_at_call 44; with_reducible refine (HQ.out _ (by first | exact hB | exact hB.drew)).mono ?_; rw [HKK.out]; rintro e1 w1 ⟨rfl, hb1⟩; replace hB := below2 (by first | exact hB | exact hB.drew) hb1 (Nat.le_refl _)))
      obtain ⟨p0, p1, p2, p3, p4, p6, p7, p8⟩ := KB.out _ hB
      have hkw : V.wfs kids := hwf.2.2.2.2.2
      have hkb : kids.length + V.bulks kids ≤ 4294967295 := by simp only [V.bulk] at hbk; omega
      have HCC := Lib.hid (hC kids _ deep N g (w.heap.size + 1) (w.heap.size + 1 + 1) M _ hnk (HRk.out _ hB) hNg (hb0.below hB) (hbd0.below hB) (by omega) p7 (by omega) hkw hkb (hT0.out.below hB) hG (by omega) (by omega))
      go_wp2_with (go_at_call 45; refine HCC.out.mono ?_; rintro e1 w2 ⟨rfl, ⟨L', hbx, hL'⟩, hk2⟩)
      go_ret
      exact ⟨by rw [H.out]; simp, ⟨L', hbx, fun hh => by rw [H.out] at hh; rw [hL' hh]; simp only [V.nodes]; omega⟩, (hK0.then hB).trans hk2⟩

set_option maxHeartbeats 800000 in
set_option maxRecDepth 10000 in
theorem isValue1_any {n : Nat} (hA : VIsA n) (x : V) (cs : List Value) (deep N g bd bl : Nat) (L : Int) (w : World) (hn : x.nodes ≤ n) (h : RdN N w x.d cs) (hNg : N ≤ g) (hbox : intBox w g L) (hbd : intBox w bd deep) (hbl : w.cell? ⟨bl, 0, none⟩ = some (.pointer (some ⟨g, 0, none⟩)))
    (hwf : x.wf) (hbk : x.bulk ≤ 4294967295) (hT : Tabs w) (hG : GlobN N) (hdeep : deep ≤ 1000) (hL : 0 ≤ L ∧ L ≤ 1000) :
    Calls Tryd.prog 46 #[.agg cs.toArray, .pointer (some ⟨bd, 0, none⟩), .pointer (some ⟨bl, 0, none⟩)] w fun e w' => e = .returned (.bool (!vGood (deep + 1) L x)) ∧ (∃ L' : Int, intBox w' g L' ∧ (vGood (deep + 1) L x = true → L' = L - x.nodes)) ∧ Keep (· = g) w w' := by
  obtain ⟨k, m, e, s, a2, n2, c2, rfl⟩ := V.form h.rd
  have hb1 := hbd.cell
  have hz1 := hbd.lt
  have hz2 : bl < w.heap.size := cell_lt hbl
  have hN : N ≤ w.heap.size := by have := hbox.lt; omega
  have hal : Below w.heap.size w (w.alloc (.cells #[.int .i64 k, .int .i64 m, .int .i64 e, .string ⟨s.toArray⟩, .slice a2 n2 c2] 26)) := (Below.refl _ _).alloc (Nat.le_refl _) _
  have HCC := Lib.hid (hA x _ (deep + 1) N g L _ hn (h.below (hal.mono hN)) hNg (hbox.below hal) hwf hbk (hT.below hal) hG (by omega) hL)
  go_enter Tryd.func46, Tryd.ntmps46
  go_wp2_with (go_at_call 29; refine HCC.out.mono ?_; rintro e w1 ⟨rfl, hL', hk1⟩)
  go_ret
  exact ⟨rfl, hL', (Keep.of_below hal).trans hk1⟩

theorem vGoods_snoc (deep : Nat) (L : Int) (xs : List V) (k : Nat) (hk : k < xs.length) (h : vGoods deep L (xs.take k) = true) :
    vGoods deep L (xs.take (k + 1)) = vGood deep (L - V.nodess (xs.take k)) xs[k] := by
  have hn : ∀ (ls : List V) (x : V), V.nodess (ls ++ [x]) = V.nodess ls + x.nodes := by
    intro ls x; induction ls with
    | nil => simp [V.nodess]
    | cons a ls ih => simp only [List.cons_append, V.nodess, ih]; omega
  unfold vGoods at h ⊢; unfold vGood
  rw [List.take_succ_eq_append_getElem hk, hn, V.rightsBy_all, List.all_append]
  rw [V.rightsBy_all] at h
  simp only [Bool.and_eq_true, decide_eq_true_eq] at h
  rw [h.1, Bool.true_and]
  congr 1
  · simp
  · exact decide_eq_decide.2 (by omega)
theorem vGoods_cut (deep : Nat) (L : Int) (xs : List V) (k : Nat) (h : vGoods deep L (xs.take k) = false) : vGoods deep L xs = false := by
  have hn : ∀ (ls ms : List V), V.nodess (ls ++ ms) = V.nodess ls + V.nodess ms := by
    intro ls ms; induction ls with
    | nil => simp [V.nodess]
    | cons a ls ih => simp only [List.cons_append, V.nodess, ih]; omega
  cases hk : vGoods deep L xs with
  | false => rfl
  | true =>
    exfalso
    rw [← List.take_append_drop k xs] at hk
    unfold vGoods at h hk
    rw [V.rightsBy_all, List.all_append, hn] at hk
    rw [V.rightsBy_all] at h
    simp only [Bool.and_eq_true, decide_eq_true_eq] at hk
    rw [hk.1.1, decide_eq_true (by omega)] at h; cases h

set_option maxHeartbeats 1600000 in
set_option maxRecDepth 10000 in
theorem visIndex_any {n : Nat} (hA : VIsA n) (xs : List V) (va : Value) (deep N g bd bl : Nat) (L : Int) (w : World) (hn : V.nodess xs ≤ n) (h : RdN N w (.sl 5 (V.ds xs)) [va]) (hNg : N ≤ g) (hbox : intBox w g L) (hbd : intBox w bd deep) (hbg : bd ≠ g) (hbl : w.cell? ⟨bl, 0, none⟩ = some (.pointer (some ⟨g, 0, none⟩))) (hlg : bl ≠ g)
    (hwf : V.wfs xs) (hbk : xs.length + V.bulks xs ≤ 4294967295) (hT : Tabs w) (hG : GlobN N) (hdeep : deep ≤ 1000) (hL : 0 ≤ L ∧ L ≤ 1000) :
    Calls Tryd.prog 57 #[va, .func (.func 46) #[] #[.pointer (some ⟨bd, 0, none⟩), .pointer (some ⟨bl, 0, none⟩)]] w fun e w' => (∃ r : Int, e = .returned (.int .i64 r) ∧ decide (0 ≤ r) = !vGoods (deep + 1) L xs) ∧ (∃ L' : Int, intBox w' g L' ∧ (vGoods (deep + 1) L xs = true → L' = L - V.nodess xs)) ∧ Keep (· = g) w w' := by
  have hN : N ≤ w.heap.size := by have := hbox.lt; omega
  have hng : ∀ k, k < N → ¬ k = g := by intro k hk e; omega
  have hz1 := hbd.lt
  have hz2 : bl < w.heap.size := cell_lt hbl
  have hlen : xs.length ≤ 4294967295 := by omega
  obtain ⟨a, c, rfl, hg⟩ := RepC.values h
  obtain ⟨ok, hok⟩ : ∃ ok, vGoods (deep + 1) L xs = ok := ⟨_, rfl⟩
  rw [hok]
  have HOK := Lib.hid hok; clear hok
  obtain ⟨hL1, hL2⟩ := hL
  go_enter Tryd.func57, Tryd.ntmps57
  go_wp2
  go_loopw [8] (fun i wr => ∃ (k : Nat), k ≤ xs.length ∧ i = .int .i64 k ∧ intBox wr g (L - V.nodess (xs.take k)) ∧ vGoods (deep + 1) L (xs.take k) = true ∧ Keep (· = g) w wr) (fun i _ => xs.length - (intOf i).toNat)
  case atStart => exact ⟨0, Nat.zero_le _, rfl, by simpa [V.nodess] using hbox, by simp [vGoods, V.rightsBy, V.nodess, hL1], Keep.refl _ _⟩
  case round =>
    obtain ⟨k, hk, rfl, hbx, hgd, hkp⟩ := hrel
    have HGD := Lib.hid hgd
    have hle : (V.nodess (xs.take k) : Int) ≤ L := by unfold vGoods at hgd; simp only [Bool.and_eq_true, decide_eq_true_eq] at hgd; exact hgd.2
    clear hgd
    by_cases hlt : k < xs.length
    · obtain ⟨_, _, b, o, rfl, hb, hcell⟩ := hg (by intro e; rw [e] at hlt; simp at hlt)
      obtain ⟨v0, v1, v2, v3, v4, hr, d0, d1, d2, d3, d4⟩ := hcell k hlt
      clear hcell hg
      obtain ⟨k1, k2, k3, s4, a6, n6, m6, hcs⟩ := V.formS hr
      simp only [List.cons.injEq, and_true] at hcs
      obtain ⟨rfl, rfl, rfl, rfl, rfl⟩ := hcs
      have hbN : b < w.heap.size := by omega
      have hbg' := hng b hb
      rw [← hkp.cell hbN hbg'] at d0 d1 d2 d3 d4
      have hi1 : (0 : Int) ≤ k := by omega
      have hi3 : (k : Int) < xs.length := by omega
      have hnk : xs[k].nodes ≤ n := Nat.le_trans (V.nodes_get xs k hlt) hn
      have HC := Lib.hid (isValue1_any hA xs[k] _ deep N g bd bl _ wr hnk (RdN.keep (N := N) hr hkp hN hng) hNg hbx (hbd.keep hkp hbg) (by rw [hkp.cell hz2 hlg]; exact hbl) (V.wfs_get hwf k hlt) (V.bulk_get' hbk k hlt) (hT.keep hG hkp hN hng) hG hdeep (by omega))
      have HSN := Lib.hid (vGoods_snoc (deep + 1) L xs k hlt HGD.out)
      have hns : V.nodess (xs.take (k + 1)) = V.nodess (xs.take k) + xs[k].nodes := by
        rw [List.take_succ_eq_append_getElem hlt]
        have hn : ∀ (ls : List V) (x : V), V.nodess (ls ++ [x]) = V.nodess ls + x.nodes := by
          intro ls x; induction ls with
          | nil => simp [V.nodess]
          | cons a ls ih => simp only [List.cons_append, V.nodess, ih]; omega
        exact hn _ _
      have HNS := Lib.hid hns
      clear hns hr hbx h hT hwf hbk hng hbox hbd hbl
      cases hgd : vGood (deep + 1) (L - V.nodess (xs.take k)) xs[k] with
      | true =>
        have HG := Lib.hid hgd; clear hgd
        go_wp2_with (go_at_call 46; refine HC.out.mono ?_; rw [HG.out]; rintro e w1 ⟨rfl, ⟨L', hbx1, hL'⟩, hk1⟩)
        go_roundw
        case rel => exact ⟨k + 1, by omega, by go_num, by rw [show L - (V.nodess (xs.take (k + 1)) : Int) = L' by rw [hL' trivial, HNS.out]; omega]; exact hbx1, by rw [HSN.out, HG.out], hkp.trans hk1⟩
        case measure => simp [intOf]; omega
      | false =>
        have HG := Lib.hid hgd; clear hgd
        have HF := Lib.hid (show ok = false by rw [← HOK.out]; exact vGoods_cut _ _ _ (k + 1) (by rw [HSN.out, HG.out]))
        go_wp2_with (go_at_call 46; refine HC.out.mono ?_; rw [HG.out]; rintro e w1 ⟨rfl, ⟨L', hbx1, hL'⟩, hk1⟩)
        go_ret
        exact ⟨⟨_, rfl, by rw [HF.out]; simp⟩, ⟨L', hbx1, fun hh => by rw [HF.out] at hh; cases hh⟩, hkp.trans hk1⟩
    · obtain rfl : k = xs.length := by omega
      have h1 := HGD.out
      rw [List.take_length] at h1 hbx
      have HF := Lib.hid (show ok = true by rw [← HOK.out]; exact h1)
      clear h1
      go_wp2
      go_ret
      exact ⟨⟨_, rfl, by rw [HF.out]; rfl⟩, ⟨_, hbx, fun _ => rfl⟩, hkp⟩

set_option maxHeartbeats 400000 in
theorem VIsC_of {n : Nat} (hA : VIsA n) : VIsC n := by
  intro xs va deep N g bd bl L w hn h hNg hbox hbd hbg hbl hlg hwf hbk hT hG hdeep hL
  have HC := Lib.hid (visIndex_any hA xs va deep N g bd bl L w hn h hNg hbox hbd hbg hbl hlg hwf hbk hT hG hdeep hL)
  go_enter Tryd.func45, Tryd.ntmps45
  go_wp2_with (go_at_call 57; refine HC.out.mono ?_; rintro e w1 ⟨⟨r, rfl, hr⟩, hL', hk1⟩; have HR := Lib.hid hr; clear hr)
  go_ret
  exact ⟨by rw [← HR.out]; rfl, hL', hk1⟩
theorem VIs_all : ∀ n, VIsA n
  | 0 => fun x cs deep N g L w hn => absurd x.nodes_pos (by omega)
  | n + 1 => VIsA_of (VIsC_of (VIs_all n))

set_option maxHeartbeats 400000 in
set_option maxRecDepth 10000 in
theorem valueOk_impl (x : V) (cs : List Value) (w : World) (h : Rd w x.d cs) (hwf : x.wf) (hbk : x.bulk ≤ 4294967295) (hT : Tabs w) :
    Calls Tryd.prog 13 #[.agg cs.toArray] w fun e w' => e = .returned (.bool x.ok) ∧ Below w.heap.size w w' := by
  obtain ⟨k, m, e, s, a2, n2, c2, rfl⟩ := V.form h
  obtain ⟨W0, hW0⟩ : ∃ W0, W0 = (w.alloc (.cells #[.int .i64 k, .int .i64 m, .int .i64 e, .string ⟨s.toArray⟩, .slice a2 n2 c2] 26)).alloc (.cells #[.int .i64 300] 3) := ⟨_, rfl⟩
  have HW := Lib.hid hW0
  have hA : Below w.heap.size w W0 := by rw [hW0]; exact ((Below.refl _ _).alloc (Nat.le_refl _) _).alloc (by simp) _
  have hbx : intBox W0 (w.heap.size + 1) 300 := by
    rw [hW0]
    have := heap_alloc_new (w.alloc (.cells #[.int .i64 k, .int .i64 m, .int .i64 e, .string ⟨s.toArray⟩, .slice a2 n2 c2] 26)) (.cells #[.int .i64 300] 3)
    simpa [intBox] using this
  have HC := Lib.hid (VIs_all x.nodes x _ 0 w.heap.size (w.heap.size + 1) 300 W0 (Nat.le_refl _) (h.rdN.below hA) (by omega) hbx hwf hbk (hT.below hA) ⟨hT.lt.1, hT.lt.2⟩ (by decide) (by decide))
  have hsz : W0.heap.size = w.heap.size + 2 := by rw [hW0]; simp
  clear hW0 h hbx
  go_enter Tryd.func13, Tryd.ntmps13
  go_wp2_with (go_at_call 29; rw [← HW.out]; refine HC.out.mono ?_; rintro e w1 ⟨rfl, _, hk1⟩)
  go_ret
  refine ⟨ret_bool ?_, hA.trans (hk1.below (by omega) (fun k hk e => by omega))⟩
  show vGood 0 300 x = _
  rw [← V.ok_impl]; unfold vGood; congr 1
  exact decide_eq_decide.2 (by omega)
end Go.Proofs.YthngfihpnfoppaaDoor

namespace Go.Proofs.YthngfihpnfoppaaDoor
open Go.RowKit

def PlI (n : Nat) : Prop := ∀ (x : V) (cs : List Value) (d : Int) (w : World), x.nodes ≤ n → Rd w x.d cs → x.wf → x.bulk ≤ 1048576 → V.rightBy pairsOk d x = true → PTab w →
  Calls Tryd.prog 15 #[.agg cs.toArray] w fun e w' => ∃ cs', e = .returned (.agg cs'.toArray) ∧ Below w.heap.size w w' ∧ Own w.heap.size w' x.plain.d cs'

set_option maxHeartbeats 1000000 in
set_option maxRecDepth 10000 in
theorem plain_leaf {k n e : Int} {s : List UInt8} {kids : List V} (cs : List Value) (w : World) (h : Rd w (V.d (.mk k n e s kids)) cs) (hk : kids = []) (h6 : k ≠ 6) (h7 : k ≠ 7) (h8 : k ≠ 8) (h9 : k ≠ 9) :
    Calls Tryd.prog 15 #[.agg cs.toArray] w fun e1 w' => ∃ cs', e1 = .returned (.agg cs'.toArray) ∧ Below w.heap.size w w' ∧ Own w.heap.size w' (V.plain (.mk k n e s kids)).d cs' := by
  obtain ⟨k', n', e', s', kids', v1, hm, rfl, hkids⟩ := V.lay h
  simp only [V.mk.injEq] at hm
  obtain ⟨rfl, rfl, rfl, rfl, rfl⟩ := hm
  subst hk
  obtain ⟨a, c, rfl⟩ := Rd.sl_form hkids
  simp only [V.plain, if_neg h6, if_neg h7, if_neg h8, if_neg h9]
  have g6 : (k == 6) = false := by simpa using h6
  have g7 : (k == 7) = false := by simpa using h7
  have g8 : (k == 8) = false := by simpa using h8
  have g9 : (k == 9) = false := by simpa using h9
  clear h hkids h6 h7 h8 h9
  simp only [V.ds, List.length_nil]
  go_enter Tryd.func15, Tryd.ntmps15
  go_wp2
  refine bodyPost_ret (v := .agg #[.int .i64 k, .int .i64 n, .int .i64 e, .string ⟨s.toArray⟩, .slice a 0 c]) ?_ rfl ⟨[.int .i64 k, .int .i64 n, .int .i64 e, .string ⟨s.toArray⟩, .slice a 0 c], rfl, ?_, ?_⟩
  · simp [results, Tryd.results15, go_sem]
  · exact ((Below.refl _ _).alloc (Nat.le_refl _) _).alloc (by simp) _
  · exact V.own ⟨[], by simp, by simp, by simp [TreeC, V.ds]⟩

set_option maxHeartbeats 1000000 in
set_option maxRecDepth 10000 in
theorem plain_bytes {n e : Int} {s : List UInt8} {kids : List V} (cs : List Value) (w : World) (h : Rd w (V.d (.mk 6 n e s kids)) cs) (hs : s.length ≤ 1048576) :
    Calls Tryd.prog 15 #[.agg cs.toArray] w fun e1 w' => ∃ cs', e1 = .returned (.agg cs'.toArray) ∧ Below w.heap.size w w' ∧ Own w.heap.size w' (V.plain (.mk 6 n e s kids)).d cs' := by
  obtain ⟨k', n', e', s', kids', v1, hm, rfl, hkids⟩ := V.lay h
  simp only [V.mk.injEq] at hm
  obtain ⟨rfl, rfl, rfl, rfl, rfl⟩ := hm
  obtain ⟨a, c, rfl⟩ := Rd.sl_form hkids
  rw [V.ds_length] at hkids ⊢
  simp only [V.plain, if_pos]
  have HH := fun W => Lib.hid (putHex_impl s W (by omega))
  clear h hkids
  go_enter Tryd.func15, Tryd.ntmps15
  go_wp2_with (go_at_call 30; refine (HH _).out.mono ?_; rintro e1 w2 ⟨rfl, hb2⟩; obtain ⟨hc2, hf2⟩ := bcell hb2; have hz2 := hb2.size; simp at hz2; have g5 : w.heap.size + 1 < w2.heap.size := (by omega); have f5 : ∀ i, w2.frozen? ⟨w.heap.size + 1, i, none⟩ = false := (by intro i; rw [hf2 _ _ (by simp)]; simp [go_sem]); have c0 : w2.cell? ⟨w.heap.size + 1, 0, none⟩ = some (.int .i64 0) := (by rw [hc2 _ _ (by simp)]; simp [go_sem]); have c1 : w2.cell? ⟨w.heap.size + 1, 1, none⟩ = some (.int .i64 0) := (by rw [hc2 _ _ (by simp)]; simp [go_sem]); have c2 : w2.cell? ⟨w.heap.size + 1, 2, none⟩ = some (.int .i64 0) := (by rw [hc2 _ _ (by simp)]; simp [go_sem]); have c3 : w2.cell? ⟨w.heap.size + 1, 3, none⟩ = some (.string ⟨#[]⟩) := (by rw [hc2 _ _ (by simp)]; simp [go_sem]); have c4 : w2.cell? ⟨w.heap.size + 1, 4, none⟩ = some (.slice none 0 0) := (by rw [hc2 _ _ (by simp)]; simp [go_sem]); clear hc2 hf2)
  refine bodyPost_ret (v := .agg #[.int .i64 5, .int .i64 0, .int .i64 0, .string ⟨(hexL s).toArray⟩, .slice none 0 0]) ?_ rfl ⟨[.int .i64 5, .int .i64 0, .int .i64 0, .string ⟨(hexL s).toArray⟩, .slice none 0 0], rfl, ?_, ?_⟩
  · simp [results, Tryd.results15, go_sem, c0, c1, c2, c3, c4]
  · iterate 5 (refine Below.setCell ?_ (by simp) _)
    exact below2 (((Below.refl _ _).alloc (Nat.le_refl _) _).alloc (by simp) _) hb2 (Nat.le_refl _)
  · exact V.own ⟨[], by simp, by simp, by simp [TreeC, V.ds]⟩

set_option maxHeartbeats 1000000 in
set_option maxRecDepth 10000 in
theorem plain_tag {m : Nat} (hA : PlI m) {n e : Int} {s : List UInt8} {kids : List V} (cs : List Value) (d : Int) (w : World) (hn : V.nodess kids ≤ m) (h : Rd w (V.d (.mk 9 n e s kids)) cs) (hwf : V.wf (.mk 9 n e s kids)) (hb : kids.length + V.bulks kids ≤ 1048576) (hr : V.rightBy pairsOk d (.mk 9 n e s kids) = true) (hT : PTab w) :
    Calls Tryd.prog 15 #[.agg cs.toArray] w fun e1 w' => ∃ cs', e1 = .returned (.agg cs'.toArray) ∧ Below w.heap.size w w' ∧ Own w.heap.size w' (V.plain (.mk 9 n e s kids)).d cs' := by
  obtain ⟨k', n', e', s', kids', v1, hm, rfl, hkids⟩ := V.lay h
  simp only [V.mk.injEq] at hm
  obtain ⟨rfl, rfl, rfl, rfl, rfl⟩ := hm
  obtain ⟨hkr, hself⟩ := V.right_at hr
  have h1 := V.self_nine hself
  obtain ⟨y, rfl⟩ : ∃ y, kids = [y] := by
    match kids, h1 with
    | [y], _ => exact ⟨y, rfl⟩
  obtain ⟨a, c, rfl, hg⟩ := hkids.values
  obtain ⟨_, _, b, o, rfl, hb0, hcell⟩ := hg (by simp)
  obtain ⟨v0, v1, v2, v3, v4, hr', d0, d1, d2, d3, d4⟩ := hcell 0 (by simp)
  simp only [List.getElem_cons_zero] at hr'
  obtain ⟨k1, k2, k3, s4, a5, n5, m5, hcs⟩ := V.form hr'
  simp only [List.cons.injEq, and_true] at hcs
  obtain ⟨rfl, rfl, rfl, rfl, rfl⟩ := hcs
  simp only [V.plain, V.plainHd, if_pos, if_neg (show ¬ (9 : Int) = 6 by decide)]
  simp only [Nat.zero_mul, Nat.add_zero] at d0 d1 d2 d3 d4
  have hA1 : Below w.heap.size w ((w.alloc (.cells #[.int .i64 9, .int .i64 n, .int .i64 e, .string ⟨s.toArray⟩, .slice (some ⟨b, o, none⟩) 1 c] 26)).alloc (.cells #[.int .i64 0, .int .i64 0, .int .i64 0, .string ⟨#[]⟩, .slice none 0 0] 26)) := ((Below.refl _ _).alloc (Nat.le_refl _) _).alloc (by simp) _
  have HC := Lib.hid (hA y _ (d - 1) _ (by simp only [V.nodess] at hn; omega) (hr'.below hA1) hwf.2.2.2.2.2.1 (by simp only [V.bulks, List.length_cons, List.length_nil] at hb; omega) (hkr y (by simp)) (hT.below hA1))
  have i1 : (0 : Int) < 1 := by decide
  clear h hkids hg hcell hr' hwf hb hr hT hkr hself hn h1 hA
  simp only [List.length_cons, List.length_nil]
  go_enter Tryd.func15, Tryd.ntmps15
  go_wp2_with (go_at_call 15; refine HC.out.mono ?_; rintro e1 w2 ⟨cs', rfl, hb2, hox⟩; obtain ⟨x0, x1, x2, x3, xa, xl, xc, rfl⟩ := V.form hox.rd; obtain ⟨hc2, hf2⟩ := bcell hb2; have hz2 := hb2.size; simp at hz2; have g5 : w.heap.size + 1 < w2.heap.size := (by omega); have f5 : ∀ i, w2.frozen? ⟨w.heap.size + 1, i, none⟩ = false := (by intro i; rw [hf2 _ _ (by simp)]; simp [go_sem]); have c0 : w2.cell? ⟨w.heap.size + 1, 0, none⟩ = some (.int .i64 0) := (by rw [hc2 _ _ (by simp)]; simp [go_sem]); have c1 : w2.cell? ⟨w.heap.size + 1, 1, none⟩ = some (.int .i64 0) := (by rw [hc2 _ _ (by simp)]; simp [go_sem]); have c2 : w2.cell? ⟨w.heap.size + 1, 2, none⟩ = some (.int .i64 0) := (by rw [hc2 _ _ (by simp)]; simp [go_sem]); have c3 : w2.cell? ⟨w.heap.size + 1, 3, none⟩ = some (.string ⟨#[]⟩) := (by rw [hc2 _ _ (by simp)]; simp [go_sem]); have c4 : w2.cell? ⟨w.heap.size + 1, 4, none⟩ = some (.slice none 0 0) := (by rw [hc2 _ _ (by simp)]; simp [go_sem]); clear hc2 hf2)
  refine bodyPost_ret (v := .agg #[.int .i64 x0, .int .i64 x1, .int .i64 x2, .string ⟨x3.toArray⟩, .slice xa xl xc]) ?_ rfl ⟨[.int .i64 x0, .int .i64 x1, .int .i64 x2, .string ⟨x3.toArray⟩, .slice xa xl xc], rfl, ?_, ?_⟩
  · simp [results, Tryd.results15, go_sem, c0, c1, c2, c3, c4]
  · iterate 5 (refine Below.setCell ?_ (by simp) _)
    exact below2 hA1 hb2 (Nat.le_refl _)
  · refine Own.mono (B := w.heap.size + 1 + 1) ?_ (by omega)
    iterate 5 (refine Own.setCell ?_ (by simp) _)
    simpa using hox
end Go.Proofs.YthngfihpnfoppaaDoor

/- What JSON holds of a right value: the program's plain, of lists. -/
namespace Go.Proofs.YthngfihpnfoppaaDoor
open Go.RowKit

set_option maxHeartbeats 2000000 in
set_option maxRecDepth 10000 in
theorem plain_list {m : Nat} (hA : PlI m) {n e : Int} {s : List UInt8} {kids : List V} (cs : List Value) (d : Int) (w : World) (hn : V.nodess kids ≤ m) (h : Rd w (V.d (.mk 7 n e s kids)) cs) (hwf : V.wf (.mk 7 n e s kids)) (hb : kids.length + V.bulks kids ≤ 1048576) (hr : V.rightBy pairsOk d (.mk 7 n e s kids) = true) (hT : PTab w) :
    Calls Tryd.prog 15 #[.agg cs.toArray] w fun e1 w' => ∃ cs', e1 = .returned (.agg cs'.toArray) ∧ Below w.heap.size w w' ∧ Own w.heap.size w' (V.plain (.mk 7 n e s kids)).d cs' := by
  obtain ⟨k', n', e', s', kids', v1, hm, rfl, hkids⟩ := V.lay h
  simp only [V.mk.injEq] at hm
  obtain ⟨rfl, rfl, rfl, rfl, rfl⟩ := hm
  obtain ⟨hkr, hself⟩ := V.right_at hr
  obtain ⟨a, c, rfl, hg⟩ := hkids.values
  have HPL := Lib.hid (show V.plain (.mk 7 n e s kids) = .mk 7 0 0 [] (V.plains kids) by simp [V.plain])
  rw [HPL.out]
  have hkw : V.wfs kids := hwf.2.2.2.2.2
  obtain ⟨B, hBd⟩ : ∃ B, B = w.heap.size + 3 := ⟨_, rfl⟩
  obtain ⟨W0, hW0⟩ : ∃ W0, W0 = (((w.alloc (.cells #[.int .i64 7, .int .i64 n, .int .i64 e, .string ⟨s.toArray⟩, .slice a kids.length c] 26)).alloc (.cells #[.int .i64 0, .int .i64 0, .int .i64 0, .string ⟨#[]⟩, .slice none 0 0] 26)).alloc (.cells #[.int .i64 7, .int .i64 0, .int .i64 0, .string ⟨#[]⟩, .slice none 0 0] 26)) := ⟨_, rfl⟩
  have HW := Lib.hid hW0
  have hA0 : Below w.heap.size w W0 := by rw [hW0]; exact (((Below.refl _ _).alloc (Nat.le_refl _) _).alloc (by simp) _).alloc (by simp <;> omega) _
  have hz : W0.heap.size = B := by rw [hW0, hBd]; simp
  have hbox : valBox W0 (w.heap.size + 1 + 1) 7 0 0 [] (.slice none 0 0) := by
    rw [hW0]
    have := valBox.new (w := (w.alloc (.cells #[.int .i64 7, .int .i64 n, .int .i64 e, .string ⟨s.toArray⟩, .slice a kids.length c] 26)).alloc (.cells #[.int .i64 0, .int .i64 0, .int .i64 0, .string ⟨#[]⟩, .slice none 0 0] 26)) (k := 7) (n := 0) (e := 0) (s := []) (v := .slice none 0 0)
    simpa using this
  have hres : valBox W0 (w.heap.size + 1) 0 0 0 [] (.slice none 0 0) := by
    rw [hW0]
    have := (valBox.new (w := w.alloc (.cells #[.int .i64 7, .int .i64 n, .int .i64 e, .string ⟨s.toArray⟩, .slice a kids.length c] 26)) (k := 0) (n := 0) (e := 0) (s := []) (v := .slice none 0 0)).alloc (.cells #[.int .i64 7, .int .i64 0, .int .i64 0, .string ⟨#[]⟩, .slice none 0 0] 26)
    simpa using this
  have hsb : w.heap.size + 1 + 1 < B := by omega
  have hB3 : B ≤ w.heap.size + 3 := by omega
  clear hW0 h hwf hself hr hBd
  have HG := Lib.hid hg
  clear hg
  go_enter Tryd.func15, Tryd.ntmps15
  go_wp2_with fail
  rw [← HW.out]
  go_loopw [31] (fun i wr => ∃ (j : Nat) (v : Value), j ≤ kids.length ∧ i = .int .i64 j ∧ OwnSl B wr 26 5 v (V.ds (V.plains (kids.take j))) ∧ valBox wr (w.heap.size + 1 + 1) 7 0 0 [] v ∧ Keep (· = w.heap.size + 1 + 1) W0 wr) (fun i _ => kids.length - (intOf i).toNat)
  case atStart => exact ⟨0, _, Nat.zero_le _, rfl, by simpa [V.plains, V.ds] using OwnSl.nil, hbox, Keep.refl _ _⟩
  case round =>
    obtain ⟨j, v, hj, rfl, hown, hbx, hkp⟩ := hrel
    obtain ⟨av, cv, rfl⟩ := hown.form
    have hdl : (V.ds (V.plains (kids.take j))).length = j := by rw [V.ds_length, V.plains_length, List.length_take]; omega
    rw [hdl] at hown hbx
    have hsz := hkp.size
    obtain ⟨q0, q1, q2, q3, q4⟩ := hbx.cells
    have qf := hbx.free 4
    by_cases hlt : j < kids.length
    · obtain ⟨_, _, b, o, rfl, hb0, hcell⟩ := HG.out (by intro e; rw [e] at hlt; simp at hlt)
      obtain ⟨v0, v1, v2, v3, v4, hr, d0, d1, d2, d3, d4⟩ := hcell j hlt
      obtain ⟨k1, k2, k3, s4, a5, n5, m5, hcs⟩ := V.form hr
      simp only [List.cons.injEq, and_true] at hcs
      obtain ⟨rfl, rfl, rfl, rfl, rfl⟩ := hcs
      have hbw : Below w.heap.size w wr := hA0.trans (hkp.below (by omega) (fun k hk e => by omega))
      have hbc := (bcell hbw).1
      rw [← hbc _ _ hb0] at d0 d1 d2 d3 d4
      have i1 : (0 : Int) ≤ j := by omega
      have i2 : (j : Int) < kids.length := by omega
      have hn1 := V.nodes_get kids j hlt
      have hb1 := V.bulk_getB hb j hlt
      have hal : Below wr.heap.size wr (wr.alloc (.cells #[.int .i64 k1, .int .i64 k2, .int .i64 k3, .string ⟨s4.toArray⟩, .slice a5 n5 m5] 26)) := (Below.refl _ _).alloc (Nat.le_refl _) _
      have HC := fun W (hW : Below wr.heap.size wr W) => Lib.hid (hA kids[j] _ (d - 1) W (Nat.le_trans hn1 hn) ((hr.below hbw).below hW) (V.wfs_get hkw j hlt) hb1 (hkr _ (List.getElem_mem hlt)) (hT.below (below2 hbw hW (Nat.le_refl _))))
      have HS := Lib.hid (show V.ds (V.plains (kids.take (j + 1))) = V.ds (V.plains (kids.take j)) ++ [(V.plain kids[j]).d] by rw [V.plains_take kids j hlt, V.ds_map, V.ds_map, List.map_append]; rfl)
      clear hbc hr hn1 hb1 hcell hkids
      have KW : Hid (∀ W, Below (wr.heap.size + 1) (wr.alloc (.cells #[.int .i64 k1, .int .i64 k2, .int .i64 k3, .string ⟨s4.toArray⟩, .slice a5 n5 m5] 26)) W → (W.cell? ⟨w.heap.size + 1 + 1, 4, none⟩ = some (.slice av j cv) ∧ W.frozen? ⟨w.heap.size + 1 + 1, 4, none⟩ = false) ∧ (W.cell? ⟨wr.heap.size, 0, none⟩ = some (.int .i64 k1) ∧ W.cell? ⟨wr.heap.size, 1, none⟩ = some (.int .i64 k2) ∧ W.cell? ⟨wr.heap.size, 2, none⟩ = some (.int .i64 k3) ∧ W.cell? ⟨wr.heap.size, 3, none⟩ = some (.string ⟨s4.toArray⟩) ∧ W.cell? ⟨wr.heap.size, 4, none⟩ = some (.slice a5 n5 m5))) := by
        intro W hW
        have b1 := (hbx.alloc (.cells #[.int .i64 k1, .int .i64 k2, .int .i64 k3, .string ⟨s4.toArray⟩, .slice a5 n5 m5] 26)).below hW (by omega)
        have b2 := (valBox.new (w := wr) (k := k1) (n := k2) (e := k3) (s := s4) (v := .slice a5 n5 m5)).below hW (by omega)
        exact ⟨⟨b1.cells.2.2.2.2, b1.free 4⟩, b2.cells⟩
      obtain ⟨WB, hWB⟩ : ∃ WB, WB = wr.alloc (.cells #[.int .i64 k1, .int .i64 k2, .int .i64 k3, .string ⟨s4.toArray⟩, .slice a5 n5 m5] 26) := ⟨_, rfl⟩
      have HWB := Lib.hid hWB
      have hzB : WB.heap.size = wr.heap.size + 1 := by rw [hWB]; simp
      rw [← hWB] at KW hal
      clear hWB
      go_wp2_with fail
      rw [← HWB.out]
      have hE := Below.refl (wr.heap.size + 1) WB
      obtain ⟨⟨p4, pf⟩, r0, r1, r2, r3, r4⟩ := KW.out _ hE
      go_region_law (first | (rw [if_pos (by rfl)]; go_simp; go_at_call 15; refine (HC _ (by first | exact hal | exact hal.drew)).out.mono ?_; rintro e1 w1 ⟨cs', rfl, hb1, hox⟩; obtain ⟨x0, x1, x2, x3, xa, xl, xc, rfl⟩ := V.form hox.rd; obtain ⟨⟨p4', pf'⟩, r0', r1', r2', r3', r4'⟩ := KW.out _ (hE.drew.trans (hb1.mono (by simp; omega))); have hz9 : w.heap.size + 1 + 1 < w1.heap.size := (by have h1 := hb1.size; simp only [World.drew] at h1; omega)) | (refine step_appD tyVi rfl rfl B hown (below2 (by first | exact hal | exact hal.drew) hb1 (Nat.le_refl _)) (by omega) (Owns.of1 (hox.mono (by first | exact hal.size | exact hal.drew.size))) (by intro d hd; simp at hd; subst hd; exact V.width _) (by simp) (V.cells_one hox.rd) rfl 1 rfl (by rw [hdl]; simp; omega) (by decide) ?_; intro g cap w2 hown2 hbel2; have hbx2 := hbx.below hbel2 hsb; have p9 := hbx2.cells.2.2.2.2; have f9 := hbx2.free 4))
      all_goals
        rw [hdl] at hown2
        go_wp2
        go_roundw
        case rel => exact ⟨j + 1, _, by omega, by go_num, by rw [HS.out]; exact hown2.setCell (p := ⟨w.heap.size + 1 + 1, 4, none⟩) hsb _, hbx2.set4 _, (hkp.belowB hbel2 (by omega)).setCell (.inl rfl) _⟩
        case measure => simp [intOf]; omega
    · obtain rfl : j = kids.length := by omega
      rw [List.take_length] at hown
      have hbr := hres.same (hkp.block _ hres.lt (by omega))
      obtain ⟨c0, c1, c2, c3, c4⟩ := hbr.cells
      have f5 := hbr.free
      have hbw : Below w.heap.size w wr := hA0.trans (hkp.below (by omega) (fun k hk e => by omega))
      have hz1 : w.heap.size + 1 < wr.heap.size := hbr.lt
      clear hbx hkp hkids HG hres hbox
      go_wp2
      refine bodyPost_ret (v := .agg #[.int .i64 7, .int .i64 0, .int .i64 0, .string ⟨#[]⟩, .slice av kids.length cv]) ?_ rfl ⟨[.int .i64 7, .int .i64 0, .int .i64 0, .string ⟨#[]⟩, .slice av kids.length cv], rfl, ?_, ?_⟩
      · simp [results, Tryd.results15, go_sem, c0, c1, c2, c3, c4]
      · iterate 5 (refine Below.setCell ?_ (by simp) _)
        exact hbw
      · refine Own.mono (B := B) ?_ (by omega)
        iterate 5 (refine Own.setCell ?_ (by simp; omega) _)
        have := V.own (k := 7) (m := 0) (e := 0) (s := []) (hown.own (by decide))
        exact this
end Go.Proofs.YthngfihpnfoppaaDoor

/- What JSON holds of a right value: the program's plain, of maps. -/
namespace Go.Proofs.YthngfihpnfoppaaDoor
open Go.RowKit

/-- a pair in a row of pairs -/
theorem RepC.pair {S : Nat → Prop} {w : World} {xs : List V} {v : Value} (h : RepC S w (.sl 10 (pairsD xs)) [v]) : ∃ a c, v = .slice a (xs.length / 2) c ∧ ∀ j (hj : 2 * j + 1 < xs.length), ∃ b o v0 v1 v2 v3 v4 u0 u1 u2 u3 u4, a = some ⟨b, o, none⟩ ∧ S b ∧
    RepC S w (xs[2 * j]'(by omega)).d [v0, v1, v2, v3, v4] ∧ RepC S w xs[2 * j + 1].d [u0, u1, u2, u3, u4] ∧
    w.cell? ⟨b, o + j * 10, none⟩ = some v0 ∧ w.cell? ⟨b, o + j * 10 + 1, none⟩ = some v1 ∧ w.cell? ⟨b, o + j * 10 + 2, none⟩ = some v2 ∧ w.cell? ⟨b, o + j * 10 + 3, none⟩ = some v3 ∧ w.cell? ⟨b, o + j * 10 + 4, none⟩ = some v4 ∧
    w.cell? ⟨b, o + j * 10 + 5, none⟩ = some u0 ∧ w.cell? ⟨b, o + j * 10 + 6, none⟩ = some u1 ∧ w.cell? ⟨b, o + j * 10 + 7, none⟩ = some u2 ∧ w.cell? ⟨b, o + j * 10 + 8, none⟩ = some u3 ∧ w.cell? ⟨b, o + j * 10 + 9, none⟩ = some u4 := by
  obtain ⟨a, c, rfl, hg⟩ := RepC.slice h
  rw [pairsD_length]
  refine ⟨a, c, rfl, fun j hj => ?_⟩
  have hne : pairsD xs ≠ [] := by intro e; have := congrArg List.length e; rw [pairsD_length] at this; simp at this; omega
  obtain ⟨_, _, _, b, o, rfl, hb, hcell⟩ := hg hne
  obtain ⟨cs, hl, hr, hc⟩ := hcell j (by rw [pairsD_length]; omega)
  rw [pairsD_get xs j hj] at hr
  simp only [RepC, RepCs] at hr
  obtain ⟨c1, c2, rfl, l1, h1, c3, c4, rfl, l3, h3, rfl⟩ := hr
  rw [V.width] at l1 l3
  match c1, l1, c3, l3 with
  | [v0, v1, v2, v3, v4], _, [u0, u1, u2, u3, u4], _ =>
    rw [Nat.mul_comm 10 j] at hc
    exact ⟨b, o, v0, v1, v2, v3, v4, u0, u1, u2, u3, u4, rfl, hb, h1, h3, hc 0 _ rfl, hc 1 _ rfl, hc 2 _ rfl, hc 3 _ rfl, hc 4 _ rfl, hc 5 _ rfl, hc 6 _ rfl, hc 7 _ rfl, hc 8 _ rfl, hc 9 _ rfl⟩
/-- the box of a pair -/
def pairBox (w : World) (g : Nat) (cs : List Value) : Prop := w.heap[g]? = some (.cells cs.toArray 53 (0, 0))
theorem pairBox.cell {w : World} {g : Nat} {cs : List Value} (h : pairBox w g cs) (i : Nat) (u : Value) (hu : cs[i]? = some u) : w.cell? ⟨g, i, none⟩ = some u := by rw [cell_of_block h]; simpa using hu

theorem pairBox.below {B : Nat} {w w' : World} {g : Nat} {cs : List Value} (h : pairBox w g cs) (hb : Below B w w') (hg : g < B) : pairBox w' g cs := (hb.block g hg).trans h
theorem valBox.fill {w : World} {g : Nat} {k n e : Int} {s : List UInt8} {v : Value} (h : valBox w g k n e s v) (k' n' e' : Int) (s' : List UInt8) (v' : Value) :
    valBox (((((w.setCell ⟨g, 0, none⟩ (.int .i64 k')).setCell ⟨g, 1, none⟩ (.int .i64 n')).setCell ⟨g, 2, none⟩ (.int .i64 e')).setCell ⟨g, 3, none⟩ (.string ⟨s'.toArray⟩)).setCell ⟨g, 4, none⟩ v') g k' n' e' s' v' := by
  have h0 := heap_setCell_at (o := 0) h (.int .i64 k')
  have h1 := heap_setCell_at (o := 1) h0 (.int .i64 n')
  have h2 := heap_setCell_at (o := 2) h1 (.int .i64 e')
  have h3 := heap_setCell_at (o := 3) h2 (.string ⟨s'.toArray⟩)
  exact heap_setCell_at (o := 4) h3 v'

set_option maxHeartbeats 4000000 in
set_option maxRecDepth 10000 in
theorem plain_map {m : Nat} (hA : PlI m) {n e : Int} {s : List UInt8} {kids : List V} (cs : List Value) (d : Int) (w : World) (hn : V.nodess kids ≤ m) (h : Rd w (V.d (.mk 8 n e s kids)) cs) (hwf : V.wf (.mk 8 n e s kids)) (hb : kids.length + V.bulks kids ≤ 1048576) (hr : V.rightBy pairsOk d (.mk 8 n e s kids) = true) (hT : PTab w) :
    Calls Tryd.prog 15 #[.agg cs.toArray] w fun e1 w' => ∃ cs', e1 = .returned (.agg cs'.toArray) ∧ Below w.heap.size w w' ∧ Own w.heap.size w' (V.plain (.mk 8 n e s kids)).d cs' := by
  have h00 := h
  obtain ⟨k', n', e', s', kids', v1, hm, rfl, hkids⟩ := V.lay h
  simp only [V.mk.injEq] at hm
  obtain ⟨rfl, rfl, rfl, rfl, rfl⟩ := hm
  obtain ⟨hkr, hself⟩ := V.right_at hr
  obtain ⟨e1', e2', e3', heven, hkeys⟩ := V.self_eight hself
  clear e1' e2' e3'
  obtain ⟨a, c, rfl⟩ := Rd.sl_form hkids
  rw [V.ds_length] at hkids h00 ⊢
  obtain ⟨tot, htot⟩ : ∃ tot, V.plainM [] kids = tot := ⟨_, rfl⟩
  have HPL := Lib.hid (show V.plain (.mk 8 n e s kids) = .mk 8 0 0 [] tot by simp [V.plain, htot])
  rw [HPL.out]
  have hkw : V.wfs kids := hwf.2.2.2.2.2
  obtain ⟨W0, hW0⟩ : ∃ W0, W0 = (((w.alloc (.cells #[.int .i64 8, .int .i64 n, .int .i64 e, .string ⟨s.toArray⟩, .slice a kids.length c] 26)).alloc (.cells #[.int .i64 0, .int .i64 0, .int .i64 0, .string ⟨#[]⟩, .slice none 0 0] 26)).alloc (.cells #[.int .i64 8, .int .i64 0, .int .i64 0, .string ⟨#[]⟩, .slice none 0 0] 26)) := ⟨_, rfl⟩
  have HW := Lib.hid hW0
  have hA0 : Below w.heap.size w W0 := by rw [hW0]; exact (((Below.refl _ _).alloc (Nat.le_refl _) _).alloc (by simp) _).alloc (by simp <;> omega) _
  have hz : W0.heap.size = w.heap.size + 3 := by rw [hW0]; simp
  have hbox : valBox W0 (w.heap.size + 1 + 1) 8 0 0 [] (.slice none 0 0) := by
    rw [hW0]
    have := valBox.new (w := (w.alloc (.cells #[.int .i64 8, .int .i64 n, .int .i64 e, .string ⟨s.toArray⟩, .slice a kids.length c] 26)).alloc (.cells #[.int .i64 0, .int .i64 0, .int .i64 0, .string ⟨#[]⟩, .slice none 0 0] 26)) (k := 8) (n := 0) (e := 0) (s := []) (v := .slice none 0 0)
    simpa using this
  have hres : valBox W0 (w.heap.size + 1) 0 0 0 [] (.slice none 0 0) := by
    rw [hW0]
    have := (valBox.new (w := w.alloc (.cells #[.int .i64 8, .int .i64 n, .int .i64 e, .string ⟨s.toArray⟩, .slice a kids.length c] 26)) (k := 0) (n := 0) (e := 0) (s := []) (v := .slice none 0 0)).alloc (.cells #[.int .i64 8, .int .i64 0, .int .i64 0, .string ⟨#[]⟩, .slice none 0 0] 26)
    simpa using this
  have hbx0 : valBox W0 w.heap.size 8 n e s (.slice a kids.length c) := by
    rw [hW0]
    exact ((valBox.new (w := w)).alloc _).alloc _
  obtain ⟨b0, b1, b2, b3, b4⟩ := hbx0.cells
  have HP := Lib.hid (pairsOf_any w.heap.size (.mk 8 n e s kids) _ W0 (RepC.frame (fun b hlt => hA0.block b hlt) h00) hA0.size (by simp only [V.kids]; omega))
  clear hW0 h h00 hwf hself hr hbx0
  go_enter Tryd.func15, Tryd.ntmps15
  go_wp2_with fail
  rw [← HW.out]
  go_wp2_with (go_at_call 31; refine HP.out.mono ?_; rintro e1 WP ⟨vp, rfl, hbp, hpr⟩; obtain ⟨pa, pc, rfl, hpg⟩ := RepC.pair hpr)
  clear b0 b1 b2 b3 b4 hpr
  simp only [V.kids] at hpg ⊢
  have HPG := Lib.hid hpg
  have hzP := hbp.size
  obtain ⟨B, hBd⟩ : ∃ B, B = WP.heap.size := ⟨_, rfl⟩
  have hbox1 := hbox.below hbp hbox.lt
  have hres1 := hres.below hbp hres.lt
  have hsb : w.heap.size + 1 + 1 < B := by omega
  have hAP : Below w.heap.size w WP := below2 hA0 hbp (Nat.le_refl _)
  have hBP : B ≤ WP.heap.size := by omega
  have hBP2 : WP.heap.size ≤ B := by omega
  clear hpg hBd hbox hres
  go_loopw [50] (fun i wr => ∃ (j : Nat) (v : Value) (acc : List V), j ≤ kids.length / 2 ∧ i = .int .i64 j ∧ OwnSl B wr 26 5 v (V.ds acc) ∧ V.plainM acc (kids.drop (2 * j)) = tot ∧ acc.length ≤ 2 * j ∧ valBox wr (w.heap.size + 1 + 1) 8 0 0 [] v ∧ Keep (· = w.heap.size + 1 + 1) WP wr) (fun i _ => kids.length - (intOf i).toNat)
  case atStart => exact ⟨0, _, [], Nat.zero_le _, rfl, by simpa [V.ds] using OwnSl.nil, by simpa using htot, by simp, hbox1, Keep.refl _ _⟩
  case round =>
    obtain ⟨j, v, acc, hj, rfl, hown, hpm, hal, hbx, hkp⟩ := hrel
    obtain ⟨av, cv, rfl⟩ := hown.form
    rw [V.ds_length] at hown hbx
    have hsz := hkp.size
    have HPM := Lib.hid hpm
    by_cases hlt : j < kids.length / 2
    · have hlt2 : 2 * j + 1 < kids.length := by omega
      have hlt1 : 2 * j < kids.length := by omega
      obtain ⟨bp, op, v0, v1, v2, v3, v4, u0', u1', u2', u3', u4', rfl, hbp9, hrx, hry, d0, d1, d2, d3, d4, d5, d6, d7, d8, d9⟩ := HPG.out j hlt2
      obtain ⟨k1, k2, k3, s4, a5, n5, m5, hcs⟩ := V.formS hrx
      simp only [List.cons.injEq, and_true] at hcs
      obtain ⟨rfl, rfl, rfl, rfl, rfl⟩ := hcs
      obtain ⟨l1, l2, l3, t4, b5, r5, z5, hcs⟩ := V.formS hry
      simp only [List.cons.injEq, and_true] at hcs
      obtain ⟨rfl, rfl, rfl, rfl, rfl⟩ := hcs
      have hkc : ∀ b o, b < WP.heap.size → b ≠ w.heap.size + 1 + 1 → wr.cell? ⟨b, o, none⟩ = WP.cell? ⟨b, o, none⟩ := fun b o h1 h2 => hkp.cell h1 h2
      have hbn : bp ≠ w.heap.size + 1 + 1 := by rintro rfl; rcases hbp9 with h | h <;> omega
      have hbp8 : bp < WP.heap.size := cell_lt d0
      have hfr : ∀ {d : D} {cs : List Value}, RepC (fun b => b < w.heap.size ∨ W0.heap.size ≤ b) WP d cs → Rd wr d cs := fun h => Rd.of (RepC.frame (S := fun b => b < WP.heap.size ∧ b ≠ w.heap.size + 1 + 1) (fun b hb => hkp.block b hb.1 hb.2) (RepC.mono (fun b h1 h2 => ⟨h1, by omega⟩) h))
      replace hrx := hfr hrx
      replace hry := hfr hry
      rw [← hkc _ _ hbp8 hbn] at d0 d1 d2 d3 d4 d5 d6 d7 d8 d9
      have hbw : Below w.heap.size w wr := hAP.trans (hkp.below (by omega) (fun k hk e => by omega))
      have hbq : bp < wr.heap.size := by omega
      have hs9 : w.heap.size + 1 + 1 < wr.heap.size := by omega
      clear hfr
      have i1 : (0 : Int) ≤ j := by omega
      have i2 : (j : Int) < ((kids.length / 2 : Nat) : Int) := by omega
      clear hkc
      have hkf := V.key_form (hkr _ (List.getElem_mem hlt1)) (hkeys j hlt1)
      have hkw1 := V.wfs_get hkw (2 * j) hlt1
      obtain ⟨kt, hkt⟩ : ∃ kt, keyV kids[2 * j] = V.mk 5 0 0 kt [] := by rcases hkf with ⟨-, kn, hxk⟩ | ⟨s4, hxk⟩ <;> rw [hxk] <;> exact ⟨_, rfl⟩
      have HKV := Lib.hid hkt
      clear hkt
      obtain ⟨WB, hWB⟩ : ∃ WB, WB = (wr.alloc (.cells #[.int .i64 k1, .int .i64 k2, .int .i64 k3, .string ⟨s4.toArray⟩, .slice a5 n5 m5, .int .i64 l1, .int .i64 l2, .int .i64 l3, .string ⟨t4.toArray⟩, .slice b5 r5 z5] 53)).alloc (.cells #[.int .i64 k1, .int .i64 k2, .int .i64 k3, .string ⟨s4.toArray⟩, .slice a5 n5 m5] 26) := ⟨_, rfl⟩
      have HWB := Lib.hid hWB
      have hzB : WB.heap.size = wr.heap.size + 2 := by rw [hWB]; simp
      have halB : Below wr.heap.size wr WB := by rw [hWB]; exact ((Below.refl _ _).alloc (Nat.le_refl _) _).alloc (by simp) _
      have ho1 : valBox WB (w.heap.size + 1 + 1) 8 0 0 [] (.slice av acc.length cv) := hbx.below halB (by omega)
      have hk0 : valBox WB (wr.heap.size + 1) k1 k2 k3 s4 (.slice a5 n5 m5) := by rw [hWB]; have := valBox.new (w := wr.alloc (.cells #[.int .i64 k1, .int .i64 k2, .int .i64 k3, .string ⟨s4.toArray⟩, .slice a5 n5 m5, .int .i64 l1, .int .i64 l2, .int .i64 l3, .string ⟨t4.toArray⟩, .slice b5 r5 z5] 53)) (k := k1) (n := k2) (e := k3) (s := s4) (v := .slice a5 n5 m5); simpa using this
      have hp1 : pairBox WB wr.heap.size [.int .i64 k1, .int .i64 k2, .int .i64 k3, .string ⟨s4.toArray⟩, .slice a5 n5 m5, .int .i64 l1, .int .i64 l2, .int .i64 l3, .string ⟨t4.toArray⟩, .slice b5 r5 z5] := by rw [hWB]; unfold pairBox; rw [Below.heap_alloc _ _ _ (by simp)]; exact heap_alloc_new _ _
      clear hWB
      obtain ⟨q0, q1, q2, q3, q4⟩ := hbx.cells
      go_upto_if 58 with fail
      rw [← HWB.out]
      clear q0 q1 q2 q3 q4
      go_cut [9] (fun s9 wx => s9 = .pointer (some ⟨wr.heap.size + 1, 0, none⟩) ∧ Below wr.heap.size wr wx ∧ wr.heap.size + 2 ≤ wx.heap.size ∧ valBox wx (w.heap.size + 1 + 1) 8 0 0 [] (.slice av acc.length cv) ∧ pairBox wx wr.heap.size [.int .i64 k1, .int .i64 k2, .int .i64 k3, .string ⟨s4.toArray⟩, .slice a5 n5 m5, .int .i64 l1, .int .i64 l2, .int .i64 l3, .string ⟨t4.toArray⟩, .slice b5 r5 z5] ∧ ∃ ea ec, valBox wx (wr.heap.size + 1) 5 0 0 kt (.slice ea 0 ec))
      case first =>
        rcases hkf with ⟨-, kn, hxk⟩ | ⟨s4', hxk⟩
        · rw [hxk] at hrx hkw1
          obtain ⟨k', n', e', s', kids', v1, hm, hcs, hk9⟩ := V.lay hrx
          simp only [V.mk.injEq] at hm
          obtain ⟨rfl, rfl, rfl, rfl, rfl⟩ := hm
          simp only [List.cons.injEq, and_true, Value.int.injEq, Value.string.injEq, true_and] at hcs
          obtain ⟨h1, h2, h3, h4, rfl⟩ := hcs
          subst h1; subst h2; subst h3
          have hkn : i64ok k2 := hkw1.2.1
          obtain rfl : kt = Lib.itoa k2 := by have := HKV.out; rw [hxk] at this; simp only [keyV] at this; simp [V.kind, V.num] at this; exact this.symm
          have HDT := Lib.hid (decText_impl k2 WB hkn (hT.below (below2 hbw halB (Nat.le_refl _))).2)
          obtain ⟨m0, m1, m2, m3, m4⟩ := hk0.cells
          obtain ⟨WK, hWK⟩ : ∃ f : World → World, f = fun W3 => ((((W3.setCell ⟨wr.heap.size + 1, 0, none⟩ (.int .i64 5)).setCell ⟨wr.heap.size + 1, 1, none⟩ (.int .i64 0)).setCell ⟨wr.heap.size + 1, 2, none⟩ (.int .i64 0)).setCell ⟨wr.heap.size + 1, 3, none⟩ (.string ⟨(Lib.itoa k2).toArray⟩)).setCell ⟨wr.heap.size + 1, 4, none⟩ (.slice none 0 0) := ⟨_, rfl⟩
          go_wp2_with (go_at_call 32; refine HDT.out.mono ?_; rintro e1 W3 ⟨rfl, hb3⟩; have hk3 := hk0.below hb3 (by omega); obtain ⟨m0, m1, m2, m3, m4⟩ := hk3.cells; have mf := hk3.free; have hz3 := hb3.size; have g9 : wr.heap.size + 1 < W3.heap.size := (by omega); have ho3 := ho1.below hb3 (by omega); have hp3 := pairBox.below hp1 hb3 (by omega))
          have hbS : Below wr.heap.size W3 (WK W3) := by rw [hWK]; refine Below.setCell ?_ (by simp) _; refine Below.setCell ?_ (by simp) _; refine Below.setCell ?_ (by simp) _; refine Below.setCell ?_ (by simp) _; refine Below.setCell ?_ (by simp) _; exact Below.refl _ _
          have hbS1 : Below (wr.heap.size + 1) W3 (WK W3) := by rw [hWK]; refine Below.setCell ?_ (by simp) _; refine Below.setCell ?_ (by simp) _; refine Below.setCell ?_ (by simp) _; refine Below.setCell ?_ (by simp) _; refine Below.setCell ?_ (by simp) _; exact Below.refl _ _
          have HWK := Lib.hid (congrFun hWK W3)
          rw [← HWK.out]
          have hzS := hbS.size
          go_meet
          exact ⟨rfl, (below2 halB hb3 (Nat.le_refl _)).trans hbS, by omega, ho3.below hbS hs9, pairBox.below hp3 hbS1 (by omega), _, _, by rw [hWK]; exact hk3.fill _ _ _ _ _⟩
        · rw [hxk] at hrx hkw1
          obtain ⟨k', n', e', s', kids', v1, hm, hcs, hk9⟩ := V.lay hrx
          simp only [V.mk.injEq] at hm
          obtain ⟨rfl, rfl, rfl, rfl, rfl⟩ := hm
          simp only [List.cons.injEq, and_true, Value.int.injEq, Value.string.injEq, true_and] at hcs
          obtain ⟨h1, h2, h3, h4, rfl⟩ := hcs
          subst h1; subst h2; subst h3
          obtain rfl : s4 = s4' := by simpa using h4
          obtain ⟨ea, ec, he⟩ := Rd.sl_form hk9
          simp only [V.ds, List.length_nil, Value.slice.injEq] at he
          obtain ⟨e1, e2, e3⟩ := he
          subst e2
          obtain rfl : kt = s4 := by have := HKV.out; rw [hxk] at this; simp only [keyV] at this; simp [V.kind] at this; exact this.symm
          obtain ⟨m0, m1, m2, m3, m4⟩ := hk0.cells
          go_wp2_with fail
          go_meet
          exact ⟨rfl, halB, by omega, ho1, hp1, _, _, hk0⟩
      case rest =>
        obtain ⟨rfl, halK, hzK, hoK, hpK, ea, ec, hkK⟩ := hcut
        clear ho1 hp1 halB hzB HWB hbx hk0 hkf hkw1 hrx
        obtain ⟨q0, q1, q2, q3, q4⟩ := hoK.cells
        obtain ⟨m0, m1, m2, m3, m4⟩ := hkK.cells
        have HFD := Lib.hid (find_any (.mk 8 0 0 [] acc) _ kt wc ((V.own (k := 8) (m := 0) (e := 0) (s := []) (hown.own (by decide))).rd.below halK) rfl (by simp only [V.kids]; omega))
        simp only [V.kids] at HFD
        obtain ⟨mf, hmf⟩ : ∃ mf, mfind acc kt 0 = mf := ⟨_, rfl⟩
        rw [hmf] at HFD
        by_cases hf : mf < 0
        · have HPUT := Lib.hid (show putV acc kids[2 * j] (V.plain kids[2 * j + 1]) = acc ++ [V.mk 5 0 0 kt [], V.plain kids[2 * j + 1]] by unfold putV; rw [HKV.out]; exact if_pos (show mfind acc kt 0 < 0 by rw [hmf]; exact hf))
          have HS := Lib.hid (show V.ds (acc ++ [V.mk 5 0 0 kt [], V.plain kids[2 * j + 1]]) = V.ds acc ++ [(V.mk 5 0 0 kt []).d, (V.plain kids[2 * j + 1]).d] by rw [V.ds_map, V.ds_map, List.map_append]; rfl)
          clear hmf
          have hn1 := V.nodes_get kids (2 * j + 1) hlt2
          have hb1 := V.bulk_getB hb (2 * j + 1) hlt2
          go_wp2_with (go_at_call 33; refine HFD.out.mono ?_; rintro e1 WF ⟨rfl, hbF⟩; go_wp2_with fail)
          have haF : Below wr.heap.size wr WF := below2 halK hbF (Nat.le_refl _)
          have hoF := hoK.below hbF (by omega)
          have hkF := hkK.below hbF (by omega)
          have hpF := pairBox.below hpK hbF (by omega)
          have hzF : wr.heap.size + 2 ≤ WF.heap.size := by have := hbF.size; omega
          have hownF := hown.below haF
          have HC := fun W (hW : Below WF.heap.size WF W) => Lib.hid (hA kids[2 * j + 1] _ (d - 1) W (Nat.le_trans hn1 hn) ((hry.below haF).below hW) (V.wfs_get hkw (2 * j + 1) hlt2) hb1 (hkr _ (List.getElem_mem hlt2)) (hT.below (below2 (hbw.trans (haF.mono (by have := hbw.size; omega))) hW (by have := hbw.size; omega))))
          have KW : Hid (∀ W, Below WF.heap.size WF W → (W.cell? ⟨w.heap.size + 1 + 1, 4, none⟩ = some (.slice av acc.length cv) ∧ W.frozen? ⟨w.heap.size + 1 + 1, 4, none⟩ = false) ∧ (W.cell? ⟨wr.heap.size + 1, 0, none⟩ = some (.int .i64 5) ∧ W.cell? ⟨wr.heap.size + 1, 1, none⟩ = some (.int .i64 0) ∧ W.cell? ⟨wr.heap.size + 1, 2, none⟩ = some (.int .i64 0) ∧ W.cell? ⟨wr.heap.size + 1, 3, none⟩ = some (.string ⟨kt.toArray⟩) ∧ W.cell? ⟨wr.heap.size + 1, 4, none⟩ = some (.slice ea 0 ec)) ∧ (W.cell? ⟨wr.heap.size, 5, none⟩ = some (.int .i64 l1) ∧ W.cell? ⟨wr.heap.size, 6, none⟩ = some (.int .i64 l2) ∧ W.cell? ⟨wr.heap.size, 7, none⟩ = some (.int .i64 l3) ∧ W.cell? ⟨wr.heap.size, 8, none⟩ = some (.string ⟨t4.toArray⟩) ∧ W.cell? ⟨wr.heap.size, 9, none⟩ = some (.slice b5 r5 z5))) := by
            intro W hW
            have b1 := hoF.below hW (by omega)
            have b3 := pairBox.below hpF hW (by omega)
            exact ⟨⟨b1.cells.2.2.2.2, b1.free 4⟩, (hkF.below hW (by omega)).cells, b3.cell 5 _ rfl, b3.cell 6 _ rfl, b3.cell 7 _ rfl, b3.cell 8 _ rfl, b3.cell 9 _ rfl⟩
          clear q0 q1 q2 q3 q4 m0 m1 m2 m3 m4 HFD hkF hpF hkK hpK hoK hn1 hb1 d0 d1 d2 d3 d4 d5 d6 d7 d8 d9
          have hE := Below.refl WF.heap.size WF
          obtain ⟨⟨p4, pf⟩, ⟨r0, r1, r2, r3, r4⟩, y5, y6, y7, y8, y9⟩ := KW.out _ hE
          go_region_law (first | (rw [if_pos (by rfl)]; go_simp; go_at_call 15; refine (HC _ (by first | exact hE | exact hE.drew)).out.mono ?_; rintro e1 w1 ⟨cs', rfl, hb1, hox⟩; obtain ⟨x0, x1, x2, x3, xa, xl, xc, rfl⟩ := V.form hox.rd; obtain ⟨⟨p4', pf'⟩, ⟨r0', r1', r2', r3', r4'⟩, y5', y6', y7', y8', y9'⟩ := KW.out _ (hE.drew.trans (hb1.mono (by simp))); have hz9 : w.heap.size + 1 + 1 < w1.heap.size := (by have h1 := hb1.size; simp only [World.drew] at h1; omega)) | (refine step_appD (ds' := [(V.mk 5 0 0 kt []).d, (V.plain kids[2 * j + 1]).d]) (news := [.int .i64 5, .int .i64 0, .int .i64 0, .string ⟨kt.toArray⟩, .slice ea 0 ec, .int .i64 x0, .int .i64 x1, .int .i64 x2, .string ⟨x3.toArray⟩, .slice xa xl xc]) tyVi rfl rfl B hownF (below2 hE.drew hb1 (Nat.le_refl _)) (by omega) (Owns.snoc (w1 := WF.drew) (Owns.of1 (V.own ⟨[], by simp, by simp, by simp [TreeC, V.ds]⟩)) hb1 hox (Nat.le_refl _)) (by intro d hd; simp at hd; rcases hd with rfl | rfl <;> exact V.width _) (by simp) (by simp [Value.oneCell']) rfl 2 rfl (by rw [V.ds_length]; simp; omega) (by decide) ?_; intro g cap w2 hown2 hbel2; have hbx2 := hoF.below hbel2 hsb; have p9 := hbx2.cells.2.2.2.2; have f9 := hbx2.free 4))
          all_goals
            rw [V.ds_length] at hown2 ⊢
            go_wp2
            go_roundw
            case rel => exact ⟨j + 1, _, acc ++ [V.mk 5 0 0 kt [], V.plain kids[2 * j + 1]], by omega, by go_num, by rw [HS.out]; exact hown2.setCell (p := ⟨w.heap.size + 1 + 1, 4, none⟩) hsb _, by rw [← HPM.out, V.plainM_step acc kids j hlt2, HPUT.out], by simp; omega, hbx2.set4 _, ((hkp.belowB haF (by omega)).belowB hbel2 (by omega)).setCell (.inl rfl) _⟩
            case measure => simp [intOf]; omega
        · have HPUT := Lib.hid (show putV acc kids[2 * j] (V.plain kids[2 * j + 1]) = acc by unfold putV; rw [HKV.out]; exact if_neg (show ¬ mfind acc kt 0 < 0 by rw [hmf]; exact hf))
          clear hmf
          go_wp2_with (go_at_call 33; refine HFD.out.mono ?_; rintro e1 WF ⟨rfl, hbF⟩)
          have haF : Below wr.heap.size wr WF := below2 halK hbF (Nat.le_refl _)
          have hoF := hoK.below hbF (by omega)
          have hownF := hown.below haF
          go_roundw
          case rel => exact ⟨j + 1, _, acc, by omega, by go_num, hownF, by rw [← HPM.out, V.plainM_step acc kids j hlt2, HPUT.out], by omega, hoF, hkp.belowB haF (by omega)⟩
          case measure => simp [intOf]; omega
    · obtain rfl : acc = tot := by rw [← hpm]; exact (V.plainM_end acc kids j (by omega)).symm
      have hbr := hres1.same (hkp.block _ hres1.lt (by omega))
      obtain ⟨c0, c1, c2, c3, c4⟩ := hbr.cells
      have f5 := hbr.free
      have hbw : Below w.heap.size w wr := hAP.trans (hkp.below (by omega) (fun k hk e => by omega))
      have hz1 : w.heap.size + 1 < wr.heap.size := hbr.lt
      have i1 : (0 : Int) ≤ j := by omega
      have i2 : ¬ (j : Int) < ((kids.length / 2 : Nat) : Int) := by omega
      obtain ⟨q0, q1, q2, q3, q4⟩ := hbx.cells
      have hs9 : w.heap.size + 1 + 1 < wr.heap.size := by omega
      clear hbx hkp hkids HPG hres1 hbox1
      go_wp2
      refine bodyPost_ret (v := .agg #[.int .i64 8, .int .i64 0, .int .i64 0, .string ⟨#[]⟩, .slice av acc.length cv]) ?_ rfl ⟨[.int .i64 8, .int .i64 0, .int .i64 0, .string ⟨#[]⟩, .slice av acc.length cv], rfl, ?_, ?_⟩
      · simp [results, Tryd.results15, go_sem, c0, c1, c2, c3, c4]
      · iterate 5 (refine Below.setCell ?_ (by simp) _)
        exact hbw
      · refine Own.mono (B := B) ?_ (by omega)
        iterate 5 (refine Own.setCell ?_ (by simp; omega) _)
        have := V.own (k := 8) (m := 0) (e := 0) (s := []) (hown.own (by decide))
        exact this
end Go.Proofs.YthngfihpnfoppaaDoor

/- What JSON holds of a value: the program's Plain. -/
namespace Go.Proofs.YthngfihpnfoppaaDoor
open Go.RowKit

theorem PlI_all : ∀ n, PlI n
  | 0 => fun x cs d w hn => absurd (V.nodes_pos x) (by omega)
  | m + 1 => by
    intro x cs d w hn h hwf hb hr hT
    obtain ⟨k, n, e, s, kids⟩ := x
    have hn' : V.nodess kids ≤ m := by simp only [V.nodes] at hn; omega
    simp only [V.bulk] at hb
    by_cases h6 : k = 6
    · subst h6; exact plain_bytes cs w h (by omega)
    by_cases h7 : k = 7
    · subst h7; exact plain_list (PlI_all m) cs d w hn' h hwf (by omega) hr hT
    by_cases h8 : k = 8
    · subst h8; exact plain_map (PlI_all m) cs d w hn' h hwf (by omega) hr hT
    by_cases h9 : k = 9
    · subst h9; exact plain_tag (PlI_all m) cs d w hn' h hwf (by omega) hr hT
    exact plain_leaf cs w h (V.self_leaf (V.right_at hr).2 h7 h8 h9) h6 h7 h8 h9

set_option maxHeartbeats 1000000 in
set_option maxRecDepth 10000 in
theorem implPlain_any (x : V) (cs : List Value) (w : World) (h : Rd w x.d cs) (hwf : x.wf) (hb : x.bulk ≤ 1048576) (hT : PTab w) :
    Calls Tryd.prog 6 #[.agg cs.toArray] w fun e w' => ∃ cs', e = .returned (.agg cs'.toArray) ∧ Below w.heap.size w w' ∧ Own w.heap.size w' x.plainTop.d cs' := by
  have h00 := h
  obtain ⟨k, n, e, s, kids, v1, rfl, rfl, hkids⟩ := V.lay h
  obtain ⟨a, c, rfl⟩ := Rd.sl_form hkids
  rw [V.ds_length] at hkids h h00 ⊢
  obtain ⟨x, hx⟩ : ∃ x, x = V.mk k n e s kids := ⟨_, rfl⟩
  rw [← hx] at h h00 hwf hb ⊢
  have HX := Lib.hid hx; clear hx hkids
  obtain ⟨W0, hW0⟩ : ∃ W0, W0 = (w.alloc (.cells #[.int .i64 k, .int .i64 n, .int .i64 e, .string ⟨s.toArray⟩, .slice a kids.length c] 26)).alloc (.cells #[.int .i64 0, .int .i64 0, .int .i64 0, .string ⟨#[]⟩, .slice none 0 0] 26) := ⟨_, rfl⟩
  have HW := Lib.hid hW0
  have hA0 : Below w.heap.size w W0 := by rw [hW0]; exact ((Below.refl _ _).alloc (Nat.le_refl _) _).alloc (by simp) _
  have hz : W0.heap.size = w.heap.size + 2 := by rw [hW0]; simp
  have hbx : valBox W0 w.heap.size k n e s (.slice a kids.length c) := by
    rw [hW0]; exact (valBox.new (w := w)).alloc _
  have hres : valBox W0 (w.heap.size + 1) 0 0 0 [] (.slice none 0 0) := by
    rw [hW0]
    have := valBox.new (w := w.alloc (.cells #[.int .i64 k, .int .i64 n, .int .i64 e, .string ⟨s.toArray⟩, .slice a kids.length c] 26)) (k := 0) (n := 0) (e := 0) (s := []) (v := .slice none 0 0)
    simpa using this
  have hB := Below.refl W0.heap.size W0
  have KB : Hid (∀ W, Below W0.heap.size W0 W → valBox W w.heap.size k n e s (.slice a kids.length c) ∧ valBox W (w.heap.size + 1) 0 0 0 [] (.slice none 0 0) ∧ Rd W x.d [.int .i64 k, .int .i64 n, .int .i64 e, .string ⟨s.toArray⟩, .slice a kids.length c]) := fun W hW => ⟨hbx.below hW (by omega), hres.below hW (by omega), h00.below (below2 hA0 hW (Nat.le_refl _))⟩
  clear hW0 h hbx hres
  have fin : ∀ (W : World) (R : V) (x0 x1 x2 : Int) (x3 : List UInt8) (xa : Option Addr) (xl xc : Nat), Below W0.heap.size W0 W → Own W0.heap.size W R.d [.int .i64 x0, .int .i64 x1, .int .i64 x2, .string ⟨x3.toArray⟩, .slice xa xl xc] → Below w.heap.size w (((((W.setCell ⟨w.heap.size + 1, 0, none⟩ (.int .i64 x0)).setCell ⟨w.heap.size + 1, 1, none⟩ (.int .i64 x1)).setCell ⟨w.heap.size + 1, 2, none⟩ (.int .i64 x2)).setCell ⟨w.heap.size + 1, 3, none⟩ (.string ⟨x3.toArray⟩)).setCell ⟨w.heap.size + 1, 4, none⟩ (.slice xa xl xc)) ∧ Own w.heap.size (((((W.setCell ⟨w.heap.size + 1, 0, none⟩ (.int .i64 x0)).setCell ⟨w.heap.size + 1, 1, none⟩ (.int .i64 x1)).setCell ⟨w.heap.size + 1, 2, none⟩ (.int .i64 x2)).setCell ⟨w.heap.size + 1, 3, none⟩ (.string ⟨x3.toArray⟩)).setCell ⟨w.heap.size + 1, 4, none⟩ (.slice xa xl xc)) R.d [.int .i64 x0, .int .i64 x1, .int .i64 x2, .string ⟨x3.toArray⟩, .slice xa xl xc] := by
    intro W R x0 x1 x2 x3 xa xl xc hW ho
    refine ⟨?_, ?_⟩
    · refine Below.setCell (Below.setCell (Below.setCell (Below.setCell (Below.setCell ?_ (by simp) _) (by simp) _) (by simp) _) (by simp) _) (by simp) _
      exact below2 hA0 hW (Nat.le_refl _)
    · refine Own.mono (B := W0.heap.size) ?_ (by omega)
      exact Own.setCell (Own.setCell (Own.setCell (Own.setCell (Own.setCell ho (by simp; omega) _) (by simp; omega) _) (by simp; omega) _) (by simp; omega) _) (by simp; omega) _
  have FIN := Lib.hid fin; clear fin
  obtain ⟨hbx, hres, hrd⟩ := KB.out _ hB
  obtain ⟨b0, b1, b2, b3, b4⟩ := hbx.cells
  have HO1 := Lib.hid (valueOk_impl x _ W0 hrd hwf (by omega) (hT.below hA0).1)
  go_enter Tryd.func6, Tryd.ntmps6
  go_wp2_with fail
  rw [← HW.out]
  cases hok : x.ok with
  | false =>
    have HR := Lib.hid (show x.plainTop = x by unfold V.plainTop; rw [hok]; rfl)
    rw [hok] at HO1
    have HC := fun W (hW : Below W0.heap.size W0 W) => Lib.hid (own_any x _ W (KB.out W hW).2.2 (by omega))
    clear hok
    go_wp2_with (first | (go_at_call 13; with_reducible refine HO1.out.mono ?_; rintro e1 w1 ⟨rfl, hb1⟩; obtain ⟨hbx1, hres1, -⟩ := KB.out _ hb1; obtain ⟨b0, b1, b2, b3, b4⟩ := hbx1.cells) | (go_at_call 14; refine (HC _ hb1).out.mono ?_; rintro e1 w2 ⟨cs', rfl, hb2, hox⟩; obtain ⟨x0, x1, x2, x3, xa, xl, xc, rfl⟩ := V.form hox.rd; have hbb := below2 hb1 hb2 (Nat.le_refl _); obtain ⟨-, hres2, -⟩ := KB.out _ hbb; obtain ⟨c0, c1, c2, c3, c4⟩ := hres2.cells; have f5 := hres2.free; have g5 := hres2.lt))
    obtain ⟨r1, r2⟩ := FIN.out _ _ _ _ _ _ _ _ _ hbb (hox.mono hb1.size)
    refine bodyPost_ret (v := .agg #[.int .i64 x0, .int .i64 x1, .int .i64 x2, .string ⟨x3.toArray⟩, .slice xa xl xc]) ?_ rfl ⟨[.int .i64 x0, .int .i64 x1, .int .i64 x2, .string ⟨x3.toArray⟩, .slice xa xl xc], rfl, r1, by rw [HR.out]; exact r2⟩
    simp [results, Tryd.results6, go_sem, c0, c1, c2, c3, c4]
  | true =>
    have hrt : V.rightBy pairsOk 12 x = true ∧ x.nodes ≤ 300 := by unfold V.ok at hok; simpa using hok
    rw [hok] at HO1
    have hps := V.plain_size x hwf
    have hpw := V.plain_wf x hwf (by omega)
    have hpb : x.plain.bulk ≤ 4294967295 := by omega
    have HP := fun W (hW : Below W0.heap.size W0 W) => Lib.hid (PlI_all x.nodes x _ 12 W (Nat.le_refl _) (KB.out W hW).2.2 hwf hb hrt.1 (hT.below (below2 hA0 hW (Nat.le_refl _))))
    have HO2 := fun cs' W (hW : Below W0.heap.size W0 W) (hr : Rd W x.plain.d cs') => Lib.hid (valueOk_impl x.plain cs' W hr hpw hpb (hT.below (below2 hA0 hW (Nat.le_refl _))).1)
    cases hok2 : x.plain.ok with
    | false =>
      have HR := Lib.hid (show x.plainTop = x by unfold V.plainTop; rw [hok, if_pos rfl, hok2]; rfl)
      rw [hok2] at HO2
      have HC := fun W (hW : Below W0.heap.size W0 W) => Lib.hid (own_any x _ W (KB.out W hW).2.2 (by omega))
      clear hok hok2 hps hpw hpb hrt
      go_wp2_with (first | (go_at_call 13; with_reducible refine HO1.out.mono ?_; rintro e1 w1 ⟨rfl, hb1⟩; obtain ⟨hbx1, hres1, -⟩ := KB.out _ hb1; obtain ⟨b0, b1, b2, b3, b4⟩ := hbx1.cells) | (go_at_call 15; refine (HP _ hb1).out.mono ?_; rintro e1 w2 ⟨cs', rfl, hb2, hox⟩; obtain ⟨x0, x1, x2, x3, xa, xl, xc, rfl⟩ := V.form hox.rd; have hbb := below2 hb1 hb2 (Nat.le_refl _); clear hbx1 hres1 b0 b1 b2 b3 b4) | (go_at_call 13; refine (HO2 _ _ (hbb.alloc hbb.size _) (hox.rd.below ((Below.refl _ _).alloc (Nat.le_refl _) _))).out.mono ?_; rintro e1 w3 ⟨rfl, hb3⟩; have hbc := below2 (hbb.alloc hbb.size _) hb3 (Nat.le_refl _); obtain ⟨hbx3, hres3, -⟩ := KB.out _ hbc; obtain ⟨d0, d1, d2, d3, d4⟩ := hbx3.cells) | (go_at_call 14; refine (HC _ hbc).out.mono ?_; rintro e1 w4 ⟨cs', rfl, hb4, hoy⟩; obtain ⟨y0, y1, y2, y3, ya, yl, yc, rfl⟩ := V.form hoy.rd; have hbd := below2 hbc hb4 (Nat.le_refl _); obtain ⟨-, hres2, -⟩ := KB.out _ hbd; obtain ⟨c0, c1, c2, c3, c4⟩ := hres2.cells; have f5 := hres2.free; have g5 := hres2.lt))
      obtain ⟨r1, r2⟩ := FIN.out _ _ _ _ _ _ _ _ _ hbd (hoy.mono hbc.size)
      refine bodyPost_ret (v := .agg #[.int .i64 y0, .int .i64 y1, .int .i64 y2, .string ⟨y3.toArray⟩, .slice ya yl yc]) ?_ rfl ⟨[.int .i64 y0, .int .i64 y1, .int .i64 y2, .string ⟨y3.toArray⟩, .slice ya yl yc], rfl, r1, by rw [HR.out]; exact r2⟩
      simp [results, Tryd.results6, go_sem, c0, c1, c2, c3, c4]
    | true =>
      have HR := Lib.hid (show x.plainTop = x.plain by unfold V.plainTop; rw [hok, if_pos rfl, hok2]; rfl)
      rw [hok2] at HO2
      clear hok hok2 hps hpw hpb hrt
      go_wp2_with (first | (go_at_call 13; with_reducible refine HO1.out.mono ?_; rintro e1 w1 ⟨rfl, hb1⟩; obtain ⟨hbx1, hres1, -⟩ := KB.out _ hb1; obtain ⟨b0, b1, b2, b3, b4⟩ := hbx1.cells) | (go_at_call 15; refine (HP _ hb1).out.mono ?_; rintro e1 w2 ⟨cs', rfl, hb2, hox⟩; obtain ⟨x0, x1, x2, x3, xa, xl, xc, rfl⟩ := V.form hox.rd; have hbb := below2 hb1 hb2 (Nat.le_refl _); clear hbx1 hres1 b0 b1 b2 b3 b4; have hz2 := hbb.size) | (go_at_call 13; refine (HO2 _ _ (hbb.alloc hbb.size _) (hox.rd.below ((Below.refl _ _).alloc (Nat.le_refl _) _))).out.mono ?_; rintro e1 w3 ⟨rfl, hb3⟩; have hbc := below2 (hbb.alloc hbb.size _) hb3 (Nat.le_refl _); obtain ⟨-, hres2, -⟩ := KB.out _ hbc; obtain ⟨c0, c1, c2, c3, c4⟩ := hres2.cells; have f5 := hres2.free; have g5 := hres2.lt; have hyb := (valBox.new (w := w2) (k := x0) (n := x1) (e := x2) (s := x3) (v := .slice xa xl xc)).below hb3 (by simp); obtain ⟨d0, d1, d2, d3, d4⟩ := hyb.cells))
      obtain ⟨r1, r2⟩ := FIN.out _ _ _ _ _ _ _ _ _ hbc (((hox.alloc _).below hb3).mono hb1.size)
      refine bodyPost_ret (v := .agg #[.int .i64 x0, .int .i64 x1, .int .i64 x2, .string ⟨x3.toArray⟩, .slice xa xl xc]) ?_ rfl ⟨[.int .i64 x0, .int .i64 x1, .int .i64 x2, .string ⟨x3.toArray⟩, .slice xa xl xc], rfl, r1, by rw [HR.out]; exact r2⟩
      simp [results, Tryd.results6, go_sem, c0, c1, c2, c3, c4]
end Go.Proofs.YthngfihpnfoppaaDoor

namespace Go.Proofs.YthngfihpnfoppaaDoor
open Go.RowKit

mutual
/-- how many parts are of a kind -/
def V.tal (q : Int) : V → Nat
  | .mk k _ _ _ kids => (if k = q then 1 else 0) + V.tals q kids
def V.tals (q : Int) : List V → Nat
  | [] => 0
  | v :: vs => V.tal q v + V.tals q vs
end
mutual
/-- all keys of maps are texts -/
def V.tkey : V → Bool
  | .mk k _ _ _ kids => (decide (k ≠ 8) || (odds kids).all fun x => decide (x.kind = 5)) && V.tkeys kids
def V.tkeys : List V → Bool
  | [] => true
  | v :: vs => V.tkey v && V.tkeys vs
end
def V.jfits (v : V) : Bool := v.ok && (decide (v.tal 6 = 0) && (decide (v.tal 9 = 0) && v.tkey))
theorem V.tals_all (q : Int) : ∀ vs : List V, V.tals q vs = 0 ↔ ∀ v ∈ vs, v.tal q = 0
  | [] => by simp [V.tals]
  | v :: vs => by simp only [V.tals, List.mem_cons, forall_eq_or_imp, ← V.tals_all q vs]; omega
theorem V.tkeys_all : ∀ vs : List V, V.tkeys vs = true ↔ ∀ v ∈ vs, v.tkey = true
  | [] => by simp [V.tkeys]
  | v :: vs => by simp only [V.tkeys, Bool.and_eq_true, List.mem_cons, forall_eq_or_imp, V.tkeys_all vs]
theorem mfind_neg : ∀ (acc : List V) (s : List UInt8) (i : Nat), (∀ x ∈ odds acc, ¬ (x.kind = 5 ∧ x.text = s)) → mfind acc s i < 0
  | [], s, i, _ => by simp [mfind]
  | [x], s, i, _ => by simp [mfind]
  | x :: y :: r, s, i, h => by
    rw [mfind, if_neg (h x (by simp [odds]))]
    exact mfind_neg r s (i + 2) fun z hz => h z (by simp only [odds, List.mem_cons]; exact .inr hz)
theorem odds_snoc2 : ∀ (acc : List V) (x y : V), acc.length % 2 = 0 → odds (acc ++ [x, y]) = odds acc ++ [x]
  | [], x, y, _ => rfl
  | [a], x, y, h => by simp at h
  | a :: b :: r, x, y, h => by
    simp only [List.cons_append, odds, List.cons.injEq, true_and]
    exact odds_snoc2 r x y (by simp only [List.length_cons] at h; omega)
/-- a map whose keys are texts, no two alike -/
theorem plainM_id : ∀ (kids acc : List V), acc.length % 2 = 0 → kids.length % 2 = 0 → (∀ x ∈ odds acc, x.kind = 5 ∧ x.num = 0) → (∀ x ∈ odds kids, x.kind = 5 ∧ x.num = 0) → ((odds kids).map V.mark).Nodup →
    (∀ a ∈ odds acc, ∀ b ∈ odds kids, a.mark ≠ b.mark) → (∀ y ∈ kids, y.plain = y) → V.plainM acc kids = acc ++ kids
  | [], acc, _, _, _, _, _, _, _ => by simp [V.plainM]
  | [x], acc, _, h, _, _, _, _, _ => by simp at h
  | x :: y :: r, acc, ha, hk, h1, h2, h3, h4, h5 => by
    obtain ⟨k1, k2⟩ := h2 x (by simp [odds])
    have hkv : keyV x = x := by unfold keyV; rw [if_neg (by omega)]
    have hf : mfind acc (keyV x).text 0 < 0 := mfind_neg acc _ 0 fun z hz hh => by
      obtain ⟨z1, z2⟩ := h1 z hz
      rw [hkv] at hh
      exact h4 z hz x (by simp [odds]) (by unfold V.mark; rw [z1, z2, k1, k2, hh.2])
    have hp : putV acc x (V.plain y) = acc ++ [x, y] := by unfold putV; rw [if_pos hf, hkv, h5 y (by simp)]
    rw [V.plainM, hp, plainM_id r (acc ++ [x, y]) (by simp only [List.length_append, List.length_cons, List.length_nil]; omega) (by simp only [List.length_cons] at hk; omega) ?_ ?_ ?_ ?_ ?_]
    · simp
    · intro z hz
      rw [odds_snoc2 acc x y ha] at hz
      rcases List.mem_append.1 hz with hz | hz
      · exact h1 z hz
      · simp only [List.mem_singleton] at hz; subst hz; exact ⟨k1, k2⟩
    · exact fun z hz => h2 z (by simp only [odds, List.mem_cons]; exact .inr hz)
    · simp only [odds, List.map_cons, List.nodup_cons] at h3; exact h3.2
    · intro a ha' b hb
      rw [odds_snoc2 acc x y ha] at ha'
      rcases List.mem_append.1 ha' with hz | hz
      · exact h4 a hz b (by simp only [odds, List.mem_cons]; exact .inr hb)
      · simp only [List.mem_singleton] at hz; subst hz
        simp only [odds, List.map_cons, List.nodup_cons, List.mem_map] at h3
        exact fun e => h3.1 ⟨b, hb, e.symm⟩
    · exact fun z hz => h5 z (by simp only [List.mem_cons]; exact .inr (.inr hz))
theorem plains_id : ∀ (kids : List V), (∀ y ∈ kids, y.plain = y) → V.plains kids = kids
  | [], _ => rfl
  | x :: r, h => by rw [V.plains, h x (by simp), plains_id r fun y hy => h y (by simp [hy])]
/-- what stands in JSON is its own plain value -/
theorem V.plain_id : ∀ (N : Nat) (d : Int) (v : V), v.nodes ≤ N → V.rightBy pairsOk d v = true → v.tal 6 = 0 → v.tal 9 = 0 → v.tkey = true → v.plain = v
  | 0, d, v, hn, _, _, _, _ => by have := v.nodes_pos; omega
  | N + 1, d, .mk k n e s kids, hn, hr, h6, h9, ht => by
    obtain ⟨hk, hs⟩ := V.right_at hr
    simp only [V.tal] at h6 h9
    have k6 : k ≠ 6 := fun h => by rw [if_pos h] at h6; omega
    have k9 : k ≠ 9 := fun h => by rw [if_pos h] at h9; omega
    have a6 := (V.tals_all 6 kids).1 (by omega)
    have a9 := (V.tals_all 9 kids).1 (by omega)
    simp only [V.tkey, Bool.and_eq_true] at ht
    have at' := (V.tkeys_all kids).1 ht.2
    simp only [V.nodes] at hn
    have hkid : ∀ y ∈ kids, y.plain = y := fun y hy => by
      obtain ⟨i, hi, rfl⟩ := List.mem_iff_getElem.1 hy
      have := V.nodes_get kids i hi
      exact V.plain_id N (d - 1) _ (by omega) (hk _ hy) (a6 _ hy) (a9 _ hy) (at' _ hy)
    rw [V.plain, if_neg k6, if_neg k9]
    by_cases k7 : k = 7
    · subst k7
      obtain ⟨rfl, rfl, rfl⟩ := V.self_seven hs
      rw [if_pos rfl, plains_id kids hkid]
    rw [if_neg k7]
    by_cases k8 : k = 8
    · subst k8
      obtain ⟨rfl, rfl, rfl, h2, _⟩ := V.self_eight hs
      have hp : pairsOk kids = true := by
        unfold V.self V.selfBy at hs
        simp at hs; exact hs
      rw [if_pos rfl]
      have hodd : ∀ x ∈ odds kids, x.kind = 5 ∧ x.num = 0 := fun x hx => by
        have hx5 : x.kind = 5 := by
          have := ht.1
          simp only [ne_eq, not_true, decide_false, Bool.false_or, List.all_eq_true, decide_eq_true_eq] at this
          exact this x hx
        rcases V.key_form (hk x (odds_mem kids x hx)) (by rw [hx5]; rfl) with ⟨h, _⟩ | ⟨s', rfl⟩
        · omega
        · exact ⟨rfl, rfl⟩
      have hnd : ((odds kids).map V.mark).Nodup := by
        unfold pairsOk uniq at hp
        simp only [Bool.and_eq_true, decide_eq_true_eq] at hp; exact hp.1.2
      rw [plainM_id kids [] rfl h2 (fun x hx => by simp [odds] at hx) hodd hnd (fun a ha => by simp [odds] at ha) hkid]; rfl
    · rw [if_neg k8]
theorem odds_putV {acc : List V} {x y : V} (h : acc.length % 2 = 0) : (putV acc x y).length % 2 = 0 ∧ ∀ z ∈ odds (putV acc x y), z ∈ odds acc ∨ z = keyV x := by
  unfold putV
  split
  · refine ⟨by simp only [List.length_append, List.length_cons, List.length_nil]; omega, fun z hz => ?_⟩
    rw [odds_snoc2 acc _ _ h] at hz
    rcases List.mem_append.1 hz with hz | hz
    · exact .inl hz
    · simp only [List.mem_singleton] at hz; exact .inr hz
  · exact ⟨h, fun z hz => .inl hz⟩
/-- a part of JSON -/
def V.jn (v : V) : Prop := v.tal 6 = 0 ∧ v.tal 9 = 0 ∧ v.tkey = true
theorem V.jn_mk {k n e : Int} {s : List UInt8} {kids : List V} (h6 : k ≠ 6) (h9 : k ≠ 9) (h8 : k = 8 → ∀ x ∈ odds kids, x.kind = 5) (hk : ∀ y ∈ kids, y.jn) : (V.mk k n e s kids).jn := by
  refine ⟨?_, ?_, ?_⟩
  · simp only [V.tal, if_neg h6, (V.tals_all 6 kids).2 fun v hv => (hk v hv).1]
  · simp only [V.tal, if_neg h9, (V.tals_all 9 kids).2 fun v hv => (hk v hv).2.1]
  · simp only [V.tkey, Bool.and_eq_true, (V.tkeys_all kids).2 fun v hv => (hk v hv).2.2, and_true, Bool.or_eq_true, decide_eq_true_eq, List.all_eq_true]
    by_cases h : k = 8
    · exact .inr (h8 h)
    · exact .inl h
theorem keyV_jn {d : Int} {x : V} (h : V.rightBy pairsOk d x = true) (hk : isKeyK x.kind = true) : (keyV x).kind = 5 ∧ (keyV x).jn := by
  unfold keyV
  rcases V.key_form h hk with ⟨h3, _⟩ | ⟨s, rfl⟩
  · rw [if_pos h3]; exact ⟨rfl, V.jn_mk (by decide) (by decide) (fun h => by cases h) fun y hy => by cases hy⟩
  · rw [if_neg (by show ¬ (5 : Int) = 3; decide)]; exact ⟨rfl, V.jn_mk (by decide) (by decide) (fun h => by cases h) fun y hy => by cases hy⟩
theorem plainM_jn : ∀ (kids acc : List V), acc.length % 2 = 0 → (∀ x ∈ odds acc, x.kind = 5) → (∀ x ∈ acc, x.jn) → (∀ x ∈ odds kids, (keyV x).kind = 5 ∧ (keyV x).jn) → (∀ y ∈ kids, y.plain.jn) →
    (∀ x ∈ odds (V.plainM acc kids), x.kind = 5) ∧ ∀ x ∈ V.plainM acc kids, x.jn
  | [], acc, _, h1, h2, _, _ => by simp only [V.plainM]; exact ⟨h1, h2⟩
  | [x], acc, _, h1, h2, _, _ => by simp only [V.plainM]; exact ⟨h1, h2⟩
  | x :: y :: r, acc, ha, h1, h2, h3, h4 => by
    rw [V.plainM]
    obtain ⟨e1, e2⟩ := odds_putV (x := x) (y := V.plain y) ha
    obtain ⟨k1, k2⟩ := h3 x (by simp [odds])
    refine plainM_jn r _ e1 (fun z hz => ?_) (fun z hz => ?_) (fun z hz => h3 z (by simp only [odds, List.mem_cons]; exact .inr hz)) fun z hz => h4 z (by simp [hz])
    · rcases e2 z hz with h | rfl
      · exact h1 z h
      · exact k1
    · unfold putV at hz
      split at hz
      · rcases List.mem_append.1 hz with hz | hz
        · exact h2 z hz
        · simp only [List.mem_cons, List.not_mem_nil, or_false] at hz
          rcases hz with rfl | rfl
          · exact k2
          · exact h4 y (by simp)
      · exact h2 z hz
theorem plains_jn : ∀ kids : List V, (∀ y ∈ kids, y.plain.jn) → ∀ x ∈ V.plains kids, x.jn
  | [], _, x, hx => by simp [V.plains] at hx
  | y :: r, h, x, hx => by
    simp only [V.plains, List.mem_cons] at hx
    rcases hx with rfl | hx
    · exact h y (by simp)
    · exact plains_jn r (fun z hz => h z (by simp [hz])) x hx
theorem V.plain_jn : ∀ (N : Nat) (d : Int) (v : V), v.nodes ≤ N → V.rightBy pairsOk d v = true → v.plain.jn
  | 0, d, v, hn, _ => by have := v.nodes_pos; omega
  | N + 1, d, .mk k n e s kids, hn, hr => by
    obtain ⟨hk, hs⟩ := V.right_at hr
    simp only [V.nodes] at hn
    have hkid : ∀ y ∈ kids, y.plain.jn := fun y hy => by
      obtain ⟨i, hi, rfl⟩ := List.mem_iff_getElem.1 hy
      have := V.nodes_get kids i hi
      exact V.plain_jn N (d - 1) _ (by omega) (hk _ hy)
    rw [V.plain]
    by_cases k6 : k = 6
    · rw [if_pos k6]; exact V.jn_mk (by decide) (by decide) (fun h => by cases h) fun y hy => by cases hy
    rw [if_neg k6]
    by_cases k9 : k = 9
    · subst k9
      have := V.self_nine hs
      rw [if_pos rfl]
      match kids, this, hkid with
      | [y], _, h => exact h y (by simp)
    rw [if_neg k9]
    by_cases k7 : k = 7
    · rw [if_pos k7]; exact V.jn_mk (by decide) (by decide) (fun h => by cases h) (plains_jn kids hkid)
    rw [if_neg k7]
    by_cases k8 : k = 8
    · subst k8
      obtain ⟨rfl, rfl, rfl, h2, h5⟩ := V.self_eight hs
      rw [if_pos rfl]
      obtain ⟨p1, p2⟩ := plainM_jn kids [] rfl (fun x hx => by simp [odds] at hx) (fun x hx => by cases hx) (fun x hx => by
        obtain ⟨j, hj, rfl⟩ := List.mem_iff_getElem.1 hx
        rw [odds_length] at hj
        rw [odds_get kids j (by omega)]
        exact keyV_jn (hk _ (List.getElem_mem _)) (h5 j (by omega))) hkid
      exact V.jn_mk (by decide) (by decide) (fun _ => p1) p2
    · rw [if_neg k8, V.self_leaf hs k7 k8 k9]
      exact V.jn_mk k6 k9 (fun h => absurd h k8) fun y hy => by cases hy
/-- the law -/
theorem plain_law (v : V) : (v.jfits = true → v.plainTop = v) ∧ (v.ok = false → v.plainTop = v) ∧ (v.ok = true → v.plainTop.jfits = true ∨ v.plainTop = v) := by
  refine ⟨fun h => ?_, fun h => ?_, fun h => ?_⟩
  · unfold V.jfits at h
    simp only [Bool.and_eq_true, decide_eq_true_eq] at h
    obtain ⟨h1, h2, h3, h4⟩ := h
    have hr := h1
    unfold V.ok at hr
    simp only [Bool.and_eq_true] at hr
    have := V.plain_id v.nodes 12 v (Nat.le_refl _) hr.1 h2 h3 h4
    unfold V.plainTop
    rw [if_pos h1, this, if_pos h1]
  · unfold V.plainTop; rw [if_neg (by rw [h]; decide)]
  · have hr := h
    unfold V.ok at hr
    simp only [Bool.and_eq_true] at hr
    unfold V.plainTop
    rw [if_pos h]
    split
    · rename_i hp
      left
      obtain ⟨q1, q2, q3⟩ := V.plain_jn v.nodes 12 v (Nat.le_refl _) hr.1
      unfold V.jfits
      rw [hp, q1, q2, q3]; rfl
    · exact .inr rfl
end Go.Proofs.YthngfihpnfoppaaDoor

namespace Go.Proofs.YthngfihpnfoppaaDoor
open Go.RowKit
theorem valBox.fill5 {w : World} {g : Nat} {k n e : Int} {s : List UInt8} {v : Value} (h : valBox w g k n e s v) (k' n' e' : Int) (s' : List UInt8) (v' : Value) :
    valBox (((((w.setCell ⟨g, 0, none⟩ (.int .i64 k')).setCell ⟨g, 1, none⟩ (.int .i64 n')).setCell ⟨g, 2, none⟩ (.int .i64 e')).setCell ⟨g, 3, none⟩ (.string ⟨s'.toArray⟩)).setCell ⟨g, 4, none⟩ v') g k' n' e' s' v' := by
  have h0 := heap_setCell_at (o := 0) h (.int .i64 k')
  have h1 := heap_setCell_at (o := 1) h0 (.int .i64 n')
  have h2 := heap_setCell_at (o := 2) h1 (.int .i64 e')
  have h3 := heap_setCell_at (o := 3) h2 (.string ⟨s'.toArray⟩)
  exact heap_setCell_at (o := 4) h3 v'
end Go.Proofs.YthngfihpnfoppaaDoor

/- What JSON holds of a right value: the reference's l04Plain, but for maps. -/
namespace Go.Proofs.YthngfihpnfoppaaDoor
open Go.RowKit

def PlS (n : Nat) : Prop := ∀ (x : V) (cs : List Value) (d : Int) (w : World), x.nodes ≤ n → Rd w x.d cs → x.wf → x.bulk ≤ 1048576 → V.rightBy pairsOk d x = true →
  Calls Tryd.prog 17 #[.agg cs.toArray] w fun e w' => ∃ cs', e = .returned (.agg cs'.toArray) ∧ Below w.heap.size w w' ∧ Own w.heap.size w' x.plain.d cs'
/-- what is stored in the result's box is given back -/
theorem store5 {w W : World} {g : Nat} {R : V} (x0 x1 x2 : Int) (x3 : List UInt8) (v : Value) (hg : w.heap.size ≤ g) (hW : Below w.heap.size w W) {B : Nat} (hB : g < B) (hBw : w.heap.size ≤ B) (ho : Own B W R.d [.int .i64 x0, .int .i64 x1, .int .i64 x2, .string ⟨x3.toArray⟩, v]) :
    Below w.heap.size w (((((W.setCell ⟨g, 0, none⟩ (.int .i64 x0)).setCell ⟨g, 1, none⟩ (.int .i64 x1)).setCell ⟨g, 2, none⟩ (.int .i64 x2)).setCell ⟨g, 3, none⟩ (.string ⟨x3.toArray⟩)).setCell ⟨g, 4, none⟩ v) ∧
    Own w.heap.size (((((W.setCell ⟨g, 0, none⟩ (.int .i64 x0)).setCell ⟨g, 1, none⟩ (.int .i64 x1)).setCell ⟨g, 2, none⟩ (.int .i64 x2)).setCell ⟨g, 3, none⟩ (.string ⟨x3.toArray⟩)).setCell ⟨g, 4, none⟩ v) R.d [.int .i64 x0, .int .i64 x1, .int .i64 x2, .string ⟨x3.toArray⟩, v] := by
  refine ⟨?_, ?_⟩
  · exact Below.setCell (Below.setCell (Below.setCell (Below.setCell (Below.setCell hW hg _) hg _) hg _) hg _) hg _
  · exact Own.mono (Own.setCell (Own.setCell (Own.setCell (Own.setCell (Own.setCell ho hB _) hB _) hB _) hB _) hB _) hBw
/-- the reference's l02Str -/
theorem l02Str_any (s : List UInt8) (w : World) :
    Calls Tryd.prog 27 #[.string ⟨s.toArray⟩] w fun e w' => e = .returned (.agg #[.int .i64 5, .int .i64 0, .int .i64 0, .string ⟨s.toArray⟩, .slice none 0 0]) ∧ Below w.heap.size w w' := by
  go_enter Tryd.func27, Tryd.ntmps27
  go_wp2
  refine bodyPost_ret (v := .agg #[.int .i64 5, .int .i64 0, .int .i64 0, .string ⟨s.toArray⟩, .slice none 0 0]) ?_ rfl ⟨rfl, ?_⟩
  · simp [results, Tryd.results27, go_sem]
  · first | exact (Below.refl _ _).alloc (Nat.le_refl _) _ | (iterate 5 (refine Below.setCell ?_ (by simp) _); exact (Below.refl _ _).alloc (Nat.le_refl _) _)
set_option maxHeartbeats 2000000 in
set_option maxRecDepth 10000 in
theorem splain_leaf {k n e : Int} {s : List UInt8} {kids : List V} (cs : List Value) (w : World) (h : Rd w (V.d (.mk k n e s kids)) cs) (hk : kids = []) (h6 : k ≠ 6) (h7 : k ≠ 7) (h8 : k ≠ 8) (h9 : k ≠ 9) :
    Calls Tryd.prog 17 #[.agg cs.toArray] w fun e1 w' => ∃ cs', e1 = .returned (.agg cs'.toArray) ∧ Below w.heap.size w w' ∧ Own w.heap.size w' (V.plain (.mk k n e s kids)).d cs' := by
  obtain ⟨k', n', e', s', kids', v1, hm, rfl, hkids⟩ := V.lay h
  simp only [V.mk.injEq] at hm
  obtain ⟨rfl, rfl, rfl, rfl, rfl⟩ := hm
  obtain ⟨a, c, rfl⟩ := Rd.sl_form hkids
  have HP := Lib.hid (show V.plain (.mk k n e s kids) = .mk k n e s [] by simp only [V.plain, if_neg h6, if_neg h7, if_neg h8, if_neg h9, hk])
  rw [HP.out]
  subst hk
  simp only [V.ds, List.length_nil] at hkids h ⊢
  have g6 : (k == 6) = false := by simpa using h6
  have g9 : (k == 9) = false := by simpa using h9
  obtain ⟨W0, hW0⟩ : ∃ W0, W0 = ((w.alloc (.cells #[.int .i64 k, .int .i64 n, .int .i64 e, .string ⟨s.toArray⟩, .slice a 0 c] 26)).alloc (.cells #[.int .i64 0, .int .i64 0, .int .i64 0, .string ⟨#[]⟩, .slice none 0 0] 26)).alloc (.cells #[.int .i64 k, .int .i64 n, .int .i64 e, .string ⟨s.toArray⟩, .slice none 0 0] 26) := ⟨_, rfl⟩
  have HW := Lib.hid hW0
  have hA0 : Below w.heap.size w W0 := by rw [hW0]; exact (((Below.refl _ _).alloc (Nat.le_refl _) _).alloc (by simp) _).alloc (by simp <;> omega) _
  have hz : W0.heap.size = w.heap.size + 3 := by rw [hW0]; simp
  have hbox : valBox W0 (w.heap.size + 1 + 1) k n e s (.slice none 0 0) := by
    rw [hW0]
    have := valBox.new (w := (w.alloc (.cells #[.int .i64 k, .int .i64 n, .int .i64 e, .string ⟨s.toArray⟩, .slice a 0 c] 26)).alloc (.cells #[.int .i64 0, .int .i64 0, .int .i64 0, .string ⟨#[]⟩, .slice none 0 0] 26)) (k := k) (n := n) (e := e) (s := s) (v := .slice none 0 0)
    simpa using this
  have hres : valBox W0 (w.heap.size + 1) 0 0 0 [] (.slice none 0 0) := by
    rw [hW0]
    have := (valBox.new (w := w.alloc (.cells #[.int .i64 k, .int .i64 n, .int .i64 e, .string ⟨s.toArray⟩, .slice a 0 c] 26)) (k := 0) (n := 0) (e := 0) (s := []) (v := .slice none 0 0)).alloc (.cells #[.int .i64 k, .int .i64 n, .int .i64 e, .string ⟨s.toArray⟩, .slice none 0 0] 26)
    simpa using this
  have hbx0 : valBox W0 w.heap.size k n e s (.slice a 0 c) := by
    rw [hW0]
    exact ((valBox.new (w := w)).alloc _).alloc _
  obtain ⟨p0, p1, p2, p3, p4⟩ := hbx0.cells
  obtain ⟨q0, q1, q2, q3, q4⟩ := hbox.cells
  obtain ⟨c0, c1, c2, c3, c4⟩ := hres.cells
  have f5 := hres.free
  have z1 : w.heap.size + 1 < W0.heap.size := by omega
  clear h hkids h6 h7 h8 h9 hW0 hbx0 hres
  go_enter Tryd.func17, Tryd.ntmps17
  go_wp2_with fail
  rw [← HW.out]
  go_loopw [4] (fun i wr => i = .int .i64 0 ∧ wr = W0) (fun _ _ => 0)
  case atStart => exact ⟨rfl, rfl⟩
  case round =>
    obtain ⟨rfl, rfl⟩ := hrel
    go_wp2
    obtain ⟨r1, r2⟩ := store5 (w := w) (R := .mk k n e s []) k n e s (.slice none 0 0) (g := w.heap.size + 1) (B := w.heap.size + 3) (by omega) hA0 (by omega) (by omega) (V.own ⟨[], by simp, by simp, by simp [TreeC, V.ds]⟩)
    refine bodyPost_ret (v := .agg #[.int .i64 k, .int .i64 n, .int .i64 e, .string ⟨s.toArray⟩, .slice none 0 0]) ?_ rfl ⟨[.int .i64 k, .int .i64 n, .int .i64 e, .string ⟨s.toArray⟩, .slice none 0 0], rfl, r1, r2⟩
    simp [results, Tryd.results17, go_sem, c0, c1, c2, c3, c4]
set_option maxHeartbeats 2000000 in
set_option maxRecDepth 10000 in
theorem splain_bytes {n e : Int} {s : List UInt8} {kids : List V} (cs : List Value) (w : World) (h : Rd w (V.d (.mk 6 n e s kids)) cs) (hs : s.length ≤ 1048576) :
    Calls Tryd.prog 17 #[.agg cs.toArray] w fun e1 w' => ∃ cs', e1 = .returned (.agg cs'.toArray) ∧ Below w.heap.size w w' ∧ Own w.heap.size w' (V.plain (.mk 6 n e s kids)).d cs' := by
  obtain ⟨k', n', e', s', kids', v1, hm, rfl, hkids⟩ := V.lay h
  simp only [V.mk.injEq] at hm
  obtain ⟨rfl, rfl, rfl, rfl, rfl⟩ := hm
  obtain ⟨a, c, rfl⟩ := Rd.sl_form hkids
  rw [V.ds_length] at hkids ⊢
  simp only [V.plain, if_pos]
  obtain ⟨W0, hW0⟩ : ∃ W0, W0 = ((w.alloc (.cells #[.int .i64 6, .int .i64 n, .int .i64 e, .string ⟨s.toArray⟩, .slice a kids.length c] 26)).alloc (.cells #[.int .i64 0, .int .i64 0, .int .i64 0, .string ⟨#[]⟩, .slice none 0 0] 26)).alloc (.cells #[.int .i64 6, .int .i64 n, .int .i64 e, .string ⟨s.toArray⟩, .slice none 0 0] 26) := ⟨_, rfl⟩
  have HW := Lib.hid hW0
  have hA0 : Below w.heap.size w W0 := by rw [hW0]; exact (((Below.refl _ _).alloc (Nat.le_refl _) _).alloc (by simp) _).alloc (by simp <;> omega) _
  have hz : W0.heap.size = w.heap.size + 3 := by rw [hW0]; simp
  have hbox : valBox W0 (w.heap.size + 1 + 1) 6 n e s (.slice none 0 0) := by
    rw [hW0]
    have := valBox.new (w := (w.alloc (.cells #[.int .i64 6, .int .i64 n, .int .i64 e, .string ⟨s.toArray⟩, .slice a kids.length c] 26)).alloc (.cells #[.int .i64 0, .int .i64 0, .int .i64 0, .string ⟨#[]⟩, .slice none 0 0] 26)) (k := 6) (n := n) (e := e) (s := s) (v := .slice none 0 0)
    simpa using this
  have hres : valBox W0 (w.heap.size + 1) 0 0 0 [] (.slice none 0 0) := by
    rw [hW0]
    have := (valBox.new (w := w.alloc (.cells #[.int .i64 6, .int .i64 n, .int .i64 e, .string ⟨s.toArray⟩, .slice a kids.length c] 26)) (k := 0) (n := 0) (e := 0) (s := []) (v := .slice none 0 0)).alloc (.cells #[.int .i64 6, .int .i64 n, .int .i64 e, .string ⟨s.toArray⟩, .slice none 0 0] 26)
    simpa using this
  have hbx0 : valBox W0 w.heap.size 6 n e s (.slice a kids.length c) := by
    rw [hW0]
    exact ((valBox.new (w := w)).alloc _).alloc _
  obtain ⟨p0, p1, p2, p3, p4⟩ := hbx0.cells
  have HH := Lib.hid (putHex_spec s W0 (by omega))
  have z1 : w.heap.size + 1 < W0.heap.size := by omega
  clear h hkids hW0 hbx0 hbox
  go_enter Tryd.func17, Tryd.ntmps17
  go_wp2_with fail
  rw [← HW.out]
  go_wp2_with (first | (go_at_call 35; refine HH.out.mono ?_; rintro e1 w2 ⟨rfl, hb2⟩) | (go_at_call 27; refine (l02Str_any (hexL s) _).mono ?_; rintro e1 w3 ⟨rfl, hb3⟩; have hbb := below2 hb2 hb3 (Nat.le_refl _); have hr3 := hres.below hbb z1; obtain ⟨c0, c1, c2, c3, c4⟩ := hr3.cells; have f5 := hr3.free; have g5 := hr3.lt))
  obtain ⟨r1, r2⟩ := store5 (w := w) (R := .mk 5 0 0 (hexL s) []) 5 0 0 (hexL s) (.slice none 0 0) (g := w.heap.size + 1) (B := w.heap.size + 3) (by omega) (below2 hA0 hbb (Nat.le_refl _)) (by omega) (by omega) (V.own ⟨[], by simp, by simp, by simp [TreeC, V.ds]⟩)
  refine bodyPost_ret (v := .agg #[.int .i64 5, .int .i64 0, .int .i64 0, .string ⟨(hexL s).toArray⟩, .slice none 0 0]) ?_ rfl ⟨[.int .i64 5, .int .i64 0, .int .i64 0, .string ⟨(hexL s).toArray⟩, .slice none 0 0], rfl, r1, r2⟩
  simp [results, Tryd.results17, go_sem, c0, c1, c2, c3, c4]
set_option maxHeartbeats 2000000 in
set_option maxRecDepth 10000 in
theorem splain_tag {m : Nat} (hA : PlS m) {n e : Int} {s : List UInt8} {kids : List V} (cs : List Value) (d : Int) (w : World) (hn : V.nodess kids ≤ m) (h : Rd w (V.d (.mk 9 n e s kids)) cs) (hwf : V.wf (.mk 9 n e s kids)) (hb : kids.length + V.bulks kids ≤ 1048576) (hr : V.rightBy pairsOk d (.mk 9 n e s kids) = true) :
    Calls Tryd.prog 17 #[.agg cs.toArray] w fun e1 w' => ∃ cs', e1 = .returned (.agg cs'.toArray) ∧ Below w.heap.size w w' ∧ Own w.heap.size w' (V.plain (.mk 9 n e s kids)).d cs' := by
  obtain ⟨k', n', e', s', kids', v1, hm, rfl, hkids⟩ := V.lay h
  simp only [V.mk.injEq] at hm
  obtain ⟨rfl, rfl, rfl, rfl, rfl⟩ := hm
  obtain ⟨hkr, hself⟩ := V.right_at hr
  have h1 := V.self_nine hself
  obtain ⟨y, rfl⟩ : ∃ y, kids = [y] := by
    match kids, h1 with
    | [y], _ => exact ⟨y, rfl⟩
  obtain ⟨a, c, rfl, hg⟩ := hkids.values
  obtain ⟨_, _, b, o, rfl, hb0, hcell⟩ := hg (by simp)
  obtain ⟨v0, v1, v2, v3, v4, hr', d0, d1, d2, d3, d4⟩ := hcell 0 (by simp)
  simp only [List.getElem_cons_zero] at hr'
  obtain ⟨k1, k2, k3, s4, a5, n5, m5, hcs⟩ := V.form hr'
  simp only [List.cons.injEq, and_true] at hcs
  obtain ⟨rfl, rfl, rfl, rfl, rfl⟩ := hcs
  simp only [V.plain, V.plainHd, if_pos, if_neg (show ¬ (9 : Int) = 6 by decide)]
  simp only [Nat.zero_mul, Nat.add_zero] at d0 d1 d2 d3 d4
  have hA1 : Below w.heap.size w ((w.alloc (.cells #[.int .i64 9, .int .i64 n, .int .i64 e, .string ⟨s.toArray⟩, .slice (some ⟨b, o, none⟩) 1 c] 26)).alloc (.cells #[.int .i64 0, .int .i64 0, .int .i64 0, .string ⟨#[]⟩, .slice none 0 0] 26)) := ((Below.refl _ _).alloc (Nat.le_refl _) _).alloc (by simp) _
  have HC := Lib.hid (hA y _ (d - 1) _ (by simp only [V.nodess] at hn; omega) (hr'.below hA1) hwf.2.2.2.2.2.1 (by simp only [V.bulks, List.length_cons, List.length_nil] at hb; omega) (hkr y (by simp)))
  have i1 : (0 : Int) < 1 := by decide
  clear h hkids hg hcell hr' hwf hb hr hkr hself hn h1 hA
  simp only [List.length_cons, List.length_nil]
  go_enter Tryd.func17, Tryd.ntmps17
  go_wp2_with (go_at_call 17; refine HC.out.mono ?_; rintro e1 w2 ⟨cs', rfl, hb2, hox⟩; obtain ⟨x0, x1, x2, x3, xa, xl, xc, rfl⟩ := V.form hox.rd; obtain ⟨hc2, hf2⟩ := bcell hb2; have hz2 := hb2.size; simp at hz2; have g5 : w.heap.size + 1 < w2.heap.size := (by omega); have f5 : ∀ i, w2.frozen? ⟨w.heap.size + 1, i, none⟩ = false := (by intro i; rw [hf2 _ _ (by simp)]; simp [go_sem]); have c0 : w2.cell? ⟨w.heap.size + 1, 0, none⟩ = some (.int .i64 0) := (by rw [hc2 _ _ (by simp)]; simp [go_sem]); have c1 : w2.cell? ⟨w.heap.size + 1, 1, none⟩ = some (.int .i64 0) := (by rw [hc2 _ _ (by simp)]; simp [go_sem]); have c2 : w2.cell? ⟨w.heap.size + 1, 2, none⟩ = some (.int .i64 0) := (by rw [hc2 _ _ (by simp)]; simp [go_sem]); have c3 : w2.cell? ⟨w.heap.size + 1, 3, none⟩ = some (.string ⟨#[]⟩) := (by rw [hc2 _ _ (by simp)]; simp [go_sem]); have c4 : w2.cell? ⟨w.heap.size + 1, 4, none⟩ = some (.slice none 0 0) := (by rw [hc2 _ _ (by simp)]; simp [go_sem]); clear hc2 hf2)
  obtain ⟨r1, r2⟩ := store5 (w := w) (R := y.plain) x0 x1 x2 x3 (.slice xa xl xc) (g := w.heap.size + 1) (B := w.heap.size + 1 + 1) (by omega) (below2 hA1 hb2 (Nat.le_refl _)) (by omega) (by omega) (by simpa using hox)
  refine bodyPost_ret (v := .agg #[.int .i64 x0, .int .i64 x1, .int .i64 x2, .string ⟨x3.toArray⟩, .slice xa xl xc]) ?_ rfl ⟨[.int .i64 x0, .int .i64 x1, .int .i64 x2, .string ⟨x3.toArray⟩, .slice xa xl xc], rfl, r1, r2⟩
  simp [results, Tryd.results17, go_sem, c0, c1, c2, c3, c4]
set_option maxHeartbeats 2000000 in
set_option maxRecDepth 10000 in
theorem splain_list {m : Nat} (hA : PlS m) {n e : Int} {s : List UInt8} {kids : List V} (cs : List Value) (d : Int) (w : World) (hn : V.nodess kids ≤ m) (h : Rd w (V.d (.mk 7 n e s kids)) cs) (hwf : V.wf (.mk 7 n e s kids)) (hb : kids.length + V.bulks kids ≤ 1048576) (hr : V.rightBy pairsOk d (.mk 7 n e s kids) = true) :
    Calls Tryd.prog 17 #[.agg cs.toArray] w fun e1 w' => ∃ cs', e1 = .returned (.agg cs'.toArray) ∧ Below w.heap.size w w' ∧ Own w.heap.size w' (V.plain (.mk 7 n e s kids)).d cs' := by
  obtain ⟨k', n', e', s', kids', v1, hm, rfl, hkids⟩ := V.lay h
  simp only [V.mk.injEq] at hm
  obtain ⟨rfl, rfl, rfl, rfl, rfl⟩ := hm
  obtain ⟨hkr, hself⟩ := V.right_at hr
  obtain ⟨rfl, rfl, rfl⟩ := V.self_seven hself
  obtain ⟨a, c, rfl, hg⟩ := hkids.values
  have HPL := Lib.hid (show V.plain (.mk 7 0 0 [] kids) = .mk 7 0 0 [] (V.plains kids) by simp [V.plain])
  rw [HPL.out]
  have hkw : V.wfs kids := hwf.2.2.2.2.2
  obtain ⟨B, hBd⟩ : ∃ B, B = w.heap.size + 3 := ⟨_, rfl⟩
  obtain ⟨W0, hW0⟩ : ∃ W0, W0 = ((w.alloc (.cells #[.int .i64 7, .int .i64 0, .int .i64 0, .string ⟨#[]⟩, .slice a kids.length c] 26)).alloc (.cells #[.int .i64 0, .int .i64 0, .int .i64 0, .string ⟨#[]⟩, .slice none 0 0] 26)).alloc (.cells #[.int .i64 7, .int .i64 0, .int .i64 0, .string ⟨#[]⟩, .slice none 0 0] 26) := ⟨_, rfl⟩
  have HW := Lib.hid hW0
  have hA0 : Below w.heap.size w W0 := by rw [hW0]; exact (((Below.refl _ _).alloc (Nat.le_refl _) _).alloc (by simp) _).alloc (by simp <;> omega) _
  have hz : W0.heap.size = w.heap.size + 3 := by rw [hW0]; simp
  have hbox : valBox W0 (w.heap.size + 1 + 1) 7 0 0 [] (.slice none 0 0) := by
    rw [hW0]
    have := valBox.new (w := (w.alloc (.cells #[.int .i64 7, .int .i64 0, .int .i64 0, .string ⟨#[]⟩, .slice a kids.length c] 26)).alloc (.cells #[.int .i64 0, .int .i64 0, .int .i64 0, .string ⟨#[]⟩, .slice none 0 0] 26)) (k := 7) (n := 0) (e := 0) (s := []) (v := .slice none 0 0)
    simpa using this
  have hres : valBox W0 (w.heap.size + 1) 0 0 0 [] (.slice none 0 0) := by
    rw [hW0]
    have := (valBox.new (w := w.alloc (.cells #[.int .i64 7, .int .i64 0, .int .i64 0, .string ⟨#[]⟩, .slice a kids.length c] 26)) (k := 0) (n := 0) (e := 0) (s := []) (v := .slice none 0 0)).alloc (.cells #[.int .i64 7, .int .i64 0, .int .i64 0, .string ⟨#[]⟩, .slice none 0 0] 26)
    simpa using this
  have hbx0 : valBox W0 w.heap.size 7 0 0 [] (.slice a kids.length c) := by
    rw [hW0]
    exact ((valBox.new (w := w)).alloc _).alloc _
  have hsb : w.heap.size + 1 + 1 < B := by omega
  have hB3 : B ≤ w.heap.size + 3 := by omega
  have hzB : B ≤ W0.heap.size := by omega
  clear hW0 h hwf hself hr hBd
  have HG := Lib.hid hg
  clear hg
  go_enter Tryd.func17, Tryd.ntmps17
  go_wp2_with fail
  rw [← HW.out]
  go_loopw [4] (fun i wr => ∃ (j : Nat) (v : Value), j ≤ kids.length ∧ i = .int .i64 j ∧ OwnSl B wr 26 5 v (V.ds (V.plains (kids.take j))) ∧ valBox wr (w.heap.size + 1 + 1) 7 0 0 [] v ∧ Keep (· = w.heap.size + 1 + 1) W0 wr) (fun i _ => kids.length - (intOf i).toNat)
  case atStart => exact ⟨0, _, Nat.zero_le _, rfl, by simpa [V.plains, V.ds] using OwnSl.nil, hbox, Keep.refl _ _⟩
  case round =>
    obtain ⟨j, v, hj, rfl, hown, hbx, hkp⟩ := hrel
    obtain ⟨av, cv, rfl⟩ := hown.form
    have hdl : (V.ds (V.plains (kids.take j))).length = j := by rw [V.ds_length, V.plains_length, List.length_take]; omega
    rw [hdl] at hown hbx
    have hsz := hkp.size
    have hbz := hbx0.same (hkp.block _ hbx0.lt (by omega))
    by_cases hlt : j < kids.length
    · obtain ⟨_, _, b, o, rfl, hb0, hcell⟩ := HG.out (by intro e; rw [e] at hlt; simp at hlt)
      obtain ⟨v0, v1, v2, v3, v4, hr, d0, d1, d2, d3, d4⟩ := hcell j hlt
      obtain ⟨k1, k2, k3, s4, a5, n5, m5, hcs⟩ := V.form hr
      simp only [List.cons.injEq, and_true] at hcs
      obtain ⟨rfl, rfl, rfl, rfl, rfl⟩ := hcs
      have hbw : Below w.heap.size w wr := hA0.trans (hkp.below (by omega) (fun k hk e => by omega))
      have i1 : (0 : Int) ≤ j := by omega
      have i2 : (j : Int) < kids.length := by omega
      have hn1 := V.nodes_get kids j hlt
      have hb1 := V.bulk_getB hb j hlt
      have HC := fun W (hW : Below wr.heap.size wr W) => Lib.hid (hA kids[j] _ (d - 1) W (Nat.le_trans hn1 hn) ((hr.below hbw).below hW) (V.wfs_get hkw j hlt) hb1 (hkr _ (List.getElem_mem hlt)))
      have HS := Lib.hid (show V.ds (V.plains (kids.take (j + 1))) = V.ds (V.plains (kids.take j)) ++ [(V.plain kids[j]).d] by rw [V.plains_take kids j hlt, V.ds_map, V.ds_map, List.map_append]; rfl)
      have KW : Hid (∀ W, Below wr.heap.size wr W → (W.cell? ⟨w.heap.size + 1 + 1, 4, none⟩ = some (.slice av j cv) ∧ W.frozen? ⟨w.heap.size + 1 + 1, 4, none⟩ = false) ∧ (W.cell? ⟨w.heap.size, 0, none⟩ = some (.int .i64 7) ∧ W.cell? ⟨w.heap.size, 4, none⟩ = some (.slice (some ⟨b, o, none⟩) kids.length c)) ∧ (W.cell? ⟨b, o + j * 5, none⟩ = some (.int .i64 k1) ∧ W.cell? ⟨b, o + j * 5 + 1, none⟩ = some (.int .i64 k2) ∧ W.cell? ⟨b, o + j * 5 + 2, none⟩ = some (.int .i64 k3) ∧ W.cell? ⟨b, o + j * 5 + 3, none⟩ = some (.string ⟨s4.toArray⟩) ∧ W.cell? ⟨b, o + j * 5 + 4, none⟩ = some (.slice a5 n5 m5))) := by
        intro W hW
        have b1 := hbx.below hW (by omega)
        have b2 := (hbz.below hW (by omega)).cells
        have hbc := (bcell (below2 hbw hW (Nat.le_refl _))).1
        exact ⟨⟨b1.cells.2.2.2.2, b1.free 4⟩, ⟨b2.1, b2.2.2.2.2⟩, by rw [hbc _ _ hb0]; exact d0, by rw [hbc _ _ hb0]; exact d1, by rw [hbc _ _ hb0]; exact d2, by rw [hbc _ _ hb0]; exact d3, by rw [hbc _ _ hb0]; exact d4⟩
      clear hr hn1 hb1 hcell hkids d0 d1 d2 d3 d4 hbz
      have hE := Below.refl wr.heap.size wr
      obtain ⟨⟨p4, pf⟩, ⟨t0, t4⟩, r0, r1, r2, r3, r4⟩ := KW.out _ hE
      go_wp2_with fail
      go_region_law (first | (rw [if_pos (by rfl)]; go_simp; go_at_call 17; refine (HC _ (by first | exact hE | exact hE.drew)).out.mono ?_; rintro e1 w1 ⟨cs', rfl, hb1, hox⟩; obtain ⟨x0, x1, x2, x3, xa, xl, xc, rfl⟩ := V.form hox.rd; obtain ⟨⟨p4', pf'⟩, ⟨t0', t4'⟩, r0', r1', r2', r3', r4'⟩ := KW.out _ (hE.drew.trans (hb1.mono (by simp))); have hz9 : w.heap.size + 1 + 1 < w1.heap.size := (by have h1 := hb1.size; simp only [World.drew] at h1; omega)) | (refine step_appD tyVi rfl rfl B hown (below2 (by first | exact hE | exact hE.drew) hb1 (Nat.le_refl _)) (by omega) (Owns.of1 (hox.mono (by first | exact hE.size | exact hE.drew.size))) (by intro d hd; simp at hd; subst hd; exact V.width _) (by simp) (V.cells_one hox.rd) rfl 1 rfl (by rw [hdl]; simp; omega) (by decide) ?_; intro g cap w2 hown2 hbel2; have hbx2 := hbx.below hbel2 hsb; have p9 := hbx2.cells.2.2.2.2; have f9 := hbx2.free 4))
      all_goals
        rw [hdl] at hown2
        go_wp2
        go_roundw
        case rel => exact ⟨j + 1, _, by omega, by go_num, by rw [HS.out]; exact hown2.setCell (p := ⟨w.heap.size + 1 + 1, 4, none⟩) hsb _, hbx2.set4 _, (hkp.belowB hbel2 (by omega)).setCell (.inl rfl) _⟩
        case measure => simp [intOf]; omega
    · obtain rfl : j = kids.length := by omega
      rw [List.take_length] at hown
      have hbr := hres.same (hkp.block _ hres.lt (by omega))
      obtain ⟨c0, c1, c2, c3, c4⟩ := hbr.cells
      have f5 := hbr.free
      have hbw : Below w.heap.size w wr := hA0.trans (hkp.below (by omega) (fun k hk e => by omega))
      have hz1 : w.heap.size + 1 < wr.heap.size := hbr.lt
      obtain ⟨t0, t1, t2, t3, t4⟩ := hbz.cells
      obtain ⟨q0, q1, q2, q3, q4⟩ := hbx.cells
      clear hbx hkp hkids HG hres hbox hbz
      go_wp2
      obtain ⟨r1, r2⟩ := store5 (w := w) (R := .mk 7 0 0 [] (V.plains kids)) 7 0 0 [] (.slice av kids.length cv) (g := w.heap.size + 1) (B := B) (by omega) hbw (by omega) (by omega) (V.own (hown.own (by decide)))
      refine bodyPost_ret (v := .agg #[.int .i64 7, .int .i64 0, .int .i64 0, .string ⟨#[]⟩, .slice av kids.length cv]) ?_ rfl ⟨[.int .i64 7, .int .i64 0, .int .i64 0, .string ⟨#[]⟩, .slice av kids.length cv], rfl, r1, r2⟩
      simp [results, Tryd.results17, go_sem, c0, c1, c2, c3, c4]
end Go.Proofs.YthngfihpnfoppaaDoor

/- What JSON holds of a right value: the reference's l04Plain, of maps. -/
namespace Go.Proofs.YthngfihpnfoppaaDoor
open Go.RowKit

set_option maxHeartbeats 4000000 in
set_option maxRecDepth 10000 in
theorem splain_map {m : Nat} (hA : PlS m) {n e : Int} {s : List UInt8} {kids : List V} (cs : List Value) (d : Int) (w : World) (hn : V.nodess kids ≤ m) (h : Rd w (V.d (.mk 8 n e s kids)) cs) (hwf : V.wf (.mk 8 n e s kids)) (hb : kids.length + V.bulks kids ≤ 1048576) (hr : V.rightBy pairsOk d (.mk 8 n e s kids) = true) :
    Calls Tryd.prog 17 #[.agg cs.toArray] w fun e1 w' => ∃ cs', e1 = .returned (.agg cs'.toArray) ∧ Below w.heap.size w w' ∧ Own w.heap.size w' (V.plain (.mk 8 n e s kids)).d cs' := by
  obtain ⟨k', n', e', s', kids', v1, hm, rfl, hkids⟩ := V.lay h
  simp only [V.mk.injEq] at hm
  obtain ⟨rfl, rfl, rfl, rfl, rfl⟩ := hm
  obtain ⟨hkr, hself⟩ := V.right_at hr
  obtain ⟨rfl, rfl, rfl, heven, hkeys⟩ := V.self_eight hself
  obtain ⟨a, c, rfl, hg⟩ := hkids.values
  obtain ⟨tot, htot⟩ : ∃ tot, V.plainM [] kids = tot := ⟨_, rfl⟩
  have HPL := Lib.hid (show V.plain (.mk 8 0 0 [] kids) = .mk 8 0 0 [] tot by simp [V.plain, htot])
  rw [HPL.out]
  have hkw : V.wfs kids := hwf.2.2.2.2.2
  obtain ⟨B, hBd⟩ : ∃ B, B = w.heap.size + 3 := ⟨_, rfl⟩
  obtain ⟨W0, hW0⟩ : ∃ W0, W0 = ((w.alloc (.cells #[.int .i64 8, .int .i64 0, .int .i64 0, .string ⟨#[]⟩, .slice a kids.length c] 26)).alloc (.cells #[.int .i64 0, .int .i64 0, .int .i64 0, .string ⟨#[]⟩, .slice none 0 0] 26)).alloc (.cells #[.int .i64 8, .int .i64 0, .int .i64 0, .string ⟨#[]⟩, .slice none 0 0] 26) := ⟨_, rfl⟩
  have HW := Lib.hid hW0
  have hA0 : Below w.heap.size w W0 := by rw [hW0]; exact (((Below.refl _ _).alloc (Nat.le_refl _) _).alloc (by simp) _).alloc (by simp <;> omega) _
  have hz : W0.heap.size = w.heap.size + 3 := by rw [hW0]; simp
  have hbox : valBox W0 (w.heap.size + 1 + 1) 8 0 0 [] (.slice none 0 0) := by
    rw [hW0]
    have := valBox.new (w := (w.alloc (.cells #[.int .i64 8, .int .i64 0, .int .i64 0, .string ⟨#[]⟩, .slice a kids.length c] 26)).alloc (.cells #[.int .i64 0, .int .i64 0, .int .i64 0, .string ⟨#[]⟩, .slice none 0 0] 26)) (k := 8) (n := 0) (e := 0) (s := []) (v := .slice none 0 0)
    simpa using this
  have hres : valBox W0 (w.heap.size + 1) 0 0 0 [] (.slice none 0 0) := by
    rw [hW0]
    have := (valBox.new (w := w.alloc (.cells #[.int .i64 8, .int .i64 0, .int .i64 0, .string ⟨#[]⟩, .slice a kids.length c] 26)) (k := 0) (n := 0) (e := 0) (s := []) (v := .slice none 0 0)).alloc (.cells #[.int .i64 8, .int .i64 0, .int .i64 0, .string ⟨#[]⟩, .slice none 0 0] 26)
    simpa using this
  have hbx0 : valBox W0 w.heap.size 8 0 0 [] (.slice a kids.length c) := by
    rw [hW0]
    exact ((valBox.new (w := w)).alloc _).alloc _
  have hsb : w.heap.size + 1 + 1 < B := by omega
  have hB3 : B ≤ w.heap.size + 3 := by omega
  have hzB : B ≤ W0.heap.size := by omega
  clear hW0 h hwf hself hr hBd
  have HG := Lib.hid hg
  have HEV := Lib.hid heven
  have HKS := Lib.hid hkeys
  clear hg heven hkeys
  go_enter Tryd.func17, Tryd.ntmps17
  go_wp2_with fail
  rw [← HW.out]
  go_loopw [4] (fun i wr => ∃ (q : Nat) (v : Value) (acc : List V), q ≤ kids.length ∧ i = .int .i64 q ∧ OwnSl B wr 26 5 v (V.ds acc) ∧ V.plainM acc (kids.drop (2 * ((q + 1) / 2))) = tot ∧ acc.length ≤ 2 * ((q + 1) / 2) ∧ valBox wr (w.heap.size + 1 + 1) 8 0 0 [] v ∧ Keep (· = w.heap.size + 1 + 1) W0 wr) (fun i _ => kids.length - (intOf i).toNat)
  case atStart => exact ⟨0, _, [], Nat.zero_le _, rfl, by simpa [V.ds] using OwnSl.nil, by simpa using htot, by simp, hbox, Keep.refl _ _⟩
  case round =>
    obtain ⟨q, v, acc, hq, rfl, hown, hpm, hal, hbx, hkp⟩ := hrel
    obtain ⟨av, cv, rfl⟩ := hown.form
    rw [V.ds_length] at hown hbx
    have hsz := hkp.size
    have hbz := hbx0.same (hkp.block _ hbx0.lt (by omega))
    have HPM := Lib.hid hpm
    have hbw : Below w.heap.size w wr := hA0.trans (hkp.below (by omega) (fun k hk e => by omega))
    have hs9 : w.heap.size + 1 + 1 < wr.heap.size := by omega
    have hs8 : w.heap.size < wr.heap.size := by omega
    have i1 : (0 : Int) ≤ q := by omega
    obtain ⟨t0, t1, t2, t3, t4'⟩ := hbz.cells
    by_cases hlt : q < kids.length
    · have i2 : (q : Int) < kids.length := by omega
      by_cases hodd : q % 2 = 1
      · have e1 : Int.tmod (q : Int) 2 = 1 := by rw [Int.tmod_eq_emod_of_nonneg (by omega)]; omega
        have HJ := Lib.hid (show 2 * ((q + 1 + 1) / 2) = 2 * ((q + 1) / 2) by omega)
        have hpm2 := Lib.hid (show V.plainM acc (kids.drop (2 * ((q + 1 + 1) / 2))) = tot ∧ acc.length ≤ 2 * ((q + 1 + 1) / 2) by rw [HJ.out]; exact ⟨HPM.out, hal⟩)
        clear hodd hpm hal
        go_wp2
        go_roundw
        case rel => exact ⟨q + 1, _, acc, by omega, by go_num, hown, hpm2.out.1, hpm2.out.2, hbx, hkp⟩
        case measure => simp [intOf]; omega
      · have hev := HEV.out
        obtain ⟨j, hj2⟩ : ∃ j, q = 2 * j := ⟨q / 2, by omega⟩
        have hlt2 : q + 1 < kids.length := by omega
        have HQ : Hid (2 * ((q + 1) / 2) = 2 * j ∧ 2 * ((q + 1 + 1) / 2) = 2 * (j + 1) ∧ q = 2 * j) := Lib.hid (by omega)
        have hpmj := HPM.out
        rw [HQ.out.1] at hpmj hal
        have HPM2 := Lib.hid hpmj
        have HST := Lib.hid (show V.plainM acc (kids.drop (2 * j)) = V.plainM (putV acc kids[q] (V.plain kids[q + 1])) (kids.drop (2 * (j + 1))) by subst hj2; exact V.plainM_step acc kids j hlt2)
        have hkq : isKeyK kids[q].kind = true := by subst hj2; exact HKS.out j hlt
        have e1 : Int.tmod (q : Int) 2 = 0 := by rw [Int.tmod_eq_emod_of_nonneg (by omega)]; omega
        have ha9 : acc.length ≤ kids.length := by omega
        clear hodd hpm hpmj hj2 hev
        obtain ⟨_, _, b, o, rfl, hb0, hcell⟩ := HG.out (by intro e; rw [e] at hlt; simp at hlt)
        obtain ⟨v0, v1, v2, v3, v4, hrx, d0, d1, d2, d3, d4⟩ := hcell q hlt
        obtain ⟨u0, u1, u2, u3, u4, hry, d5, d6, d7, d8, d9⟩ := hcell (q + 1) hlt2
        clear hcell
        have hkf := V.key_form (hkr _ (List.getElem_mem hlt)) hkq
        have hkw1 := V.wfs_get hkw q hlt
        obtain ⟨kt, hkt⟩ : ∃ kt, keyV kids[q] = V.mk 5 0 0 kt [] := by rcases hkf with ⟨-, kn, hxk⟩ | ⟨s4, hxk⟩ <;> rw [hxk] <;> exact ⟨_, rfl⟩
        have HKV := Lib.hid hkt
        clear hkt hkq
        obtain ⟨k1, k2, k3, s4, a5, n5, m5, hcs⟩ := V.form hrx
        simp only [List.cons.injEq, and_true] at hcs
        obtain ⟨rfl, rfl, rfl, rfl, rfl⟩ := hcs
        obtain ⟨l1, l2, l3, t4, b5, r5, z5, hcs⟩ := V.form hry
        simp only [List.cons.injEq, and_true] at hcs
        obtain ⟨rfl, rfl, rfl, rfl, rfl⟩ := hcs
        have hbc := (bcell hbw).1
        rw [← hbc _ _ hb0] at d0 d1 d2 d3 d4 d5 d6 d7 d8 d9
        replace hrx := hrx.below hbw
        replace hry := hry.below hbw
        have hbq : b < wr.heap.size := Nat.lt_of_lt_of_le hb0 hbw.size
        clear hbc
        obtain ⟨WB, hWB⟩ : ∃ WB, WB = wr.alloc (.cells #[.int .i64 k1, .int .i64 k2, .int .i64 k3, .string ⟨s4.toArray⟩, .slice a5 n5 m5] 26) := ⟨_, rfl⟩
        have HWB := Lib.hid hWB
        have hzW : WB.heap.size = wr.heap.size + 1 := by rw [hWB]; simp
        have halB : Below wr.heap.size wr WB := by rw [hWB]; exact (Below.refl _ _).alloc (Nat.le_refl _) _
        have ho1 : valBox WB (w.heap.size + 1 + 1) 8 0 0 [] (.slice av acc.length cv) := hbx.below halB (by omega)
        have hk0 : valBox WB wr.heap.size k1 k2 k3 s4 (.slice a5 n5 m5) := by rw [hWB]; exact valBox.new
        clear hWB
        go_upto_if 61 with fail
        rw [← HWB.out]
        go_cut [5] (fun s5 wx => s5 = .pointer (some ⟨wr.heap.size, 0, none⟩) ∧ Below wr.heap.size wr wx ∧ wr.heap.size + 1 ≤ wx.heap.size ∧ valBox wx (w.heap.size + 1 + 1) 8 0 0 [] (.slice av acc.length cv) ∧ ∃ ea ec, valBox wx wr.heap.size 5 0 0 kt (.slice ea 0 ec))
        case first =>
          rcases hkf with ⟨-, kn, hxk⟩ | ⟨s4', hxk⟩
          · rw [hxk] at hrx hkw1
            obtain ⟨k', n', e', s', kids', v1, hm, hcs, hk9⟩ := V.lay hrx
            simp only [V.mk.injEq] at hm
            obtain ⟨rfl, rfl, rfl, rfl, rfl⟩ := hm
            simp only [List.cons.injEq, and_true, Value.int.injEq, Value.string.injEq, true_and] at hcs
            obtain ⟨h1, h2, h3, h4, rfl⟩ := hcs
            subst h1; subst h2; subst h3
            have hkn : i64ok k2 := hkw1.2.1
            obtain rfl : kt = Lib.itoa k2 := by have := HKV.out; rw [hxk] at this; simp only [keyV] at this; simp [V.kind, V.num] at this; exact this.symm
            have HDT := Lib.hid (decText_spec k2 WB hkn)
            obtain ⟨m0, m1, m2, m3, m4⟩ := hk0.cells
            obtain ⟨WK, hWK⟩ : ∃ f : World → World, f = fun W3 => ((((W3.setCell ⟨wr.heap.size, 0, none⟩ (.int .i64 5)).setCell ⟨wr.heap.size, 1, none⟩ (.int .i64 0)).setCell ⟨wr.heap.size, 2, none⟩ (.int .i64 0)).setCell ⟨wr.heap.size, 3, none⟩ (.string ⟨(Lib.itoa k2).toArray⟩)).setCell ⟨wr.heap.size, 4, none⟩ (.slice none 0 0) := ⟨_, rfl⟩
            go_wp2_with (first | (go_at_call 36; refine HDT.out.mono ?_; rintro e1 W2 ⟨rfl, hb2⟩) | (go_at_call 27; refine (l02Str_any (Lib.itoa k2) _).mono ?_; rintro e1 W3 ⟨rfl, hb9⟩; have hb3 := below2 hb2 hb9 (Nat.le_refl _); have hk3 := hk0.below hb3 (by omega); obtain ⟨m0, m1, m2, m3, m4⟩ := hk3.cells; have mf := hk3.free; have hz3 := hb3.size; have g9 : wr.heap.size < W3.heap.size := (by omega); have ho3 := ho1.below hb3 (by omega)))
            have hbS : Below wr.heap.size W3 (WK W3) := by rw [hWK]; refine Below.setCell ?_ (by simp) _; refine Below.setCell ?_ (by simp) _; refine Below.setCell ?_ (by simp) _; refine Below.setCell ?_ (by simp) _; refine Below.setCell ?_ (by simp) _; exact Below.refl _ _
            have HWK := Lib.hid (congrFun hWK W3)
            rw [← HWK.out]
            have hzS := hbS.size
            go_meet
            exact ⟨rfl, (below2 halB hb3 (Nat.le_refl _)).trans hbS, by omega, ho3.below hbS hs9, _, _, by rw [hWK]; exact hk3.fill5 _ _ _ _ _⟩
          · rw [hxk] at hrx hkw1
            obtain ⟨k', n', e', s', kids', v1, hm, hcs, hk9⟩ := V.lay hrx
            simp only [V.mk.injEq] at hm
            obtain ⟨rfl, rfl, rfl, rfl, rfl⟩ := hm
            simp only [List.cons.injEq, and_true, Value.int.injEq, Value.string.injEq, true_and] at hcs
            obtain ⟨h1, h2, h3, h4, rfl⟩ := hcs
            subst h1; subst h2; subst h3
            obtain rfl : s4 = s4' := by simpa using h4
            obtain ⟨ea, ec, he⟩ := Rd.sl_form hk9
            simp only [V.ds, List.length_nil, Value.slice.injEq] at he
            obtain ⟨e1, e2, e3⟩ := he
            subst e2
            obtain rfl : kt = s4 := by have := HKV.out; rw [hxk] at this; simp only [keyV] at this; simp [V.kind] at this; exact this.symm
            obtain ⟨m0, m1, m2, m3, m4⟩ := hk0.cells
            go_wp2_with fail
            go_meet
            exact ⟨rfl, halB, by omega, ho1, _, _, hk0⟩
        case rest =>
          obtain ⟨rfl, halK, hzK, hoK, ea, ec, hkK⟩ := hcut
          clear ho1 halB hzW HWB hk0 hkf hkw1 hrx
          obtain ⟨q0, q1, q2, q3, q4⟩ := hoK.cells
          obtain ⟨m0, m1, m2, m3, m4⟩ := hkK.cells
          have hbzK := hbz.below halK hs8
          have hownK := hown.below halK
          have HFD := Lib.hid (l02Key_any acc _ kt wc ((hown.own (by decide)).rd.below halK) (by omega))
          obtain ⟨mf, hmf⟩ : ∃ mf, mfind acc kt 0 = mf := ⟨_, rfl⟩
          rw [hmf] at HFD
          by_cases hf : mf < 0
          · have HPUT := Lib.hid (show putV acc kids[q] (V.plain kids[q + 1]) = acc ++ [V.mk 5 0 0 kt [], V.plain kids[q + 1]] by unfold putV; rw [HKV.out]; exact if_pos (show mfind acc kt 0 < 0 by rw [hmf]; exact hf))
            have HS := Lib.hid (show V.ds (acc ++ [V.mk 5 0 0 kt [], V.plain kids[q + 1]]) = V.ds acc ++ [(V.mk 5 0 0 kt []).d, (V.plain kids[q + 1]).d] by rw [V.ds_map, V.ds_map, List.map_append]; rfl)
            clear hmf
            have hn1 := V.nodes_get kids (q + 1) hlt2
            have hb1 := V.bulk_getB hb (q + 1) hlt2
            go_wp2_with (go_at_call 37; refine HFD.out.mono ?_; rintro e1 WF ⟨rfl, rfl⟩; go_wp2_with fail)
            have HC := fun W (hW : Below WF.heap.size WF W) => Lib.hid (hA kids[q + 1] _ (d - 1) W (Nat.le_trans hn1 hn) ((hry.below halK).below hW) (V.wfs_get hkw (q + 1) hlt2) hb1 (hkr _ (List.getElem_mem hlt2)))
            have KW : Hid (∀ W, Below WF.heap.size WF W → (W.cell? ⟨w.heap.size + 1 + 1, 4, none⟩ = some (.slice av acc.length cv) ∧ W.frozen? ⟨w.heap.size + 1 + 1, 4, none⟩ = false) ∧ (W.cell? ⟨wr.heap.size, 0, none⟩ = some (.int .i64 5) ∧ W.cell? ⟨wr.heap.size, 1, none⟩ = some (.int .i64 0) ∧ W.cell? ⟨wr.heap.size, 2, none⟩ = some (.int .i64 0) ∧ W.cell? ⟨wr.heap.size, 3, none⟩ = some (.string ⟨kt.toArray⟩) ∧ W.cell? ⟨wr.heap.size, 4, none⟩ = some (.slice ea 0 ec)) ∧ (W.cell? ⟨b, o + (q + 1) * 5, none⟩ = some (.int .i64 l1) ∧ W.cell? ⟨b, o + (q + 1) * 5 + 1, none⟩ = some (.int .i64 l2) ∧ W.cell? ⟨b, o + (q + 1) * 5 + 2, none⟩ = some (.int .i64 l3) ∧ W.cell? ⟨b, o + (q + 1) * 5 + 3, none⟩ = some (.string ⟨t4.toArray⟩) ∧ W.cell? ⟨b, o + (q + 1) * 5 + 4, none⟩ = some (.slice b5 r5 z5)) ∧ W.cell? ⟨w.heap.size, 4, none⟩ = some (.slice (some ⟨b, o, none⟩) kids.length c)) := by
              intro W hW
              have b1 := hoK.below hW (by omega)
              have hbc := (bcell (below2 halK hW (Nat.le_refl _))).1
              exact ⟨⟨b1.cells.2.2.2.2, b1.free 4⟩, (hkK.below hW (by omega)).cells, ⟨by rw [hbc _ _ hbq]; exact d5, by rw [hbc _ _ hbq]; exact d6, by rw [hbc _ _ hbq]; exact d7, by rw [hbc _ _ hbq]; exact d8, by rw [hbc _ _ hbq]; exact d9⟩, (hbzK.below hW (by omega)).cells.2.2.2.2⟩
            have i3 : (q : Int) + 1 < kids.length := by omega
            have i4 : IntKind.i64.wrap ((q : Int) + 1) = (q : Int) + 1 := IntWalk.i64_in _ (by omega)
            have i5 : (0 : Int) ≤ (q : Int) + 1 := by omega
            have i6 : ((q : Int) + 1).toNat = q + 1 := by omega
            have hz0 : w.heap.size + 1 + 1 < WF.heap.size := by omega
            clear q0 q1 q2 q3 q4 m0 m1 m2 m3 m4 HFD hn1 hb1 d0 d1 d2 d3 d4 d5 d6 d7 d8 d9 t0 t1 t2 t3 t4'
            have hE := Below.refl WF.heap.size WF
            obtain ⟨⟨p4, pf⟩, ⟨r0, r1, r2, r3, r4⟩, ⟨y5, y6, y7, y8, y9⟩, x4⟩ := KW.out _ hE
            go_region_law (first | (rw [if_pos (by rfl)]; go_simp; go_at_call 17; refine (HC _ (by first | exact hE | exact hE.drew)).out.mono ?_; rintro e1 w1 ⟨cs', rfl, hb1, hox⟩; obtain ⟨x0, x1, x2, x3, xa, xl, xc, rfl⟩ := V.form hox.rd; obtain ⟨⟨p4', pf'⟩, ⟨r0', r1', r2', r3', r4'⟩, ⟨y5', y6', y7', y8', y9'⟩, x4'⟩ := KW.out _ (hE.drew.trans (hb1.mono (by simp))); have hz9 : w.heap.size + 1 + 1 < w1.heap.size := (by have h1 := hb1.size; simp only [World.drew] at h1; omega)) | (refine step_appD (ds' := [(V.mk 5 0 0 kt []).d, (V.plain kids[q + 1]).d]) (news := [.int .i64 5, .int .i64 0, .int .i64 0, .string ⟨kt.toArray⟩, .slice ea 0 ec, .int .i64 x0, .int .i64 x1, .int .i64 x2, .string ⟨x3.toArray⟩, .slice xa xl xc]) tyVi rfl rfl B hownK (below2 hE.drew hb1 (Nat.le_refl _)) (by omega) (Owns.snoc (w1 := WF.drew) (Owns.of1 (V.own ⟨[], by simp, by simp, by simp [TreeC, V.ds]⟩)) hb1 hox (Nat.le_refl _)) (by intro d hd; simp at hd; rcases hd with rfl | rfl <;> exact V.width _) (by simp) (by simp [Value.oneCell']) rfl 2 rfl (by rw [V.ds_length]; simp; omega) (by decide) ?_; intro g cap w2 hown2 hbel2; have hbx2 := hoK.below hbel2 hsb; have p9 := hbx2.cells.2.2.2.2; have f9 := hbx2.free 4))
            all_goals
              rw [V.ds_length] at hown2 ⊢
              go_wp2
              go_roundw
              case rel => exact ⟨q + 1, _, acc ++ [V.mk 5 0 0 kt [], V.plain kids[q + 1]], by omega, by go_num, by rw [HS.out]; exact hown2.setCell (p := ⟨w.heap.size + 1 + 1, 4, none⟩) hsb _, by rw [← HPM2.out, HST.out, HPUT.out, HQ.out.2.1], by rw [HQ.out.2.1]; simp; omega, hbx2.set4 _, ((hkp.belowB halK (by omega)).belowB hbel2 (by omega)).setCell (.inl rfl) _⟩
              case measure => simp [intOf]; omega
          · have HPUT := Lib.hid (show putV acc kids[q] (V.plain kids[q + 1]) = acc by unfold putV; rw [HKV.out]; exact if_neg (show ¬ mfind acc kt 0 < 0 by rw [hmf]; exact hf))
            clear hmf
            go_wp2_with (go_at_call 37; refine HFD.out.mono ?_; rintro e1 WF ⟨rfl, rfl⟩)
            go_roundw
            case rel => exact ⟨q + 1, _, acc, by omega, by go_num, hownK, by rw [← HPM2.out, HST.out, HPUT.out, HQ.out.2.1], by rw [HQ.out.2.1]; omega, hoK, hkp.belowB halK (by omega)⟩
            case measure => simp [intOf]; omega
    · obtain rfl : acc = tot := by rw [← hpm]; exact (V.plainM_end acc kids ((q + 1) / 2) (by omega)).symm
      have hbr := hres.same (hkp.block _ hres.lt (by omega))
      obtain ⟨c0, c1, c2, c3, c4⟩ := hbr.cells
      have f5 := hbr.free
      have hz1 : w.heap.size + 1 < wr.heap.size := hbr.lt
      have i2 : ¬ (q : Int) < kids.length := by omega
      obtain ⟨q0, q1, q2, q3, q4⟩ := hbx.cells
      clear hbx hkp hkids HG hres hbox hbz hpm hal
      go_wp2
      obtain ⟨r1, r2⟩ := store5 (w := w) (R := .mk 8 0 0 [] acc) 8 0 0 [] (.slice av acc.length cv) (g := w.heap.size + 1) (B := B) (by omega) hbw (by omega) (by omega) (V.own (hown.own (by decide)))
      refine bodyPost_ret (v := .agg #[.int .i64 8, .int .i64 0, .int .i64 0, .string ⟨#[]⟩, .slice av acc.length cv]) ?_ rfl ⟨[.int .i64 8, .int .i64 0, .int .i64 0, .string ⟨#[]⟩, .slice av acc.length cv], rfl, r1, r2⟩
      simp [results, Tryd.results17, go_sem, c0, c1, c2, c3, c4]
end Go.Proofs.YthngfihpnfoppaaDoor

/- What JSON holds of a value: the reference's Plain. -/
namespace Go.Proofs.YthngfihpnfoppaaDoor
open Go.RowKit

theorem PlS_all : ∀ n, PlS n
  | 0 => fun x cs d w hn => absurd (V.nodes_pos x) (by omega)
  | m + 1 => by
    intro x cs d w hn h hwf hb hr
    obtain ⟨k, n, e, s, kids⟩ := x
    have hn' : V.nodess kids ≤ m := by simp only [V.nodes] at hn; omega
    simp only [V.bulk] at hb
    by_cases h6 : k = 6
    · subst h6; exact splain_bytes cs w h (by omega)
    by_cases h7 : k = 7
    · subst h7; exact splain_list (PlS_all m) cs d w hn' h hwf (by omega) hr
    by_cases h8 : k = 8
    · subst h8; exact splain_map (PlS_all m) cs d w hn' h hwf (by omega) hr
    by_cases h9 : k = 9
    · subst h9; exact splain_tag (PlS_all m) cs d w hn' h hwf (by omega) hr
    exact splain_leaf cs w h (V.self_leaf (V.right_at hr).2 h7 h8 h9) h6 h7 h8 h9

set_option maxHeartbeats 1000000 in
set_option maxRecDepth 10000 in
theorem specPlain_any (x : V) (cs : List Value) (w : World) (h : Rd w x.d cs) (hwf : x.wf) (hb : x.bulk ≤ 1048576) :
    Calls Tryd.prog 8 #[.agg cs.toArray] w fun e w' => ∃ cs', e = .returned (.agg cs'.toArray) ∧ Below w.heap.size w w' ∧ Own w.heap.size w' x.plainTop.d cs' := by
  have h00 := h
  obtain ⟨k, n, e, s, kids, v1, rfl, rfl, hkids⟩ := V.lay h
  obtain ⟨a, c, rfl⟩ := Rd.sl_form hkids
  rw [V.ds_length] at hkids h h00 ⊢
  obtain ⟨x, hx⟩ : ∃ x, x = V.mk k n e s kids := ⟨_, rfl⟩
  rw [← hx] at h h00 hwf hb ⊢
  have HX := Lib.hid hx; clear hx hkids
  obtain ⟨W0, hW0⟩ : ∃ W0, W0 = (w.alloc (.cells #[.int .i64 k, .int .i64 n, .int .i64 e, .string ⟨s.toArray⟩, .slice a kids.length c] 26)).alloc (.cells #[.int .i64 0, .int .i64 0, .int .i64 0, .string ⟨#[]⟩, .slice none 0 0] 26) := ⟨_, rfl⟩
  have HW := Lib.hid hW0
  have hA0 : Below w.heap.size w W0 := by rw [hW0]; exact ((Below.refl _ _).alloc (Nat.le_refl _) _).alloc (by simp) _
  have hz : W0.heap.size = w.heap.size + 2 := by rw [hW0]; simp
  have hbx : valBox W0 w.heap.size k n e s (.slice a kids.length c) := by
    rw [hW0]; exact (valBox.new (w := w)).alloc _
  have hres : valBox W0 (w.heap.size + 1) 0 0 0 [] (.slice none 0 0) := by
    rw [hW0]
    have := valBox.new (w := w.alloc (.cells #[.int .i64 k, .int .i64 n, .int .i64 e, .string ⟨s.toArray⟩, .slice a kids.length c] 26)) (k := 0) (n := 0) (e := 0) (s := []) (v := .slice none 0 0)
    simpa using this
  have hB := Below.refl W0.heap.size W0
  have KB : Hid (∀ W, Below W0.heap.size W0 W → valBox W w.heap.size k n e s (.slice a kids.length c) ∧ valBox W (w.heap.size + 1) 0 0 0 [] (.slice none 0 0) ∧ Rd W x.d [.int .i64 k, .int .i64 n, .int .i64 e, .string ⟨s.toArray⟩, .slice a kids.length c]) := fun W hW => ⟨hbx.below hW (by omega), hres.below hW (by omega), h00.below (below2 hA0 hW (Nat.le_refl _))⟩
  clear hW0 h hbx hres
  have fin : ∀ (W : World) (R : V) (x0 x1 x2 : Int) (x3 : List UInt8) (xa : Option Addr) (xl xc : Nat), Below W0.heap.size W0 W → Own W0.heap.size W R.d [.int .i64 x0, .int .i64 x1, .int .i64 x2, .string ⟨x3.toArray⟩, .slice xa xl xc] → Below w.heap.size w (((((W.setCell ⟨w.heap.size + 1, 0, none⟩ (.int .i64 x0)).setCell ⟨w.heap.size + 1, 1, none⟩ (.int .i64 x1)).setCell ⟨w.heap.size + 1, 2, none⟩ (.int .i64 x2)).setCell ⟨w.heap.size + 1, 3, none⟩ (.string ⟨x3.toArray⟩)).setCell ⟨w.heap.size + 1, 4, none⟩ (.slice xa xl xc)) ∧ Own w.heap.size (((((W.setCell ⟨w.heap.size + 1, 0, none⟩ (.int .i64 x0)).setCell ⟨w.heap.size + 1, 1, none⟩ (.int .i64 x1)).setCell ⟨w.heap.size + 1, 2, none⟩ (.int .i64 x2)).setCell ⟨w.heap.size + 1, 3, none⟩ (.string ⟨x3.toArray⟩)).setCell ⟨w.heap.size + 1, 4, none⟩ (.slice xa xl xc)) R.d [.int .i64 x0, .int .i64 x1, .int .i64 x2, .string ⟨x3.toArray⟩, .slice xa xl xc] := by
    intro W R x0 x1 x2 x3 xa xl xc hW ho
    refine ⟨?_, ?_⟩
    · refine Below.setCell (Below.setCell (Below.setCell (Below.setCell (Below.setCell ?_ (by simp) _) (by simp) _) (by simp) _) (by simp) _) (by simp) _
      exact below2 hA0 hW (Nat.le_refl _)
    · refine Own.mono (B := W0.heap.size) ?_ (by omega)
      exact Own.setCell (Own.setCell (Own.setCell (Own.setCell (Own.setCell ho (by simp; omega) _) (by simp; omega) _) (by simp; omega) _) (by simp; omega) _) (by simp; omega) _
  have FIN := Lib.hid fin; clear fin
  obtain ⟨hbx, hres, hrd⟩ := KB.out _ hB
  obtain ⟨b0, b1, b2, b3, b4⟩ := hbx.cells
  have HO1 := Lib.hid (valueOk_spec x _ W0 hrd hwf (by omega))
  go_enter Tryd.func8, Tryd.ntmps8
  go_wp2_with fail
  rw [← HW.out]
  cases hok : x.ok with
  | false =>
    have HR := Lib.hid (show x.plainTop = x by unfold V.plainTop; rw [hok]; rfl)
    rw [hok] at HO1
    have HC := fun W (hW : Below W0.heap.size W0 W) => Lib.hid (l02Copy_any x _ W (KB.out W hW).2.2 (by omega))
    clear hok
    go_wp2_with (first | (go_at_call 10; with_reducible refine HO1.out.mono ?_; rintro e1 w1 ⟨rfl, hb1⟩; obtain ⟨hbx1, hres1, -⟩ := KB.out _ hb1; obtain ⟨b0, b1, b2, b3, b4⟩ := hbx1.cells) | (go_at_call 16; refine (HC _ hb1).out.mono ?_; rintro e1 w2 ⟨cs', rfl, hb2, hox⟩; obtain ⟨x0, x1, x2, x3, xa, xl, xc, rfl⟩ := V.form hox.rd; have hbb := below2 hb1 hb2 (Nat.le_refl _); obtain ⟨-, hres2, -⟩ := KB.out _ hbb; obtain ⟨c0, c1, c2, c3, c4⟩ := hres2.cells; have f5 := hres2.free; have g5 := hres2.lt))
    obtain ⟨r1, r2⟩ := FIN.out _ _ _ _ _ _ _ _ _ hbb (hox.mono hb1.size)
    refine bodyPost_ret (v := .agg #[.int .i64 x0, .int .i64 x1, .int .i64 x2, .string ⟨x3.toArray⟩, .slice xa xl xc]) ?_ rfl ⟨[.int .i64 x0, .int .i64 x1, .int .i64 x2, .string ⟨x3.toArray⟩, .slice xa xl xc], rfl, r1, by rw [HR.out]; exact r2⟩
    simp [results, Tryd.results8, go_sem, c0, c1, c2, c3, c4]
  | true =>
    have hrt : V.rightBy pairsOk 12 x = true ∧ x.nodes ≤ 300 := by unfold V.ok at hok; simpa using hok
    rw [hok] at HO1
    have hps := V.plain_size x hwf
    have hpw := V.plain_wf x hwf (by omega)
    have hpb : x.plain.bulk ≤ 4294967295 := by omega
    have HP := fun W (hW : Below W0.heap.size W0 W) => Lib.hid (PlS_all x.nodes x _ 12 W (Nat.le_refl _) (KB.out W hW).2.2 hwf hb hrt.1)
    have HO2 := fun cs' W (hW : Below W0.heap.size W0 W) (hr : Rd W x.plain.d cs') => Lib.hid (valueOk_spec x.plain cs' W hr hpw hpb)
    cases hok2 : x.plain.ok with
    | false =>
      have HR := Lib.hid (show x.plainTop = x by unfold V.plainTop; rw [hok, if_pos rfl, hok2]; rfl)
      rw [hok2] at HO2
      have HC := fun W (hW : Below W0.heap.size W0 W) => Lib.hid (l02Copy_any x _ W (KB.out W hW).2.2 (by omega))
      clear hok hok2 hps hpw hpb hrt
      go_wp2_with (first | (go_at_call 10; with_reducible refine HO1.out.mono ?_; rintro e1 w1 ⟨rfl, hb1⟩; obtain ⟨hbx1, hres1, -⟩ := KB.out _ hb1; obtain ⟨b0, b1, b2, b3, b4⟩ := hbx1.cells) | (go_at_call 17; refine (HP _ hb1).out.mono ?_; rintro e1 w2 ⟨cs', rfl, hb2, hox⟩; obtain ⟨x0, x1, x2, x3, xa, xl, xc, rfl⟩ := V.form hox.rd; have hbb := below2 hb1 hb2 (Nat.le_refl _); clear hbx1 hres1 b0 b1 b2 b3 b4) | (go_at_call 10; refine (HO2 _ _ (hbb.alloc hbb.size _) (hox.rd.below ((Below.refl _ _).alloc (Nat.le_refl _) _))).out.mono ?_; rintro e1 w3 ⟨rfl, hb3⟩; have hbc := below2 (hbb.alloc hbb.size _) hb3 (Nat.le_refl _); obtain ⟨hbx3, hres3, -⟩ := KB.out _ hbc; obtain ⟨d0, d1, d2, d3, d4⟩ := hbx3.cells) | (go_at_call 16; refine (HC _ hbc).out.mono ?_; rintro e1 w4 ⟨cs', rfl, hb4, hoy⟩; obtain ⟨y0, y1, y2, y3, ya, yl, yc, rfl⟩ := V.form hoy.rd; have hbd := below2 hbc hb4 (Nat.le_refl _); obtain ⟨-, hres2, -⟩ := KB.out _ hbd; obtain ⟨c0, c1, c2, c3, c4⟩ := hres2.cells; have f5 := hres2.free; have g5 := hres2.lt))
      obtain ⟨r1, r2⟩ := FIN.out _ _ _ _ _ _ _ _ _ hbd (hoy.mono hbc.size)
      refine bodyPost_ret (v := .agg #[.int .i64 y0, .int .i64 y1, .int .i64 y2, .string ⟨y3.toArray⟩, .slice ya yl yc]) ?_ rfl ⟨[.int .i64 y0, .int .i64 y1, .int .i64 y2, .string ⟨y3.toArray⟩, .slice ya yl yc], rfl, r1, by rw [HR.out]; exact r2⟩
      simp [results, Tryd.results8, go_sem, c0, c1, c2, c3, c4]
    | true =>
      have HR := Lib.hid (show x.plainTop = x.plain by unfold V.plainTop; rw [hok, if_pos rfl, hok2]; rfl)
      rw [hok2] at HO2
      clear hok hok2 hps hpw hpb hrt
      go_wp2_with (first | (go_at_call 10; with_reducible refine HO1.out.mono ?_; rintro e1 w1 ⟨rfl, hb1⟩; obtain ⟨hbx1, hres1, -⟩ := KB.out _ hb1; obtain ⟨b0, b1, b2, b3, b4⟩ := hbx1.cells) | (go_at_call 17; refine (HP _ hb1).out.mono ?_; rintro e1 w2 ⟨cs', rfl, hb2, hox⟩; obtain ⟨x0, x1, x2, x3, xa, xl, xc, rfl⟩ := V.form hox.rd; have hbb := below2 hb1 hb2 (Nat.le_refl _); clear hbx1 hres1 b0 b1 b2 b3 b4; have hz2 := hbb.size) | (go_at_call 10; refine (HO2 _ _ (hbb.alloc hbb.size _) (hox.rd.below ((Below.refl _ _).alloc (Nat.le_refl _) _))).out.mono ?_; rintro e1 w3 ⟨rfl, hb3⟩; have hbc := below2 (hbb.alloc hbb.size _) hb3 (Nat.le_refl _); obtain ⟨-, hres2, -⟩ := KB.out _ hbc; obtain ⟨c0, c1, c2, c3, c4⟩ := hres2.cells; have f5 := hres2.free; have g5 := hres2.lt; have hyb := (valBox.new (w := w2) (k := x0) (n := x1) (e := x2) (s := x3) (v := .slice xa xl xc)).below hb3 (by simp); obtain ⟨d0, d1, d2, d3, d4⟩ := hyb.cells))
      obtain ⟨r1, r2⟩ := FIN.out _ _ _ _ _ _ _ _ _ hbc (((hox.alloc _).below hb3).mono hb1.size)
      refine bodyPost_ret (v := .agg #[.int .i64 x0, .int .i64 x1, .int .i64 x2, .string ⟨x3.toArray⟩, .slice xa xl xc]) ?_ rfl ⟨[.int .i64 x0, .int .i64 x1, .int .i64 x2, .string ⟨x3.toArray⟩, .slice xa xl xc], rfl, r1, by rw [HR.out]; exact r2⟩
      simp [results, Tryd.results8, go_sem, c0, c1, c2, c3, c4]
end Go.Proofs.YthngfihpnfoppaaDoor

namespace Go.Proofs.YthngfihpnfoppaaDoor
open Go.RowKit
variable {T : World → Prop} {hT : Low ngl T}

theorem vok_fn (v : V) (hw : v.wf) (hb : v.bulk ≤ 4294967295) : FnV (env T hT) 10 [.ag (vC v)] (.d (pB v.ok)) := by
  refine FnV.old rfl fun w C vs hF _ _ hlen hv => ?_
  match vs, hlen with
  | [a], _ =>
    have h0 := hv 0 _ _ rfl rfl
    rw [← V.pc_eq] at h0
    obtain ⟨cs, rfl, h1⟩ := vRd hF (V.wfd v) h0
    exact valueOk_spec v cs w h1 hw hb
end Go.Proofs.YthngfihpnfoppaaDoor

namespace Go.Proofs.YthngfihpnfoppaaDoor
open Go.RowKit

mutual
theorem V.right_mono (q : List V → Bool) : ∀ (d : Int) (v : V), V.rightBy q d v = true → V.rightBy q (d + 1) v = true
  | d, .mk k n e s kids, h => by
    simp only [V.rightBy, Bool.and_eq_true, decide_eq_true_eq] at h ⊢
    have := V.rights_mono q (d - 1) kids h.1
    rw [show d - 1 + 1 = d + 1 - 1 by omega] at this
    exact ⟨this, by omega, h.2.2⟩
theorem V.rights_mono (q : List V → Bool) : ∀ (d : Int) (vs : List V), V.rightsBy q d vs = true → V.rightsBy q (d + 1) vs = true
  | d, [], _ => rfl
  | d, v :: vs, h => by
    simp only [V.rightsBy, Bool.and_eq_true] at h ⊢
    exact ⟨V.right_mono q d v h.1, V.rights_mono q d vs h.2⟩
end
theorem V.ok_kid {v : V} (h : v.ok = true) (i : Nat) (hi : i < v.kids.length) : v.kids[i].ok = true := by
  obtain ⟨k, n, e, s, kids⟩ := v
  have hi' : i < kids.length := hi
  unfold V.ok at h ⊢
  rw [Bool.and_eq_true] at h ⊢
  have h5 := of_decide_eq_true h.2
  have h1 := h.1
  simp only [V.rightBy, Bool.and_eq_true] at h1
  replace h1 := h1.1
  simp only [V.nodes] at h5
  rw [V.rightsBy_all, List.all_eq_true] at h1
  have h2 := h1 kids[i] (List.getElem_mem hi')
  have h3 := V.right_mono pairsOk _ _ h2
  have h4 := V.nodes_get kids i hi'
  exact ⟨h3, decide_eq_true (by show kids[i].nodes ≤ 300; omega)⟩
theorem V.ok_len {v : V} (h : v.ok = true) : v.kids.length ≤ 300 := by
  obtain ⟨k, n, e, s, kids⟩ := v
  unfold V.ok at h
  rw [Bool.and_eq_true] at h
  have h5 := of_decide_eq_true h.2
  simp only [V.nodes] at h5
  have key : ∀ l : List V, l.length ≤ V.nodess l := by
    intro l
    induction l with
    | nil => simp [V.nodess]
    | cons x xs ih => obtain ⟨a, b, c, d, f⟩ := x; simp only [V.nodess, V.nodes, List.length_cons]; omega
  have := key kids
  show kids.length ≤ 300; omega

theorem V.wf_kid {v : V} (h : v.wf) (i : Nat) (hi : i < v.kids.length) : v.kids[i].wf := by
  obtain ⟨k, n, e, s, kids⟩ := v
  exact V.wfs_get h.2.2.2.2.2 i hi
theorem V.nodes_kid {v : V} {n : Nat} (h : v.nodes ≤ n + 1) (i : Nat) (hi : i < v.kids.length) : v.kids[i].nodes ≤ n := by
  obtain ⟨k, m, e, s, kids⟩ := v
  have hi' : i < kids.length := hi
  have := V.nodes_get kids i hi'
  simp only [V.nodes] at h
  show kids[i].nodes ≤ n; omega
end Go.Proofs.YthngfihpnfoppaaDoor

namespace Go.Proofs.YthngfihpnfoppaaDoor
open Go.RowKit

theorem Tabs.low : Low ngl Tabs := by
  intro w w' h hs hk
  have h1 : 0 < ngl := of_decide_eq_true (by unfold ngl; kernel_rfl)
  have h2 : 1 < ngl := of_decide_eq_true (by unfold ngl; kernel_rfl)
  refine ⟨fun c hc => ?_, fun i hi => ?_⟩
  · rw [World.cell?_of_block (a := ⟨_, _, none⟩) (hk _ h1)]; exact h.1 c hc
  · rw [World.cell?_of_block (a := ⟨_, _, none⟩) (hk _ h2), World.cell?_of_block (a := ⟨_, _, none⟩) (hk _ h2)]; exact h.2 i hi
end Go.Proofs.YthngfihpnfoppaaDoor

namespace Go.Proofs.YthngfihpnfoppaaDoor
open Go.RowKit

/-- all variables of the program lie in a world that is in shape -/
theorem ngl_of {w : World} (h : w.ShapedOpen Tryd.prog) : ngl ≤ w.heap.size := by
  have hlt : ngl < (begin Tryd.prog (fun _ _ => 0) default).world.heap.size := of_decide_eq_true (by unfold ngl; kernel_rfl)
  obtain ⟨o, _, h2, _⟩ := h.2 ngl (Nat.le_refl _) hlt
  exact Nat.le_of_lt (heap_lt h2)
/-- this world's own cells stay as they are -/
def Stay (T : World → Prop) (w : World) (W : World) : Prop := T W ∧ w.heap.size ≤ W.heap.size ∧ ∀ k, k < w.heap.size → W.heap[k]? = w.heap[k]?
theorem Stay.low {T : World → Prop} (hT : Low ngl T) {w : World} (hn : ngl ≤ w.heap.size) : Low w.heap.size (Stay T w) := fun W W' h hs hk =>
  ⟨hT W W' h.1 hs fun k hk' => hk k (Nat.lt_of_lt_of_le hk' hn), Nat.le_trans h.2.1 hs, fun k hk' => (hk k hk').trans (h.2.2 k hk')⟩
noncomputable def envW (T : World → Prop) (hT : Low ngl T) (w : World) (hn : ngl ≤ w.heap.size) : Env := ⟨Tryd.prog, w.heap.size, Stay T w, Stay.low hT hn, by kernel_rfl⟩
section
variable {T : World → Prop} {hT : Low ngl T} {w : World} {hn : ngl ≤ w.heap.size}
theorem FnV.toW {f : Nat} {args : List PV} {v : PV} (h : FnV (env T hT) f args v) : FnV (envW T hT w hn) f args v := Fn.up (E := env T hT) (E' := envW T hT w hn) rfl hn (fun _ h => h.1) h
theorem FnO.toW {f : Nat} {args : List PV} {v : PV} (h : FnO (env T hT) f args v) : FnO (envW T hT w hn) f args v := Fn.up (E := env T hT) (E' := envW T hT w hn) rfl hn (fun _ h => h.1) h
theorem Stay.rd {W : World} (h : Stay T w W) {d : D} {cs : List Value} (hr : Rd w d cs) : Rd W d cs := Rd.of (RepC.frame (S := (· < w.heap.size)) (fun b hb => h.2.2 b hb) hr)
end
/-- an argument as it comes -/
def rawL (cs : List Value) : List PC := cs.map .v
theorem rawL_er (cs : List Value) : erL (rawL cs) = rawL cs := by
  unfold rawL; rw [erL_map, List.map_map]; rfl
theorem rawL_len (cs : List Value) : (rawL cs).length = cs.length := by simp [rawL]
theorem rawL_inv {C : Cx} {W : World} {cs : List Value} {y : Value} (h : RpV C W (.ag (rawL cs)) y) : y = .agg cs.toArray := by
  cases h with
  | ag _ us hl =>
    have : us = cs := by
      refine List.ext_getElem (by rw [hl.1]; simp [rawL]) fun j h4 h5 => ?_
      have := hl.2 j (.v cs[j]) us[j] (by simp [rawL]) (by simp)
      generalize us[j] = x at this; generalize cs[j] = z at this
      cases this; rfl
    rw [this]
theorem int_inv {C : Cx} {W : World} {k : Int} {y : Value} (h : RpV C W (.d (pI k)) y) : y = .int .i64 k := by
  cases h with
  | d _ _ h => cases h; rfl
theorem rawL_rp {w : World} {d : D} {cs : List Value} (hr : Rd w d cs) (hw : d.wf) : RpV (C0 w) w (.ag (rawL cs)) (.agg cs.toArray) := by
  refine .ag _ _ ⟨by simp [rawL], fun j c y h1 h2 => ?_⟩
  have h0 := (hr.rp (C := C0 w) (fun _ _ hb => hb) hw).one
  unfold rawL at h1
  rw [List.getElem?_map, h2] at h1
  simp only [Option.map_some, Option.some.injEq] at h1; subst h1
  exact .v _ (h0 y (List.mem_of_getElem? h2))
theorem FnV.bool {E : Env} {f : Nat} {args : List PV} {b : Bool} (h : FnV E f args (.d (pB b))) {w : World} (hng : E.NG ≤ w.heap.size) (hT : E.T w) {vs : List Value} (hl : vs.length = args.length) (hv : ∀ (j : Nat) (x : PV) (y : Value), args[j]? = some x → vs[j]? = some y → RpV (C0 w) w x y) :
    Calls E.P f vs.toArray w fun e w' => e = .returned (.bool b) ∧ Below w.heap.size w w' := by
  refine (Fn.use h hng hT hl hv).mono ?_
  rintro e w' ⟨u, x, bx, live, C', rfl, h1, _, h3, h4, _⟩
  have hx : x = .d (pB b) := by
    cases x with
    | d c =>
      simp only [PV.dat, Option.some.injEq, PV.d.injEq] at h1
      cases c with
      | v y => simp only [PC.er] at h1; rw [h1]
      | sl t es => simp [PC.er, pB] at h1
      | bld p T t U => simp [PC.er, pB] at h1
      | anyp => simp [PC.er, pB] at h1
      | row => simp [PC.er, pB] at h1
    | _ => simp [PV.dat] at h1
  subst hx
  cases h3 with
  | d _ _ h => cases h; exact ⟨rfl, h4⟩
end Go.Proofs.YthngfihpnfoppaaDoor

namespace Go.Proofs.YthngfihpnfoppaaDoor
open Go.RowKit

def dU (x : UInt8) : D := .one (.int .u8 x.toNat)
def dBy (b : List UInt8) : D := .sl 1 (b.map dU)
theorem dBy_wf (b : List UInt8) : (dBy b).wf := by
  simp only [dBy, D.wf]
  refine ⟨fun e he => by obtain ⟨k, _, rfl⟩ := List.mem_map.1 he; rfl, ?_⟩
  induction b with
  | nil => trivial
  | cons k ks ih => exact ⟨rfl, ih⟩
theorem dBy_pc (b : List UInt8) : (dBy b).pc = [.sl 0 (pcB b)] := by
  simp only [dBy, D.pc, D.pcE_map, List.map_map, pcB]; rfl
theorem code_rp {w : World} {b : List UInt8} {v : Value} (h : Rd w (dBy b) [v]) : RpV (C0 w) w (.d (.sl 0 (pcB b))) v := rd1 h (dBy_wf b) (dBy_pc b)
theorem trod_code {H : Type} {enc : TypeId × Value → H} {w : World} {base : Nat} {spare : Nat → Bool} {held : Bool} (fuel : Nat) (cs : List Value) (y : DataW H × List MemPlace)
    (h : DataW.trod enc Tryd.prog w base spare held fuel 22 cs = some y) : ∃ (b : List UInt8) (v : Value), cs = [v] ∧ Rd w (dBy b) [v] ∧ b.length ≤ maxLen := by
  obtain ⟨xs, v, h1, h2, _, h4⟩ := trod_sl (f := dU) (ok := fun _ => True) Tryd.underlying22 (by kernel_rfl) (by decide) (fun _ => rfl) (fun n cs y _ h => by
    obtain ⟨m, rfl, _, hm⟩ := DataW.trod_int Tryd.underlying5 h
    have hb : 0 ≤ m ∧ m ≤ 255 := by
      simp [Lit.wf, IntKind.min, IntKind.max, IntKind.bits, IntKind.signed] at hm; exact ⟨by omega, by omega⟩
    exact ⟨UInt8.ofNat m.toNat, by simp [Rd, dU, RepC]; omega, trivial⟩) h
  exact ⟨xs, v, h1, h2, h4⟩
/-- a law of drawn values holds -/
theorem fnLaw {E : Env} {f : Nat} {b : List UInt8} (h : FnV E f [.d (.sl 0 (pcB b))] (.d (pB true))) {w : World} (hng : E.NG ≤ w.heap.size) (hT : E.T w) {v : Value} (hr : Rd w (dBy b) [v]) : Calls E.P f #[v] w fun e w' => e = .returned (.bool true) ∧ Below w.heap.size w w' :=
  FnV.bool h hng hT (vs := [v]) rfl fun j x y hx hy => by
    match j with
    | 0 => simp at hx hy; subst hx; subst hy; exact code_rp hr
    | j + 1 => simp at hx
end Go.Proofs.YthngfihpnfoppaaDoor
