/- Contracts of the functions that read heads and frames. -/
import Derived.Test.YtimjpohfopnnpaaHead
import Derived.Test.YtimjpohfopnnpaaGetHead
import Derived.Deep.QuietTactic
import Derived.BigQuiet
namespace Go.Proofs.Ytimjpohfopnnpaa
open Go.RowKit

theorem anyHd_lt {l : List UInt8} {j : Nat} (hj : j < l.length) (h : l[j].toNat % 32 < 24) : anyHd l j = some (l[j].toNat / 32, l[j].toNat % 32, j + 1) := by
  unfold anyHd; rw [List.getElem?_eq_getElem hj]; simp only; rw [if_pos h]
theorem anyHd_gt {l : List UInt8} {j : Nat} (hj : j < l.length) (h : 27 < l[j].toNat % 32) : anyHd l j = none := by
  unfold anyHd; rw [List.getElem?_eq_getElem hj]; simp only; rw [if_neg (by omega), if_pos h]
theorem anyHd_short {l : List UInt8} {j k : Nat} (hj : j < l.length) (h : l[j].toNat % 32 = 24 + k) (hk : k ≤ 3) (hl : l.length < j + 1 + 2 ^ k) : anyHd l j = none := by
  unfold anyHd; rw [List.getElem?_eq_getElem hj]; simp only; rw [h, if_neg (by omega), if_neg (by omega), Nat.add_sub_cancel_left, if_pos hl]
theorem anyHd_long {l : List UInt8} {j k : Nat} (hj : j < l.length) (h : l[j].toNat % 32 = 24 + k) (hk : k ≤ 3) (hl : j + 1 + 2 ^ k ≤ l.length) : anyHd l j = some (l[j].toNat / 32, valBE ((l.drop (j + 1)).take (2 ^ k)), j + 1 + 2 ^ k) := by
  unfold anyHd; rw [List.getElem?_eq_getElem hj]; simp only; rw [h, if_neg (by omega), if_neg (by omega), Nat.add_sub_cancel_left, if_neg (by omega)]
theorem ret3 {a a' b b' c c' : Int} (h1 : a = a') (h2 : b = b') (h3 : c = c') : Ending.returned (.tuple #[.int .i64 a, .int .u64 b, .int .i64 c]) = .returned (.tuple #[.int .i64 a', .int .u64 b', .int .i64 c']) := by rw [h1, h2, h3]
theorem valBE_step (l : List UInt8) (s k : Nat) (h : s + k < l.length) : valBE ((l.drop s).take (k + 1)) = valBE ((l.drop s).take k) * 256 + l[s + k].toNat := by
  rw [valBE_take (l.drop s) k (by simp; omega), List.getElem_drop]

theorem valBE_step' (l : List UInt8) (j t : Nat) (h : j + (t + 1) < l.length) : valBE ((l.drop (j + 1)).take (t + 1)) = valBE ((l.drop (j + 1)).take t) * 256 + l[j + (t + 1)].toNat := by
  have := valBE_step l (j + 1) t (by omega)
  rw [this]; congr 3; omega
theorem valBE_bd (l : List UInt8) (j t : Nat) (h : t ≤ 7) : valBE ((l.drop (j + 1)).take t) < 72057594037927936 :=
  Nat.lt_of_lt_of_le (valBE_lt _) (Nat.le_trans (Nat.pow_le_pow_right (by decide) (show _ ≤ 7 by rw [List.length_take]; omega)) (by decide))

set_option maxHeartbeats 2000000 in
theorem l05Any_k (l : List UInt8) (j k m : Nat) (w : World) (hj : j < l.length) (hm : m = 2 ^ k) (hk : k ≤ 3) (hq : l[j].toNat % 32 = 24 + k) (hl : l.length ≤ 9223372036854775000) :
    Calls Try.prog 44 #[.string ⟨l.toArray⟩, .int .i64 (j : Nat)] w fun e w' => e = .returned (.tuple #[.int .i64 (hM (anyHd l j)), .int .u64 (hN (anyHd l j)), .int .i64 (hX (anyHd l j))]) ∧ Below w.heap.size w w' := by
  have hb := l[j].toNat_lt
  have p1 : (0 : Int) ≤ j := by omega
  have p2 : (j : Int) < l.length := by omega
  have hmk : (k = 0 ∧ m = 1) ∨ (k = 1 ∧ m = 2) ∨ (k = 2 ∧ m = 4) ∨ (k = 3 ∧ m = 8) := by
    have : k = 0 ∨ k = 1 ∨ k = 2 ∨ k = 3 := by omega
    rcases this with rfl | rfl | rfl | rfl <;> simp_all
  by_cases hs : l.length < j + 1 + m
  · have H := Lib.hid (anyHd_short hj hq hk (by rw [← hm]; exact hs))
    rw [H.out]
    have HM := Lib.hid hm
    clear hm
    generalize hqq : l[j].toNat = q at *
    have hmr : (k = 0 ∧ m = 1 ∧ (q : Int) % 32 = 24) ∨ (k = 1 ∧ m = 2 ∧ (q : Int) % 32 = 25) ∨ (k = 2 ∧ m = 4 ∧ (q : Int) % 32 = 26) ∨ (k = 3 ∧ m = 8 ∧ (q : Int) % 32 = 27) := by omega
    clear hmk hq
    rcases hmr with ⟨rfl, rfl, hr⟩ | ⟨rfl, rfl, hr⟩ | ⟨rfl, rfl, hr⟩ | ⟨rfl, rfl, hr⟩
    all_goals
      go_enter Try.func44, Try.ntmps44
      go_wp2
      go_quiet (fail)
      have hbel := below_drewN (Below.refl w.heap.size w) nq
      generalize w.drewN nq = w1 at *
      have hsz := hbel.size
      go_wp2
      go_ret3
      exact ⟨by simp [hM, hN, hX], hbel.alloc hsz _⟩
  · have H := Lib.hid (anyHd_long hj hq hk (by rw [← hm]; omega))
    rw [H.out]
    have HM := Lib.hid hm
    rw [← hm]
    clear hm
    generalize hqq : l[j].toNat = q at *
    have hmr : (k = 0 ∧ m = 1 ∧ (q : Int) % 32 = 24) ∨ (k = 1 ∧ m = 2 ∧ (q : Int) % 32 = 25) ∨ (k = 2 ∧ m = 4 ∧ (q : Int) % 32 = 26) ∨ (k = 3 ∧ m = 8 ∧ (q : Int) % 32 = 27) := by omega
    clear hmk hq
    rcases hmr with ⟨rfl, rfl, hr⟩ | ⟨rfl, rfl, hr⟩ | ⟨rfl, rfl, hr⟩ | ⟨rfl, rfl, hr⟩
    · go_enter Try.func44, Try.ntmps44
      go_wp2
      go_quiet (fail)
      have hbel := below_drewN (Below.refl w.heap.size w) nq
      generalize w.drewN nq = w1 at *
      have hsz := hbel.size
      go_wp2
      have HRR := Lib.hid hr
      clear hr p1 p2
      go_loopw [10, 11] (fun n i wr => ∃ t : Nat, t ≤ 1 ∧ i = .int .i64 ((t : Int) + 1) ∧ n = .int .u64 (valBE ((l.drop (j + 1)).take t) : Nat) ∧ Below w.heap.size w wr) (fun _ i _ => (1 + 1 - intOf i).toNat)
      case atStart => exact ⟨0, by omega, rfl, rfl, hbel.alloc hsz _⟩
      case round =>
        obtain ⟨t, ht, rfl, rfl, hbel2⟩ := hrel
        by_cases htm : t < 1
        · have hlt : j + (t + 1) < l.length := by omega
          have HS := Lib.hid (valBE_step' l j t hlt)
          have hv7 := valBE_bd l j t (by omega)
          have hby := (l[j + (t + 1)]).toNat_lt
          generalize hvv : valBE ((l.drop (j + 1)).take t) = v at *
          clear hvv
          generalize hbb : (l[j + (t + 1)]).toNat = bb at *
          have p3 : (j : Int) + (↑t + 1) < l.length := by omega
          go_wp2
          go_roundw
          case rel => exact ⟨t + 1, by omega, by go_num, by rw [HS.out]; go_num, hbel2⟩
          case measure => simp [intOf] <;> omega
        · obtain rfl : t = 1 := by omega
          go_wp2
          go_ret3
          exact ⟨by simp [hM, hN, hX], hbel2⟩
    · go_enter Try.func44, Try.ntmps44
      go_wp2
      go_quiet (fail)
      have hbel := below_drewN (Below.refl w.heap.size w) nq
      generalize w.drewN nq = w1 at *
      have hsz := hbel.size
      go_wp2
      have HRR := Lib.hid hr
      clear hr p1 p2
      go_loopw [10, 11] (fun n i wr => ∃ t : Nat, t ≤ 2 ∧ i = .int .i64 ((t : Int) + 1) ∧ n = .int .u64 (valBE ((l.drop (j + 1)).take t) : Nat) ∧ Below w.heap.size w wr) (fun _ i _ => (2 + 1 - intOf i).toNat)
      case atStart => exact ⟨0, by omega, rfl, rfl, hbel.alloc hsz _⟩
      case round =>
        obtain ⟨t, ht, rfl, rfl, hbel2⟩ := hrel
        by_cases htm : t < 2
        · have hlt : j + (t + 1) < l.length := by omega
          have HS := Lib.hid (valBE_step' l j t hlt)
          have hv7 := valBE_bd l j t (by omega)
          have hby := (l[j + (t + 1)]).toNat_lt
          generalize hvv : valBE ((l.drop (j + 1)).take t) = v at *
          clear hvv
          generalize hbb : (l[j + (t + 1)]).toNat = bb at *
          have p3 : (j : Int) + (↑t + 1) < l.length := by omega
          go_wp2
          go_roundw
          case rel => exact ⟨t + 1, by omega, by go_num, by rw [HS.out]; go_num, hbel2⟩
          case measure => simp [intOf] <;> omega
        · obtain rfl : t = 2 := by omega
          go_wp2
          go_ret3
          exact ⟨by simp [hM, hN, hX], hbel2⟩
    · go_enter Try.func44, Try.ntmps44
      go_wp2
      go_quiet (fail)
      have hbel := below_drewN (Below.refl w.heap.size w) nq
      generalize w.drewN nq = w1 at *
      have hsz := hbel.size
      go_wp2
      have HRR := Lib.hid hr
      clear hr p1 p2
      go_loopw [10, 11] (fun n i wr => ∃ t : Nat, t ≤ 4 ∧ i = .int .i64 ((t : Int) + 1) ∧ n = .int .u64 (valBE ((l.drop (j + 1)).take t) : Nat) ∧ Below w.heap.size w wr) (fun _ i _ => (4 + 1 - intOf i).toNat)
      case atStart => exact ⟨0, by omega, rfl, rfl, hbel.alloc hsz _⟩
      case round =>
        obtain ⟨t, ht, rfl, rfl, hbel2⟩ := hrel
        by_cases htm : t < 4
        · have hlt : j + (t + 1) < l.length := by omega
          have HS := Lib.hid (valBE_step' l j t hlt)
          have hv7 := valBE_bd l j t (by omega)
          have hby := (l[j + (t + 1)]).toNat_lt
          generalize hvv : valBE ((l.drop (j + 1)).take t) = v at *
          clear hvv
          generalize hbb : (l[j + (t + 1)]).toNat = bb at *
          have p3 : (j : Int) + (↑t + 1) < l.length := by omega
          go_wp2
          go_roundw
          case rel => exact ⟨t + 1, by omega, by go_num, by rw [HS.out]; go_num, hbel2⟩
          case measure => simp [intOf] <;> omega
        · obtain rfl : t = 4 := by omega
          go_wp2
          go_ret3
          exact ⟨by simp [hM, hN, hX], hbel2⟩
    · go_enter Try.func44, Try.ntmps44
      go_wp2
      go_quiet (fail)
      have hbel := below_drewN (Below.refl w.heap.size w) nq
      generalize w.drewN nq = w1 at *
      have hsz := hbel.size
      go_wp2
      have HRR := Lib.hid hr
      clear hr p1 p2
      go_loopw [10, 11] (fun n i wr => ∃ t : Nat, t ≤ 8 ∧ i = .int .i64 ((t : Int) + 1) ∧ n = .int .u64 (valBE ((l.drop (j + 1)).take t) : Nat) ∧ Below w.heap.size w wr) (fun _ i _ => (8 + 1 - intOf i).toNat)
      case atStart => exact ⟨0, by omega, rfl, rfl, hbel.alloc hsz _⟩
      case round =>
        obtain ⟨t, ht, rfl, rfl, hbel2⟩ := hrel
        by_cases htm : t < 8
        · have hlt : j + (t + 1) < l.length := by omega
          have HS := Lib.hid (valBE_step' l j t hlt)
          have hv7 := valBE_bd l j t (by omega)
          have hby := (l[j + (t + 1)]).toNat_lt
          generalize hvv : valBE ((l.drop (j + 1)).take t) = v at *
          clear hvv
          generalize hbb : (l[j + (t + 1)]).toNat = bb at *
          have p3 : (j : Int) + (↑t + 1) < l.length := by omega
          go_wp2
          go_roundw
          case rel => exact ⟨t + 1, by omega, by go_num, by rw [HS.out]; go_num, hbel2⟩
          case measure => simp [intOf] <;> omega
        · obtain rfl : t = 8 := by omega
          go_wp2
          go_ret3
          exact ⟨by simp [hM, hN, hX], hbel2⟩

set_option maxHeartbeats 2000000 in
theorem l05Any_any (l : List UInt8) (i : Int) (w : World) (hi : i64ok i) (hl : l.length ≤ 9223372036854775000) :
    Calls Try.prog 44 #[.string ⟨l.toArray⟩, .int .i64 i] w fun e w' => e = .returned (.tuple #[.int .i64 (hM (anyAt l i)), .int .u64 (hN (anyAt l i)), .int .i64 (hX (anyAt l i))]) ∧ Below w.heap.size w w' := by
  by_cases h0 : i < 0
  · have HR := Lib.hid (show anyAt l i = none by unfold anyAt; rw [if_pos h0])
    rw [HR.out]
    go_enter Try.func44, Try.ntmps44
    go_wp2
    go_ret3
    exact ⟨rfl, Below.refl _ _⟩
  · obtain ⟨j, rfl⟩ := Int.eq_ofNat_of_zero_le (show 0 ≤ i by omega)
    have HR := Lib.hid (show anyAt l (j : Nat) = anyHd l j by unfold anyAt; rw [if_neg h0]; rfl)
    rw [HR.out]
    by_cases hj : j < l.length
    · have hb := l[j].toNat_lt
      generalize hq : l[j].toNat = q at *
      have HQ := Lib.hid hq
      have p1 : (0 : Int) ≤ j := by omega
      have p2 : (j : Int) < l.length := by omega
      by_cases h24 : q % 32 < 24
      · have H := Lib.hid (anyHd_lt hj (by rw [hq]; exact h24))
        rw [H.out, hq]
        go_enter Try.func44, Try.ntmps44
        go_wp2
        go_quiet (fail)
        go_wp2
        go_ret3
        exact ⟨by simp [hM, hN, hX], below_drewN (Below.refl _ _) _⟩
      · by_cases h27 : 27 < q % 32
        · have H := Lib.hid (anyHd_gt hj (by rw [hq]; exact h27))
          rw [H.out]
          go_enter Try.func44, Try.ntmps44
          go_wp2
          go_quiet (fail)
          go_wp2
          go_ret3
          exact ⟨by simp [hM, hN, hX], below_drewN (Below.refl _ _) _⟩
        · have hk : q % 32 = 24 ∨ q % 32 = 25 ∨ q % 32 = 26 ∨ q % 32 = 27 := by omega
          rcases hk with hk | hk | hk | hk
          · exact l05Any_k l j 0 1 w hj rfl (by omega) (by rw [hq]; exact hk) hl
          · exact l05Any_k l j 1 2 w hj rfl (by omega) (by rw [hq]; exact hk) hl
          · exact l05Any_k l j 2 4 w hj rfl (by omega) (by rw [hq]; exact hk) hl
          · exact l05Any_k l j 3 8 w hj rfl (by omega) (by rw [hq]; exact hk) hl
    · have H := Lib.hid (show anyHd l j = none by unfold anyHd; rw [List.getElem?_eq_none (by omega)])
      rw [H.out]
      go_enter Try.func44, Try.ntmps44
      go_wp2
      go_ret3
      exact ⟨rfl, Below.refl _ _⟩
end Go.Proofs.Ytimjpohfopnnpaa
