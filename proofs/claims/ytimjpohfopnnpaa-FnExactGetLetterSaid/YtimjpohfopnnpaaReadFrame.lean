/- Contracts of the functions that read frames and letters. -/
import Derived.Test.YtimjpohfopnnpaaReadHead3
import Derived.Test.YtimjpohfopnnpaaLetter
namespace Go.Proofs.Ytimjpohfopnnpaa
open Go.RowKit

theorem getAt_some {l : List UInt8} {i : Int} {m n x : Nat} (h : getAt l i = some (m, n, x)) : ∃ j : Nat, i = j ∧ j < x ∧ x ≤ l.length ∧ m ≤ 7 ∧ n < 18446744073709551616 ∧ hd m n = (l.drop j).take (x - j) := by
  unfold getAt at h
  split at h
  · cases h
  · obtain ⟨h1, h2, h3, h4, h5, h6⟩ := getHd_some h
    exact ⟨i.toNat, by omega, h2, h3, h4, h5, h6⟩
theorem getFr_none {l : List UInt8} {i : Int} (h : getAt l i = none) : getFr l i = none := by unfold getFr; rw [h]
theorem getFr_of {l : List UInt8} {i : Int} {m n x : Nat} (h : getAt l i = some (m, n, x)) : getFr l i =
    if m = 2 ∧ n ≤ 100000 ∧ x + n + 4 ≤ l.length ∧ (l.drop (x + n)).take 4 = be 4 (crc ((l.drop x).take n)) then some ((l.drop x).take n, x + n + 4) else none := by unfold getFr; rw [h]
theorem ret_si {a a' : List UInt8} {b b' : Int} (h1 : a = a') (h2 : b = b') : Ending.returned (.tuple #[.string ⟨a.toArray⟩, .int .i64 b]) = .returned (.tuple #[.string ⟨a'.toArray⟩, .int .i64 b']) := by rw [h1, h2]

set_option maxHeartbeats 800000 in
theorem getFrame_impl (l : List UInt8) (i : Int) (w : World) (hi : i64ok i) (hl : l.length ≤ 9223372036854775000) :
    Calls Try.prog 36 #[.string ⟨l.toArray⟩, .int .i64 i] w fun e w' => e = .returned (.tuple #[.string ⟨(fC (getFr l i)).toArray⟩, .int .i64 (fX (getFr l i))]) ∧ Below w.heap.size w w' := by
  cases hg : getAt l i with
  | none =>
    have HF := Lib.hid (getFr_none hg)
    rw [HF.out]
    go_enter Try.func36, Try.ntmps36
    go_wp2_with (go_at_call 45; refine (getHead_impl l i _ hi hl).mono ?_; rw [hg]; simp only [hM, hN, hX]; rintro e w1 ⟨rfl, hb1⟩)
    go_ret2
    exact ⟨rfl, hb1⟩
  | some r =>
    obtain ⟨m, n, x⟩ := r
    obtain ⟨j, rfl, h2, h3, h4, h5, _⟩ := getAt_some hg
    have HF := Lib.hid (getFr_of hg)
    have HA := Lib.hid hg
    clear hg
    by_cases hc : m = 2 ∧ n ≤ 100000 ∧ x + n + 4 ≤ l.length
    · obtain ⟨rfl, hc2, hc3⟩ := hc
      have q0 : (0 : Int) ≤ x := by omega
      have q1 : (x : Int) + ↑n ≤ l.length := by omega
      have q2 : (x : Int) + ↑n + 4 ≤ l.length := by omega
      have q3 : (x : Int) ≤ x + ↑n := by omega
      have hcl := crc_lt ((l.drop x).take n)
      have hct : ((l.drop x).take n).length ≤ maxLen := by rw [List.length_take]; unfold maxLen; omega
      have HC := Lib.hid hct
      clear hct
      go_enter Try.func36, Try.ntmps36
      go_wp2_with (first | (go_at_call 45; refine (getHead_impl l j _ hi hl).mono ?_; rw [HA.out]; simp only [hM, hN, hX]; rintro e w1 ⟨rfl, hb1⟩))
      have hB := hb1
      have q5 : (0 : Int) ≤ (crc ((l.drop x).take n) : Nat) ∧ ((crc ((l.drop x).take n) : Nat) : Int) ≤ 4294967295 := by omega
      have Q5 := Lib.hid q5
      clear q5 hcl
      have z1 : IntKind.i64.wrap ((x : Int) + n + 4) = (x : Int) + n + 4 := IntWalk.i64_in _ (by omega)
      have z2 : (0 : Int) ≤ (x : Int) + n + 4 := by omega
      have z3 : (0 : Int) ≤ (x : Int) + n := by omega
      have z4 : (x : Int) + n ≤ (x : Int) + n + 4 := by omega
      have z5 : ((x : Int) + n + 4).toNat = x + n + 4 := by omega
      have z6 : ((x : Int) + n).toNat = x + n := by omega
      go_region_held3 (fun W => Below w.heap.size w W) (first | exact hB | exact hB.drew)
        (first | (go_at_call 42; refine (crc_impl _ _ HC.out).mono ?_; rintro e w2 ⟨rfl, rfl⟩) | (go_at_call 41; refine (sumBytes_any _ _ Q5.out).mono ?_; rintro e w2 ⟨rfl, hb2⟩; replace hB := below2 (by first | exact hB | exact hB.drew) hb2 (Nat.le_refl _)))
      go_wp2
      · have he : (be 4 (crc ((l.drop x).take n)) == List.take 4 (List.drop (x + n) l)) = true := by assumption
        have hF := HF.out
        rw [if_pos ⟨by trivial, hc2, hc3, by simpa using (by simpa using he : be 4 (crc ((l.drop x).take n)) = _).symm⟩] at hF
        go_ret2
        exact ⟨by rw [hF]; simp [fC, fX], hB⟩
      · have he : (be 4 (crc ((l.drop x).take n)) == List.take 4 (List.drop (x + n) l)) = false := by assumption
        have hF := HF.out
        rw [if_neg (fun e => by rw [e.2.2.2] at he; simp at he)] at hF
        go_ret2
        exact ⟨by rw [hF]; rfl, hB⟩
    · have hF : getFr l j = none := by rw [HF.out, if_neg (fun e => hc ⟨e.1, e.2.1, e.2.2.1⟩)]
      rw [hF]
      clear hF
      go_enter Try.func36, Try.ntmps36
      go_wp2_with (go_at_call 45; refine (getHead_impl l j _ hi hl).mono ?_; rw [HA.out]; simp only [hM, hN, hX]; rintro e w1 ⟨rfl, hb1⟩)
      all_goals
        go_ret2
        exact ⟨rfl, hb1⟩

theorem frame_eq {l : List UInt8} {j n x : Nat} (hj : j < x) (hn : n ≤ 100000) (hx : x + n + 4 ≤ l.length) (hh : hd 2 n = (l.drop j).take (x - j)) :
    frame ((l.drop x).take n) = (l.drop j).take (x + n + 4 - j) ↔ (l.drop (x + n)).take 4 = be 4 (crc ((l.drop x).take n)) := by
  have hl : ((l.drop x).take n).length = n := by rw [List.length_take, List.length_drop]; omega
  have hs : (l.drop j).take (x + n + 4 - j) = (l.drop j).take (x - j) ++ ((l.drop x).take n ++ (l.drop (x + n)).take 4) := by
    rw [show x + n + 4 - j = (x - j) + (n + 4) by omega, List.take_add, List.drop_drop, show j + (x - j) = x by omega, List.take_add, List.drop_drop]
  unfold frame
  rw [hl, if_pos hn, hs, ← hh, List.append_assoc, List.append_cancel_left_eq, List.append_cancel_left_eq]
  exact eq_comm

set_option maxHeartbeats 800000 in
theorem getFrame_spec (l : List UInt8) (i : Int) (w : World) (hi : i64ok i) (hl : l.length ≤ 9223372036854775000) :
    Calls Try.prog 34 #[.string ⟨l.toArray⟩, .int .i64 i] w fun e w' => e = .returned (.tuple #[.string ⟨(fC (getFr l i)).toArray⟩, .int .i64 (fX (getFr l i))]) ∧ Below w.heap.size w w' := by
  cases hg : getAt l i with
  | none =>
    have HF := Lib.hid (getFr_none hg)
    rw [HF.out]
    go_enter Try.func34, Try.ntmps34
    go_wp2_with (go_at_call 35; refine (getHead_spec l i _ hi hl).mono ?_; rw [hg]; simp only [hM, hN, hX]; rintro e w1 ⟨rfl, hb1⟩)
    go_ret2
    exact ⟨rfl, hb1⟩
  | some r =>
    obtain ⟨m, n, x⟩ := r
    obtain ⟨j, rfl, h2, h3, h4, h5, h6⟩ := getAt_some hg
    have HF := Lib.hid (getFr_of hg)
    have HA := Lib.hid hg
    clear hg
    by_cases hc : m = 2 ∧ n ≤ 100000 ∧ x + n + 4 ≤ l.length
    · obtain ⟨rfl, hc2, hc3⟩ := hc
      have HE := Lib.hid (frame_eq h2 hc2 hc3 h6)
      clear h6
      have q0 : (0 : Int) ≤ x := by omega
      have q00 : (0 : Int) ≤ j := by omega
      have q1 : (x : Int) + ↑n ≤ l.length := by omega
      have q2 : (x : Int) + ↑n + 4 ≤ l.length := by omega
      have q3 : (x : Int) ≤ x + ↑n := by omega
      have HT := Lib.hid (show ((l.drop x).take n).length ≤ 9223372036854775807 by rw [List.length_take]; omega)
      go_enter Try.func34, Try.ntmps34
      go_wp2_with (first | (go_at_call 35; refine (getHead_spec l j _ hi hl).mono ?_; rw [HA.out]; simp only [hM, hN, hX]; rintro e w1 ⟨rfl, hb1⟩))
      have hB := hb1
      have z1 : IntKind.i64.wrap ((x : Int) + n + 4) = (x : Int) + n + 4 := IntWalk.i64_in _ (by omega)
      have z2 : (0 : Int) ≤ (x : Int) + n + 4 := by omega
      have z3 : (0 : Int) ≤ (x : Int) + n := by omega
      have z4 : (j : Int) ≤ (x : Int) + n + 4 := by omega
      have z5 : ((x : Int) + n + 4).toNat = x + n + 4 := by omega
      have z6 : ((x : Int) + n).toNat = x + n := by omega
      go_region_held3 (fun W => Below w.heap.size w W) (first | exact hB | exact hB.drew)
        (first | (go_at_call 20; refine (putFrame_spec _ _ HT.out).mono ?_; rintro e w2 ⟨rfl, hb2⟩; replace hB := below2 (by first | exact hB | exact hB.drew) hb2 (Nat.le_refl _)))
      go_wp2
      · have he : (!frame ((l.drop x).take n) == (l.drop j).take (x + n + 4 - j)) = true := by assumption
        have hF := HF.out
        rw [if_neg (fun e => by have h := HE.out.2 e.2.2.2; rw [h] at he; simp at he)] at hF
        go_ret2
        exact ⟨by rw [hF]; rfl, hB⟩
      · have he : (!frame ((l.drop x).take n) == (l.drop j).take (x + n + 4 - j)) = false := by assumption
        have hF := HF.out
        rw [if_pos ⟨by trivial, hc2, hc3, HE.out.1 (by simpa using he)⟩] at hF
        go_ret2
        exact ⟨by rw [hF]; simp [fC, fX], hB⟩
    · have hF : getFr l j = none := by rw [HF.out, if_neg (fun e => hc ⟨e.1, e.2.1, e.2.2.1⟩)]
      rw [hF]
      clear hF h6
      go_enter Try.func34, Try.ntmps34
      go_wp2_with (go_at_call 35; refine (getHead_spec l j _ hi hl).mono ?_; rw [HA.out]; simp only [hM, hN, hX]; rintro e w1 ⟨rfl, hb1⟩)
      all_goals
        go_ret2
        exact ⟨rfl, hb1⟩
end Go.Proofs.Ytimjpohfopnnpaa
