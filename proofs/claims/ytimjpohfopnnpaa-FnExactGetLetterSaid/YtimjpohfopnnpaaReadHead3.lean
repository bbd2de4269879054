/- Contracts of the functions that read heads and frames, third part: the program's own. -/
import Derived.Test.YtimjpohfopnnpaaReadHead2
namespace Go.Proofs.Ytimjpohfopnnpaa
open Go.RowKit

theorem u64_back {v : Nat} (h : v < 18446744073709551616) : IntKind.u64.wrap (wrap64 (v : Nat)) = (v : Nat) := by
  have : IntKind.u64.wrap (wrap64 (v : Nat)) = wrap64 (v : Nat) % 18446744073709551616 := by simp [IntKind.wrap, IntKind.bits, IntKind.signed]
  rw [this]; unfold wrap64; omega

set_option maxHeartbeats 2000000 in
theorem anyHead_any (l : List UInt8) (i : Int) (w : World) (hi : i64ok i) (hl : l.length ≤ 9223372036854775000) :
    Calls Try.prog 46 #[.string ⟨l.toArray⟩, .int .i64 i] w fun e w' => e = .returned (.tuple #[.int .i64 (hM (anyAt l i)), .int .u64 (hN (anyAt l i)), .int .i64 (hX (anyAt l i))]) ∧ Below w.heap.size w w' := by
  by_cases h0 : 0 ≤ i ∧ i ≤ (l.length : Int) - 1
  · have hin : inR i 0 ((l.length : Int) - 1) = true := inR_yes h0
    obtain ⟨j, rfl⟩ := Int.eq_ofNat_of_zero_le h0.1
    have hj : j < l.length := by omega
    have HR := Lib.hid (show anyAt l (j : Nat) = anyHd l j by unfold anyAt; rw [if_neg (by omega)]; rfl)
    rw [HR.out]
    clear h0
    have hb := l[j].toNat_lt
    have p1 : (0 : Int) ≤ j := by omega
    have p2 : (j : Int) < l.length := by omega
    by_cases h24 : l[j].toNat % 32 < 24
    · have H := Lib.hid (anyHd_lt hj h24)
      rw [H.out]
      generalize hq : l[j].toNat = q at *
      have ha := u8_and31 (x := (q : Int)) (by omega) (by omega)
      go_enter Try.func46, Try.ntmps46
      go_wp2_with (go_at_call 23; refine (within_any _ _ _ _).mono ?_; rintro e w' ⟨rfl, rfl⟩)
      go_quiet (fail)
      go_wp2
      go_ret3
      exact ⟨by simp [hM, hN, hX], below_drewN (Below.refl _ _) _⟩
    · by_cases h27 : 27 < l[j].toNat % 32
      · have H := Lib.hid (anyHd_gt hj h27)
        rw [H.out]
        generalize hq : l[j].toNat = q at *
        have ha := u8_and31 (x := (q : Int)) (by omega) (by omega)
        go_enter Try.func46, Try.ntmps46
        go_wp2_with (go_at_call 23; refine (within_any _ _ _ _).mono ?_; rintro e w' ⟨rfl, rfl⟩)
        go_quiet (fail)
        go_wp2
        go_ret3
        exact ⟨by simp [hM, hN, hX], below_drewN (Below.refl _ _) _⟩
      · obtain ⟨k, hk, hk3⟩ : ∃ k, l[j].toNat % 32 = 24 + k ∧ k ≤ 3 := ⟨l[j].toNat % 32 - 24, by omega, by omega⟩
        have hp : 2 ^ k ≤ 8 ∧ 1 ≤ 2 ^ k := by
          have : k = 0 ∨ k = 1 ∨ k = 2 ∨ k = 3 := by omega
          rcases this with rfl | rfl | rfl | rfl <;> decide
        obtain ⟨m, hm⟩ : ∃ m, m = 2 ^ k := ⟨_, rfl⟩
        have hw1 : wrap64 (2 ^ k) = (m : Int) := by
          rw [hm]
          have : k = 0 ∨ k = 1 ∨ k = 2 ∨ k = 3 := by omega
          rcases this with rfl | rfl | rfl | rfl <;> (unfold wrap64; decide)
        have hk2 : l[j].toNat % 32 - 24 = k := by omega
        rw [← hm] at hp
        obtain ⟨hp1, hp2⟩ := hp
        by_cases hs : j + 1 + m ≤ l.length
        · have H := Lib.hid (anyHd_long hj hk hk3 (by rw [← hm]; exact hs))
          rw [H.out, ← hm]
          have HM := Lib.hid hm
          clear hm
          generalize hq : l[j].toNat = q at *
          have ha := u8_and31 (x := (q : Int)) (by omega) (by omega)
          go_enter Try.func46, Try.ntmps46
          go_wp2_with (go_at_call 23; refine (within_any _ _ _ _).mono ?_; rintro e w' ⟨rfl, rfl⟩)
          go_quiet (fail)
          have HW := Lib.hid hw1
          have HK2 := Lib.hid hk2
          clear hw1 hk2
          go_wp2_with fail
          simp only [HK2.out, HW.out]
          rw [show ((j : Int) + 1) = ((j + 1 : Nat) : Int) from by omega]
          refine (getWide_any l (j + 1) m _ ⟨hp2, hp1⟩ (by omega) hl).mono ?_
          rw [if_pos hs]
          rintro e w2 ⟨rfl, hb2⟩
          have hv64 : valBE ((l.drop (j + 1)).take m) < 18446744073709551616 := Nat.lt_of_lt_of_le (valBE_lt _) (Nat.le_trans (Nat.pow_le_pow_right (by decide) (show _ ≤ 8 by rw [List.length_take]; omega)) (by decide))
          have HV := Lib.hid hv64
          clear hv64
          go_wp2
          go_ret3
          refine ⟨?_, below2 (below_drewN (Below.refl _ _) _) hb2 (Nat.le_refl _)⟩
          simp [hM, hN, hX]
          exact u64_back HV.out
        · have H := Lib.hid (anyHd_short hj hk hk3 (by rw [← hm]; omega))
          rw [H.out]
          have HM := Lib.hid hm
          clear hm
          generalize hq : l[j].toNat = q at *
          have ha := u8_and31 (x := (q : Int)) (by omega) (by omega)
          go_enter Try.func46, Try.ntmps46
          go_wp2_with (go_at_call 23; refine (within_any _ _ _ _).mono ?_; rintro e w' ⟨rfl, rfl⟩)
          go_quiet (fail)
          have HW := Lib.hid hw1
          have HK2 := Lib.hid hk2
          clear hw1 hk2
          go_wp2_with fail
          simp only [HK2.out, HW.out]
          rw [show ((j : Int) + 1) = ((j + 1 : Nat) : Int) from by omega]
          refine (getWide_any l (j + 1) m _ ⟨hp2, hp1⟩ (by omega) hl).mono ?_
          rw [if_neg hs]
          rintro e w2 ⟨rfl, hb2⟩
          go_wp2
          go_ret3
          exact ⟨by simp [hM, hN, hX], below2 (below_drewN (Below.refl _ _) _) hb2 (Nat.le_refl _)⟩
  · have hin : inR i 0 ((l.length : Int) - 1) = false := inR_no h0
    have H := Lib.hid (show anyAt l i = none by
      unfold anyAt; split
      · rfl
      · unfold anyHd; rw [List.getElem?_eq_none (by omega)])
    rw [H.out]
    go_enter Try.func46, Try.ntmps46
    go_wp2_with (go_at_call 23; refine (within_any _ _ _ _).mono ?_; rintro e w' ⟨rfl, rfl⟩)
    go_ret3
    exact ⟨rfl, Below.refl _ _⟩

theorem length_eq_iff (a b x : Nat) : ((a : Int) != (x : Int) - (b : Int)) = !decide (b + a = x) := by
  rw [Bool.eq_iff_iff]; simp; omega

set_option maxHeartbeats 800000 in
theorem getHead_impl (l : List UInt8) (i : Int) (w : World) (hi : i64ok i) (hl : l.length ≤ 9223372036854775000) :
    Calls Try.prog 45 #[.string ⟨l.toArray⟩, .int .i64 i] w fun e w' => e = .returned (.tuple #[.int .i64 (hM (getAt l i)), .int .u64 (hN (getAt l i)), .int .i64 (hX (getAt l i))]) ∧ Below w.heap.size w w' := by
  have hg := getAt_any l i
  cases ha : anyAt l i with
  | none =>
    rw [ha] at hg
    have HG := Lib.hid hg
    rw [HG.out]
    go_enter Try.func45, Try.ntmps45
    go_wp2_with (go_at_call 46; refine (anyHead_any l i _ hi hl).mono ?_; rw [ha]; simp only [hM, hN, hX]; rintro e w1 ⟨rfl, hb1⟩)
    go_ret3
    exact ⟨rfl, hb1⟩
  | some r =>
    obtain ⟨m, n, x⟩ := r
    rw [ha] at hg
    simp only at hg
    have hi0 : ¬ i < 0 := by intro h; unfold anyAt at ha; rw [if_pos h] at ha; cases ha
    have haa : anyHd l i.toNat = some (m, n, x) := by unfold anyAt at ha; rw [if_neg hi0] at ha; exact ha
    obtain ⟨h1, h2, h3, h4, h5, _, h7⟩ := anyHd_some haa
    obtain ⟨j, rfl⟩ := Int.eq_ofNat_of_zero_le (show 0 ≤ i by omega)
    simp only [Int.toNat_natCast] at *
    have p1 : (0 : Int) ≤ x := by omega
    have p2 : (j : Int) ≤ x := by omega
    have p3 : (x : Int) ≤ l.length := by omega
    have HA := Lib.hid ha
    have HG := Lib.hid hg
    have hhl := (hd_length m n).1
    clear ha haa hi0 hg h7
    have pd : decide ((x : Int) < 0) = false := by simp
    have q1 : (0 : Int) ≤ m ∧ (m : Int) ≤ 7 := by omega
    have q2 : (0 : Int) ≤ n ∧ (n : Int) ≤ 18446744073709551615 := by omega
    go_enter Try.func45, Try.ntmps45
    go_wp2_with (first | (go_at_call 46; refine (anyHead_any l j _ hi hl).mono ?_; rw [HA.out]; simp only [hM, hN, hX]; rintro e w1 ⟨rfl, hb1⟩) | (go_at_call 25; refine (putHead_impl _ _ _ q1 q2).mono ?_; rintro e w2 ⟨rfl, hb2⟩))
    · have hne : (((hd m n).length : Int) != (x : Int) - (j : Int)) = true := by assumption
      have hne' : ¬ (j + (hd m n).length = x) := by rw [length_eq_iff] at hne; simpa using hne
      have hg := HG.out
      rw [if_neg hne'] at hg
      go_ret3
      exact ⟨by rw [hg]; rfl, below2 hb1 hb2 (Nat.le_refl _)⟩
    · have hne : (((hd m n).length : Int) != (x : Int) - (j : Int)) = false := by assumption
      have hne' : j + (hd m n).length = x := by rw [length_eq_iff] at hne; simpa using hne
      have hg := HG.out
      rw [if_pos hne'] at hg
      go_ret3
      exact ⟨by rw [hg]; rfl, below2 hb1 hb2 (Nat.le_refl _)⟩
end Go.Proofs.Ytimjpohfopnnpaa
