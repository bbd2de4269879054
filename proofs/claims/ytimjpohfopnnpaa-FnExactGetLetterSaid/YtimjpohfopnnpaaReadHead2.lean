/- Contracts of the functions that read heads and frames, second part. -/
import Derived.Test.YtimjpohfopnnpaaReadHead
import Derived.Deep.RegionHeld3
namespace Go.Proofs.Ytimjpohfopnnpaa
open Go.RowKit

theorem getAt_any (l : List UInt8) (i : Int) : getAt l i = match anyAt l i with | some (m, n, x) => if i.toNat + (hd m n).length = x then some (m, n, x) else none | none => none := by
  unfold getAt anyAt getHd
  split <;> rfl
set_option maxHeartbeats 800000 in
theorem getHead_spec (l : List UInt8) (i : Int) (w : World) (hi : i64ok i) (hl : l.length ≤ 9223372036854775000) :
    Calls Try.prog 35 #[.string ⟨l.toArray⟩, .int .i64 i] w fun e w' => e = .returned (.tuple #[.int .i64 (hM (getAt l i)), .int .u64 (hN (getAt l i)), .int .i64 (hX (getAt l i))]) ∧ Below w.heap.size w w' := by
  have hg := getAt_any l i
  cases ha : anyAt l i with
  | none =>
    rw [ha] at hg
    have HG := Lib.hid hg
    rw [HG.out]
    go_enter Try.func35, Try.ntmps35
    go_wp2_with (go_at_call 44; refine (l05Any_any l i _ hi hl).mono ?_; rw [ha]; simp only [hM, hN, hX]; rintro e w1 ⟨rfl, hb1⟩)
    go_quiet (fail)
    go_wp2
    go_ret3
    exact ⟨rfl, below_drewN hb1 _⟩
  | some r =>
    obtain ⟨m, n, x⟩ := r
    rw [ha] at hg
    simp only at hg
    have hi0 : ¬ i < 0 := by intro h; unfold anyAt at ha; rw [if_pos h] at ha; cases ha
    have haa : anyHd l i.toNat = some (m, n, x) := by unfold anyAt at ha; rw [if_neg hi0] at ha; exact ha
    obtain ⟨h1, h2, h3, h4, h5, h6, h7⟩ := anyHd_some haa
    obtain ⟨j, rfl⟩ := Int.eq_ofNat_of_zero_le (show 0 ≤ i by omega)
    simp only [Int.toNat_natCast] at *
    have p1 : (0 : Int) ≤ x := by omega
    have p2 : (j : Int) ≤ x := by omega
    have p3 : (x : Int) ≤ l.length := by omega
    have HA := Lib.hid ha
    have HG := Lib.hid hg
    have H7 := Lib.hid h7
    clear ha haa hi0 hg h7
    go_enter Try.func35, Try.ntmps35
    go_wp2_with (go_at_call 44; refine (l05Any_any l j _ hi hl).mono ?_; rw [HA.out]; simp only [hM, hN, hX]; rintro e w1 ⟨rfl, hb1⟩)
    have hB := hb1
    have pd : decide ((x : Int) < 0) = false := by simp
    have q1 : (0 : Int) ≤ m ∧ (m : Int) ≤ 7 := by omega
    have q2 : (0 : Int) ≤ n ∧ (n : Int) ≤ 18446744073709551615 := by omega
    go_region_held3 (fun W => Below w.heap.size w W) (first | exact hB | exact hB.drew)
      (first | (go_at_call 21; refine (putHead_spec _ _ _ q1 q2).mono ?_; rintro e w2 ⟨rfl, hb2⟩; replace hB := below2 (by first | exact hB | exact hB.drew) hb2 (Nat.le_refl _)))
    go_wp2
    · have hne : (!hd m n == List.take (x - j) (List.drop j l)) = true := by assumption
      have hne' : ¬ (j + (hd m n).length = x) := by rw [← H7.out]; simpa using hne
      have hg := HG.out
      rw [if_neg hne'] at hg
      go_ret3
      exact ⟨by rw [hg]; rfl, hB⟩
    · have heq : (!hd m n == List.take (x - j) (List.drop j l)) = false := by assumption
      have heq' : j + (hd m n).length = x := by rw [← H7.out]; simpa using heq
      have hg := HG.out
      rw [if_pos heq'] at hg
      go_ret3
      exact ⟨by rw [hg]; rfl, hB⟩

def sw (v : Nat) : Int := IntKind.i64.wrap (v : Nat)
/-- n<<8 | b, in 64 bits -/
theorem or_byte (v : Nat) (b : Nat) (hb : b < 256) : bits .or .i64 (wrap64 (sw v * 256)) (b : Int) = sw (v * 256 + b) := by
  have e1 : (BitVec.ofInt 64 (wrap64 (sw v * 256))).toNat = v * 256 % 18446744073709551616 := by
    rw [BitVec.toNat_ofInt]; unfold wrap64 sw; rw [IntKind.wrap_i64]; omega
  have e2 : (BitVec.ofInt 64 (b : Int)).toNat = b := by rw [BitVec.toNat_ofInt]; omega
  have e3 : bits .or .i64 (wrap64 (sw v * 256)) (b : Int) = IntKind.i64.wrap ((BitVec.ofInt 64 (wrap64 (sw v * 256)) ||| BitVec.ofInt 64 (b : Int)).toNat : Nat) := rfl
  rw [e3, BitVec.toNat_or, e1, e2, nat_join8 _ _ (by omega) hb]
  unfold sw
  rw [IntKind.wrap_i64, IntKind.wrap_i64]
  omega

set_option maxHeartbeats 1600000 in
theorem getWide_any (l : List UInt8) (j k : Nat) (w : World) (hk : 1 ≤ k ∧ k ≤ 8) (hj : j ≤ l.length) (hl : l.length ≤ 9223372036854775000) :
    Calls Try.prog 47 #[.string ⟨l.toArray⟩, .int .i64 (j : Nat), .int .i64 (k : Nat)] w fun e w' =>
      e = .returned (if j + k ≤ l.length then .tuple #[.int .i64 (IntKind.i64.wrap (valBE ((l.drop j).take k) : Nat)), .bool true] else .tuple #[.int .i64 0, .bool false]) ∧ Below w.heap.size w w' := by
  have hin : inR k 1 8 = true := inR_yes (by omega)
  obtain ⟨hk1, hk2⟩ := hk
  by_cases h : j + k ≤ l.length
  · rw [if_pos h]
    go_enter Try.func47, Try.ntmps47
    go_wp2_with (go_at_call 23; refine (within_any _ _ _ _).mono ?_; rintro e w' ⟨rfl, rfl⟩)
    go_loop [8, 26] (fun n i => ∃ t : Nat, t ≤ k ∧ i = .int .i64 (t : Nat) ∧ n = .int .i64 (sw (valBE ((l.drop j).take t)))) (fun _ i => k - (intOf i).toNat)
    case atStart => exact ⟨0, by omega, rfl, rfl⟩
    case round =>
      obtain ⟨t, ht, rfl, rfl⟩ := hrel
      by_cases htk : t < k
      · have hlt : j + t < l.length := by omega
        have HS := Lib.hid (valBE_step l j t hlt)
        have hby := (l[j + t]).toNat_lt
        generalize hvv : valBE ((l.drop j).take t) = v at *
        clear hvv
        generalize hbb : (l[j + t]).toNat = bb at *
        have p3 : (j : Int) + ↑t < l.length := by omega
        go_wp2
        go_round
        case rel => exact ⟨t + 1, by omega, by go_num, by rw [HS.out, or_byte v bb hby]⟩
        case measure => simp [intOf] <;> omega
      · obtain rfl : t = k := by omega
        go_wp2
        go_ret2
        exact ⟨rfl, Below.refl _ _⟩
  · rw [if_neg h]
    go_enter Try.func47, Try.ntmps47
    go_wp2_with (go_at_call 23; refine (within_any _ _ _ _).mono ?_; rintro e w' ⟨rfl, rfl⟩)
    go_ret2
    exact ⟨rfl, Below.refl _ _⟩
end Go.Proofs.Ytimjpohfopnnpaa
