/- Contracts of the functions that write heads, frames and sums. -/
import Derived.Test.YtimjpohfopnnpaaOwn
import Derived.Test.YtimjpohfopnnpaaRows
import Derived.WalkSpells
import Derived.Lib.Hide
import Derived.IntWalk
import Derived.Deep.RegionWith
import Derived.Deep.DeepMust
import Derived.WalkLawsBesides
namespace Go.Proofs.Ytimjpohfopnnpaa
open Go.RowKit


theorem crc_and (y : Nat) (h : y < 4294967296) : bits .and .u32 (y : Int) 1 = ((y % 2 : Nat) : Int) := by
  have := u32_and_nat y 1 h (by omega)
  rw [show ((1 : Nat) : Int) = 1 from rfl] at this
  rw [this, Nat.and_one_is_mod]
theorem crc_xor (y : Nat) (h : y < 4294967296) : bits .xor .u32 ((y : Int) / 2) 3988292384 = ((y / 2 ^^^ 3988292384 : Nat) : Int) := by
  have := u32_xor_nat (y / 2) 3988292384 (by omega) (by omega)
  rw [← this]; rfl
theorem crc_not (l : List UInt8) : bits .xor .u32 IntKind.u32.max ((crcRaw l : Nat) : Int) = ((crc l : Nat) : Int) := by
  rw [crc, Nat.xor_comm]; exact u32_xor_nat 4294967295 _ (by decide) (crcRaw_lt l)
theorem crcBit_odd (y : Nat) (h : y % 2 = 1) : crcBit y = y / 2 ^^^ 3988292384 := by unfold crcBit; rw [if_pos h]
theorem crcBit_even (y : Nat) (h : ¬ y % 2 = 1) : crcBit y = y / 2 := by unfold crcBit; rw [if_neg h]

set_option maxHeartbeats 400000 in
theorem crc_spec (l : List UInt8) (w : World) (hs : l.length ≤ maxLen) :
    Calls Try.prog 40 #[.string ⟨l.toArray⟩] w fun e w' => e = .returned (.int .u32 (crc l)) ∧ w = w' := by
  unfold maxLen at hs
  go_enter Try.func40, Try.ntmps40
  go_wp2
  go_loop [3, 4] (fun x i => ∃ (k : Nat), k ≤ l.length ∧ i = .int .i64 k ∧ x = .int .u32 (crcRaw (l.take k))) (fun _ i => l.length - (intOf i).toNat)
  case atStart => exact ⟨0, Nat.zero_le _, rfl, rfl⟩
  case round =>
    obtain ⟨k, hk, rfl, rfl⟩ := hrel
    have hc := crcRaw_lt (l.take k)
    by_cases hlt : k < l.length
    · have hb := l[k].toNat_lt
      have hx : bits .xor .u32 (crcRaw (l.take k)) (l[k].toNat : Int) = ((crcRaw (l.take k) ^^^ l[k].toNat : Nat) : Int) := u32_xor_nat _ _ hc (by omega)
      have hxl : (crcRaw (l.take k) ^^^ l[k].toNat : Nat) < 4294967296 := xor_lt32 hc (by omega)
      have HS := Lib.hid (crcRaw_snoc l k hlt)
      go_wp2
      go_loop [3, 5] (fun x i => ∃ (j : Nat), j ≤ 8 ∧ i = .int .i64 j ∧ x = .int .u32 (crcBits j (crcRaw (l.take k) ^^^ l[k].toNat) : Nat)) (fun _ i => 8 - (intOf i).toNat)
      case atStart => exact ⟨0, Nat.zero_le _, rfl, rfl⟩
      case round =>
        obtain ⟨j, hj, rfl, rfl⟩ := hrel
        by_cases hl8 : j < 8
        · have hz := crcBits_lt hxl j
          generalize hy : crcBits j (crcRaw (l.take k) ^^^ l[k].toNat) = y at *
          have HY := Lib.hid hy; clear hy
          have ha := crc_and y hz
          by_cases ho : y % 2 = 1
          · have ha1 : bits .and .u32 (y : Int) 1 = 1 := by rw [ha, ho]; rfl
            have hx2 := crc_xor y hz
            have HF := Lib.hid (crcBit_odd y ho)
            clear ha ho
            go_wp2
            go_round
            case rel => exact ⟨j + 1, by omega, by go_num, by rw [crcBits, HY.out, HF.out]⟩
            case measure => simp [intOf] <;> omega
          · have ha1 : bits .and .u32 (y : Int) 1 = 0 := by rw [ha, show y % 2 = 0 by omega]; rfl
            have HF := Lib.hid (crcBit_even y ho)
            clear ha ho
            go_wp2
            go_round
            case rel => exact ⟨j + 1, by omega, by go_num, by rw [crcBits, HY.out, HF.out]; simp⟩
            case measure => simp [intOf] <;> omega
        · obtain rfl : j = 8 := by omega
          go_wp2
          go_round
          case rel => exact ⟨k + 1, by omega, by go_num, by rw [HS.out]; rfl⟩
          case measure => simp [intOf] <;> omega
    · obtain rfl : k = l.length := by omega
      have hx : bits .xor .u32 ((crcRaw l : Nat) : Int) (4294967295 : Int) = ((crc l : Nat) : Int) := u32_xor_nat _ _ (crcRaw_lt l) (by decide)
      go_wp2
      go_ret
      exact ⟨rfl, rfl⟩

theorem tyB : ElemTy Try.prog 71 5 1 1 := ElemTy.mk' (z := .int .u8 0) Try.underlying71 (by kernel_rfl) rfl (by decide)

set_option maxHeartbeats 400000 in
theorem l05Big_any (n k : Nat) (w : World) (hk : k ≤ 8) (hn : n < 18446744073709551616) :
    Calls Try.prog 39 #[.int .u64 n, .int .i64 k] w fun e w' => e = .returned (.string ⟨(be k n).toArray⟩) ∧ Below w.heap.size w w' := by
  go_enter Try.func39, Try.ntmps39
  go_wp2
  go_loopw [0, 5, 6] (fun x v i wr => ∃ j : Nat, j ≤ k ∧ i = .int .i64 j ∧ x = .int .u64 (n / 256 ^ j : Nat) ∧ OwnB wr w.heap.size 5 v (be j n) ∧ v ≠ .slice none 0 0 ∧ Below w.heap.size w wr) (fun _ _ i _ => k - (intOf i).toNat)
  case atStart => exact ⟨0, Nat.zero_le _, rfl, by simp, OwnB.start, by simp, (Below.refl _ _).alloc (Nat.le_refl _) _⟩
  case round =>
    obtain ⟨j, hj, rfl, rfl, hown, hnn, hbel⟩ := hrel
    obtain ⟨g, c, rfl, hg⟩ := hown.form' hnn
    have hsz := hbel.size
    have hcs := hown.cells g rfl
    by_cases hlt : j < k
    · have HS := Lib.hid (be_cons j n)
      have HD := Lib.hid (Nat.div_div_eq_div_mul n (256 ^ j) 256)
      generalize hm : n / 256 ^ j = m at *
      have HM := Lib.hid hm; clear hm
      have hbv := byte_val m
      have hlt64 : m < 18446744073709551616 := by rw [← HM.out]; exact Nat.lt_of_le_of_lt (Nat.div_le_self _ _) hn
      go_wp2_with (at_builtin; refine wp_appB tyB rfl rfl w.heap.size (OwnB.one _ hsz) rfl ⟨g, 0, none⟩ c rfl ((hown.alloc _).cells g rfl) (by simp [be_length]; omega) (by simp; omega) ?_)
      intro v' w1 hown1 hgr hnn1
      have hbel1 := OwnB.below (OwnB.one (byteOf m) hsz) (hbel.alloc hsz _) hgr (by simp; omega)
      clear hcs hown hbel
      go_wp2
      go_roundw
      case rel => exact ⟨j + 1, by omega, by go_num, by rw [Nat.pow_succ, ← HD.out]; go_num, by rw [HS.out]; exact hown1, hnn1, hbel1⟩
      case measure => simp [intOf] <;> omega
    · obtain rfl : j = k := by omega
      have hstr := hown.str (P := Try.prog) 71 Try.underlying71 Try.underlying5 9 Try.underlying9
      simp only [be_length] at hstr
      go_wp2
      go_ret
      exact ⟨rfl, hbel⟩

def inR (n a b : Int) : Bool := decide (a ≤ n) && decide (n ≤ b)
theorem inR_yes {n a b : Int} (h : a ≤ n ∧ n ≤ b) : inR n a b = true := by simp [inR, h]
theorem inR_no {n a b : Int} (h : ¬ (a ≤ n ∧ n ≤ b)) : inR n a b = false := by simp only [inR, Bool.and_eq_false_iff, decide_eq_false_iff_not]; omega
theorem within_any (n a b : Int) (w : World) :
    Calls Try.prog 23 #[.int .i64 n, .int .i64 a, .int .i64 b] w fun e w' => e = .returned (.bool (inR n a b)) ∧ w = w' := by
  by_cases h1 : a ≤ n
  · go_enter Try.func23, Try.ntmps23
    go_wp2
    go_ret
    exact ⟨by simp [inR, h1], rfl⟩
  · have H := Lib.hid (inR_no (n := n) (a := a) (b := b) (by omega))
    go_enter Try.func23, Try.ntmps23
    go_wp2
    go_ret
    exact ⟨by rw [H.out]; rfl, rfl⟩
theorem l01In_any (n a b : Int) (w : World) :
    Calls Try.prog 19 #[.int .i64 n, .int .i64 a, .int .i64 b] w fun e w' => e = .returned (.bool (inR n a b)) ∧ w = w' := by
  by_cases h1 : a ≤ n
  · go_enter Try.func19, Try.ntmps19
    go_wp2
    go_ret
    exact ⟨by simp [inR, h1], rfl⟩
  · have H := Lib.hid (inR_no (n := n) (a := a) (b := b) (by omega))
    go_enter Try.func19, Try.ntmps19
    go_wp2
    go_ret
    exact ⟨by rw [H.out]; rfl, rfl⟩

set_option maxHeartbeats 400000 in
theorem putWide_any (n : Int) (k : Nat) (w : World) (hk : 1 ≤ k ∧ k ≤ 8) (hn : -9223372036854775808 ≤ n ∧ n ≤ 9223372036854775807) :
    Calls Try.prog 43 #[.int .i64 n, .int .i64 k] w fun e w' => e = .returned (.string ⟨(be k (lo64 n)).toArray⟩) ∧ Below w.heap.size w w' := by
  obtain ⟨hk1, hk2⟩ := hk
  obtain ⟨hn1, hn2⟩ := hn
  have hin : inR k 1 8 = true := inR_yes (by omega)
  go_enter Try.func43, Try.ntmps43
  go_wp2_with (go_at_call 23; refine (within_any _ _ _ _).mono ?_; rintro e w' ⟨rfl, rfl⟩)
  go_loopw [5, 6] (fun v i wr => ∃ j q : Nat, j + q = k ∧ i = .int .i64 ((q : Int) - 1) ∧ OwnB wr w.heap.size 5 v (be j (lo64 n / 256 ^ q)) ∧ v ≠ .slice none 0 0 ∧ Below w.heap.size w wr) (fun _ i _ => (intOf i + 1).toNat)
  case atStart => exact ⟨0, k, by omega, rfl, OwnB.start, by simp, (Below.refl _ _).alloc (Nat.le_refl _) _⟩
  case round =>
    obtain ⟨j, q, hjq, rfl, hown, hnn, hbel⟩ := hrel
    obtain ⟨g, c, rfl, hg⟩ := hown.form' hnn
    have hsz := hbel.size
    by_cases hlt : 0 < q
    · obtain ⟨q, rfl⟩ : ∃ p, q = p + 1 := ⟨q - 1, by omega⟩
      rw [show ((q + 1 : Nat) : Int) - 1 = q by omega]
      have hq8 : q ≤ 7 := by omega
      have hbv : n / 2 ^ (8 * q) % 256 = ((byteOf (lo64 n / 256 ^ q)).toNat : Nat) := wide_byte n q hq8 hn1 hn2
      have HS := Lib.hid (be_step (lo64 n) j q)
      go_wp2_with (at_builtin; refine wp_appB (r := [byteOf (lo64 n / 256 ^ q)]) tyB rfl rfl w.heap.size (hown.alloc _) rfl ⟨wr.heap.size, 0, none⟩ 1 rfl (cell_one_new _ _ _) (by simp [be_length]; omega) (by simp; omega) ?_)
      intro v' w1 hown1 hgr hnn1
      have hbel1 := OwnB.below (hown.alloc _) (hbel.alloc hsz _) hgr (by simp; omega)
      have hnn2 : ¬ v' = .slice none 0 0 := fun h => by simpa using hnn1 h
      clear hown hbel hnn1
      go_wp2
      go_roundw
      case rel => exact ⟨j + 1, q, by omega, rfl, by rw [HS.out]; exact hown1, hnn2, hbel1⟩
      case measure => simp [intOf]
    · obtain rfl : q = 0 := by omega
      obtain rfl : j = k := by omega
      simp only [Nat.pow_zero, Nat.div_one] at hown
      have hstr := hown.str (P := Try.prog) 71 Try.underlying71 Try.underlying5 9 Try.underlying9
      simp only [be_length] at hstr
      go_wp2
      go_ret
      exact ⟨rfl, hbel⟩

set_option maxHeartbeats 400000 in
theorem crc_impl (l : List UInt8) (w : World) (hs : l.length ≤ maxLen) :
    Calls Try.prog 42 #[.string ⟨l.toArray⟩] w fun e w' => e = .returned (.int .u32 (crc l)) ∧ w = w' := by
  unfold maxLen at hs
  go_enter Try.func42, Try.ntmps42
  go_wp2
  go_loop [3, 8] (fun x i => ∃ (k : Nat), k ≤ l.length ∧ i = .int .i64 k ∧ x = .int .u32 (crcRaw (l.take k))) (fun _ i => l.length - (intOf i).toNat)
  case atStart => exact ⟨0, Nat.zero_le _, rfl, rfl⟩
  case round =>
    obtain ⟨k, hk, rfl, rfl⟩ := hrel
    have hc := crcRaw_lt (l.take k)
    by_cases hlt : k < l.length
    · have hb := l[k].toNat_lt
      have hx : bits .xor .u32 (crcRaw (l.take k)) (l[k].toNat : Int) = ((crcRaw (l.take k) ^^^ l[k].toNat : Nat) : Int) := u32_xor_nat _ _ hc (by omega)
      have hxl : (crcRaw (l.take k) ^^^ l[k].toNat : Nat) < 4294967296 := xor_lt32 hc (by omega)
      have HS := Lib.hid (crcRaw_snoc l k hlt)
      go_wp2
      go_loop [3, 17] (fun x i => ∃ (j : Nat), j ≤ 8 ∧ i = .int .i64 j ∧ x = .int .u32 (crcBits j (crcRaw (l.take k) ^^^ l[k].toNat) : Nat)) (fun _ i => 8 - (intOf i).toNat)
      case atStart => exact ⟨0, Nat.zero_le _, rfl, rfl⟩
      case round =>
        obtain ⟨j, hj, rfl, rfl⟩ := hrel
        by_cases hl8 : j < 8
        · have hz := crcBits_lt hxl j
          generalize hy : crcBits j (crcRaw (l.take k) ^^^ l[k].toNat) = y at *
          have HY := Lib.hid hy; clear hy
          have ha := crc_and y hz
          by_cases ho : y % 2 = 1
          · have ha1 : bits .and .u32 (y : Int) 1 = 1 := by rw [ha, ho]; rfl
            have hx2 := crc_xor y hz
            have HF := Lib.hid (crcBit_odd y ho)
            clear ha ho
            go_wp2
            go_round
            case rel => exact ⟨j + 1, by omega, by go_num, by rw [crcBits, HY.out, HF.out]⟩
            case measure => simp [intOf] <;> omega
          · have ha1 : bits .and .u32 (y : Int) 1 = 0 := by rw [ha, show y % 2 = 0 by omega]; rfl
            have HF := Lib.hid (crcBit_even y ho)
            clear ha ho
            go_wp2
            go_round
            case rel => exact ⟨j + 1, by omega, by go_num, by rw [crcBits, HY.out, HF.out]; simp⟩
            case measure => simp [intOf] <;> omega
        · obtain rfl : j = 8 := by omega
          go_wp2
          go_round
          case rel => exact ⟨k + 1, by omega, by go_num, by rw [HS.out]; rfl⟩
          case measure => simp [intOf] <;> omega
    · obtain rfl : k = l.length := by omega
      have hx := crc_not l
      go_wp2
      go_ret
      exact ⟨rfl, rfl⟩

theorem l05Big_i (n k : Int) (w : World) (hk : 0 ≤ k ∧ k ≤ 8) (hn : 0 ≤ n ∧ n ≤ 18446744073709551615) :
    Calls Try.prog 39 #[.int .u64 n, .int .i64 k] w fun e w' => e = .returned (.string ⟨(be k.toNat n.toNat).toArray⟩) ∧ Below w.heap.size w w' := by
  obtain ⟨n, rfl⟩ := Int.eq_ofNat_of_zero_le hn.1
  obtain ⟨k, rfl⟩ := Int.eq_ofNat_of_zero_le hk.1
  exact l05Big_any n k w (by omega) (by omega)

set_option maxHeartbeats 800000 in
theorem putHead_spec (m n : Int) (w : World) (hm : 0 ≤ m ∧ m ≤ 7) (hn : 0 ≤ n ∧ n ≤ 18446744073709551615) :
    Calls Try.prog 21 #[.int .i64 m, .int .u64 n] w fun e w' => e = .returned (.string ⟨(hd m.toNat n.toNat).toArray⟩) ∧ Below w.heap.size w w' := by
  have hin : inR m 0 7 = true := inR_yes hm
  obtain ⟨hm1, hm2⟩ := hm
  obtain ⟨hn1, hn2⟩ := hn
  go_enter Try.func21, Try.ntmps21
  go_wp2_with (first | (go_at_call 19; refine (l01In_any _ _ _ _).mono ?_; rintro e w' ⟨rfl, rfl⟩) | (go_at_call 39; refine (l05Big_i _ _ _ (by omega) (by omega)).mono ?_; rintro e w' ⟨rfl, hb⟩))
  all_goals
    go_ret
    refine ⟨ret_str ?_, by first | assumption | exact below2 (by assumption) (by assumption) (Nat.le_refl _)⟩
    unfold hd
    repeat (first | rw [if_pos (by omega)] | rw [if_neg (by omega)])
    first | exact be_eq (by omega) | exact app_eq (be_eq (by omega)) (be_eq (by omega))

theorem putWide_i (n k : Int) (w : World) (hk : 1 ≤ k ∧ k ≤ 8) (hn : -9223372036854775808 ≤ n ∧ n ≤ 9223372036854775807) :
    Calls Try.prog 43 #[.int .i64 n, .int .i64 k] w fun e w' => e = .returned (.string ⟨(be k.toNat (lo64 n)).toArray⟩) ∧ Below w.heap.size w w' := by
  obtain ⟨k, rfl⟩ := Int.eq_ofNat_of_zero_le (show 0 ≤ k by omega)
  exact putWide_any n k w (by omega) hn

/-- .. of a number of 64 bits that is turned into an int -/
theorem putWide_w (n k : Int) (w : World) (hk : 1 ≤ k ∧ k ≤ 8) (hn : 0 ≤ n ∧ n ≤ 18446744073709551615) :
    Calls Try.prog 43 #[.int .i64 (IntKind.i64.wrap n), .int .i64 k] w fun e w' => e = .returned (.string ⟨(be k.toNat n.toNat).toArray⟩) ∧ Below w.heap.size w w' := by
  have := putWide_i (IntKind.i64.wrap n) k w hk (wrap_bd n)
  rwa [lo64_wrap, lo64_of n hn] at this

set_option maxHeartbeats 800000 in
theorem putHead_impl (m n : Int) (w : World) (hm : 0 ≤ m ∧ m ≤ 7) (hn : 0 ≤ n ∧ n ≤ 18446744073709551615) :
    Calls Try.prog 25 #[.int .i64 m, .int .u64 n] w fun e w' => e = .returned (.string ⟨(hd m.toNat n.toNat).toArray⟩) ∧ Below w.heap.size w w' := by
  have hin : inR m 0 7 = true := inR_yes hm
  obtain ⟨hm1, hm2⟩ := hm
  obtain ⟨hn1, hn2⟩ := hn
  have hcv := fun b c w => conv1 (P := Try.prog) Try.underlying71 Try.underlying5 Try.underlying9 b c w
  go_enter Try.func25, Try.ntmps25
  go_wp2_with (go_at_call 23; refine (within_any _ _ _ _).mono ?_; rintro e w' ⟨rfl, rfl⟩)
  · have hlt : n < 24 := by assumption
    go_ret
    refine ⟨ret_str ?_, (Below.refl _ _).alloc (Nat.le_refl _) _⟩
    rw [be1_plain m n ⟨hm1, hm2⟩ hn1, hd, if_pos (by omega)]
  all_goals
    go_region_with (go_at_call 43; refine (putWide_w n _ _ (by decide) ⟨hn1, hn2⟩).mono ?_; rintro e w' ⟨rfl, hb⟩; obtain ⟨hc, hf⟩ := bcell hb)
  all_goals
    go_wp2
    go_ret
    refine ⟨ret_str ?_, ?_⟩
    · unfold hd
      repeat (first | rw [if_pos (by omega)] | rw [if_neg (by omega)])
      first | exact app_eq (be1_wrap m 24 ⟨hm1, hm2⟩ (by decide)) rfl | exact app_eq (be1_wrap m 25 ⟨hm1, hm2⟩ (by decide)) rfl | exact app_eq (be1_wrap m 26 ⟨hm1, hm2⟩ (by decide)) rfl | exact app_eq (be1_wrap m 27 ⟨hm1, hm2⟩ (by decide)) rfl
    · first | exact (((Below.refl _ _).alloc (Nat.le_refl _) _).drew.trans (hb.mono (by simp))) | exact ((Below.refl w.heap.size w).drew.trans hb).alloc hb.size _

set_option maxHeartbeats 800000 in
theorem putFrame_spec (l : List UInt8) (w : World) (hs : l.length ≤ 9223372036854775807) :
    Calls Try.prog 20 #[.string ⟨l.toArray⟩] w fun e w' => e = .returned (.string ⟨(frame l).toArray⟩) ∧ Below w.heap.size w w' := by
  have hc := crc_lt l
  have hh := hd_length 2 l.length
  obtain ⟨hh1, hh2⟩ := hh
  have hm : l.length ≤ maxLen := hs
  have HM := Lib.hid hm
  clear hm
  go_enter Try.func20, Try.ntmps20
  go_wp2_with (first | (go_at_call 21; refine (putHead_spec _ _ _ (by omega) (by omega)).mono ?_; rintro e w' ⟨rfl, hb⟩) | (go_at_call 39; refine (l05Big_i _ _ _ (by omega) (by omega)).mono ?_; rintro e w' ⟨rfl, hb⟩) | (go_at_call 40; refine (crc_spec _ _ HM.out).mono ?_; rintro e w' ⟨rfl, rfl⟩))
  all_goals
    go_ret
    refine ⟨ret_str ?_, by first | exact Below.refl _ _ | exact below2 (by assumption) (by assumption) (Nat.le_refl _)⟩
    unfold frame
    first | rw [if_pos (by omega)] | rw [if_neg (by omega)]
  simp

set_option maxHeartbeats 400000 in
theorem sumBytes_any (n : Int) (w : World) (hn : 0 ≤ n ∧ n ≤ 4294967295) :
    Calls Try.prog 41 #[.int .u32 n] w fun e w' => e = .returned (.string ⟨(be 4 n.toNat).toArray⟩) ∧ Below w.heap.size w w' := by
  obtain ⟨hn1, hn2⟩ := hn
  have H := Lib.hid (lo64_of n ⟨hn1, by omega⟩)
  go_enter Try.func41, Try.ntmps41
  go_wp2_with (go_at_call 43; refine (putWide_i _ _ _ (by omega) (by omega)).mono ?_; rintro e w' ⟨rfl, hb⟩)
  go_ret
  exact ⟨by rw [H.out]; rfl, hb⟩

set_option maxHeartbeats 800000 in
theorem putFrame_impl (l : List UInt8) (w : World) (hs : l.length ≤ 9223372036854775807) :
    Calls Try.prog 24 #[.string ⟨l.toArray⟩] w fun e w' => e = .returned (.string ⟨(frame l).toArray⟩) ∧ Below w.heap.size w w' := by
  have hc := crc_lt l
  have hh := hd_length 2 l.length
  obtain ⟨hh1, hh2⟩ := hh
  have hm : l.length ≤ maxLen := hs
  have HM := Lib.hid hm
  clear hm
  go_enter Try.func24, Try.ntmps24
  go_wp2_with (first | (go_at_call 25; refine (putHead_impl _ _ _ (by omega) (by omega)).mono ?_; rintro e w' ⟨rfl, hb⟩) | (go_at_call 41; refine (sumBytes_any _ _ (by omega)).mono ?_; rintro e w' ⟨rfl, hb⟩) | (go_at_call 42; refine (crc_impl _ _ HM.out).mono ?_; rintro e w' ⟨rfl, rfl⟩))
  all_goals
    go_ret
    refine ⟨ret_str ?_, by first | exact Below.refl _ _ | exact below2 (by assumption) (by assumption) (Nat.le_refl _)⟩
    unfold frame
    first | rw [if_pos (by omega)] | rw [if_neg (by omega)]
  simp
end Go.Proofs.Ytimjpohfopnnpaa
