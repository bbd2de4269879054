/- Masks of integers of 64 bits and of bytes, as remainders. No program in sight. -/
import Derived.Test.YtkeieeogkeonfaaDoorBase
import Derived.Laws.BitsAllLaws
namespace Go.Proofs.YtkeieeogkeonfaaDoor
open Go.RowKit

theorem mask_i64 (x : Int) (k : Nat) (hk : k ≤ 62) (m : Int) (hm : m = 2 ^ k - 1) : bits .and .i64 x m = x % 2 ^ k := by
  subst hm
  have hp : (2 : Nat) ^ k ≤ 2 ^ 62 := Nat.pow_le_pow_right (by omega) hk
  have h0 : (1 : Nat) ≤ 2 ^ k := Nat.one_le_two_pow
  have e : ((2 : Int) ^ k - 1) = ((2 ^ k - 1 : Nat) : Int) := by rw [Int.natCast_sub h0]; simp
  have hm : (BitVec.ofInt 64 ((2 : Int) ^ k - 1)).toNat = 2 ^ k - 1 := by
    rw [e, BitVec.ofInt_natCast, BitVec.toNat_ofNat]; exact Nat.mod_eq_of_lt (by omega)
  show IntKind.i64.wrap ((BitVec.ofInt 64 x &&& BitVec.ofInt 64 ((2 : Int) ^ k - 1)).toNat : Int) = _
  rw [BitVec.toNat_and, hm, Nat.and_two_pow_sub_one_eq_mod, BitVec.toNat_ofInt]
  have hd : ((2 ^ k : Nat) : Int) ∣ ((2 ^ 64 : Nat) : Int) := by
    have : (2 : Nat) ^ k ∣ 2 ^ 64 := Nat.pow_dvd_pow 2 (by omega)
    exact Int.natCast_dvd_natCast.2 this
  have h1 : (((x % ((2 ^ 64 : Nat) : Int)).toNat % 2 ^ k : Nat) : Int) = x % ((2 ^ k : Nat) : Int) := by
    rw [Int.natCast_emod, Int.toNat_of_nonneg (Int.emod_nonneg _ (by decide)), Int.emod_emod_of_dvd _ hd]
  rw [h1]
  have h2 : ((2 ^ k : Nat) : Int) = (2 : Int) ^ k := by simp
  have h3 : (0 : Int) < ((2 ^ k : Nat) : Int) := by omega
  have h4 := Int.emod_nonneg x (show ((2 ^ k : Nat) : Int) ≠ 0 by omega)
  have h5 := Int.emod_lt_of_pos x h3
  rw [← h2, IntKind.wrap_i64]
  omega
theorem m1 (x : Int) : bits .and .i64 x 1 = x % 2 := mask_i64 x 1 (by decide) 1 (by decide)
theorem m7 (x : Int) : bits .and .i64 x 7 = x % 8 := mask_i64 x 3 (by decide) 7 (by decide)
theorem m15 (x : Int) : bits .and .i64 x 15 = x % 16 := mask_i64 x 4 (by decide) 15 (by decide)
theorem m31 (x : Int) : bits .and .i64 x 31 = x % 32 := mask_i64 x 5 (by decide) 31 (by decide)
theorem m63 (x : Int) : bits .and .i64 x 63 = x % 64 := mask_i64 x 6 (by decide) 63 (by decide)
theorem m127 (x : Int) : bits .and .i64 x 127 = x % 128 := mask_i64 x 7 (by decide) 127 (by decide)
theorem m255 (x : Int) : bits .and .i64 x 255 = x % 256 := mask_i64 x 8 (by decide) 255 (by decide)
attribute [go_sem] m1 m7 m15 m31 m63 m127 m255
end Go.Proofs.YtkeieeogkeonfaaDoor
