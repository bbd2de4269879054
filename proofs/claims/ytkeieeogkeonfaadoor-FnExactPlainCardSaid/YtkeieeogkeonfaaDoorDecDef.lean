/- Decimal numerals, digit by digit. No program in sight. -/
import Derived.Test.YtkeieeogkeonfaaDoorOwn
import Derived.Lib.ItoaLen
namespace Go.Proofs.YtkeieeogkeonfaaDoor
open Go.RowKit

def decOn (u : Nat) (l : List UInt8) : List UInt8 := if u = 0 then l else Lib.decDigits u ++ l
theorem decOn_step {u : Nat} (h : u ≠ 0) (l : List UInt8) : decOn (u / 10) (UInt8.ofNat (48 + u % 10) :: l) = decOn u l := by
  unfold decOn
  rw [if_neg h]
  by_cases h1 : u < 10
  · rw [if_pos (by omega), Lib.decDigits_one h1, Nat.mod_eq_of_lt h1]; rfl
  · rw [if_neg (by omega)]
    conv => rhs; rw [Lib.decDigits, dif_neg h1]
    simp
def digs : List UInt8 := [48, 49, 50, 51, 52, 53, 54, 55, 56, 57]
theorem digs_piece : ∀ d : Fin 10, (digs.drop d.val).take 1 = [UInt8.ofNat (48 + d.val)] := by decide
theorem digs_at {d : Nat} (h : d < 10) : (([48, 49, 50, 51, 52, 53, 54, 55, 56, 57] : List UInt8).drop d).take 1 = [UInt8.ofNat (48 + d)] := digs_piece ⟨d, h⟩
theorem tdivAbs (m : Int) : (Int.tdiv m 10).natAbs = m.natAbs / 10 := by rw [Int.natAbs_tdiv]; rfl
theorem tmodAbs (m : Int) : (Int.tmod m 10).natAbs = m.natAbs % 10 := by rw [Int.natAbs_tmod]; rfl
theorem decDigits_len20 {u : Nat} (h : u ≤ 9223372036854775808) : (Lib.decDigits u).length ≤ 20 := by rw [Lib.decDigits_length]; exact Lib.nDigits_le20 u (by omega)
end Go.Proofs.YtkeieeogkeonfaaDoor
