/- Whether a number lies in a range: the contracts of within and l01In. -/
import Derived.Test.YtkeieeogkeonfaaGreatDoorOwn
import Derived.Test.YtkeieeogkeonfaaGreatDoorRows
import Derived.WalkSpells
import Derived.Lib.Hide
import Derived.IntWalk
import Derived.Deep.DeepMust
import Derived.WalkLawsBesides
namespace Go.Proofs.YtkeieeogkeonfaaGreatDoor
open Go.RowKit

def inR (n a b : Int) : Bool := decide (a ≤ n) && decide (n ≤ b)
theorem inR_yes {n a b : Int} (h : a ≤ n ∧ n ≤ b) : inR n a b = true := by simp [inR, h]
theorem inR_no {n a b : Int} (h : ¬ (a ≤ n ∧ n ≤ b)) : inR n a b = false := by simp only [inR, Bool.and_eq_false_iff, decide_eq_false_iff_not]; omega
theorem within_any (n a b : Int) (w : World) :
    Calls Tryz.prog 63 #[.int .i64 n, .int .i64 a, .int .i64 b] w fun e w' => e = .returned (.bool (inR n a b)) ∧ w = w' := by
  by_cases h1 : a ≤ n
  · go_enter Tryz.func63, Tryz.ntmps63
    go_wp2
    go_ret
    exact ⟨by simp [inR, h1], rfl⟩
  · have H := Lib.hid (inR_no (n := n) (a := a) (b := b) (by omega))
    go_enter Tryz.func63, Tryz.ntmps63
    go_wp2
    go_ret
    exact ⟨by rw [H.out]; rfl, rfl⟩
theorem l01In_any (n a b : Int) (w : World) :
    Calls Tryz.prog 52 #[.int .i64 n, .int .i64 a, .int .i64 b] w fun e w' => e = .returned (.bool (inR n a b)) ∧ w = w' := by
  by_cases h1 : a ≤ n
  · go_enter Tryz.func52, Tryz.ntmps52
    go_wp2
    go_ret
    exact ⟨by simp [inR, h1], rfl⟩
  · have H := Lib.hid (inR_no (n := n) (a := a) (b := b) (by omega))
    go_enter Tryz.func52, Tryz.ntmps52
    go_wp2
    go_ret
    exact ⟨by rw [H.out]; rfl, rfl⟩

end Go.Proofs.YtkeieeogkeonfaaGreatDoor
