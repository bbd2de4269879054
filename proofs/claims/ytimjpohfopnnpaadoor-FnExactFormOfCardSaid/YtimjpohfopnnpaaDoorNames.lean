/- Contracts of the functions that name the forms. -/
import Derived.Test.YtimjpohfopnnpaaDoorRange
namespace Go.Proofs.YtimjpohfopnnpaaDoor
open Go.RowKit

set_option maxHeartbeats 400000 in
theorem isGiven_any (n : Int) (w : World) :
    Calls Tryd.prog 11 #[.int .i64 n] w fun e w' => e = .returned (.bool (inR n 0 6)) ∧ w = w' := by
  go_enter Tryd.func11, Tryd.ntmps11
  go_wp2_with (go_at_call 15; refine (within_any _ _ _ _).mono ?_; rintro e w' ⟨rfl, rfl⟩)
  go_ret
  exact ⟨rfl, rfl⟩

def formName (f : Int) : List UInt8 :=
  if f = 0 then [106, 115, 111, 110] else if f = 1 then [109, 115, 103] else if f = 2 then [99, 98, 111, 114] else if f = 3 then [114, 101, 102, 115]
  else if f = 4 then [107, 101, 121, 115] else if f = 5 then [112, 97, 99, 107] else if f = 6 then [97, 108, 108] else []

set_option maxHeartbeats 400000 in
theorem l16Names_any (w : World) :
    Calls Tryd.prog 10 #[] w fun e w' => e = .returned (.slice (some ⟨w.heap.size, 0, none⟩) 7 7) ∧ w' = w.alloc (.cells #[.string ⟨(formName 0).toArray⟩, .string ⟨(formName 1).toArray⟩, .string ⟨(formName 2).toArray⟩, .string ⟨(formName 3).toArray⟩, .string ⟨(formName 4).toArray⟩, .string ⟨(formName 5).toArray⟩, .string ⟨(formName 6).toArray⟩] 9) := by
  go_enter Tryd.func10, Tryd.ntmps10
  go_wp2
  go_ret
  exact ⟨rfl, rfl⟩

set_option maxHeartbeats 400000 in
theorem formName_spec (n : Int) (w : World) :
    Calls Tryd.prog 5 #[.int .i64 n] w fun e w' => e = .returned (.string ⟨(formName n).toArray⟩) ∧ Below w.heap.size w w' := by
  by_cases h : 0 ≤ n ∧ n ≤ 6
  · have hin : inR n 0 6 = true := inR_yes h
    have : n = 0 ∨ n = 1 ∨ n = 2 ∨ n = 3 ∨ n = 4 ∨ n = 5 ∨ n = 6 := by omega
    rcases this with rfl | rfl | rfl | rfl | rfl | rfl | rfl
    all_goals
      go_enter Tryd.func5, Tryd.ntmps5
      go_wp2_with (first | (go_at_call 9; refine (l01In_any _ _ _ _).mono ?_; rintro e w' ⟨rfl, rfl⟩) | (go_at_call 10; refine (l16Names_any _).mono ?_; rintro e w' ⟨rfl, rfl⟩))
      go_ret
      exact ⟨rfl, (Below.refl _ _).alloc (Nat.le_refl _) _⟩
  · have hin : inR n 0 6 = false := inR_no h
    go_enter Tryd.func5, Tryd.ntmps5
    go_wp2_with (first | (go_at_call 9; refine (l01In_any _ _ _ _).mono ?_; rintro e w' ⟨rfl, rfl⟩))
    go_ret
    refine ⟨ret_str ?_, Below.refl _ _⟩
    unfold formName
    repeat rw [if_neg (by omega)]

theorem formName_some {f : Int} (h : 0 ≤ f ∧ f ≤ 6) : (formName f).isEmpty = false := by
  have : f = 0 ∨ f = 1 ∨ f = 2 ∨ f = 3 ∨ f = 4 ∨ f = 5 ∨ f = 6 := by omega
  rcases this with rfl | rfl | rfl | rfl | rfl | rfl | rfl <;> rfl
theorem formName_none {f : Int} (h : ¬ (0 ≤ f ∧ f ≤ 6)) : (formName f).isEmpty = true := by
  unfold formName; repeat rw [if_neg (by omega)]
  rfl

end Go.Proofs.YtimjpohfopnnpaaDoor
