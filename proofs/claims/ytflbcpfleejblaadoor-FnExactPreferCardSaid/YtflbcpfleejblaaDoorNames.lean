/- Contracts of the functions that name the forms. -/
import Derived.Test.YtflbcpfleejblaaDoorRange
namespace Go.Proofs.YtflbcpfleejblaaDoor
open Go.RowKit


def formName (f : Int) : List UInt8 :=
  if f = 0 then [106, 115, 111, 110] else if f = 1 then [109, 115, 103] else if f = 2 then [99, 98, 111, 114] else if f = 3 then [114, 101, 102, 115]
  else if f = 4 then [107, 101, 121, 115] else if f = 5 then [112, 97, 99, 107] else if f = 6 then [97, 108, 108] else []

set_option maxHeartbeats 400000 in
theorem l16Names_any (w : World) :
    Calls Tryd.prog 114 #[] w fun e w' => e = .returned (.slice (some ⟨w.heap.size, 0, none⟩) 7 7) ∧ w' = w.alloc (.cells #[.string ⟨(formName 0).toArray⟩, .string ⟨(formName 1).toArray⟩, .string ⟨(formName 2).toArray⟩, .string ⟨(formName 3).toArray⟩, .string ⟨(formName 4).toArray⟩, .string ⟨(formName 5).toArray⟩, .string ⟨(formName 6).toArray⟩] 9) := by
  go_enter Tryd.func114, Tryd.ntmps114
  go_wp2
  go_ret
  exact ⟨rfl, rfl⟩


theorem formName_some {f : Int} (h : 0 ≤ f ∧ f ≤ 6) : (formName f).isEmpty = false := by
  have : f = 0 ∨ f = 1 ∨ f = 2 ∨ f = 3 ∨ f = 4 ∨ f = 5 ∨ f = 6 := by omega
  rcases this with rfl | rfl | rfl | rfl | rfl | rfl | rfl <;> rfl
theorem formName_none {f : Int} (h : ¬ (0 ≤ f ∧ f ≤ 6)) : (formName f).isEmpty = true := by
  unfold formName; repeat rw [if_neg (by omega)]
  rfl

end Go.Proofs.YtflbcpfleejblaaDoor
