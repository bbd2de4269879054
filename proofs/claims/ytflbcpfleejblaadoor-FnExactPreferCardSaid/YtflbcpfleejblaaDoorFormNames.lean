/- Contracts of FormName and FormOf of the program, and FormOf of the reference. -/
import Derived.Test.YtflbcpfleejblaaDoorNames
import Derived.Test.YtflbcpfleejblaaDoorFind
import Derived.Test.YtflbcpfleejblaaDoorShelf
namespace Go.Proofs.YtflbcpfleejblaaDoor
open Go.RowKit

def nameList : List (List UInt8) := [formName 0, formName 1, formName 2, formName 3, formName 4, formName 5, formName 6]
def nameText : List UInt8 := [106, 115, 111, 110, 32, 109, 115, 103, 32, 99, 98, 111, 114, 32, 114, 101, 102, 115, 32, 107, 101, 121, 115, 32, 112, 97, 99, 107, 32, 97, 108, 108]
theorem names_count : Lib.countB ⟨nameText.toArray⟩ ⟨#[32]⟩ = 6 := by kernel_rfl
theorem names_split : Lib.splitB ⟨#[32]⟩ 0 6 ⟨nameText.toArray⟩ = nameList.map fun l => ⟨l.toArray⟩ := by kernel_rfl

set_option maxHeartbeats 400000 in
theorem formNames_any (m : Int) (w : World) (hm : w.cell? ⟨2, 0, none⟩ = some (.int .i64 m)) :
    Calls Tryd.prog 120 #[] w fun e w' => e = .returned (.slice (some ⟨w.heap.size, 0, none⟩) 7 7) ∧ w' = w.alloc (.cells #[.string ⟨(formName 0).toArray⟩, .string ⟨(formName 1).toArray⟩, .string ⟨(formName 2).toArray⟩, .string ⟨(formName 3).toArray⟩, .string ⟨(formName 4).toArray⟩, .string ⟨(formName 5).toArray⟩, .string ⟨(formName 6).toArray⟩] 9) := by
  have hS := Tryd.strings_Split ⟨nameText.toArray⟩ ⟨#[32]⟩ m w (by decide) hm (by decide)
  rw [names_count, names_split] at hS
  go_enter Tryd.func120, Tryd.ntmps120
  go_wp2_with (go_at_call 45; refine hS.mono ?_; rintro e w' ⟨rfl, rfl⟩)
  go_ret
  exact ⟨rfl, rfl⟩

theorem formName_far {f : Int} (h : ¬ (0 ≤ f ∧ f ≤ 6)) : formName f = [] := by
  unfold formName; repeat rw [if_neg (by omega)]


theorem nameRow (w : World) : StrRow (w.alloc (.cells #[.string ⟨(formName 0).toArray⟩, .string ⟨(formName 1).toArray⟩, .string ⟨(formName 2).toArray⟩, .string ⟨(formName 3).toArray⟩, .string ⟨(formName 4).toArray⟩, .string ⟨(formName 5).toArray⟩, .string ⟨(formName 6).toArray⟩] 9)) (.slice (some ⟨w.heap.size, 0, none⟩) 7 7) nameList := by
  refine ⟨_, 7, rfl, fun _ => ⟨_, _, rfl, fun k hk => ?_⟩⟩
  have hk7 : k < 7 := hk
  have : k = 0 ∨ k = 1 ∨ k = 2 ∨ k = 3 ∨ k = 4 ∨ k = 5 ∨ k = 6 := by omega
  rcases this with rfl | rfl | rfl | rfl | rfl | rfl | rfl <;> simp [nameList]

set_option maxHeartbeats 400000 in
theorem formOf_impl (s : List UInt8) (m : Int) (w : World) (hm : w.cell? ⟨2, 0, none⟩ = some (.int .i64 m)) :
    Calls Tryd.prog 79 #[.string ⟨s.toArray⟩] w fun e w' => e = .returned (.int .i64 (ixF nameList s 0)) ∧ Below w.heap.size w w' := by
  go_enter Tryd.func79, Tryd.ntmps79
  go_wp2_with (first | (go_at_call 120; refine (formNames_any m _ hm).mono ?_; rintro e w' ⟨rfl, rfl⟩) | (go_at_call 119; refine (slicesIndex_any nameList _ _ _ (nameRow _) (by decide)).mono ?_; rintro e w' ⟨rfl, hb⟩))
  go_ret
  exact ⟨rfl, below2 ((Below.refl _ _).alloc (Nat.le_refl _) _) (by assumption) (by simp)⟩

set_option maxHeartbeats 400000 in
theorem formOf_spec (s : List UInt8) (w : World) :
    Calls Tryd.prog 76 #[.string ⟨s.toArray⟩] w fun e w' => e = .returned (.int .i64 (ixF nameList s 0)) ∧ Below w.heap.size w w' := by
  go_enter Tryd.func76, Tryd.ntmps76
  go_wp2_with (first | (go_at_call 114; refine (l16Names_any _).mono ?_; rintro e w' ⟨rfl, rfl⟩) | (go_at_call 113; refine (l11At_any nameList _ _ _ (nameRow _) (by decide)).mono ?_; rintro e w' ⟨rfl, hb⟩))
  go_ret
  exact ⟨rfl, below2 ((Below.refl _ _).alloc (Nat.le_refl _) _) (by assumption) (by simp)⟩


end Go.Proofs.YtflbcpfleejblaaDoor
