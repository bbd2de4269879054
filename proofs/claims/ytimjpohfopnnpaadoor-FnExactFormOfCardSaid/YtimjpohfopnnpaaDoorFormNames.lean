/- Contracts of FormName and FormOf of the program, and FormOf of the reference. -/
import Derived.Test.YtimjpohfopnnpaaDoorNames
import Derived.Test.YtimjpohfopnnpaaDoorFind
import Derived.Test.YtimjpohfopnnpaaDoorShelf
namespace Go.Proofs.YtimjpohfopnnpaaDoor
open Go.RowKit

def nameList : List (List UInt8) := [formName 0, formName 1, formName 2, formName 3, formName 4, formName 5, formName 6]
def nameText : List UInt8 := [106, 115, 111, 110, 32, 109, 115, 103, 32, 99, 98, 111, 114, 32, 114, 101, 102, 115, 32, 107, 101, 121, 115, 32, 112, 97, 99, 107, 32, 97, 108, 108]
theorem names_count : Lib.countB ⟨nameText.toArray⟩ ⟨#[32]⟩ = 6 := by kernel_rfl
theorem names_split : Lib.splitB ⟨#[32]⟩ 0 6 ⟨nameText.toArray⟩ = nameList.map fun l => ⟨l.toArray⟩ := by kernel_rfl

set_option maxHeartbeats 400000 in
theorem formNames_any (m : Int) (w : World) (hm : w.cell? ⟨0, 0, none⟩ = some (.int .i64 m)) :
    Calls Tryd.prog 12 #[] w fun e w' => e = .returned (.slice (some ⟨w.heap.size, 0, none⟩) 7 7) ∧ w' = w.alloc (.cells #[.string ⟨(formName 0).toArray⟩, .string ⟨(formName 1).toArray⟩, .string ⟨(formName 2).toArray⟩, .string ⟨(formName 3).toArray⟩, .string ⟨(formName 4).toArray⟩, .string ⟨(formName 5).toArray⟩, .string ⟨(formName 6).toArray⟩] 9) := by
  have hS := Tryd.strings_Split ⟨nameText.toArray⟩ ⟨#[32]⟩ m w (by decide) hm (by decide)
  rw [names_count, names_split] at hS
  go_enter Tryd.func12, Tryd.ntmps12
  go_wp2_with (go_at_call 16; refine hS.mono ?_; rintro e w' ⟨rfl, rfl⟩)
  go_ret
  exact ⟨rfl, rfl⟩

theorem formName_far {f : Int} (h : ¬ (0 ≤ f ∧ f ≤ 6)) : formName f = [] := by
  unfold formName; repeat rw [if_neg (by omega)]

set_option maxHeartbeats 400000 in
theorem formName_impl (n : Int) (m : Int) (w : World) (hm : w.cell? ⟨0, 0, none⟩ = some (.int .i64 m)) :
    Calls Tryd.prog 6 #[.int .i64 n] w fun e w' => e = .returned (.string ⟨(formName n).toArray⟩) ∧ Below w.heap.size w w' := by
  by_cases h : 0 ≤ n ∧ n ≤ 6
  · have hin : inR n 0 6 = true := inR_yes h
    have : n = 0 ∨ n = 1 ∨ n = 2 ∨ n = 3 ∨ n = 4 ∨ n = 5 ∨ n = 6 := by omega
    rcases this with rfl | rfl | rfl | rfl | rfl | rfl | rfl
    all_goals
      go_enter Tryd.func6, Tryd.ntmps6
      go_wp2_with (first | (go_at_call 11; refine (isGiven_any _ _).mono ?_; rintro e w' ⟨rfl, rfl⟩) | (go_at_call 12; refine (formNames_any m _ hm).mono ?_; rintro e w' ⟨rfl, rfl⟩))
      go_ret
      exact ⟨rfl, (Below.refl _ _).alloc (Nat.le_refl _) _⟩
  · have hin : inR n 0 6 = false := inR_no h
    have H := Lib.hid (formName_far h)
    go_enter Tryd.func6, Tryd.ntmps6
    go_wp2_with (first | (go_at_call 11; refine (isGiven_any _ _).mono ?_; rintro e w' ⟨rfl, rfl⟩))
    go_ret
    exact ⟨ret_str (by rw [H.out]), Below.refl _ _⟩

theorem nameRow (w : World) : StrRow (w.alloc (.cells #[.string ⟨(formName 0).toArray⟩, .string ⟨(formName 1).toArray⟩, .string ⟨(formName 2).toArray⟩, .string ⟨(formName 3).toArray⟩, .string ⟨(formName 4).toArray⟩, .string ⟨(formName 5).toArray⟩, .string ⟨(formName 6).toArray⟩] 9)) (.slice (some ⟨w.heap.size, 0, none⟩) 7 7) nameList := by
  refine ⟨_, 7, rfl, fun _ => ⟨_, _, rfl, fun k hk => ?_⟩⟩
  have hk7 : k < 7 := hk
  have : k = 0 ∨ k = 1 ∨ k = 2 ∨ k = 3 ∨ k = 4 ∨ k = 5 ∨ k = 6 := by omega
  rcases this with rfl | rfl | rfl | rfl | rfl | rfl | rfl <;> simp [nameList]

set_option maxHeartbeats 400000 in
theorem formOf_impl (s : List UInt8) (m : Int) (w : World) (hm : w.cell? ⟨0, 0, none⟩ = some (.int .i64 m)) :
    Calls Tryd.prog 8 #[.string ⟨s.toArray⟩] w fun e w' => e = .returned (.int .i64 (ixF nameList s 0)) ∧ Below w.heap.size w w' := by
  go_enter Tryd.func8, Tryd.ntmps8
  go_wp2_with (first | (go_at_call 12; refine (formNames_any m _ hm).mono ?_; rintro e w' ⟨rfl, rfl⟩) | (go_at_call 14; refine (slicesIndex_any nameList _ _ _ (nameRow _) (by decide)).mono ?_; rintro e w' ⟨rfl, hb⟩))
  go_ret
  exact ⟨rfl, below2 ((Below.refl _ _).alloc (Nat.le_refl _) _) (by assumption) (by simp)⟩

set_option maxHeartbeats 400000 in
theorem formOf_spec (s : List UInt8) (w : World) :
    Calls Tryd.prog 7 #[.string ⟨s.toArray⟩] w fun e w' => e = .returned (.int .i64 (ixF nameList s 0)) ∧ Below w.heap.size w w' := by
  go_enter Tryd.func7, Tryd.ntmps7
  go_wp2_with (first | (go_at_call 10; refine (l16Names_any _).mono ?_; rintro e w' ⟨rfl, rfl⟩) | (go_at_call 13; refine (l11At_any nameList _ _ _ (nameRow _) (by decide)).mono ?_; rintro e w' ⟨rfl, hb⟩))
  go_ret
  exact ⟨rfl, below2 ((Below.refl _ _).alloc (Nat.le_refl _) _) (by assumption) (by simp)⟩

set_option maxHeartbeats 400000 in
theorem exactFormName (n m : Int) (w : World) (hm : w.cell? ⟨0, 0, none⟩ = some (.int .i64 m)) (_ : i64ok n) :
    Calls Tryd.prog 3 #[.int .i64 n] w fun e w' => e = .returned (.bool true) ∧ Below w.heap.size w w' := by
  have hsz := cell_lt hm
  go_enter Tryd.func3, Tryd.ntmps3
  go_wp2_with (first | (go_at_call 5; refine (formName_spec _ _).mono ?_; rintro e w' ⟨rfl, hb1⟩; have hm1 := ((bcell hb1).1 _ _ hsz).trans hm) | (go_at_call 6; refine (formName_impl _ m _ hm1).mono ?_; rintro e w' ⟨rfl, hb2⟩))
  go_ret
  exact ⟨rfl, below2 hb1 hb2 (Nat.le_refl _)⟩

set_option maxHeartbeats 400000 in
theorem exactFormOf (s : List UInt8) (m : Int) (w : World) (hm : w.cell? ⟨0, 0, none⟩ = some (.int .i64 m)) (_ : strok s) :
    Calls Tryd.prog 4 #[.string ⟨s.toArray⟩] w fun e w' => e = .returned (.bool true) ∧ Below w.heap.size w w' := by
  have hsz := cell_lt hm
  by_cases hl : s.length ≤ 1048576
  · have hl2 : ¬ (1048576 : Int) < s.length := by omega
    go_enter Tryd.func4, Tryd.ntmps4
    go_wp2_with (first | (go_at_call 7; refine (formOf_spec _ _).mono ?_; rintro e w' ⟨rfl, hb1⟩; have hm1 := ((bcell hb1).1 _ _ hsz).trans hm) | (go_at_call 8; refine (formOf_impl _ m _ hm1).mono ?_; rintro e w' ⟨rfl, hb2⟩))
    go_ret
    exact ⟨rfl, below2 hb1 hb2 (Nat.le_refl _)⟩
  · have hl2 : (1048576 : Int) < s.length := by omega
    go_enter Tryd.func4, Tryd.ntmps4
    go_wp2
    go_ret
    exact ⟨rfl, Below.refl _ _⟩
end Go.Proofs.YtimjpohfopnnpaaDoor
