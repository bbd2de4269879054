/- What a text of forms prefers. No program in sight. -/
import Derived.Test.YtflbcpfleejblaaDoorPart
namespace Go.Proofs.YtflbcpfleejblaaDoor
open Go.RowKit

section
variable (look : List UInt8 → Int)
/-- the form of a part, and its digit: the reference's way -/
def wt (p : List UInt8) : Int × Int :=
  if 2 ≤ p.length ∧ p.getD (p.length - 2) 0 = 59 ∧ 48 ≤ (p.getD (p.length - 1) 0).toNat ∧ (p.getD (p.length - 1) 0).toNat ≤ 57 then (look (p.take (p.length - 2)), ((p.getD (p.length - 1) 0).toNat : Int) - 48) else (look p, 9)
theorem wt_no (p : List UInt8) (h : (59 : UInt8) ∉ p) : wt look p = (look p, 9) := by
  unfold wt; rw [if_neg]
  rintro ⟨h1, h2, _⟩
  apply h
  rw [List.getD_eq_getElem?_getD, List.getElem?_eq_getElem (show p.length - 2 < p.length by omega)] at h2
  simp only [Option.getD_some] at h2
  rw [← h2]; exact List.getElem_mem _
theorem wt_one (q : List UInt8) (d : UInt8) (h1 : 48 ≤ d.toNat) (h2 : d.toNat ≤ 57) : wt look (q ++ [59, d]) = (look q, (d.toNat : Int) - 48) := by
  have hl : (q ++ [59, d]).length = q.length + 2 := by simp
  have e1 : (q ++ [59, d]).getD ((q ++ [59, d]).length - 2) 0 = 59 := by rw [hl]; simp [List.getElem?_append_right]
  have e2 : (q ++ [59, d]).getD ((q ++ [59, d]).length - 1) 0 = d := by rw [hl]; simp [List.getElem?_append_right]
  unfold wt; rw [e1, e2, if_pos ⟨by omega, rfl, h1, h2⟩, hl]; simp
/-- a part with a semicolon that is no digit's -/
theorem wt_bad (hlook : ∀ q, (59 : UInt8) ∈ q → look q = -1) (q r : List UInt8) (hr : ¬ ∃ d : UInt8, r = [d] ∧ 48 ≤ d.toNat ∧ d.toNat ≤ 57) : (wt look (q ++ 59 :: r)).1 = -1 := by
  unfold wt
  split
  · rename_i h
    obtain ⟨h1, h2, h3, h4⟩ := h
    apply hlook
    match r, hr with
    | [], _ =>
      simp only [List.length_append, List.length_singleton] at h3 h4
      rw [show q.length + 1 - 1 = q.length by omega] at h3 h4
      simp at h3 h4
    | [d], hr =>
      exfalso; apply hr
      refine ⟨d, rfl, ?_, ?_⟩
      · have : (q ++ [59, d]).getD ((q ++ [59, d]).length - 1) 0 = d := by simp [List.getElem?_append_right]
        rw [this] at h3; exact h3
      · have : (q ++ [59, d]).getD ((q ++ [59, d]).length - 1) 0 = d := by simp [List.getElem?_append_right]
        rw [this] at h4; exact h4
    | a :: b :: t, _ =>
      have hl : (q ++ 59 :: a :: b :: t).length - 2 = q.length + (t.length + 1) := by simp; omega
      rw [hl, List.take_append]
      simp
  · exact hlook _ (by simp)

variable (have_ : List Int)
def pref : List (List UInt8) → Int → Int → Int
  | [], best, _ => best
  | p :: r, best, most => if (wt look p).1 < 0 then -1 else if most < (wt look p).2 ∧ (wt look p).1 ∈ have_ then pref r (wt look p).1 (wt look p).2 else pref r best most
theorem wt_bd (hb : ∀ q, -1 ≤ look q ∧ look q ≤ 6) (p : List UInt8) : -1 ≤ (wt look p).1 ∧ (wt look p).1 ≤ 6 ∧ 0 ≤ (wt look p).2 ∧ (wt look p).2 ≤ 9 := by
  unfold wt; split
  · rename_i h; have := hb (p.take (p.length - 2)); simp only; omega
  · have := hb p; simp only; omega
end
end Go.Proofs.YtflbcpfleejblaaDoor
