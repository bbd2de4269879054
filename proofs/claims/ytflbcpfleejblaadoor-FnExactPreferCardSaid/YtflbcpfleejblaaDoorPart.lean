/- Texts in parts, and what a part of a list of forms says. No program in sight. -/
import Derived.Test.YtflbcpfleejblaaDoorBase
import Derived.Lib.SplitLaws
import Derived.Lib.IndexBytes
import Derived.Lib.IndexMore
namespace Go.Proofs.YtflbcpfleejblaaDoor
open Go.RowKit

/-- the parts of a text between bytes c -/
def parts (c : UInt8) : List UInt8 → List (List UInt8)
  | [] => [[]]
  | b :: r => if b = c then [] :: parts c r else match parts c r with
    | p :: ps => (b :: p) :: ps
    | [] => [[b]]
theorem parts_ne (c : UInt8) : ∀ l, parts c l ≠ []
  | [] => by simp [parts]
  | b :: r => by
    unfold parts; split
    · simp
    · split <;> simp
theorem parts_none (c : UInt8) : ∀ l, c ∉ l → parts c l = [l]
  | [], _ => rfl
  | b :: r, h => by
    simp only [List.mem_cons, not_or] at h
    unfold parts; rw [if_neg (fun e => h.1 e.symm), parts_none c r h.2]
theorem parts_cons (c : UInt8) : ∀ (p r : List UInt8), c ∉ p → parts c (p ++ c :: r) = p :: parts c r
  | [], r, _ => by simp [parts]
  | b :: p, r, h => by
    simp only [List.mem_cons, not_or] at h
    have hh := parts_cons c p r h.2
    simp only [List.cons_append, parts, if_neg (show ¬ b = c from fun e => h.1 e.symm), hh]
theorem parts_len (c : UInt8) : ∀ l, (parts c l).length ≤ l.length + 1
  | [] => by simp [parts]
  | b :: r => by
    have := parts_len c r
    unfold parts; split
    · simp; omega
    · split
      · rename_i h; rw [h] at this; simp at this ⊢; omega
      · simp
theorem parts_each (c : UInt8) : ∀ l, ∀ p ∈ parts c l, p.length ≤ l.length
  | [], p, h => by simp [parts] at h; simp [h]
  | b :: r, p, h => by
    have ih := parts_each c r
    unfold parts at h; split at h
    · rcases List.mem_cons.1 h with rfl | h
      · simp
      · have := ih p h; simp; omega
    · split at h
      · rename_i q qs hq
        rw [hq] at ih
        rcases List.mem_cons.1 h with rfl | h
        · have := ih q (by simp); simp; omega
        · have := ih p (by simp [h]); simp; omega
      · simp at h; simp [h]
/-- the first byte c, if there is one -/
theorem mem_split {c : UInt8} : ∀ {l : List UInt8}, c ∈ l → ∃ p r, l = p ++ c :: r ∧ c ∉ p
  | [], h => by simp at h
  | b :: l, h => by
    by_cases e : b = c
    · subst e; exact ⟨[], l, rfl, by simp⟩
    · have : c ∈ l := by rcases List.mem_cons.1 h with h | h; exact absurd h.symm e; exact h
      obtain ⟨p, r, rfl, hp⟩ := mem_split this
      exact ⟨b :: p, r, rfl, by simp [hp, Ne.symm e]⟩
theorem indexByte_at (c : UInt8) : ∀ (p r : List UInt8), c ∉ p → Lib.indexByte (p ++ c :: r) c = p.length
  | [], r, _ => by simp [Lib.indexByte]
  | b :: p, r, h => by
    simp only [List.mem_cons, not_or] at h
    have e : (b == c) = false := by simp; exact fun e => h.1 e.symm
    rw [List.cons_append]; unfold Lib.indexByte
    rw [e, indexByte_at c p r h.2]
    have : ¬ ((p.length : Int) == -1) = true := by simp; try omega
    rw [if_neg (by decide), if_neg this]; simp
theorem indexByte_no (c : UInt8) : ∀ (l : List UInt8), c ∉ l → Lib.indexByte l c = -1
  | [], _ => rfl
  | b :: l, h => by
    simp only [List.mem_cons, not_or] at h
    have e : (b == c) = false := by simp; exact fun e => h.1 e.symm
    unfold Lib.indexByte; rw [e, indexByte_no c l h.2]; simp
theorem split_parts (c : UInt8) : ∀ (n : Nat) (l : List UInt8), l.count c = n → Lib.splitB ⟨#[c]⟩ 0 n ⟨l.toArray⟩ = (parts c l).map fun p => ⟨p.toArray⟩
  | 0, l, h => by
    have : c ∉ l := List.count_eq_zero.1 h
    rw [Lib.splitB_zero, parts_none c l this]; rfl
  | n + 1, l, h => by
    have hm : c ∈ l := List.count_pos_iff.1 (by omega)
    obtain ⟨p, r, rfl, hp⟩ := mem_split hm
    have hi : Lib.indexB ⟨(p ++ c :: r).toArray⟩ ⟨#[c]⟩ = (p.length : Nat) := by
      show Lib.index (p ++ c :: r) [c] = _
      rw [Lib.index_one, indexByte_at c p r hp]
    rw [Lib.splitB_hit _ _ _ _ _ hi, parts_cons c p r hp, List.map_cons]
    have hn : r.count c = n := by
      rw [List.count_append, List.count_eq_zero.2 hp, List.count_cons_self] at h; omega
    congr 1
    · rw [extract_list]; simp
    · rw [extract_list]
      have e1 : (ByteArray.mk (p ++ c :: r).toArray).size = p.length + (r.length + 1) := by simp [ByteArray.size]
      have e2 : (ByteArray.mk #[c]).size = 1 := rfl
      rw [e1, e2, ← split_parts c n r hn]
      congr 2
      rw [List.drop_append, List.drop_of_length_le (by omega)]
      simp [ByteArray.size]
      exact List.take_of_length_le (by omega)
theorem cut_at (c : UInt8) (p r : List UInt8) (h : c ∉ p) : Lib.cut (p ++ c :: r) [c] = (p, r, true) := by
  unfold Lib.cut; rw [Lib.index_one, indexByte_at c p r h, if_pos (by omega)]; simp
theorem cut_no (c : UInt8) (l : List UInt8) (h : c ∉ l) : Lib.cut l [c] = (l, [], false) := by
  unfold Lib.cut; rw [Lib.index_one, indexByte_no c l h, if_neg (by omega)]
end Go.Proofs.YtflbcpfleejblaaDoor
