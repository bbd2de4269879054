/- Plain facts: a head, a frame that were written are read again; letters. No program in sight. -/
import Derived.Test.YtimjpohfopnnpaaGetHead
namespace Go.Proofs.Ytimjpohfopnnpaa
open Go.RowKit

theorem valBE_be : ∀ (k n : Nat), n < 256 ^ k → valBE (be k n) = n
  | 0, n, h => by simp at h; subst h; rfl
  | k + 1, n, h => by
    rw [be, valBE_snoc, valBE_be k (n / 256) (by rw [Nat.pow_succ] at h; omega), byteOf_toNat]; omega

theorem anyHd_be {m c k n : Nat} {r : List UInt8} (hm : m ≤ 7) (hc : c = 24 + k) (hk : k ≤ 3) (hn : n < 256 ^ (2 ^ k)) :
    anyHd (be 1 (m * 32 + c) ++ be (2 ^ k) n ++ r) 0 = some (m, n, 1 + 2 ^ k) := by
  have e1 : be 1 (m * 32 + c) = [byteOf (m * 32 + c)] := rfl
  have hb : (byteOf (m * 32 + c)).toNat = m * 32 + c := by rw [byteOf_toNat]; omega
  unfold anyHd
  rw [e1]
  simp only [List.cons_append, List.nil_append, List.getElem?_cons_zero, hb]
  rw [if_neg (by omega), if_neg (by omega), show (m * 32 + c) % 32 - 24 = k by omega, if_neg (by simp [be_length]; omega), show (m * 32 + c) / 32 = m by omega]
  simp only [Nat.zero_add, List.drop_succ_cons, List.drop_zero]
  rw [List.take_append_of_le_length (by simp [be_length]), List.take_of_length_le (by simp [be_length]), valBE_be _ _ hn]

theorem anyHd_hd {m n : Nat} {r : List UInt8} (hm : m ≤ 7) (hn : n < 18446744073709551616) : anyHd (hd m n ++ r) 0 = some (m, n, (hd m n).length) := by
  unfold hd
  split
  · rename_i h
    have e1 : be 1 (m * 32 + n) = [byteOf (m * 32 + n)] := rfl
    have hb : (byteOf (m * 32 + n)).toNat = m * 32 + n := by rw [byteOf_toNat]; omega
    unfold anyHd
    rw [e1]
    simp only [List.cons_append, List.nil_append, List.getElem?_cons_zero, hb]
    rw [if_pos (by omega), show (m * 32 + n) % 32 = n by omega, show (m * 32 + n) / 32 = m by omega]
    rfl
  · split
    · rw [anyHd_be (k := 0) hm rfl (by decide) (by simpa using by assumption)]; simp [be_length]
    · split
      · rw [anyHd_be (k := 1) hm rfl (by decide) (by simpa using by assumption)]; simp [be_length]
      · split
        · rw [anyHd_be (k := 2) hm rfl (by decide) (by simpa using by assumption)]; simp [be_length]
        · rw [anyHd_be (k := 3) hm rfl (by decide) (by simpa using hn)]; simp [be_length]

theorem getAt_hd {m n : Nat} {r : List UInt8} (hm : m ≤ 7) (hn : n < 18446744073709551616) : getAt (hd m n ++ r) 0 = some (m, n, (hd m n).length) := by
  unfold getAt getHd
  rw [if_neg (by decide)]
  show (match anyHd (hd m n ++ r) 0 with | some (m, n, x) => _ | none => none) = _
  rw [anyHd_hd hm hn]; simp

theorem getFr_frame {t r : List UInt8} (h : t.length ≤ 100000) : getFr (frame t ++ r) 0 = some (t, (frame t).length) := by
  unfold frame
  rw [if_pos h]
  unfold getFr
  rw [List.append_assoc, List.append_assoc, getAt_hd (by decide) (by omega)]
  simp only
  have e1 : ((hd 2 t.length ++ (t ++ (be 4 (crc t) ++ r))).drop (hd 2 t.length).length).take t.length = t := by
    rw [List.drop_left, List.take_left]
  have e2 : ((hd 2 t.length ++ (t ++ (be 4 (crc t) ++ r))).drop ((hd 2 t.length).length + t.length)).take 4 = be 4 (crc t) := by
    rw [← List.drop_drop, List.drop_left, List.drop_left, List.take_append_of_le_length (by simp [be_length]), List.take_of_length_le (by simp [be_length])]
  rw [e1, e2, if_pos ⟨trivial, h, by simp [be_length]; omega, rfl⟩]
  simp [be_length]; omega

theorem getFr_some {l : List UInt8} {i : Int} {c : List UInt8} {e : Nat} (h : getFr l i = some (c, e)) : c.length ≤ 100000 ∧ e ≤ l.length := by
  unfold getFr at h
  split at h
  · cases h
  · split at h
    · rename_i hh
      simp only [Option.some.injEq, Prod.mk.injEq] at h
      obtain ⟨rfl, rfl⟩ := h
      exact ⟨by rw [List.length_take]; omega, by omega⟩
    · cases h

/-- a letter out of its bytes -/
def letOf (l : List UInt8) : Option (Nat × Nat × List UInt8) :=
  match getFr l 0 with
  | none => none
  | some (c, _) =>
    match getAt c 0 with
    | none => none
    | some (_, f, a) =>
      match getAt c (a : Nat) with
      | none => none
      | some (_, v, x) => if f < 7 ∧ v ≤ 40 ∧ letter (f : Nat) (v : Nat) (c.drop x) = l then some (f, v, c.drop x) else none
theorem letter_end {l c b : List UInt8} {e f v : Nat} (hg : getFr l 0 = some (c, e)) (hl : letter (f : Nat) (v : Nat) b = l) : e = l.length := by
  unfold letter at hl
  split at hl
  · rename_i hh
    generalize ht : hd 0 ((f : Nat) : Int).toNat ++ hd 0 ((v : Nat) : Int).toNat ++ b = t at *
    have h1 := (hd_length 0 ((f : Nat) : Int).toNat).1
    have h2 := (hd_length 0 ((v : Nat) : Int).toNat).1
    have hlen : t.length ≤ 100000 := by rw [← ht, List.length_append, List.length_append]; omega
    have := getFr_frame (r := []) hlen
    rw [List.append_nil, hl, hg] at this
    simp only [Option.some.injEq, Prod.mk.injEq] at this
    exact this.2
  · subst hl
    unfold getFr getAt getHd anyHd at hg
    simp at hg
end Go.Proofs.Ytimjpohfopnnpaa
