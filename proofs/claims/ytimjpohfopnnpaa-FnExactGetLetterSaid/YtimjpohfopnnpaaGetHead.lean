/- Plain facts on reading heads, frames and letters; no program in sight. -/
import Derived.Test.YtimjpohfopnnpaaBase
namespace Go.Proofs.Ytimjpohfopnnpaa
open Go.RowKit

theorem snoc_ind {α : Type} {P : List α → Prop} (h0 : P []) (h1 : ∀ l a, P l → P (l ++ [a])) : ∀ l, P l := fun l => by
  have h : ∀ r : List α, P r.reverse := by
    intro r; induction r with
    | nil => exact h0
    | cons a r ih => rw [List.reverse_cons]; exact h1 _ _ ih
  have := h l.reverse; rwa [List.reverse_reverse] at this
/-- a number out of its bytes, the highest first -/
def valBE (l : List UInt8) : Nat := l.foldl (fun n b => n * 256 + b.toNat) 0
theorem valBE_snoc (l : List UInt8) (b : UInt8) : valBE (l ++ [b]) = valBE l * 256 + b.toNat := by simp [valBE]
theorem valBE_nil : valBE [] = 0 := rfl
theorem valBE_take (l : List UInt8) (k : Nat) (h : k < l.length) : valBE (l.take (k + 1)) = valBE (l.take k) * 256 + l[k].toNat := by
  rw [take_snoc l k h, valBE_snoc]
theorem valBE_lt : ∀ (l : List UInt8), valBE l < 256 ^ l.length := by
  refine snoc_ind (by simp [valBE]) ?_
  · intro l b ih
    rw [valBE_snoc, List.length_append, List.length_singleton, Nat.pow_succ]
    have := b.toNat_lt; omega
theorem be_valBE : ∀ (l : List UInt8), be l.length (valBE l) = l := by
  refine snoc_ind rfl ?_
  · intro l b ih
    rw [valBE_snoc, List.length_append, List.length_singleton, be]
    have h := b.toNat_lt
    rw [show (valBE l * 256 + b.toNat) / 256 = valBE l by omega, ih]
    congr 2
    apply UInt8.toNat_inj.1; rw [byteOf_toNat]; omega
theorem be_inj {k m n : Nat} (hm : m < 256 ^ k) (hn : n < 256 ^ k) (h : be k m = be k n) : m = n := by
  induction k generalizing m n with
  | zero => simp at hm hn; omega
  | succ k ih =>
    rw [be, be] at h
    have h2 := List.append_inj h (by simp [be_length])
    rw [Nat.pow_succ] at hm hn
    have e1 := ih (m := m / 256) (n := n / 256) (by omega) (by omega) h2.1
    have e2 : byteOf m = byteOf n := by simpa using h2.2
    have e3 := congrArg UInt8.toNat e2
    rw [byteOf_toNat, byteOf_toNat] at e3
    omega

/-- a head of any length at a place: its major type, its number, the place behind -/
def anyHd (l : List UInt8) (i : Nat) : Option (Nat × Nat × Nat) :=
  match l[i]? with
  | none => none
  | some b =>
    if b.toNat % 32 < 24 then some (b.toNat / 32, b.toNat % 32, i + 1)
    else if 27 < b.toNat % 32 then none
    else if l.length < i + 1 + 2 ^ (b.toNat % 32 - 24) then none
    else some (b.toNat / 32, valBE ((l.drop (i + 1)).take (2 ^ (b.toNat % 32 - 24))), i + 1 + 2 ^ (b.toNat % 32 - 24))
/-- .. in the shortest form -/
def getHd (l : List UInt8) (i : Nat) : Option (Nat × Nat × Nat) :=
  match anyHd l i with
  | some (m, n, x) => if i + (hd m n).length = x then some (m, n, x) else none
  | none => none

theorem anyHd_some {l : List UInt8} {i m n x : Nat} (h : anyHd l i = some (m, n, x)) : i < l.length ∧ i < x ∧ x ≤ l.length ∧ m ≤ 7 ∧ n < 18446744073709551616 ∧ x ≤ i + 9 ∧
    ((hd m n = (l.drop i).take (x - i)) ↔ i + (hd m n).length = x) := by
  unfold anyHd at h
  cases hb : l[i]? with
  | none => rw [hb] at h; cases h
  | some b =>
    rw [hb] at h
    obtain ⟨hi, hbe⟩ := List.getElem?_eq_some_iff.1 hb
    have hlt := b.toNat_lt
    have hdrop : l.drop i = b :: l.drop (i + 1) := by rw [List.drop_eq_getElem_cons hi, hbe]
    simp only at h
    split at h
    · rename_i h24
      simp only [Option.some.injEq, Prod.mk.injEq] at h
      obtain ⟨rfl, rfl, rfl⟩ := h
      refine ⟨hi, by omega, by omega, by omega, by omega, by omega, ?_⟩
      have e : hd (b.toNat / 32) (b.toNat % 32) = [b] := by
        unfold hd; rw [if_pos h24]
        show [byteOf _] = [b]
        congr 1; apply UInt8.toNat_inj.1; rw [byteOf_toNat]; omega
      rw [e, hdrop, show i + 1 - i = 1 by omega]; simp
    · split at h
      · cases h
      · split at h
        · cases h
        · rename_i h24 h27 hlen
          simp only [Option.some.injEq, Prod.mk.injEq] at h
          obtain ⟨rfl, rfl, rfl⟩ := h
          generalize hk : b.toNat % 32 - 24 = k at *
          have hk4 : k = 0 ∨ k = 1 ∨ k = 2 ∨ k = 3 := by omega
          have hp : 2 ^ k ≤ 8 ∧ 1 ≤ 2 ^ k := by rcases hk4 with rfl | rfl | rfl | rfl <;> decide
          generalize hxs : (l.drop (i + 1)).take (2 ^ k) = xs at *
          have hxl : xs.length = 2 ^ k := by rw [← hxs, List.length_take, List.length_drop]; omega
          have hv := valBE_lt xs
          have hbv := be_valBE xs
          rw [hxl] at hv hbv
          have hv64 : valBE xs < 18446744073709551616 := by rcases hk4 with rfl | rfl | rfl | rfl <;> simp at hv <;> omega
          refine ⟨hi, by omega, by omega, by omega, hv64, by omega, ?_⟩
          have htake : (l.drop i).take (i + 1 + 2 ^ k - i) = b :: xs := by
            rw [hdrop, show i + 1 + 2 ^ k - i = 2 ^ k + 1 by omega, List.take_succ_cons, hxs]
          rw [htake]
          constructor
          · intro e; rw [e, List.length_cons, hxl]; omega
          · intro e
            have e' : (hd (b.toNat / 32) (valBE xs)).length = 2 ^ k + 1 := by omega
            generalize valBE xs = v at *
            have h32 : b.toNat = b.toNat / 32 * 32 + (24 + k) := by omega
            have hbb : ∀ c, b.toNat = b.toNat / 32 * 32 + c → be 1 (b.toNat / 32 * 32 + c) = [b] := by
              intro c hc; rw [← hc]; show [byteOf _] = [b]; congr 1; apply UInt8.toNat_inj.1; rw [byteOf_toNat]; omega
            unfold hd at e' ⊢
            split at e'
            · simp [be_length] at e'
            · split at e'
              · simp only [List.length_append, be_length] at e'
                obtain rfl : k = 0 := by rcases hk4 with rfl | rfl | rfl | rfl <;> simp at e' ⊢
                rw [if_neg (by assumption), if_pos (by assumption), hbb 24 h32]; simp only [Nat.pow_zero] at hbv; rw [hbv]; rfl
              · split at e'
                · simp only [List.length_append, be_length] at e'
                  obtain rfl : k = 1 := by rcases hk4 with rfl | rfl | rfl | rfl <;> simp at e' ⊢
                  rw [if_neg (by assumption), if_neg (by assumption), if_pos (by assumption), hbb 25 h32]; simp only [Nat.pow_one] at hbv; rw [hbv]; rfl
                · split at e'
                  · simp only [List.length_append, be_length] at e'
                    obtain rfl : k = 2 := by rcases hk4 with rfl | rfl | rfl | rfl <;> simp at e' ⊢
                    rw [if_neg (by assumption), if_neg (by assumption), if_neg (by assumption), if_pos (by assumption), hbb 26 h32]; simp at hbv; rw [hbv]; rfl
                  · simp only [List.length_append, be_length] at e'
                    obtain rfl : k = 3 := by rcases hk4 with rfl | rfl | rfl | rfl <;> simp at e' ⊢
                    rw [if_neg (by assumption), if_neg (by assumption), if_neg (by assumption), if_neg (by assumption), hbb 27 h32]; simp at hbv; rw [hbv]; rfl

theorem getHd_some {l : List UInt8} {i m n x : Nat} (h : getHd l i = some (m, n, x)) : i < l.length ∧ i < x ∧ x ≤ l.length ∧ m ≤ 7 ∧ n < 18446744073709551616 ∧ hd m n = (l.drop i).take (x - i) := by
  unfold getHd at h
  cases ha : anyHd l i with
  | none => rw [ha] at h; cases h
  | some r =>
    obtain ⟨m', n', x'⟩ := r
    rw [ha] at h
    simp only at h
    split at h
    · rename_i he
      simp only [Option.some.injEq, Prod.mk.injEq] at h
      obtain ⟨rfl, rfl, rfl⟩ := h
      obtain ⟨h1, h2, h3, h4, h5, _, h6⟩ := anyHd_some ha
      exact ⟨h1, h2, h3, h4, h5, h6.2 he⟩
    · cases h

/-- what a head's three results are -/
def hM : Option (Nat × Nat × Nat) → Int | some (m, _, _) => m | none => -1
def hN : Option (Nat × Nat × Nat) → Int | some (_, n, _) => n | none => 0
def hX : Option (Nat × Nat × Nat) → Int | some (_, _, x) => x | none => -1
/-- .. at a place that may be none -/
def anyAt (l : List UInt8) (i : Int) : Option (Nat × Nat × Nat) := if i < 0 then none else anyHd l i.toNat
def getAt (l : List UInt8) (i : Int) : Option (Nat × Nat × Nat) := if i < 0 then none else getHd l i.toNat

/-- the content of a frame at a place, and the place behind -/
def getFr (l : List UInt8) (i : Int) : Option (List UInt8 × Nat) :=
  match getAt l i with
  | none => none
  | some (m, n, x) =>
    if m = 2 ∧ n ≤ 100000 ∧ x + n + 4 ≤ l.length ∧ (l.drop (x + n)).take 4 = be 4 (crc ((l.drop x).take n)) then some ((l.drop x).take n, x + n + 4) else none
def fC : Option (List UInt8 × Nat) → List UInt8 | some (c, _) => c | none => []
def fX : Option (List UInt8 × Nat) → Int | some (_, x) => x | none => -1
end Go.Proofs.Ytimjpohfopnnpaa
