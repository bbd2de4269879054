/- Plain facts on UTF-8: a sign by its bytes, a text by its signs. No program in sight. -/
import Derived.Test.YtkeieeogkeonfaaDoorBase
import Derived.Lib.ValidLaws
namespace Go.Proofs.YtkeieeogkeonfaaDoor
open Go.RowKit Go.Lib

/-- the bytes of a sign; none where a number is no sign -/
def utf (n : Nat) : List UInt8 :=
  if 1114111 < n ∨ (55296 ≤ n ∧ n ≤ 57343) then []
  else if n < 128 then [byteOf n]
  else if n < 2048 then [byteOf (192 + n / 64), byteOf (128 + n % 64)]
  else if n < 65536 then [byteOf (224 + n / 4096), byteOf (128 + n / 64 % 64), byteOf (128 + n % 64)]
  else [byteOf (240 + n / 262144), byteOf (128 + n / 4096 % 64), byteOf (128 + n / 64 % 64), byteOf (128 + n % 64)]
/-- how many bytes, and what the first one holds -/
def many (b : Nat) : Nat × Nat :=
  if b < 128 then (1, b) else if 192 ≤ b ∧ b ≤ 223 then (2, b % 32) else if 224 ≤ b ∧ b ≤ 239 then (3, b % 16) else if 240 ≤ b ∧ b ≤ 247 then (4, b % 8) else (0, 0)
def sgnV (n : Nat) (l : List UInt8) : Nat := l.foldl (fun n b => n * 64 + b.toNat % 64) n
/-- the sign that stands ahead, and its width -/
def sgn (l : List UInt8) : Option (Nat × Nat) :=
  if l = [] ∨ ((decodeL l).1 = 65533 ∧ (decodeL l).2 = 1) then none else some (decodeL l)

theorem byteOf_eq {m : Nat} {b : UInt8} : byteOf m = b ↔ m % 256 = b.toNat := by
  rw [← UInt8.toNat_inj, byteOf_toNat]
theorem many_cases (b : Nat) : (b < 128 ∧ many b = (1, b)) ∨ (192 ≤ b ∧ b ≤ 223 ∧ many b = (2, b % 32)) ∨ (224 ≤ b ∧ b ≤ 239 ∧ many b = (3, b % 16)) ∨ (240 ≤ b ∧ b ≤ 247 ∧ many b = (4, b % 8)) ∨ ((128 ≤ b ∧ b < 192 ∨ 248 ≤ b) ∧ many b = (0, 0)) := by
  unfold many
  by_cases h1 : b < 128
  · simp [h1]
  by_cases h2 : 192 ≤ b ∧ b ≤ 223
  · simp [h1, h2]
  by_cases h3 : 224 ≤ b ∧ b ≤ 239
  · rw [if_neg h1, if_neg h2, if_pos h3]; simp [h3]
  by_cases h4 : 240 ≤ b ∧ b ≤ 247
  · rw [if_neg h1, if_neg h2, if_neg h3, if_pos h4]; simp [h4]
  · rw [if_neg h1, if_neg h2, if_neg h3, if_neg h4]; right; right; right; right; exact ⟨by omega, rfl⟩

theorem utf_len (n : Nat) : (utf n).length ≤ 4 := by
  unfold utf; repeat' split
  all_goals simp

theorem sgn_pick {n b0 b1 b2 b3 v m : Nat} {u l : List UInt8} {p : Prop} [Decidable p] (hp : ¬ p) (c : Prop)
    (hy : c → decodeN n b0 b1 b2 b3 = (v, m) ∧ ¬ (v = 65533 ∧ m = 1) ∧ u = l) (hn : ¬ c → decodeN n b0 b1 b2 b3 = (65533, 1) ∧ u ≠ l) :
    (if (decodeN n b0 b1 b2 b3).1 = 65533 ∧ (decodeN n b0 b1 b2 b3).2 = 1 then none else some (decodeN n b0 b1 b2 b3)) = if p ∨ u ≠ l then none else some (v, m) := by
  by_cases hc : c
  · obtain ⟨h1, h2, h3⟩ := hy hc
    rw [h1, if_neg h2, if_neg]; intro h; rcases h with h | h
    · exact hp h
    · exact h h3
  · obtain ⟨h1, h3⟩ := hn hc
    rw [h1, if_pos ⟨rfl, rfl⟩, if_pos (.inr h3)]

theorem dec_short {n b0 b1 b2 b3 : Nat} (hb : 128 ≤ b0) (h : n < 2 ∨ (n < 3 ∧ 224 ≤ b0) ∨ (n < 4 ∧ 240 ≤ b0)) : decodeN n b0 b1 b2 b3 = (65533, 1) := by
  unfold decodeN; rw [if_neg (by omega), if_neg (by omega), if_neg (by omega), if_neg (by omega)]

theorem sgn_many (b0 : UInt8) (t : List UInt8) :
    sgn (b0 :: t) = if ((many b0.toNat).1 = 0 ∨ t.length + 1 < (many b0.toNat).1) ∨ utf (sgnV (many b0.toNat).2 (t.take ((many b0.toNat).1 - 1))) ≠ (b0 :: t).take (many b0.toNat).1 then none
      else some (sgnV (many b0.toNat).2 (t.take ((many b0.toNat).1 - 1)), (many b0.toNat).1) := by
  have hb0 := b0.toNat_lt
  unfold sgn
  rw [decodeL_N]
  simp only [List.cons_ne_nil, false_or, List.length_cons, List.getD_cons_zero]
  rcases many_cases b0.toNat with ⟨h, e⟩ | ⟨h1, h2, e⟩ | ⟨h1, h2, e⟩ | ⟨h1, h2, e⟩ | ⟨h, e⟩
  · rw [e]
    refine sgn_pick (by simp) True (fun _ => ⟨?_, by simp [sgnV]; omega, ?_⟩) (fun h => absurd trivial h)
    · rw [decodeN_ascii _ _ _ _ _ h]; simp [sgnV]
    · simp only [sgnV, List.take_zero, Nat.sub_self, List.foldl_nil, List.take_succ_cons]
      unfold utf; rw [if_neg (by omega), if_pos h, List.cons.injEq]; exact ⟨byteOf_eq.2 (by omega), rfl⟩
  · rw [e]
    match t with
    | [] => rw [dec_short (by omega) (by simp; try omega), if_pos ⟨rfl, rfl⟩, if_pos (by simp)]
    | b1 :: t =>
      have hb1 := b1.toNat_lt
      simp only [List.getD_cons_succ, List.getD_cons_zero, sgnV, Nat.reduceSub, List.take_succ_cons, List.take_zero, List.foldl_cons, List.foldl_nil, List.length_cons]
      refine sgn_pick (by omega) (b1.toNat / 64 = 2 ∧ 128 ≤ b0.toNat % 32 * 64 + b1.toNat % 64) (fun hc => ⟨?_, by omega, ?_⟩) (fun hc => ⟨?_, ?_⟩)
      · unfold decodeN; rw [if_neg (by omega), if_pos (by omega), if_pos (by omega)]
      · unfold utf; rw [if_neg (by omega), if_neg (by omega), if_pos (by omega), List.cons.injEq, List.cons.injEq]
        exact ⟨byteOf_eq.2 (by omega), byteOf_eq.2 (by omega), rfl⟩
      · unfold decodeN; rw [if_neg (by omega)]
        by_cases h : b1.toNat / 64 = 2
        · rw [if_pos (by omega), if_neg (by omega)]
        · rw [if_neg (by omega), if_neg (by omega), if_neg (by omega)]
      · unfold utf; rw [if_neg (by omega)]
        by_cases h : 128 ≤ b0.toNat % 32 * 64 + b1.toNat % 64
        · rw [if_neg (by omega), if_pos (by omega)]
          intro he; simp only [List.cons.injEq, byteOf_eq, and_true] at he; omega
        · rw [if_pos (by omega)]; simp
  · rw [e]
    match t with
    | [] => rw [dec_short (by omega) (by simp; try omega), if_pos ⟨rfl, rfl⟩, if_pos (by simp)]
    | [b1] => rw [dec_short (by omega) (by simp; try omega), if_pos ⟨rfl, rfl⟩, if_pos (by simp)]
    | b1 :: b2 :: t =>
      have hb1 := b1.toNat_lt
      have hb2 := b2.toNat_lt
      simp only [List.getD_cons_succ, List.getD_cons_zero, sgnV, Nat.reduceSub, List.take_succ_cons, List.take_zero, List.foldl_cons, List.foldl_nil, List.length_cons]
      obtain ⟨v, hv⟩ : ∃ v, (b0.toNat % 16 * 64 + b1.toNat % 64) * 64 + b2.toNat % 64 = v := ⟨_, rfl⟩
      refine sgn_pick (by omega) (b1.toNat / 64 = 2 ∧ b2.toNat / 64 = 2 ∧ 2048 ≤ v ∧ ¬ (55296 ≤ v ∧ v ≤ 57343)) (fun hc => ⟨?_, by omega, ?_⟩) (fun hc => ⟨?_, ?_⟩)
      · rw [hv]; unfold decodeN; rw [if_neg (by omega), if_neg (by omega), if_pos (by omega), if_pos (by omega)]; simp; omega
      · rw [hv]; unfold utf; rw [if_neg (by omega), if_neg (by omega), if_neg (by omega), if_pos (by omega)]; simp only [List.cons.injEq, and_true]
        exact ⟨byteOf_eq.2 (by omega), byteOf_eq.2 (by omega), byteOf_eq.2 (by omega)⟩
      · unfold decodeN; rw [if_neg (by omega), if_neg (by omega)]
        by_cases h : b1.toNat / 64 = 2 ∧ b2.toNat / 64 = 2
        · rw [if_pos (by omega), if_neg (by omega)]
        · rw [if_neg (by omega), if_neg (by omega)]
      · rw [hv]; unfold utf
        by_cases h : 55296 ≤ v ∧ v ≤ 57343
        · rw [if_pos (by omega)]; simp
        by_cases h : 2048 ≤ v
        · rw [if_neg (by omega), if_neg (by omega), if_neg (by omega), if_pos (by omega)]
          intro he; simp only [List.cons.injEq, byteOf_eq, and_true] at he; omega
        · rw [if_neg (by omega)]; split
          · simp
          · rw [if_pos (by omega)]; simp
  · rw [e]
    match t with
    | [] => rw [dec_short (by omega) (by simp; try omega), if_pos ⟨rfl, rfl⟩, if_pos (by simp)]
    | [b1] => rw [dec_short (by omega) (by simp; try omega), if_pos ⟨rfl, rfl⟩, if_pos (by simp)]
    | [b1, b2] => rw [dec_short (by omega) (by simp; try omega), if_pos ⟨rfl, rfl⟩, if_pos (by simp)]
    | b1 :: b2 :: b3 :: t =>
      have hb1 := b1.toNat_lt
      have hb2 := b2.toNat_lt
      have hb3 := b3.toNat_lt
      simp only [List.getD_cons_succ, List.getD_cons_zero, sgnV, Nat.reduceSub, List.take_succ_cons, List.take_zero, List.foldl_cons, List.foldl_nil, List.length_cons]
      obtain ⟨v, hv⟩ : ∃ v, ((b0.toNat % 8 * 64 + b1.toNat % 64) * 64 + b2.toNat % 64) * 64 + b3.toNat % 64 = v := ⟨_, rfl⟩
      refine sgn_pick (by omega) (b1.toNat / 64 = 2 ∧ b2.toNat / 64 = 2 ∧ b3.toNat / 64 = 2 ∧ 65536 ≤ v ∧ v ≤ 1114111) (fun hc => ⟨?_, by omega, ?_⟩) (fun hc => ⟨?_, ?_⟩)
      · rw [hv]; unfold decodeN; rw [if_neg (by omega), if_neg (by omega), if_neg (by omega), if_pos (by omega), if_pos (by omega)]; simp; omega
      · rw [hv]; unfold utf; rw [if_neg (by omega), if_neg (by omega), if_neg (by omega), if_neg (by omega)]; simp only [List.cons.injEq, and_true]
        exact ⟨byteOf_eq.2 (by omega), byteOf_eq.2 (by omega), byteOf_eq.2 (by omega), byteOf_eq.2 (by omega)⟩
      · unfold decodeN; rw [if_neg (by omega), if_neg (by omega), if_neg (by omega)]
        by_cases h : b1.toNat / 64 = 2 ∧ b2.toNat / 64 = 2 ∧ b3.toNat / 64 = 2
        · rw [if_pos (by omega), if_neg (by omega)]
        · rw [if_neg (by omega)]
      · rw [hv]; unfold utf
        by_cases h : 1114111 < v ∨ (55296 ≤ v ∧ v ≤ 57343)
        · rw [if_pos (by omega)]; simp
        by_cases h : 65536 ≤ v
        · rw [if_neg (by omega), if_neg (by omega), if_neg (by omega), if_neg (by omega)]
          intro he; simp only [List.cons.injEq, byteOf_eq, and_true] at he; omega
        · rw [if_neg (by omega)]; split
          · simp
          split
          · simp
          · rw [if_pos (by omega)]; simp
  · rw [e, if_pos (by rw [decodeN_bad _ _ _ _ _ (by omega)]; simp), if_pos (by simp)]
theorem sgn_nil : sgn [] = none := rfl
theorem sgn_bd {l : List UInt8} {n m : Nat} (h : sgn l = some (n, m)) : n ≤ 1114111 ∧ 1 ≤ m ∧ m ≤ l.length := by
  unfold sgn at h; split at h
  · cases h
  · rename_i hc
    simp only [Option.some.injEq] at h
    have h1 := decodeL_rune l; have h2 := decodeL_width l; have h3 := decodeL_le l (fun e => hc (.inl e))
    rw [h] at h1 h2 h3; exact ⟨h1, h2, h3⟩
theorem validD_sgn (l : List UInt8) (hne : l ≠ []) : validD l = match sgn l with | none => false | some (_, m) => validD (l.drop m) := by
  rw [validD_step l hne]; unfold sgn
  by_cases h : (decodeL l).1 = 65533 ∧ (decodeL l).2 = 1
  · rw [if_pos h, if_pos (.inr h)]
  · rw [if_neg h, if_neg (by simp [hne, h])]
theorem many_bd (b : Nat) (hb : b < 256) : (many b).1 ≤ 4 ∧ (many b).2 < 256 := by
  rcases many_cases b with ⟨_, e⟩ | ⟨_, _, e⟩ | ⟨_, _, e⟩ | ⟨_, _, e⟩ | ⟨_, e⟩ <;> rw [e] <;> simp <;> omega
theorem sgnV_snoc (v : Nat) (t : List UInt8) (j : Nat) (h : j < t.length) : sgnV v (t.take (j + 1)) = sgnV v (t.take j) * 64 + t[j].toNat % 64 := by
  unfold sgnV; rw [take_snoc t j h, List.foldl_append]; rfl
theorem sgnV_lt (t : List UInt8) : ∀ v, sgnV v t < (v + 1) * 64 ^ t.length := by
  induction t with
  | nil => intro v; simp [sgnV]
  | cons b t ih =>
    intro v
    have h1 := ih (v * 64 + b.toNat % 64)
    have h2 : (v * 64 + b.toNat % 64 + 1) ≤ (v + 1) * 64 := by omega
    have h3 := Nat.mul_le_mul_right (64 ^ t.length) h2
    show sgnV (v * 64 + b.toNat % 64) t < _
    rw [List.length_cons, Nat.pow_succ, Nat.mul_comm (64 ^ t.length) 64, ← Nat.mul_assoc]; omega
theorem sgnV_bd (v : Nat) (t : List UInt8) (j : Nat) (hv : v < 256) (hj : j ≤ 3) : sgnV v (t.take j) < 67108864 := by
  have h1 := sgnV_lt (t.take j) v
  have h2 : (t.take j).length ≤ 3 := by rw [List.length_take]; omega
  have h3 : 64 ^ (t.take j).length ≤ 64 ^ 3 := Nat.pow_le_pow_right (by omega) h2
  have h4 : (v + 1) * 64 ^ (t.take j).length ≤ 256 * 64 ^ 3 := Nat.mul_le_mul (by omega) h3
  omega
/-- GetSign: the sign at a place and the place behind it -/
def signAt (l : List UInt8) (i : Int) : Int × Int :=
  if 0 ≤ i ∧ i < l.length then (match sgn (l.drop i.toNat) with | none => (-1, -1) | some (n, m) => ((n : Int), i + m)) else (-1, -1)
theorem signAt_far {l : List UInt8} {i : Int} (h : ¬ (0 ≤ i ∧ i < l.length)) : signAt l i = (-1, -1) := by unfold signAt; rw [if_neg h]
theorem signAt_none {l : List UInt8} {k : Nat} (h : sgn (l.drop k) = none) : signAt l k = (-1, -1) := by
  unfold signAt; split
  · rw [Int.toNat_natCast, h]
  · rfl
theorem signAt_some {l : List UInt8} {k n m : Nat} (hk : k < l.length) (h : sgn (l.drop k) = some (n, m)) : signAt l k = ((n : Int), (k : Int) + m) := by
  unfold signAt; rw [if_pos (by omega), Int.toNat_natCast, h]
end Go.Proofs.YtkeieeogkeonfaaDoor
