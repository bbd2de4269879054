/- Plain facts on UTF-8: a sign by its bytes, a text by its signs. No program in sight. -/
import Derived.Test.YtkeieeogkeonfaaGreatDoorBase
import Derived.Lib.ValidLaws
import Derived.Laws.BitsAllLaws
import Derived.Test.YtkeieeogkeonfaaGreatDoorRange
import Derived.Deep.RegionHeld3
import Derived.Deep.QuietTactic
import Derived.BigQuiet
import Derived.Lib.ConvBytes
namespace Go.Proofs.YtkeieeogkeonfaaGreatDoor
open Go.RowKit Go.Lib

/-- the bytes of a sign; none where a number is no sign -/
def utf (n : Nat) : List UInt8 :=
  if 1114111 < n ∨ (55296 ≤ n ∧ n ≤ 57343) then []
  else if n < 128 then [byteOf n]
  else if n < 2048 then [byteOf (192 + n / 64), byteOf (128 + n % 64)]
  else if n < 65536 then [byteOf (224 + n / 4096), byteOf (128 + n / 64 % 64), byteOf (128 + n % 64)]
  else [byteOf (240 + n / 262144), byteOf (128 + n / 4096 % 64), byteOf (128 + n / 64 % 64), byteOf (128 + n % 64)]
/-- how many bytes, and what the first one holds -/
def many (b : Nat) : Nat × Nat :=
  if b < 128 then (1, b) else if 192 ≤ b ∧ b ≤ 223 then (2, b % 32) else if 224 ≤ b ∧ b ≤ 239 then (3, b % 16) else if 240 ≤ b ∧ b ≤ 247 then (4, b % 8) else (0, 0)
def sgnV (n : Nat) (l : List UInt8) : Nat := l.foldl (fun n b => n * 64 + b.toNat % 64) n
/-- the sign that stands ahead, and its width -/
def sgn (l : List UInt8) : Option (Nat × Nat) :=
  if l = [] ∨ ((decodeL l).1 = 65533 ∧ (decodeL l).2 = 1) then none else some (decodeL l)

theorem byteOf_eq {m : Nat} {b : UInt8} : byteOf m = b ↔ m % 256 = b.toNat := by
  rw [← UInt8.toNat_inj, byteOf_toNat]
theorem many_cases (b : Nat) : (b < 128 ∧ many b = (1, b)) ∨ (192 ≤ b ∧ b ≤ 223 ∧ many b = (2, b % 32)) ∨ (224 ≤ b ∧ b ≤ 239 ∧ many b = (3, b % 16)) ∨ (240 ≤ b ∧ b ≤ 247 ∧ many b = (4, b % 8)) ∨ ((128 ≤ b ∧ b < 192 ∨ 248 ≤ b) ∧ many b = (0, 0)) := by
  unfold many
  by_cases h1 : b < 128
  · simp [h1]
  by_cases h2 : 192 ≤ b ∧ b ≤ 223
  · simp [h1, h2]
  by_cases h3 : 224 ≤ b ∧ b ≤ 239
  · rw [if_neg h1, if_neg h2, if_pos h3]; simp [h3]
  by_cases h4 : 240 ≤ b ∧ b ≤ 247
  · rw [if_neg h1, if_neg h2, if_neg h3, if_pos h4]; simp [h4]
  · rw [if_neg h1, if_neg h2, if_neg h3, if_neg h4]; right; right; right; right; exact ⟨by omega, rfl⟩

theorem utf_len (n : Nat) : (utf n).length ≤ 4 := by
  unfold utf; repeat' split
  all_goals simp

theorem sgn_pick {n b0 b1 b2 b3 v m : Nat} {u l : List UInt8} {p : Prop} [Decidable p] (hp : ¬ p) (c : Prop)
    (hy : c → decodeN n b0 b1 b2 b3 = (v, m) ∧ ¬ (v = 65533 ∧ m = 1) ∧ u = l) (hn : ¬ c → decodeN n b0 b1 b2 b3 = (65533, 1) ∧ u ≠ l) :
    (if (decodeN n b0 b1 b2 b3).1 = 65533 ∧ (decodeN n b0 b1 b2 b3).2 = 1 then none else some (decodeN n b0 b1 b2 b3)) = if p ∨ u ≠ l then none else some (v, m) := by
  by_cases hc : c
  · obtain ⟨h1, h2, h3⟩ := hy hc
    rw [h1, if_neg h2, if_neg]; intro h; rcases h with h | h
    · exact hp h
    · exact h h3
  · obtain ⟨h1, h3⟩ := hn hc
    rw [h1, if_pos ⟨rfl, rfl⟩, if_pos (.inr h3)]

theorem dec_short {n b0 b1 b2 b3 : Nat} (hb : 128 ≤ b0) (h : n < 2 ∨ (n < 3 ∧ 224 ≤ b0) ∨ (n < 4 ∧ 240 ≤ b0)) : decodeN n b0 b1 b2 b3 = (65533, 1) := by
  unfold decodeN; rw [if_neg (by omega), if_neg (by omega), if_neg (by omega), if_neg (by omega)]

theorem sgn_many (b0 : UInt8) (t : List UInt8) :
    sgn (b0 :: t) = if ((many b0.toNat).1 = 0 ∨ t.length + 1 < (many b0.toNat).1) ∨ utf (sgnV (many b0.toNat).2 (t.take ((many b0.toNat).1 - 1))) ≠ (b0 :: t).take (many b0.toNat).1 then none
      else some (sgnV (many b0.toNat).2 (t.take ((many b0.toNat).1 - 1)), (many b0.toNat).1) := by
  have hb0 := b0.toNat_lt
  unfold sgn
  rw [decodeL_N]
  simp only [List.cons_ne_nil, false_or, List.length_cons, List.getD_cons_zero]
  rcases many_cases b0.toNat with ⟨h, e⟩ | ⟨h1, h2, e⟩ | ⟨h1, h2, e⟩ | ⟨h1, h2, e⟩ | ⟨h, e⟩
  · rw [e]
    refine sgn_pick (by simp) True (fun _ => ⟨?_, by simp [sgnV]; omega, ?_⟩) (fun h => absurd trivial h)
    · rw [decodeN_ascii _ _ _ _ _ h]; simp [sgnV]
    · simp only [sgnV, List.take_zero, Nat.sub_self, List.foldl_nil, List.take_succ_cons]
      unfold utf; rw [if_neg (by omega), if_pos h, List.cons.injEq]; exact ⟨byteOf_eq.2 (by omega), rfl⟩
  · rw [e]
    match t with
    | [] => rw [dec_short (by omega) (by simp; try omega), if_pos ⟨rfl, rfl⟩, if_pos (by simp)]
    | b1 :: t =>
      have hb1 := b1.toNat_lt
      simp only [List.getD_cons_succ, List.getD_cons_zero, sgnV, Nat.reduceSub, List.take_succ_cons, List.take_zero, List.foldl_cons, List.foldl_nil, List.length_cons]
      refine sgn_pick (by omega) (b1.toNat / 64 = 2 ∧ 128 ≤ b0.toNat % 32 * 64 + b1.toNat % 64) (fun hc => ⟨?_, by omega, ?_⟩) (fun hc => ⟨?_, ?_⟩)
      · unfold decodeN; rw [if_neg (by omega), if_pos (by omega), if_pos (by omega)]
      · unfold utf; rw [if_neg (by omega), if_neg (by omega), if_pos (by omega), List.cons.injEq, List.cons.injEq]
        exact ⟨byteOf_eq.2 (by omega), byteOf_eq.2 (by omega), rfl⟩
      · unfold decodeN; rw [if_neg (by omega)]
        by_cases h : b1.toNat / 64 = 2
        · rw [if_pos (by omega), if_neg (by omega)]
        · rw [if_neg (by omega), if_neg (by omega), if_neg (by omega)]
      · unfold utf; rw [if_neg (by omega)]
        by_cases h : 128 ≤ b0.toNat % 32 * 64 + b1.toNat % 64
        · rw [if_neg (by omega), if_pos (by omega)]
          intro he; simp only [List.cons.injEq, byteOf_eq, and_true] at he; omega
        · rw [if_pos (by omega)]; simp
  · rw [e]
    match t with
    | [] => rw [dec_short (by omega) (by simp; try omega), if_pos ⟨rfl, rfl⟩, if_pos (by simp)]
    | [b1] => rw [dec_short (by omega) (by simp; try omega), if_pos ⟨rfl, rfl⟩, if_pos (by simp)]
    | b1 :: b2 :: t =>
      have hb1 := b1.toNat_lt
      have hb2 := b2.toNat_lt
      simp only [List.getD_cons_succ, List.getD_cons_zero, sgnV, Nat.reduceSub, List.take_succ_cons, List.take_zero, List.foldl_cons, List.foldl_nil, List.length_cons]
      obtain ⟨v, hv⟩ : ∃ v, (b0.toNat % 16 * 64 + b1.toNat % 64) * 64 + b2.toNat % 64 = v := ⟨_, rfl⟩
      refine sgn_pick (by omega) (b1.toNat / 64 = 2 ∧ b2.toNat / 64 = 2 ∧ 2048 ≤ v ∧ ¬ (55296 ≤ v ∧ v ≤ 57343)) (fun hc => ⟨?_, by omega, ?_⟩) (fun hc => ⟨?_, ?_⟩)
      · rw [hv]; unfold decodeN; rw [if_neg (by omega), if_neg (by omega), if_pos (by omega), if_pos (by omega)]; simp; omega
      · rw [hv]; unfold utf; rw [if_neg (by omega), if_neg (by omega), if_neg (by omega), if_pos (by omega)]; simp only [List.cons.injEq, and_true]
        exact ⟨byteOf_eq.2 (by omega), byteOf_eq.2 (by omega), byteOf_eq.2 (by omega)⟩
      · unfold decodeN; rw [if_neg (by omega), if_neg (by omega)]
        by_cases h : b1.toNat / 64 = 2 ∧ b2.toNat / 64 = 2
        · rw [if_pos (by omega), if_neg (by omega)]
        · rw [if_neg (by omega), if_neg (by omega)]
      · rw [hv]; unfold utf
        by_cases h : 55296 ≤ v ∧ v ≤ 57343
        · rw [if_pos (by omega)]; simp
        by_cases h : 2048 ≤ v
        · rw [if_neg (by omega), if_neg (by omega), if_neg (by omega), if_pos (by omega)]
          intro he; simp only [List.cons.injEq, byteOf_eq, and_true] at he; omega
        · rw [if_neg (by omega)]; split
          · simp
          · rw [if_pos (by omega)]; simp
  · rw [e]
    match t with
    | [] => rw [dec_short (by omega) (by simp; try omega), if_pos ⟨rfl, rfl⟩, if_pos (by simp)]
    | [b1] => rw [dec_short (by omega) (by simp; try omega), if_pos ⟨rfl, rfl⟩, if_pos (by simp)]
    | [b1, b2] => rw [dec_short (by omega) (by simp; try omega), if_pos ⟨rfl, rfl⟩, if_pos (by simp)]
    | b1 :: b2 :: b3 :: t =>
      have hb1 := b1.toNat_lt
      have hb2 := b2.toNat_lt
      have hb3 := b3.toNat_lt
      simp only [List.getD_cons_succ, List.getD_cons_zero, sgnV, Nat.reduceSub, List.take_succ_cons, List.take_zero, List.foldl_cons, List.foldl_nil, List.length_cons]
      obtain ⟨v, hv⟩ : ∃ v, ((b0.toNat % 8 * 64 + b1.toNat % 64) * 64 + b2.toNat % 64) * 64 + b3.toNat % 64 = v := ⟨_, rfl⟩
      refine sgn_pick (by omega) (b1.toNat / 64 = 2 ∧ b2.toNat / 64 = 2 ∧ b3.toNat / 64 = 2 ∧ 65536 ≤ v ∧ v ≤ 1114111) (fun hc => ⟨?_, by omega, ?_⟩) (fun hc => ⟨?_, ?_⟩)
      · rw [hv]; unfold decodeN; rw [if_neg (by omega), if_neg (by omega), if_neg (by omega), if_pos (by omega), if_pos (by omega)]; simp; omega
      · rw [hv]; unfold utf; rw [if_neg (by omega), if_neg (by omega), if_neg (by omega), if_neg (by omega)]; simp only [List.cons.injEq, and_true]
        exact ⟨byteOf_eq.2 (by omega), byteOf_eq.2 (by omega), byteOf_eq.2 (by omega), byteOf_eq.2 (by omega)⟩
      · unfold decodeN; rw [if_neg (by omega), if_neg (by omega), if_neg (by omega)]
        by_cases h : b1.toNat / 64 = 2 ∧ b2.toNat / 64 = 2 ∧ b3.toNat / 64 = 2
        · rw [if_pos (by omega), if_neg (by omega)]
        · rw [if_neg (by omega)]
      · rw [hv]; unfold utf
        by_cases h : 1114111 < v ∨ (55296 ≤ v ∧ v ≤ 57343)
        · rw [if_pos (by omega)]; simp
        by_cases h : 65536 ≤ v
        · rw [if_neg (by omega), if_neg (by omega), if_neg (by omega), if_neg (by omega)]
          intro he; simp only [List.cons.injEq, byteOf_eq, and_true] at he; omega
        · rw [if_neg (by omega)]; split
          · simp
          split
          · simp
          · rw [if_pos (by omega)]; simp
  · rw [e, if_pos (by rw [decodeN_bad _ _ _ _ _ (by omega)]; simp), if_pos (by simp)]
theorem sgn_nil : sgn [] = none := rfl
theorem sgn_bd {l : List UInt8} {n m : Nat} (h : sgn l = some (n, m)) : n ≤ 1114111 ∧ 1 ≤ m ∧ m ≤ l.length := by
  unfold sgn at h; split at h
  · cases h
  · rename_i hc
    simp only [Option.some.injEq] at h
    have h1 := decodeL_rune l; have h2 := decodeL_width l; have h3 := decodeL_le l (fun e => hc (.inl e))
    rw [h] at h1 h2 h3; exact ⟨h1, h2, h3⟩
theorem validD_sgn (l : List UInt8) (hne : l ≠ []) : validD l = match sgn l with | none => false | some (_, m) => validD (l.drop m) := by
  rw [validD_step l hne]; unfold sgn
  by_cases h : (decodeL l).1 = 65533 ∧ (decodeL l).2 = 1
  · rw [if_pos h, if_pos (.inr h)]
  · rw [if_neg h, if_neg (by simp [hne, h])]
theorem many_bd (b : Nat) (hb : b < 256) : (many b).1 ≤ 4 ∧ (many b).2 < 256 := by
  rcases many_cases b with ⟨_, e⟩ | ⟨_, _, e⟩ | ⟨_, _, e⟩ | ⟨_, _, e⟩ | ⟨_, e⟩ <;> rw [e] <;> simp <;> omega
theorem sgnV_snoc (v : Nat) (t : List UInt8) (j : Nat) (h : j < t.length) : sgnV v (t.take (j + 1)) = sgnV v (t.take j) * 64 + t[j].toNat % 64 := by
  unfold sgnV; rw [take_snoc t j h, List.foldl_append]; rfl
theorem sgnV_lt (t : List UInt8) : ∀ v, sgnV v t < (v + 1) * 64 ^ t.length := by
  induction t with
  | nil => intro v; simp [sgnV]
  | cons b t ih =>
    intro v
    have h1 := ih (v * 64 + b.toNat % 64)
    have h2 : (v * 64 + b.toNat % 64 + 1) ≤ (v + 1) * 64 := by omega
    have h3 := Nat.mul_le_mul_right (64 ^ t.length) h2
    show sgnV (v * 64 + b.toNat % 64) t < _
    rw [List.length_cons, Nat.pow_succ, Nat.mul_comm (64 ^ t.length) 64, ← Nat.mul_assoc]; omega
theorem sgnV_bd (v : Nat) (t : List UInt8) (j : Nat) (hv : v < 256) (hj : j ≤ 3) : sgnV v (t.take j) < 67108864 := by
  have h1 := sgnV_lt (t.take j) v
  have h2 : (t.take j).length ≤ 3 := by rw [List.length_take]; omega
  have h3 : 64 ^ (t.take j).length ≤ 64 ^ 3 := Nat.pow_le_pow_right (by omega) h2
  have h4 : (v + 1) * 64 ^ (t.take j).length ≤ 256 * 64 ^ 3 := Nat.mul_le_mul (by omega) h3
  omega
/-- GetSign: the sign at a place and the place behind it -/
def signAt (l : List UInt8) (i : Int) : Int × Int :=
  if 0 ≤ i ∧ i < l.length then (match sgn (l.drop i.toNat) with | none => (-1, -1) | some (n, m) => ((n : Int), i + m)) else (-1, -1)
theorem signAt_far {l : List UInt8} {i : Int} (h : ¬ (0 ≤ i ∧ i < l.length)) : signAt l i = (-1, -1) := by unfold signAt; rw [if_neg h]
theorem signAt_none {l : List UInt8} {k : Nat} (h : sgn (l.drop k) = none) : signAt l k = (-1, -1) := by
  unfold signAt; split
  · rw [Int.toNat_natCast, h]
  · rfl
theorem signAt_some {l : List UInt8} {k n m : Nat} (hk : k < l.length) (h : sgn (l.drop k) = some (n, m)) : signAt l k = ((n : Int), (k : Int) + m) := by
  unfold signAt; rw [if_pos (by omega), Int.toNat_natCast, h]
end Go.Proofs.YtkeieeogkeonfaaGreatDoor

/- Masks of integers of 64 bits and of bytes, as remainders. No program in sight. -/
namespace Go.Proofs.YtkeieeogkeonfaaGreatDoor
open Go.RowKit

theorem mask_i64 (x : Int) (k : Nat) (hk : k ≤ 62) (m : Int) (hm : m = 2 ^ k - 1) : bits .and .i64 x m = x % 2 ^ k := by
  subst hm
  have hp : (2 : Nat) ^ k ≤ 2 ^ 62 := Nat.pow_le_pow_right (by omega) hk
  have h0 : (1 : Nat) ≤ 2 ^ k := Nat.one_le_two_pow
  have e : ((2 : Int) ^ k - 1) = ((2 ^ k - 1 : Nat) : Int) := by rw [Int.natCast_sub h0]; simp
  have hm : (BitVec.ofInt 64 ((2 : Int) ^ k - 1)).toNat = 2 ^ k - 1 := by
    rw [e, BitVec.ofInt_natCast, BitVec.toNat_ofNat]; exact Nat.mod_eq_of_lt (by omega)
  show IntKind.i64.wrap ((BitVec.ofInt 64 x &&& BitVec.ofInt 64 ((2 : Int) ^ k - 1)).toNat : Int) = _
  rw [BitVec.toNat_and, hm, Nat.and_two_pow_sub_one_eq_mod, BitVec.toNat_ofInt]
  have hd : ((2 ^ k : Nat) : Int) ∣ ((2 ^ 64 : Nat) : Int) := by
    have : (2 : Nat) ^ k ∣ 2 ^ 64 := Nat.pow_dvd_pow 2 (by omega)
    exact Int.natCast_dvd_natCast.2 this
  have h1 : (((x % ((2 ^ 64 : Nat) : Int)).toNat % 2 ^ k : Nat) : Int) = x % ((2 ^ k : Nat) : Int) := by
    rw [Int.natCast_emod, Int.toNat_of_nonneg (Int.emod_nonneg _ (by decide)), Int.emod_emod_of_dvd _ hd]
  rw [h1]
  have h2 : ((2 ^ k : Nat) : Int) = (2 : Int) ^ k := by simp
  have h3 : (0 : Int) < ((2 ^ k : Nat) : Int) := by omega
  have h4 := Int.emod_nonneg x (show ((2 ^ k : Nat) : Int) ≠ 0 by omega)
  have h5 := Int.emod_lt_of_pos x h3
  rw [← h2, IntKind.wrap_i64]
  omega
theorem m1 (x : Int) : bits .and .i64 x 1 = x % 2 := mask_i64 x 1 (by decide) 1 (by decide)
theorem m7 (x : Int) : bits .and .i64 x 7 = x % 8 := mask_i64 x 3 (by decide) 7 (by decide)
theorem m15 (x : Int) : bits .and .i64 x 15 = x % 16 := mask_i64 x 4 (by decide) 15 (by decide)
theorem m31 (x : Int) : bits .and .i64 x 31 = x % 32 := mask_i64 x 5 (by decide) 31 (by decide)
theorem m63 (x : Int) : bits .and .i64 x 63 = x % 64 := mask_i64 x 6 (by decide) 63 (by decide)
theorem m127 (x : Int) : bits .and .i64 x 127 = x % 128 := mask_i64 x 7 (by decide) 127 (by decide)
theorem m255 (x : Int) : bits .and .i64 x 255 = x % 256 := mask_i64 x 8 (by decide) 255 (by decide)
attribute [go_sem] m1 m7 m15 m31 m63 m127 m255
end Go.Proofs.YtkeieeogkeonfaaGreatDoor

/- Whether a text is right: the contracts of PutSign, GetSign, Signs and TextOk of the reference. -/
namespace Go.Proofs.YtkeieeogkeonfaaGreatDoor
open Go.RowKit Go.Lib

set_option maxRecDepth 10000 in
theorem l01Many_any (b : UInt8) (w : World) :
    Calls Tryz.prog 106 #[.int .i64 (b.toNat : Nat)] w fun e w' => e = .returned (.tuple #[.int .i64 ((many b.toNat).1 : Nat), .int .i64 ((many b.toNat).2 : Nat)]) ∧ w = w' := by
  have hb := b.toNat_lt
  generalize b.toNat = n at *
  have h0 : (0 : Int) ≤ n := by omega
  rcases many_cases n with ⟨h, e⟩ | ⟨h1, h2, e⟩ | ⟨h1, h2, e⟩ | ⟨h1, h2, e⟩ | ⟨h, e⟩
  · have H := Lib.hid e; clear e
    have n1 : ((n : Int) < 128) := by omega
    go_enter Tryz.func106, Tryz.ntmps106
    go_wp2
    go_ret2
    rw [H.out]; exact ⟨rfl, rfl⟩
  · have H := Lib.hid e; clear e
    have r1 : inR n 192 223 = true := inR_yes (by omega)
    have n1 : ¬ ((n : Int) < 128) := by omega
    clear h1 h2
    go_enter Tryz.func106, Tryz.ntmps106
    go_wp2_with (go_at_call 52; refine (l01In_any _ _ _ _).mono ?_; rintro e w' ⟨rfl, rfl⟩)
    go_ret2
    rw [H.out]; exact ⟨rfl, rfl⟩
  · have H := Lib.hid e; clear e
    have r1 : inR n 192 223 = false := inR_no (by omega)
    have r2 : inR n 224 239 = true := inR_yes (by omega)
    have n1 : ¬ ((n : Int) < 128) := by omega
    clear h1 h2
    go_enter Tryz.func106, Tryz.ntmps106
    go_wp2_with (go_at_call 52; refine (l01In_any _ _ _ _).mono ?_; rintro e w' ⟨rfl, rfl⟩)
    go_ret2
    rw [H.out]; exact ⟨rfl, rfl⟩
  · have H := Lib.hid e; clear e
    have r1 : inR n 192 223 = false := inR_no (by omega)
    have r2 : inR n 224 239 = false := inR_no (by omega)
    have r3 : inR n 240 247 = true := inR_yes (by omega)
    have n1 : ¬ ((n : Int) < 128) := by omega
    clear h1 h2
    go_enter Tryz.func106, Tryz.ntmps106
    go_wp2_with (go_at_call 52; refine (l01In_any _ _ _ _).mono ?_; rintro e w' ⟨rfl, rfl⟩)
    go_ret2
    rw [H.out]; exact ⟨rfl, rfl⟩
  · have H := Lib.hid e; clear e
    have r1 : inR n 192 223 = false := inR_no (by omega)
    have r2 : inR n 224 239 = false := inR_no (by omega)
    have r3 : inR n 240 247 = false := inR_no (by omega)
    have n1 : ¬ ((n : Int) < 128) := by omega
    clear h
    go_enter Tryz.func106, Tryz.ntmps106
    go_wp2_with (go_at_call 52; refine (l01In_any _ _ _ _).mono ?_; rintro e w' ⟨rfl, rfl⟩)
    go_ret2
    rw [H.out]; exact ⟨rfl, rfl⟩

/-- PutSign, of any number -/
def putSign (n : Int) : List UInt8 := if n < 0 then [] else utf n.toNat
theorem putSign_nat (n : Nat) : putSign n = utf n := by unfold putSign; rw [if_neg (by omega)]; simp
theorem putSign_far {n : Int} (h : ¬ (0 ≤ n ∧ n ≤ 1114111)) : putSign n = [] := by
  unfold putSign; by_cases h0 : n < 0
  · rw [if_pos h0]
  · rw [if_neg h0]; unfold utf; rw [if_pos (by omega)]
theorem putSign_sur {n : Int} (h : 55296 ≤ n ∧ n ≤ 57343) : putSign n = [] := by
  unfold putSign; rw [if_neg (by omega)]; unfold utf; rw [if_pos (by omega)]

set_option maxHeartbeats 400000 in
set_option maxRecDepth 10000 in
theorem putSign_spec (n : Int) (w : World) (hn : i64ok n) :
    Calls Tryz.prog 107 #[.int .i64 n] w fun e w' => e = .returned (.string ⟨(putSign n).toArray⟩) ∧ Below w.heap.size w w' := by
  obtain ⟨hn1, hn2⟩ := hn
  by_cases hr : 0 ≤ n ∧ n ≤ 1114111
  · have r1 : inR n 0 1114111 = true := inR_yes hr
    by_cases hs : 55296 ≤ n ∧ n ≤ 57343
    · have r2 : inR n 55296 57343 = true := inR_yes hs
      have H := Lib.hid (putSign_sur hs)
      clear hr hs
      go_enter Tryz.func107, Tryz.ntmps107
      go_wp2_with (go_at_call 52; refine (l01In_any _ _ _ _).mono ?_; rintro e w' ⟨rfl, rfl⟩)
      go_ret
      exact ⟨ret_str H.out.symm, Below.refl _ _⟩
    · have r2 : inR n 55296 57343 = false := inR_no hs
      obtain ⟨hr1, hr2⟩ := hr
      have hcv1 := fun b c w => conv1 (P := Tryz.prog) Tryz.underlying75 Tryz.underlying5 Tryz.underlying9 b c w
      have hcv2 := fun b c w => conv2 (P := Tryz.prog) Tryz.underlying75 Tryz.underlying5 Tryz.underlying9 b c w
      have hcv3 := fun b c w => conv3 (P := Tryz.prog) Tryz.underlying75 Tryz.underlying5 Tryz.underlying9 b c w
      have hcv4 := fun b c w => conv4 (P := Tryz.prog) Tryz.underlying75 Tryz.underlying5 Tryz.underlying9 b c w
      by_cases c1 : n < 128
      · have H : Hid (putSign n = [byteOf n.toNat]) := by
          show _ = _; unfold putSign; rw [if_neg (by omega)]; unfold utf; rw [if_neg (by omega), if_pos (by omega)]
        clear hs
        go_enter Tryz.func107, Tryz.ntmps107
        go_wp2_with (go_at_call 52; refine (l01In_any _ _ _ _).mono ?_; rintro e w' ⟨rfl, rfl⟩)
        go_ret
        exact ⟨ret_str H.out.symm, (Below.refl _ _).alloc (Nat.le_refl _) _⟩
      · by_cases c2 : n < 2048
        · have H : Hid (putSign n =  [byteOf (192 + n.toNat / 64), byteOf (128 + n.toNat % 64)]) := by
            show _ = _; unfold putSign; rw [if_neg (by omega)]; unfold utf; rw [if_neg (by omega), if_neg (by omega), if_pos (by omega)]
          clear hs
          go_enter Tryz.func107, Tryz.ntmps107
          go_wp2_with (go_at_call 52; refine (l01In_any _ _ _ _).mono ?_; rintro e w' ⟨rfl, rfl⟩)
          go_ret
          refine ⟨ret_str ?_, (Below.refl _ _).alloc (Nat.le_refl _) _⟩
          rw [H.out]; try rfl
          simp only [List.cons.injEq, and_true]
          exact ⟨congrArg byteOf (by omega), congrArg byteOf (by omega)⟩
        · by_cases c3 : n < 65536
          · have H : Hid (putSign n = [byteOf (224 + n.toNat / 4096), byteOf (128 + n.toNat / 64 % 64), byteOf (128 + n.toNat % 64)]) := by
              show _ = _; unfold putSign; rw [if_neg (by omega)]; unfold utf; rw [if_neg (by omega), if_neg (by omega), if_neg (by omega), if_pos (by omega)]
            clear hs
            go_enter Tryz.func107, Tryz.ntmps107
            go_wp2_with (go_at_call 52; refine (l01In_any _ _ _ _).mono ?_; rintro e w' ⟨rfl, rfl⟩)
            go_ret
            refine ⟨ret_str ?_, (Below.refl _ _).alloc (Nat.le_refl _) _⟩
            rw [H.out]; try rfl
            simp only [List.cons.injEq, and_true]
            exact ⟨congrArg byteOf (by omega), congrArg byteOf (by omega), congrArg byteOf (by omega)⟩
          · have H : Hid (putSign n = [byteOf (240 + n.toNat / 262144), byteOf (128 + n.toNat / 4096 % 64), byteOf (128 + n.toNat / 64 % 64), byteOf (128 + n.toNat % 64)]) := by
              show _ = _; unfold putSign; rw [if_neg (by omega)]; unfold utf; rw [if_neg (by omega), if_neg (by omega), if_neg (by omega), if_neg (by omega)]
            clear hs
            go_enter Tryz.func107, Tryz.ntmps107
            go_wp2_with (go_at_call 52; refine (l01In_any _ _ _ _).mono ?_; rintro e w' ⟨rfl, rfl⟩)
            go_ret
            refine ⟨ret_str ?_, (Below.refl _ _).alloc (Nat.le_refl _) _⟩
            rw [H.out]; try rfl
            simp only [List.cons.injEq, and_true]
            exact ⟨congrArg byteOf (by omega), congrArg byteOf (by omega), congrArg byteOf (by omega), congrArg byteOf (by omega)⟩
  · have r1 : inR n 0 1114111 = false := inR_no hr
    have H := Lib.hid (putSign_far hr)
    clear hr
    go_enter Tryz.func107, Tryz.ntmps107
    go_wp2_with (go_at_call 52; refine (l01In_any _ _ _ _).mono ?_; rintro e w' ⟨rfl, rfl⟩)
    go_ret
    exact ⟨ret_str H.out.symm, Below.refl _ _⟩

set_option maxHeartbeats 1000000 in
set_option maxRecDepth 10000 in
theorem getSign_spec (l : List UInt8) (i : Int) (w : World) (hi : i64ok i) (hl : l.length ≤ 4611686018427387904) :
    Calls Tryz.prog 96 #[.string ⟨l.toArray⟩, .int .i64 i] w fun e w' => e = .returned (.tuple #[.int .i64 (signAt l i).1, .int .i64 (signAt l i).2]) ∧ Below w.heap.size w w' := by
  obtain ⟨hi1, hi2⟩ := hi
  by_cases hr : 0 ≤ i ∧ i < l.length
  · obtain ⟨k, rfl⟩ : ∃ k : Nat, i = k := ⟨i.toNat, by omega⟩
    have hk : k < l.length := by omega
    have hk1 : (0 : Int) ≤ k := by omega
    have hk2 : (k : Int) < l.length := by omega
    have hS := sgn_many l[k] (l.drop (k + 1))
    rw [← List.drop_eq_getElem_cons hk] at hS
    have hbd := many_bd l[k].toNat l[k].toNat_lt
    obtain ⟨hbd1, hbd2⟩ := hbd
    have HC := Lib.hid (l01Many_any l[k])
    obtain ⟨m, hm⟩ : ∃ m, (many l[k].toNat).1 = m := ⟨_, rfl⟩
    obtain ⟨v0, hv⟩ : ∃ v, (many l[k].toNat).2 = v := ⟨_, rfl⟩
    rw [hm] at hbd1 hS
    rw [hv] at hbd2 hS
    have HC : Hid (∀ w, Calls Tryz.prog 106 #[.int .i64 (l[k].toNat : Nat)] w fun e w' => e = .returned (.tuple #[.int .i64 (m : Nat), .int .i64 (v0 : Nat)]) ∧ w = w') := by
      intro w; rw [← hm, ← hv]; exact HC.out w
    clear hm hv hr
    by_cases hA : m = 0 ∨ (l.drop (k + 1)).length + 1 < m
    · rw [if_pos (.inl hA)] at hS
      have H := Lib.hid (signAt_none hS)
      clear hS
      rw [List.length_drop] at hA
      by_cases hA0 : m = 0
      · subst hA0
        go_enter Tryz.func96, Tryz.ntmps96
        go_wp2_with (go_at_call 106; refine (HC.out _).mono ?_; rintro e w1 ⟨rfl, rfl⟩)
        go_ret2
        rw [H.out]; exact ⟨rfl, Below.refl _ _⟩
      · have hA1 : (l.length : Int) - k < m := by omega
        have hA2 : ((m : Int) == 0) = false := by simpa using hA0
        clear hA hA0
        go_enter Tryz.func96, Tryz.ntmps96
        go_wp2_with (go_at_call 106; refine (HC.out _).mono ?_; rintro e w1 ⟨rfl, rfl⟩)
        go_ret2
        rw [H.out]; exact ⟨rfl, Below.refl _ _⟩
    · have hA0 : 1 ≤ m := by omega
      have hA1 : k + m ≤ l.length := by rw [List.length_drop] at hA; omega
      have hA2 : ((m : Int) == 0) = false := by simp; omega
      have hA3 : ¬ (l.length : Int) - k < m := by omega
      have hle : ((l.drop (k + 1)).length : Nat) = l.length - (k + 1) := List.length_drop
      have HS := Lib.hid hS
      have HA := Lib.hid hA
      have HL := Lib.hid hle
      clear hA hS hle
      go_enter Tryz.func96, Tryz.ntmps96
      go_wp2_with (go_at_call 106; refine (HC.out _).mono ?_; rintro e w1 ⟨rfl, rfl⟩)
      go_loop [7, 8] (fun x i => ∃ (j : Nat), j + 1 ≤ m ∧ i = .int .i64 ((j + 1 : Nat) : Int) ∧ x = .int .i64 (sgnV v0 ((l.drop (k + 1)).take j))) (fun _ i => 5 - (intOf i).toNat)
      case atStart => exact ⟨0, by omega, rfl, by simp [sgnV]⟩
      case round =>
        obtain ⟨j, hj, rfl, rfl⟩ := hrel
        by_cases hlt : j + 1 < m
        · have hjl : j < (l.drop (k + 1)).length := by have := HL.out; omega
          have HN := Lib.hid (sgnV_snoc v0 (l.drop (k + 1)) j hjl)
          have hb := sgnV_bd v0 (l.drop (k + 1)) j hbd2 (by omega)
          have hget : (l.drop (k + 1))[j] = l[k + (j + 1)]'(by have := HL.out; omega) := by rw [List.getElem_drop]; congr 1; omega
          rw [hget] at HN
          have hk4 : k + (j + 1) < l.length := by omega
          have e1 : ((k : Int) + (j + 1 : Nat)).toNat = k + (j + 1) := by omega
          obtain ⟨x, hx⟩ : ∃ x, sgnV v0 ((l.drop (k + 1)).take j) = x := ⟨_, rfl⟩
          rw [hx] at HN hb ⊢
          have HX := Lib.hid hx; clear hx
          go_wp2
          go_round
          case rel =>
            refine ⟨j + 1, by omega, by go_num, ?_⟩
            rw [HN.out]; go_num
          case measure => simp [intOf] <;> omega
        · obtain rfl : m = j + 1 := by omega
          have hb := sgnV_bd v0 (l.drop (k + 1)) j hbd2 (by omega)
          have HS2 := HS.out
          have hpre : ¬ ((j + 1 = 0) ∨ (l.drop (k + 1)).length + 1 < j + 1) := HA.out
          simp only [hpre, false_or, Nat.add_sub_cancel] at HS2
          have HS2 := Lib.hid HS2
          clear hpre
          go_wp2
          obtain ⟨x, hx⟩ : ∃ x, sgnV v0 ((l.drop (k + 1)).take j) = x := ⟨_, rfl⟩
          rw [hx] at hb HS2
          have HX := Lib.hid hx
          simp only [hx]
          clear hx HS
          have hB := Below.refl w.heap.size w
          have z1 : IntKind.i64.wrap ((k : Int) + (↑j + 1)) = (k : Int) + (↑j + 1) := IntWalk.i64_in _ (by omega)
          have z2 : (0 : Int) ≤ (k : Int) + (↑j + 1) := by omega
          have z3 : (k : Int) ≤ (k : Int) + (↑j + 1) := by omega
          have z4 : (k : Int) + (↑j + 1) ≤ l.length := by omega
          have z5 : ((k : Int) + (↑j + 1)).toNat = k + (j + 1) := by omega
          have hxo : i64ok x := ⟨by omega, by omega⟩
          go_region_held3 (fun W => Below w.heap.size w W) (first | exact hB | exact hB.drew)
            (first | (go_at_call 107; refine (putSign_spec x _ hxo).mono ?_; rintro e w2 ⟨rfl, hb2⟩; replace hB := below2 (by first | exact hB | exact hB.drew) hb2 (Nat.le_refl _)))
          go_wp2
          · have he : (!putSign ↑x == List.take (j + 1) (List.drop k l)) = true := by assumption
            rw [putSign_nat] at he
            have h2 := HS2.out
            rw [if_pos (by simpa using he)] at h2
            go_ret2
            rw [signAt_none h2]; exact ⟨rfl, hB⟩
          · have he : (!putSign ↑x == List.take (j + 1) (List.drop k l)) = false := by assumption
            rw [putSign_nat] at he
            have h2 := HS2.out
            rw [if_neg (by simpa using he)] at h2
            go_ret2
            rw [signAt_some hk h2]; exact ⟨by simp, hB⟩
  · have H := Lib.hid (signAt_far hr)
    by_cases h0 : i < 0
    · clear hr
      go_enter Tryz.func96, Tryz.ntmps96
      go_wp2
      go_ret2
      rw [H.out]; exact ⟨rfl, Below.refl _ _⟩
    · have h1 : ¬ i < l.length := by omega
      clear hr
      go_enter Tryz.func96, Tryz.ntmps96
      go_wp2
      go_ret2
      rw [H.out]; exact ⟨rfl, Below.refl _ _⟩
end Go.Proofs.YtkeieeogkeonfaaGreatDoor
