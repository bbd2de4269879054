/- Contracts of the letters' functions, and the law FnExactPutLetter. -/
import Derived.Test.YtimjpohfopnnpaaHead
import Derived.Deep.RegionHeld3
namespace Go.Proofs.Ytimjpohfopnnpaa
open Go.RowKit

theorem u64_same {n : Int} (hn : 0 ≤ n ∧ n ≤ 18446744073709551615) : IntKind.u64.wrap n = n := by
  simp [IntKind.wrap, IntKind.bits, IntKind.signed]; omega
theorem putHead_w (m n : Int) (w : World) (hm : 0 ≤ m ∧ m ≤ 7) (hn : 0 ≤ n ∧ n ≤ 18446744073709551615) :
    Calls Try.prog 25 #[.int .i64 m, .int .u64 (IntKind.u64.wrap n)] w fun e w' => e = .returned (.string ⟨(hd m.toNat n.toNat).toArray⟩) ∧ Below w.heap.size w w' := by
  rw [u64_same hn]; exact putHead_impl m n w hm hn
theorem putHead_sw (m n : Int) (w : World) (hm : 0 ≤ m ∧ m ≤ 7) (hn : 0 ≤ n ∧ n ≤ 18446744073709551615) :
    Calls Try.prog 21 #[.int .i64 m, .int .u64 (IntKind.u64.wrap n)] w fun e w' => e = .returned (.string ⟨(hd m.toNat n.toNat).toArray⟩) ∧ Below w.heap.size w w' := by
  rw [u64_same hn]; exact putHead_spec m n w hm hn

set_option maxHeartbeats 400000 in
theorem isGiven_any (n : Int) (w : World) :
    Calls Try.prog 22 #[.int .i64 n] w fun e w' => e = .returned (.bool (inR n 0 6)) ∧ w = w' := by
  go_enter Try.func22, Try.ntmps22
  go_wp2_with (go_at_call 23; refine (within_any _ _ _ _).mono ?_; rintro e w' ⟨rfl, rfl⟩)
  go_ret
  exact ⟨rfl, rfl⟩

def formName (f : Int) : List UInt8 :=
  if f = 0 then [106, 115, 111, 110] else if f = 1 then [109, 115, 103] else if f = 2 then [99, 98, 111, 114] else if f = 3 then [114, 101, 102, 115]
  else if f = 4 then [107, 101, 121, 115] else if f = 5 then [112, 97, 99, 107] else if f = 6 then [97, 108, 108] else []

set_option maxHeartbeats 400000 in
theorem l16Names_any (w : World) :
    Calls Try.prog 38 #[] w fun e w' => e = .returned (.slice (some ⟨w.heap.size, 0, none⟩) 7 7) ∧ w' = w.alloc (.cells #[.string ⟨(formName 0).toArray⟩, .string ⟨(formName 1).toArray⟩, .string ⟨(formName 2).toArray⟩, .string ⟨(formName 3).toArray⟩, .string ⟨(formName 4).toArray⟩, .string ⟨(formName 5).toArray⟩, .string ⟨(formName 6).toArray⟩] 9) := by
  go_enter Try.func38, Try.ntmps38
  go_wp2
  go_ret
  exact ⟨rfl, rfl⟩

set_option maxHeartbeats 400000 in
theorem formName_spec (n : Int) (w : World) :
    Calls Try.prog 18 #[.int .i64 n] w fun e w' => e = .returned (.string ⟨(formName n).toArray⟩) ∧ Below w.heap.size w w' := by
  by_cases h : 0 ≤ n ∧ n ≤ 6
  · have hin : inR n 0 6 = true := inR_yes h
    have : n = 0 ∨ n = 1 ∨ n = 2 ∨ n = 3 ∨ n = 4 ∨ n = 5 ∨ n = 6 := by omega
    rcases this with rfl | rfl | rfl | rfl | rfl | rfl | rfl
    all_goals
      go_enter Try.func18, Try.ntmps18
      go_wp2_with (first | (go_at_call 19; refine (l01In_any _ _ _ _).mono ?_; rintro e w' ⟨rfl, rfl⟩) | (go_at_call 38; refine (l16Names_any _).mono ?_; rintro e w' ⟨rfl, rfl⟩))
      go_ret
      exact ⟨rfl, (Below.refl _ _).alloc (Nat.le_refl _) _⟩
  · have hin : inR n 0 6 = false := inR_no h
    go_enter Try.func18, Try.ntmps18
    go_wp2_with (first | (go_at_call 19; refine (l01In_any _ _ _ _).mono ?_; rintro e w' ⟨rfl, rfl⟩))
    go_ret
    refine ⟨ret_str ?_, Below.refl _ _⟩
    unfold formName
    repeat rw [if_neg (by omega)]

set_option maxHeartbeats 400000 in
theorem toLetter_any (f v : Int) (b : List UInt8) (w : World) :
    Calls Try.prog 8 #[.agg #[.int .i64 f, .int .i64 v, .string ⟨b.toArray⟩]] w fun e w' => e = .returned (.agg #[.int .i64 f, .int .i64 v, .string ⟨b.toArray⟩]) ∧ Below w.heap.size w w' := by
  go_enter Try.func8, Try.ntmps8
  go_wp2
  exact bodyPost_ret (v := .agg #[.int .i64 f, .int .i64 v, .string ⟨b.toArray⟩]) (by simp [results, Try.results8, go_sem]) rfl ⟨rfl, by repeat (first | exact Below.refl _ _ | refine Below.drew ?_ | refine Below.alloc ?_ (by simp; try omega) _ | refine Below.setCell ?_ (by simp; try omega) _)⟩

theorem letter_no {f v : Int} {b : List UInt8} (h : ¬ (0 ≤ f ∧ f ≤ 6 ∧ 0 ≤ v ∧ v ≤ 40 ∧ b.length ≤ 60000)) : letter f v b = [] := by unfold letter; rw [if_neg h]
theorem letter_yes {f v : Int} {b : List UInt8} (h : 0 ≤ f ∧ f ≤ 6 ∧ 0 ≤ v ∧ v ≤ 40 ∧ b.length ≤ 60000) : letter f v b = frame (hd 0 f.toNat ++ hd 0 v.toNat ++ b) := by unfold letter; rw [if_pos h]

set_option maxHeartbeats 400000 in
theorem putLetter_impl (f v : Int) (b : List UInt8) (w : World) (hb : b.length ≤ 9223372036854775807) :
    Calls Try.prog 9 #[.agg #[.int .i64 f, .int .i64 v, .string ⟨b.toArray⟩]] w fun e w' => e = .returned (.string ⟨(letter f v b).toArray⟩) ∧ Below w.heap.size w w' := by
  by_cases h : 0 ≤ f ∧ f ≤ 6 ∧ 0 ≤ v ∧ v ≤ 40 ∧ b.length ≤ 60000
  · have H := Lib.hid (letter_yes h)
    obtain ⟨h1, h2, h3, h4, h5⟩ := h
    have i1 : inR f 0 6 = true := inR_yes ⟨h1, h2⟩
    have i2 : inR v 0 40 = true := inR_yes ⟨h3, h4⟩
    have l1 := (hd_length 0 f.toNat).1
    have l2 := (hd_length 0 v.toNat).1
    have q1 : ¬ 9223372036854775807 < (hd 0 f.toNat).length + (hd 0 v.toNat).length := by omega
    have q2 : ¬ 9223372036854775807 < (hd 0 f.toNat).length + (hd 0 v.toNat).length + b.length := by omega
    go_enter Try.func9, Try.ntmps9
    go_wp2_with (first | (go_at_call 23; refine (within_any _ _ _ _).mono ?_; rintro e w' ⟨rfl, rfl⟩) | (go_at_call 22; refine (isGiven_any _ _).mono ?_; rintro e w' ⟨rfl, rfl⟩))
    go_region_held3 (fun w' => w'.cell? ⟨w.heap.size, 0, none⟩ = some (.int .i64 f) ∧ w'.cell? ⟨w.heap.size, 1, none⟩ = some (.int .i64 v) ∧ w'.cell? ⟨w.heap.size, 2, none⟩ = some (.string ⟨b.toArray⟩) ∧ Below w.heap.size w w' ∧ w.heap.size < w'.heap.size)
      (first | exact keep3 (by assumption) (by assumption) | exact ⟨by simp, by simp, by simp, ((Below.refl _ _).alloc (Nat.le_refl _) _).drew, by simp⟩)
      (first | (go_at_call 25; refine (putHead_w _ _ _ (by omega) (by omega)).mono ?_; rintro e w' ⟨rfl, hb⟩) | (go_at_call 24; refine (putFrame_impl _ _ (by simp; omega)).mono ?_; rintro e w' ⟨rfl, hb⟩))
    go_wp2
    go_ret
    exact ⟨ret_str (by rw [H.out]; simp), by rename_i hS; exact hS.2.2.2.1⟩
  · have H := Lib.hid (letter_no h)
    have hA := (Below.refl w.heap.size w).alloc (Nat.le_refl _) (.cells #[.int .i64 f, .int .i64 v, .string ⟨b.toArray⟩] 26)
    by_cases h1 : 0 ≤ f ∧ f ≤ 6
    · have i1 : inR f 0 6 = true := inR_yes h1
      by_cases h2 : 0 ≤ v ∧ v ≤ 40
      · have i2 : inR v 0 40 = true := inR_yes h2
        have h3 : 60000 < b.length := by omega
        go_enter Try.func9, Try.ntmps9
        go_wp2_with (first | (go_at_call 23; refine (within_any _ _ _ _).mono ?_; rintro e w' ⟨rfl, rfl⟩) | (go_at_call 22; refine (isGiven_any _ _).mono ?_; rintro e w' ⟨rfl, rfl⟩))
        go_ret
        exact ⟨ret_str (by rw [H.out]), hA⟩
      · have i2 : inR v 0 40 = false := inR_no h2
        go_enter Try.func9, Try.ntmps9
        go_wp2_with (first | (go_at_call 23; refine (within_any _ _ _ _).mono ?_; rintro e w' ⟨rfl, rfl⟩) | (go_at_call 22; refine (isGiven_any _ _).mono ?_; rintro e w' ⟨rfl, rfl⟩))
        go_ret
        exact ⟨ret_str (by rw [H.out]), hA⟩
    · have i1 : inR f 0 6 = false := inR_no h1
      go_enter Try.func9, Try.ntmps9
      go_wp2_with (first | (go_at_call 23; refine (within_any _ _ _ _).mono ?_; rintro e w' ⟨rfl, rfl⟩) | (go_at_call 22; refine (isGiven_any _ _).mono ?_; rintro e w' ⟨rfl, rfl⟩))
      go_ret
      exact ⟨ret_str (by rw [H.out]), hA⟩

theorem formName_some {f : Int} (h : 0 ≤ f ∧ f ≤ 6) : (formName f).isEmpty = false := by
  have : f = 0 ∨ f = 1 ∨ f = 2 ∨ f = 3 ∨ f = 4 ∨ f = 5 ∨ f = 6 := by omega
  rcases this with rfl | rfl | rfl | rfl | rfl | rfl | rfl <;> rfl
theorem formName_none {f : Int} (h : ¬ (0 ≤ f ∧ f ≤ 6)) : (formName f).isEmpty = true := by
  unfold formName; repeat rw [if_neg (by omega)]
  rfl

set_option maxHeartbeats 800000 in
theorem putLetter_spec (f v : Int) (b : List UInt8) (w : World) (hb : b.length ≤ 9223372036854775807) :
    Calls Try.prog 7 #[.agg #[.int .i64 f, .int .i64 v, .string ⟨b.toArray⟩]] w fun e w' => e = .returned (.string ⟨(letter f v b).toArray⟩) ∧ Below w.heap.size w w' := by
  have hA := (Below.refl w.heap.size w).alloc (Nat.le_refl _) (.cells #[.int .i64 f, .int .i64 v, .string ⟨b.toArray⟩] 26)
  by_cases h : 0 ≤ f ∧ f ≤ 6 ∧ 0 ≤ v ∧ v ≤ 40 ∧ b.length ≤ 60000
  · have H := Lib.hid (letter_yes h)
    obtain ⟨h1, h2, h3, h4, h5⟩ := h
    have i1 := formName_some ⟨h1, h2⟩
    have i2 : inR v 0 40 = true := inR_yes ⟨h3, h4⟩
    have l1 := (hd_length 0 f.toNat).1
    have l2 := (hd_length 0 v.toNat).1
    have q1 : ¬ 9223372036854775807 < (hd 0 f.toNat).length + (hd 0 v.toNat).length := by omega
    have q2 : ¬ 9223372036854775807 < (hd 0 f.toNat).length + (hd 0 v.toNat).length + b.length := by omega
    go_enter Try.func7, Try.ntmps7
    go_wp2_with (first | (go_at_call 19; refine (l01In_any _ _ _ _).mono ?_; rintro e w' ⟨rfl, rfl⟩) | (go_at_call 18; refine (formName_spec _ _).mono ?_; rintro e w' ⟨rfl, hb⟩; obtain ⟨hc, hf⟩ := bcell hb))
    go_region_held3 (fun w' => w'.cell? ⟨w.heap.size, 0, none⟩ = some (.int .i64 f) ∧ w'.cell? ⟨w.heap.size, 1, none⟩ = some (.int .i64 v) ∧ w'.cell? ⟨w.heap.size, 2, none⟩ = some (.string ⟨b.toArray⟩) ∧ Below w.heap.size w w' ∧ w.heap.size < w'.heap.size)
      (first | exact keep3 (by assumption) (by assumption) | exact ⟨by simp [hc], by simp [hc], by simp [hc], Below.drew (below2 hA (by assumption) (Nat.le_refl _)), by have := hb.size; simp at this ⊢; omega⟩)
      (first | (go_at_call 21; refine (putHead_sw _ _ _ (by omega) (by omega)).mono ?_; rintro e w' ⟨rfl, hb⟩) | (go_at_call 20; refine (putFrame_spec _ _ (by simp; omega)).mono ?_; rintro e w' ⟨rfl, hb⟩))
    go_wp2
    go_ret
    exact ⟨ret_str (by rw [H.out]; simp), by rename_i hS; exact hS.2.2.2.1⟩
  · have H := Lib.hid (letter_no h)
    by_cases h1 : 0 ≤ f ∧ f ≤ 6
    · have i1 := formName_some h1
      by_cases h2 : 0 ≤ v ∧ v ≤ 40
      · have i2 : inR v 0 40 = true := inR_yes h2
        have h3 : 60000 < b.length := by omega
        go_enter Try.func7, Try.ntmps7
        go_wp2_with (first | (go_at_call 19; refine (l01In_any _ _ _ _).mono ?_; rintro e w' ⟨rfl, rfl⟩) | (go_at_call 18; refine (formName_spec _ _).mono ?_; rintro e w' ⟨rfl, hb⟩; obtain ⟨hc, hf⟩ := bcell hb))
        go_ret
        exact ⟨ret_str (by rw [H.out]), below2 hA (by assumption) (Nat.le_refl _)⟩
      · have i2 : inR v 0 40 = false := inR_no h2
        go_enter Try.func7, Try.ntmps7
        go_wp2_with (first | (go_at_call 19; refine (l01In_any _ _ _ _).mono ?_; rintro e w' ⟨rfl, rfl⟩) | (go_at_call 18; refine (formName_spec _ _).mono ?_; rintro e w' ⟨rfl, hb⟩; obtain ⟨hc, hf⟩ := bcell hb))
        go_ret
        exact ⟨ret_str (by rw [H.out]), below2 hA (by assumption) (Nat.le_refl _)⟩
    · have i1 := formName_none h1
      go_enter Try.func7, Try.ntmps7
      go_wp2_with (first | (go_at_call 19; refine (l01In_any _ _ _ _).mono ?_; rintro e w' ⟨rfl, rfl⟩) | (go_at_call 18; refine (formName_spec _ _).mono ?_; rintro e w' ⟨rfl, hb⟩; obtain ⟨hc, hf⟩ := bcell hb))
      go_ret
      exact ⟨ret_str (by rw [H.out]), below2 hA (by assumption) (Nat.le_refl _)⟩

def szLetterR (b : List UInt8) (left : Int) : Int := if left - b.length < 0 then -1 else left - b.length
set_option maxHeartbeats 400000 in
theorem szLetter_any (f v : Int) (b : List UInt8) (left : Int) (w : World) (hb : b.length ≤ 9223372036854775807) (hl : 0 ≤ left ∧ left ≤ 1048576) :
    Calls Try.prog 6 #[.agg #[.int .i64 f, .int .i64 v, .string ⟨b.toArray⟩], .int .i64 left] w fun e w' => e = .returned (.int .i64 (szLetterR b left)) ∧ Below w.heap.size w w' := by
  obtain ⟨hl1, hl2⟩ := hl
  go_enter Try.func6, Try.ntmps6
  go_wp2
  all_goals
    go_ret
    refine ⟨ret_int ?_, (Below.refl w.heap.size w).alloc (Nat.le_refl _) _⟩
    unfold szLetterR
    first | rw [if_pos (by omega)] | rw [if_neg (by omega)]

set_option maxHeartbeats 800000 in
theorem exactPutLetter (f v : Int) (b : List UInt8) (w : World) (hb : b.length ≤ 9223372036854775807) :
    Calls Try.prog 3 #[.agg #[.int .i64 f, .int .i64 v, .string ⟨b.toArray⟩]] w fun e w' => e = .returned (.bool true) ∧ Below w.heap.size w w' := by
  have hB := (Below.refl w.heap.size w).alloc (Nat.le_refl _) (.cells #[.int .i64 f, .int .i64 v, .string ⟨b.toArray⟩] 23)
  go_enter Try.func3, Try.ntmps3
  go_wp2_with (first | (go_at_call 6; refine (szLetter_any _ _ _ _ _ hb (by decide)).mono ?_; rintro e w' ⟨rfl, hb1⟩; replace hB := below2 hB hb1 (Nat.le_refl _); obtain ⟨hc1, hf1⟩ := bcell hb1; have hz : w.heap.size < w'.heap.size := (by have := hb1.size; (try simp at this); omega)) | (go_at_call 8; refine (toLetter_any _ _ _ _).mono ?_; rintro e w' ⟨rfl, hb2⟩; replace hB := below2 hB hb2 (Nat.le_refl _); obtain ⟨hc2, hf2⟩ := bcell hb2; have hz : w.heap.size < w'.heap.size := (by have := hb2.size; (try simp at this); omega)) | (go_at_call 7; refine (putLetter_spec _ _ _ _ hb).mono ?_; rintro e w' ⟨rfl, hb3⟩; replace hB := below2 hB hb3 (Nat.le_refl _); obtain ⟨hc3, hf3⟩ := bcell hb3; have hz : w.heap.size < w'.heap.size := (by have := hb3.size; (try simp at this); omega)) | (go_at_call 9; refine (putLetter_impl _ _ _ _ hb).mono ?_; rintro e w' ⟨rfl, hb4⟩; replace hB := below2 hB hb4 (Nat.le_refl _); obtain ⟨hc4, hf4⟩ := bcell hb4))
  all_goals go_ret
  all_goals exact ⟨rfl, hB⟩
end Go.Proofs.Ytimjpohfopnnpaa
