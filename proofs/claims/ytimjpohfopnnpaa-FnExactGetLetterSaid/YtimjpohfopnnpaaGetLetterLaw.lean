/- The walk of FnExactGetLetter. -/
import Derived.Test.YtimjpohfopnnpaaGetLetterI
namespace Go.Proofs.Ytimjpohfopnnpaa
open Go.RowKit

set_option maxHeartbeats 400000 in
theorem eqLetter_same (f v : Int) (b : List UInt8) (w : World) :
    Calls Try.prog 17 #[.agg #[.int .i64 f, .int .i64 v, .string ⟨b.toArray⟩], .agg #[.int .i64 f, .int .i64 v, .string ⟨b.toArray⟩]] w fun e w' => e = .returned (.bool true) ∧ Below w.heap.size w w' := by
  go_enter Try.func17, Try.ntmps17
  go_wp2
  go_ret
  exact ⟨rfl, ((Below.refl _ _).alloc (Nat.le_refl _) _).alloc (by simp) _⟩

set_option maxHeartbeats 1600000 in
theorem exactGetLetter (l : List UInt8) (w : World) (hs : strok l) :
    Calls Try.prog 5 #[.string ⟨l.toArray⟩] w fun e w' => e = .returned (.bool true) ∧ Below w.heap.size w w' := by
  unfold strok at hs
  by_cases h : l.length ≤ 1048576
  · have hl : l.length ≤ 9223372036854775000 := by omega
    cases hr : letOf l with
    | none =>
      have HS := Lib.hid (fun w => getLetter_spec l w hl)
      have HI := Lib.hid (fun w => getLetter_impl l w hl)
      rw [hr] at HS HI
      have HE := Lib.hid (eqLetter_same 0 0 [])
      clear hr
      go_enter Try.func5, Try.ntmps5
      go_wp2_with (first | (go_at_call 15; refine (HS.out _).mono ?_; simp only [lR]; rintro e w1 ⟨rfl, hb1⟩) | (go_at_call 16; refine (HI.out _).mono ?_; simp only [lR]; rintro e w2 ⟨rfl, hb2⟩; obtain ⟨z, c0, c1, c2, f0, f1, f2⟩ := box3 _ hb2) | (go_at_call 17; refine (HE.out _).mono ?_; rintro e w3 ⟨rfl, hb3⟩))
      go_ret
      exact ⟨rfl, below2a (below2a hb1 hb2 (Nat.le_refl _)) hb3 (Nat.le_refl _)⟩
    | some r =>
      obtain ⟨f, v, b⟩ := r
      have HS := Lib.hid (fun w => getLetter_spec l w hl)
      have HI := Lib.hid (fun w => getLetter_impl l w hl)
      rw [hr] at HS HI
      have HE := Lib.hid (eqLetter_same (f : Nat) (v : Nat) b)
      clear hr
      go_enter Try.func5, Try.ntmps5
      go_wp2_with (first | (go_at_call 15; refine (HS.out _).mono ?_; simp only [lR]; rintro e w1 ⟨rfl, hb1⟩) | (go_at_call 16; refine (HI.out _).mono ?_; simp only [lR]; rintro e w2 ⟨rfl, hb2⟩; obtain ⟨z, c0, c1, c2, f0, f1, f2⟩ := box3 _ hb2) | (go_at_call 17; refine (HE.out _).mono ?_; rintro e w3 ⟨rfl, hb3⟩))
      go_ret
      exact ⟨rfl, below2a (below2a hb1 hb2 (Nat.le_refl _)) hb3 (Nat.le_refl _)⟩
  · go_enter Try.func5, Try.ntmps5
    go_wp2
    go_ret
    exact ⟨rfl, Below.refl _ _⟩
end Go.Proofs.Ytimjpohfopnnpaa
