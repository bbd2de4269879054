/- The first place of a text in a list of texts: the contracts of l11At and slices.Index at texts. -/
import Derived.Test.YtkeieeogkeonfaaGreatDoorRange
import Derived.Deep.QuietTactic
import Derived.BigQuiet
import Derived.StillTailTactics
namespace Go.Proofs.YtkeieeogkeonfaaGreatDoor
open Go.RowKit

theorem cell_lt {w : World} {b o : Nat} {v : Value} (h : w.cell? ⟨b, o, none⟩ = some v) : b < w.heap.size := by
  apply Classical.byContradiction; intro hn
  simp [World.cell?, Array.getElem?_eq_none (Nat.le_of_not_lt hn)] at h

/-- a slice of texts as it reads in memory -/
def StrRow (w : World) (v : Value) (ls : List (List UInt8)) : Prop :=
  ∃ a c, v = .slice a ls.length c ∧ (ls ≠ [] → ∃ b o, a = some ⟨b, o, none⟩ ∧ ∀ k (h : k < ls.length), w.cell? ⟨b, o + k, none⟩ = some (.string ⟨ls[k].toArray⟩))

/-- the first place of s in a list whose first element has the place k, or -1 -/
def ixF : List (List UInt8) → List UInt8 → Nat → Int
  | [], _, _ => -1
  | a :: r, s, k => if a = s then k else ixF r s (k + 1)

theorem ixF_yes {ls : List (List UInt8)} {s : List UInt8} {k : Nat} (hk : k < ls.length) (he : ls[k] = s) : ixF (ls.drop k) s k = k := by
  rw [List.drop_eq_getElem_cons hk, ixF, if_pos he]
theorem ixF_no {ls : List (List UInt8)} {s : List UInt8} {k : Nat} (hk : k < ls.length) (he : ¬ ls[k] = s) : ixF (ls.drop k) s k = ixF (ls.drop (k + 1)) s (k + 1) := by
  rw [List.drop_eq_getElem_cons hk, ixF, if_neg he]
theorem ixF_end {ls : List (List UInt8)} {s : List UInt8} : ixF (ls.drop ls.length) s ls.length = -1 := by
  rw [List.drop_length]; rfl

set_option maxHeartbeats 400000 in
theorem l11At_any (ls : List (List UInt8)) (v : Value) (s : List UInt8) (w : World) (h : StrRow w v ls) (hl : ls.length ≤ 9223372036854775807) :
    Calls Tryz.prog 36 #[v, .string ⟨s.toArray⟩] w fun e w' => e = .returned (.int .i64 (ixF ls s 0)) ∧ Below w.heap.size w w' := by
  obtain ⟨a, c, rfl, hg⟩ := h
  obtain ⟨r, hr⟩ : ∃ r, ixF ls s 0 = r := ⟨_, rfl⟩
  rw [hr]
  go_enter Tryz.func36, Tryz.ntmps36
  go_wp2
  go_loopw [5] (fun i wr => ∃ (k : Nat), k ≤ ls.length ∧ i = .int .i64 k ∧ ixF (ls.drop k) s k = r ∧ Below w.heap.size w wr) (fun i _ => ls.length - (intOf i).toNat)
  case atStart => exact ⟨0, Nat.zero_le _, rfl, hr, Below.refl _ _⟩
  case round =>
    obtain ⟨k, hk, rfl, hix, hbel⟩ := hrel
    have HX := Lib.hid hix; clear hix
    by_cases hk2 : k < ls.length
    · obtain ⟨b, o, rfl, hcell⟩ := hg (by intro e; rw [e] at hk2; simp at hk2)
      have hc := hcell k hk2
      have hb : b < w.heap.size := cell_lt hc
      clear hcell hg
      obtain ⟨hbc, _⟩ := bcell hbel
      have hi1 : (0 : Int) ≤ k := by omega
      have hi2 : (k : Int) < ls.length := by omega
      go_wp2
      · have he : (ls[k] == s) = true := by assumption
        have hk3 := ixF_yes hk2 (by simpa using he)
        rw [HX.out] at hk3
        go_ret
        exact ⟨ret_int hk3.symm, hbel⟩
      · have he : (ls[k] == s) = false := by assumption
        have hk3 := ixF_no hk2 (s := s) (by simpa using he)
        go_roundw
        case rel => exact ⟨k + 1, by omega, by go_num, by rw [← hk3, HX.out], hbel⟩
        case measure => simp [intOf] <;> omega
    · obtain rfl : k = ls.length := by omega
      have hk3 := HX.out
      rw [ixF_end] at hk3
      go_wp2
      go_ret
      exact ⟨ret_int hk3, hbel⟩

set_option maxHeartbeats 400000 in
theorem slicesIndex_any (ls : List (List UInt8)) (v : Value) (s : List UInt8) (w : World) (h : StrRow w v ls) (hl : ls.length ≤ 9223372036854775807) :
    Calls Tryz.prog 71 #[v, .string ⟨s.toArray⟩] w fun e w' => e = .returned (.int .i64 (ixF ls s 0)) ∧ Below w.heap.size w w' := by
  obtain ⟨a, c, rfl, hg⟩ := h
  obtain ⟨r, hr⟩ : ∃ r, ixF ls s 0 = r := ⟨_, rfl⟩
  rw [hr]
  go_enter Tryz.func71, Tryz.ntmps71
  go_wp2
  go_loopw [8] (fun i wr => ∃ (k : Nat), k ≤ ls.length ∧ i = .int .i64 k ∧ ixF (ls.drop k) s k = r ∧ Below w.heap.size w wr) (fun i _ => ls.length - (intOf i).toNat)
  case atStart => exact ⟨0, Nat.zero_le _, rfl, hr, Below.refl _ _⟩
  case round =>
    obtain ⟨k, hk, rfl, hix, hbel⟩ := hrel
    have HX := Lib.hid hix; clear hix
    by_cases hk2 : k < ls.length
    · obtain ⟨b, o, rfl, hcell⟩ := hg (by intro e; rw [e] at hk2; simp at hk2)
      have hc := hcell k hk2
      have hb : b < w.heap.size := cell_lt hc
      clear hcell hg
      obtain ⟨hbc, _⟩ := bcell hbel
      have hi1 : (0 : Int) ≤ k := by omega
      have hi2 : (k : Int) < ls.length := by omega
      go_wp2
      · have he : (s == ls[k]) = true := by assumption
        have hk3 := ixF_yes hk2 (s := s) (by have := he; simp at this; exact this.symm)
        rw [HX.out] at hk3
        go_ret
        exact ⟨ret_int hk3.symm, hbel⟩
      · have he : (s == ls[k]) = false := by assumption
        have hk3 := ixF_no hk2 (s := s) (by have := he; simp at this; exact fun e => this e.symm)
        go_roundw
        case rel => exact ⟨k + 1, by omega, by go_num, by rw [← hk3, HX.out], hbel⟩
        case measure => simp [intOf] <;> omega
    · obtain rfl : k = ls.length := by omega
      have hk3 := HX.out
      rw [ixF_end] at hk3
      go_wp2
      go_ret
      exact ⟨ret_int hk3, hbel⟩
end Go.Proofs.YtkeieeogkeonfaaGreatDoor
