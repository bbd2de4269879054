/- Contracts of the laws' own functions over values: sizes. -/
import Derived.Test.YtkeieeogkeonfaaGreatDoorData
import Derived.Test.YtkeieeogkeonfaaGreatDoorRows
import Derived.IntWalk
namespace Go.Proofs.YtkeieeogkeonfaaGreatDoor
open Go.RowKit

def VSzA (n : Nat) : Prop := ∀ (sh : V) (cs : List Value) (left : Int) (w : World), sh.nodes ≤ n → Rd w sh.d cs → sh.wf → 0 ≤ left ∧ left ≤ 1048576 →
  Calls Tryz.prog 4 #[.agg cs.toArray, .int .i64 left] w fun e w' => e = .returned (.int .i64 (take' sh.bulk left)) ∧ Below w.heap.size w w'
def VSzB (n : Nat) : Prop := ∀ (ls : List V) (v : Value) (left : Int) (w : World), V.nodess ls ≤ n → Rd w (.sl 5 (V.ds ls)) [v] → V.wfs ls → ls.length ≤ 9223372036854775807 → 0 ≤ left ∧ left ≤ 1048576 →
  Calls Tryz.prog 12 #[v, .int .i64 left] w fun e w' => e = .returned (.int .i64 (take' (ls.length + V.bulks ls) left)) ∧ Below w.heap.size w w'

set_option maxHeartbeats 400000 in
theorem VSzB_of {n : Nat} (hA : VSzA n) : VSzB n := by
  intro ls v left w hn h hs hlen hl
  obtain ⟨a, c, rfl, hg⟩ := h.values
  obtain ⟨hl1, hl2⟩ := hl
  by_cases hlt : left < ls.length
  · have H := Lib.hid (show take' (ls.length + V.bulks ls) left = -1 by unfold take'; rw [if_pos (by omega)])
    go_enter Tryz.func12, Tryz.ntmps12
    go_wp2
    go_ret
    exact ⟨ret_int H.out.symm, Below.refl _ _⟩
  · go_enter Tryz.func12, Tryz.ntmps12
    go_wp2
    go_loopw [1, 5] (fun x i wr => ∃ (k : Nat), k ≤ ls.length ∧ i = .int .i64 k ∧ ((ls.length + V.bulks (ls.take k) : Nat) : Int) ≤ left ∧ x = .int .i64 (left - (ls.length + V.bulks (ls.take k) : Nat)) ∧ Below w.heap.size w wr) (fun _ i _ => ls.length - (intOf i).toNat)
    case atStart => exact ⟨0, Nat.zero_le _, rfl, by simp [V.bulks]; omega, by simp [V.bulks], Below.refl _ _⟩
    case round =>
      obtain ⟨k, hk, rfl, hx, rfl, hbel⟩ := hrel
      by_cases hk2 : k < ls.length
      · obtain ⟨_, _, b, o, rfl, hb, hcell⟩ := hg (by intro e; rw [e] at hk2; simp at hk2)
        obtain ⟨v0, v1, v2, v3, v4, hr, c0, c1, c2, c3, c4⟩ := hcell k hk2
        have hwk := V.wfs_get hs k hk2
        have hnk := Nat.le_trans (V.nodes_get ls k hk2) hn
        have HS := Lib.hid (V.bulks_snoc ls k hk2)
        clear hcell
        obtain ⟨hbc, _⟩ := bcell hbel
        have hr' := hr.below hbel
        go_wp2_with (go_at_call 4; refine (hA _ _ _ _ hnk hr' hwk (by omega)).mono ?_; rintro e w' ⟨rfl, hb1⟩)
        · have hno : take' ls[k].bulk (left - ((ls.length : Int) + ↑(V.bulks (ls.take k)))) < 0 := by assumption
          rw [take'_lt] at hno
          have hle := V.bulks_take ls (k + 1)
          rw [HS.out] at hle
          go_ret
          exact ⟨ret_int (take'_no (by omega)).symm, below2 hbel hb1 (Nat.le_refl _)⟩
        · have hyes : 0 ≤ take' ls[k].bulk (left - ((ls.length : Int) + ↑(V.bulks (ls.take k)))) := by assumption
          have hy2 : ¬ (take' ls[k].bulk (left - ((ls.length : Int) + ↑(V.bulks (ls.take k)))) < 0) := by omega
          rw [take'_lt] at hy2
          have hy3 := Lib.hid (take'_yes (t := ls[k].bulk) (left := left - ((ls.length : Int) + ↑(V.bulks (ls.take k)))) (by omega))
          go_roundw
          case rel => exact ⟨k + 1, by omega, by go_num, by rw [HS.out]; omega, by rw [HS.out, hy3.out]; go_num, below2 hbel hb1 (Nat.le_refl _)⟩
          case measure => simp [intOf] <;> omega
      · obtain rfl : k = ls.length := by omega
        rw [List.take_length] at hx
        have H := Lib.hid (take'_yes hx)
        go_wp2
        go_ret
        exact ⟨ret_int (by rw [H.out, List.take_length]), hbel⟩

set_option maxHeartbeats 400000 in
theorem VSzA_of {n : Nat} (hB : VSzB n) : VSzA (n + 1) := by
  intro sh cs left w hn h hs hl
  obtain ⟨k, m, e, s, kids, v1, rfl, rfl, hkids⟩ := V.lay h
  obtain ⟨_, _, _, hsl, hkidl, hwk⟩ := hs
  have hnk : V.nodess kids ≤ n := by simp only [V.nodes] at hn; omega
  have hA := (Below.refl w.heap.size w).alloc (Nat.le_refl _) (.cells #[.int .i64 k, .int .i64 m, .int .i64 e, .string ⟨s.toArray⟩, v1] 24)
  have hkids' := hkids.alloc (.cells #[.int .i64 k, .int .i64 m, .int .i64 e, .string ⟨s.toArray⟩, v1] 24)
  unfold strok at hsl
  obtain ⟨h10, h11⟩ := hl
  by_cases h1 : left < s.length
  · have HR := Lib.hid (take'_no (t := V.bulk (.mk k m e s kids)) (left := left) (by simp only [V.bulk]; omega))
    go_enter Tryz.func4, Tryz.ntmps4
    go_wp2
    go_ret
    exact ⟨ret_int HR.out.symm, hA⟩
  · have HR := Lib.hid (take'_add (a := s.length) (b := kids.length + V.bulks kids) h1)
    have hl2 : 0 ≤ left - (s.length : Int) := by omega
    have hq2 : left - (s.length : Int) ≤ 1048576 := by omega
    go_enter Tryz.func4, Tryz.ntmps4
    go_wp2_with (go_at_call 12; refine (hB _ _ _ _ hnk hkids' hwk hkidl ⟨hl2, hq2⟩).mono ?_; rintro e w' ⟨rfl, hb2⟩)
    · have hno : take' (kids.length + V.bulks kids) (left - (s.length : Int)) < 0 := by assumption
      rw [HR.out, take'_lt] at hno
      have H2 := take'_no (t := V.bulk (.mk k m e s kids)) (left := left) (by simp only [V.bulk]; omega)
      go_ret
      exact ⟨ret_int H2.symm, below2 hA hb2 (Nat.le_refl _)⟩
    · go_ret
      exact ⟨ret_int (by rw [HR.out]; rfl), below2 hA hb2 (Nat.le_refl _)⟩

theorem VSz_all : ∀ n, VSzA n ∧ VSzB n
  | 0 => by
    have h0 : VSzA 0 := fun sh cs left w hn => absurd (V.nodes_pos sh) (by omega)
    exact ⟨h0, VSzB_of h0⟩
  | n + 1 => by
    have h1 := VSzA_of (VSz_all n).2
    exact ⟨h1, VSzB_of h1⟩
theorem szValue_any (sh : V) (cs : List Value) (left : Int) (w : World) (h : Rd w sh.d cs) (hs : sh.wf) (hl : 0 ≤ left ∧ left ≤ 1048576) :
    Calls Tryz.prog 4 #[.agg cs.toArray, .int .i64 left] w fun e w' => e = .returned (.int .i64 (take' sh.bulk left)) ∧ Below w.heap.size w w' :=
  (VSz_all sh.nodes).1 sh cs left w (Nat.le_refl _) h hs hl
end Go.Proofs.YtkeieeogkeonfaaGreatDoor
