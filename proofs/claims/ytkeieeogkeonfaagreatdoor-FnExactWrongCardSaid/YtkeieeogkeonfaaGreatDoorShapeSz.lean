/- Contracts of the laws' own functions over shapes: sizes, copies, comparison. -/
import Derived.Test.YtkeieeogkeonfaaGreatDoorData
import Derived.Test.YtkeieeogkeonfaaGreatDoorRows
import Derived.IntWalk
namespace Go.Proofs.YtkeieeogkeonfaaGreatDoor
open Go.RowKit

set_option maxHeartbeats 400000 in
theorem szStringS_any (ls : List (List UInt8)) (v : Value) (left : Int) (w : World) (h : Rd w (dSs ls) [v]) (hs : ∀ s ∈ ls, strok s) (hlen : ls.length ≤ 9223372036854775807) (hl : 0 ≤ left ∧ left ≤ 1048576) :
    Calls Tryz.prog 13 #[v, .int .i64 left] w fun e w' => e = .returned (.int .i64 (take' (ls.length + ssBulk ls) left)) ∧ Below w.heap.size w w' := by
  obtain ⟨a, c, rfl, hg⟩ := h.strs
  obtain ⟨hl1, hl2⟩ := hl
  by_cases hlt : left < ls.length
  · have H := Lib.hid (show take' (ls.length + ssBulk ls) left = -1 by unfold take'; rw [if_pos (by omega)])
    go_enter Tryz.func13, Tryz.ntmps13
    go_wp2
    go_ret
    exact ⟨ret_int H.out.symm, Below.refl _ _⟩
  · go_enter Tryz.func13, Tryz.ntmps13
    go_wp2
    go_loop [1, 5] (fun x i => ∃ (k : Nat), k ≤ ls.length ∧ i = .int .i64 k ∧ ((ls.length + ssBulk (ls.take k) : Nat) : Int) ≤ left ∧ x = .int .i64 (left - (ls.length + ssBulk (ls.take k) : Nat))) (fun _ i => ls.length - (intOf i).toNat)
    case atStart => exact ⟨0, Nat.zero_le _, rfl, by simp [ssBulk]; omega, by simp [ssBulk]⟩
    case round =>
      obtain ⟨k, hk, rfl, hx, rfl⟩ := hrel
      by_cases hk2 : k < ls.length
      · obtain ⟨_, _, b, o, rfl, hb, hcell⟩ := hg (by intro e; rw [e] at hk2; simp at hk2)
        have hc := hcell k hk2
        have hsk : ls[k].length ≤ 9223372036854775807 := hs _ (List.getElem_mem hk2)
        have HS := Lib.hid (ssBulk_snoc ls k hk2)
        clear hcell
        go_wp2
        · have hno : left - ((ls.length : Int) + ↑(ssBulk (ls.take k))) - ↑(ls[k].length) < 0 := by assumption
          have hle := ssBulk_take ls (k + 1)
          rw [HS.out] at hle
          go_ret
          exact ⟨ret_int (take'_no (by omega)).symm, Below.refl _ _⟩
        · have hyes : 0 ≤ left - ((ls.length : Int) + ↑(ssBulk (ls.take k))) - ↑(ls[k].length) := by assumption
          go_round
          case rel => exact ⟨k + 1, by omega, by go_num, by rw [HS.out]; omega, by rw [HS.out]; go_num⟩
          case measure => simp [intOf] <;> omega
      · obtain rfl : k = ls.length := by omega
        rw [List.take_length] at hx
        have H := Lib.hid (take'_yes hx)
        go_wp2
        go_ret
        exact ⟨ret_int (by rw [H.out]; go_num), Below.refl _ _⟩

def SzA (n : Nat) : Prop := ∀ (sh : Sh) (cs : List Value) (left : Int) (w : World), sh.nodes ≤ n → Rd w sh.d cs → sh.wf → 0 ≤ left ∧ left ≤ 1048576 →
  Calls Tryz.prog 5 #[.agg cs.toArray, .int .i64 left] w fun e w' => e = .returned (.int .i64 (take' sh.bulk left)) ∧ Below w.heap.size w w'
def SzB (n : Nat) : Prop := ∀ (ls : List Sh) (v : Value) (left : Int) (w : World), Sh.nodess ls ≤ n → Rd w (.sl 6 (Sh.ds ls)) [v] → Sh.wfs ls → ls.length ≤ 9223372036854775807 → 0 ≤ left ∧ left ≤ 1048576 →
  Calls Tryz.prog 14 #[v, .int .i64 left] w fun e w' => e = .returned (.int .i64 (take' (ls.length + Sh.bulks ls) left)) ∧ Below w.heap.size w w'

set_option maxHeartbeats 400000 in
theorem SzB_of {n : Nat} (hA : SzA n) : SzB n := by
  intro ls v left w hn h hs hlen hl
  obtain ⟨a, c, rfl, hg⟩ := h.shapes
  obtain ⟨hl1, hl2⟩ := hl
  by_cases hlt : left < ls.length
  · have H := Lib.hid (show take' (ls.length + Sh.bulks ls) left = -1 by unfold take'; rw [if_pos (by omega)])
    go_enter Tryz.func14, Tryz.ntmps14
    go_wp2
    go_ret
    exact ⟨ret_int H.out.symm, Below.refl _ _⟩
  · go_enter Tryz.func14, Tryz.ntmps14
    go_wp2
    go_loopw [1, 5] (fun x i wr => ∃ (k : Nat), k ≤ ls.length ∧ i = .int .i64 k ∧ ((ls.length + Sh.bulks (ls.take k) : Nat) : Int) ≤ left ∧ x = .int .i64 (left - (ls.length + Sh.bulks (ls.take k) : Nat)) ∧ Below w.heap.size w wr) (fun _ i _ => ls.length - (intOf i).toNat)
    case atStart => exact ⟨0, Nat.zero_le _, rfl, by simp [Sh.bulks]; omega, by simp [Sh.bulks], Below.refl _ _⟩
    case round =>
      obtain ⟨k, hk, rfl, hx, rfl, hbel⟩ := hrel
      by_cases hk2 : k < ls.length
      · obtain ⟨_, _, b, o, rfl, hb, hcell⟩ := hg (by intro e; rw [e] at hk2; simp at hk2)
        obtain ⟨v0, v1, v2, v3, v4, v5, hr, c0, c1, c2, c3, c4, c5⟩ := hcell k hk2
        have hwk := Sh.wfs_get hs k hk2
        have hnk := Nat.le_trans (Sh.nodes_get ls k hk2) hn
        have HS := Lib.hid (Sh.bulks_snoc ls k hk2)
        clear hcell
        obtain ⟨hbc, _⟩ := bcell hbel
        have hr' := hr.below hbel
        go_wp2_with (go_at_call 5; refine (hA _ _ _ _ hnk hr' hwk (by omega)).mono ?_; rintro e w' ⟨rfl, hb1⟩)
        · have hno : take' ls[k].bulk (left - ((ls.length : Int) + ↑(Sh.bulks (ls.take k)))) < 0 := by assumption
          rw [take'_lt] at hno
          have hle := Sh.bulks_take ls (k + 1)
          rw [HS.out] at hle
          go_ret
          exact ⟨ret_int (take'_no (by omega)).symm, below2 hbel hb1 (Nat.le_refl _)⟩
        · have hyes : 0 ≤ take' ls[k].bulk (left - ((ls.length : Int) + ↑(Sh.bulks (ls.take k)))) := by assumption
          have hy2 : ¬ (take' ls[k].bulk (left - ((ls.length : Int) + ↑(Sh.bulks (ls.take k)))) < 0) := by omega
          rw [take'_lt] at hy2
          have hy3 := Lib.hid (take'_yes (t := ls[k].bulk) (left := left - ((ls.length : Int) + ↑(Sh.bulks (ls.take k)))) (by omega))
          go_roundw
          case rel => exact ⟨k + 1, by omega, by go_num, by rw [HS.out]; omega, by rw [HS.out, hy3.out]; go_num, below2 hbel hb1 (Nat.le_refl _)⟩
          case measure => simp [intOf] <;> omega
      · obtain rfl : k = ls.length := by omega
        rw [List.take_length] at hx
        have H := Lib.hid (take'_yes hx)
        go_wp2
        go_ret
        exact ⟨ret_int (by rw [H.out, List.take_length]), hbel⟩

set_option maxHeartbeats 400000 in
theorem SzA_of {n : Nat} (hB : SzB n) : SzA (n + 1) := by
  intro sh cs left w hn h hs hl
  obtain ⟨k, l, hi, ks, m, kids, v1, v2, rfl, rfl, hk, hkids⟩ := Sh.lay h
  obtain ⟨_, _, _, ⟨hkl, hks⟩, _, hkidl, hwk⟩ := hs
  have hnk : Sh.nodess kids ≤ n := by simp only [Sh.nodes] at hn; omega
  have hA := (Below.refl w.heap.size w).alloc (Nat.le_refl _) (.cells #[.int .i64 k, .int .i64 l, .int .i64 hi, v1, .int .i64 m, v2] 28)
  have hk' := hk.alloc (.cells #[.int .i64 k, .int .i64 l, .int .i64 hi, v1, .int .i64 m, v2] 28)
  have hkids' := hkids.alloc (.cells #[.int .i64 k, .int .i64 l, .int .i64 hi, v1, .int .i64 m, v2] 28)
  by_cases h1 : left < (ks.length + ssBulk ks : Nat)
  · have H := Lib.hid (take'_no h1)
    have HR := Lib.hid (take'_no (t := Sh.bulk (.mk k l hi ks m kids)) (left := left) (by simp only [Sh.bulk]; omega))
    go_enter Tryz.func5, Tryz.ntmps5
    go_wp2_with (go_at_call 13; refine (szStringS_any _ _ _ _ hk' hks hkl hl).mono ?_; rw [H.out]; rintro e w' ⟨rfl, hb1⟩)
    go_ret
    exact ⟨ret_int HR.out.symm, below2 hA hb1 (Nat.le_refl _)⟩
  · have H := Lib.hid (take'_yes (t := ks.length + ssBulk ks) (left := left) (by omega))
    have HR := Lib.hid (take'_add (b := kids.length + Sh.bulks kids) h1)
    obtain ⟨h10, h11⟩ := hl
    have hl2 : 0 ≤ left - ((ks.length + ssBulk ks : Nat) : Int) := by omega
    generalize hq : left - ((ks.length + ssBulk ks : Nat) : Int) = q at *
    have HQ := Lib.hid hq; clear hq
    have hq2 : q ≤ 1048576 := by have := HQ.out; omega
    go_enter Tryz.func5, Tryz.ntmps5
    go_wp2_with (first | (go_at_call 13; refine (szStringS_any _ _ _ _ hk' hks hkl ⟨h10, h11⟩).mono ?_; rw [H.out]; rintro e w' ⟨rfl, hb1⟩; obtain ⟨hc1, hf1⟩ := bcell hb1; have hz : w.heap.size < w'.heap.size := (by have := hb1.size; simp at this; omega)) | (go_at_call 14; refine (hB _ _ _ _ hnk (hkids'.below hb1) hwk hkidl ⟨hl2, hq2⟩).mono ?_; rintro e w' ⟨rfl, hb2⟩))
    · have hno : take' (kids.length + Sh.bulks kids) q < 0 := by assumption
      rw [HR.out, take'_lt] at hno
      have H2 := take'_no (t := Sh.bulk (.mk k l hi ks m kids)) (left := left) (by simp only [Sh.bulk]; omega)
      go_ret
      exact ⟨ret_int H2.symm, below2 (below2 hA hb1 (Nat.le_refl _)) hb2 (Nat.le_refl _)⟩
    · go_ret
      exact ⟨ret_int (by rw [HR.out]; rfl), below2 (below2 hA hb1 (Nat.le_refl _)) hb2 (Nat.le_refl _)⟩

theorem Sz_all : ∀ n, SzA n ∧ SzB n
  | 0 => by
    have h0 : SzA 0 := fun sh cs left w hn => absurd (Sh.nodes_pos sh) (by omega)
    exact ⟨h0, SzB_of h0⟩
  | n + 1 => by
    have h1 := SzA_of (Sz_all n).2
    exact ⟨h1, SzB_of h1⟩
theorem szShape_any (sh : Sh) (cs : List Value) (left : Int) (w : World) (h : Rd w sh.d cs) (hs : sh.wf) (hl : 0 ≤ left ∧ left ≤ 1048576) :
    Calls Tryz.prog 5 #[.agg cs.toArray, .int .i64 left] w fun e w' => e = .returned (.int .i64 (take' sh.bulk left)) ∧ Below w.heap.size w w' :=
  (Sz_all sh.nodes).1 sh cs left w (Nat.le_refl _) h hs hl
end Go.Proofs.YtkeieeogkeonfaaGreatDoor
