/- When a shape is right but for its kids: the program's hasBounds, isFields, isForm. -/
import Derived.Test.YtkeieeogkeonfaaGreatDoorShapeDef
import Derived.Test.YtkeieeogkeonfaaGreatDoorTextI
import Derived.Test.YtkeieeogkeonfaaGreatDoorFind
import Derived.Deep.RegionHeld3
namespace Go.Proofs.YtkeieeogkeonfaaGreatDoor
open Go.RowKit
open Go.Lib (validD)

def hasB (k : Int) : Bool := decide (k = 3) || (decide (k = 5) || (decide (k = 6) || decide (k = 7)))
theorem hasBounds_any (k : Int) (w : World) :
    Calls Tryz.prog 85 #[.int .i64 k] w fun e w' => e = .returned (.bool (hasB k)) ∧ w = w' := by
  by_cases h3 : k = 3
  · subst h3; go_enter Tryz.func85, Tryz.ntmps85; go_wp2; go_ret; exact ⟨rfl, rfl⟩
  by_cases h5 : k = 5
  · subst h5; go_enter Tryz.func85, Tryz.ntmps85; go_wp2; go_ret; exact ⟨rfl, rfl⟩
  by_cases h6 : k = 6
  · subst h6; go_enter Tryz.func85, Tryz.ntmps85; go_wp2; go_ret; exact ⟨rfl, rfl⟩
  by_cases h7 : k = 7
  · subst h7; go_enter Tryz.func85, Tryz.ntmps85; go_wp2; go_ret; exact ⟨rfl, rfl⟩
  have e3 : (k == 3) = false := by simpa using h3
  have e5 : (k == 5) = false := by simpa using h5
  have e6 : (k == 6) = false := by simpa using h6
  have e7 : (k == 7) = false := by simpa using h7
  have H := Lib.hid (show hasB k = false by simp [hasB, h3, h5, h6, h7])
  clear h3 h5 h6 h7
  go_enter Tryz.func85, Tryz.ntmps85; go_wp2; go_ret; exact ⟨by rw [H.out]; rfl, rfl⟩

theorem Rd.strRow {w : World} {ls : List (List UInt8)} {v : Value} (h : Rd w (dSs ls) [v]) : StrRow w v ls := by
  obtain ⟨a, c, rfl, hg⟩ := h.strs
  exact ⟨a, c, rfl, fun hne => by obtain ⟨_, _, b, o, ha, _, hc⟩ := hg hne; exact ⟨b, o, ha, hc⟩⟩
theorem StrRow.below {w w' : World} {ls : List (List UInt8)} {v : Value} (h : StrRow w v ls) (hb : Below w.heap.size w w') : StrRow w' v ls := by
  obtain ⟨a, c, rfl, hg⟩ := h
  exact ⟨a, c, rfl, fun hne => by
    obtain ⟨b, o, ha, hc⟩ := hg hne
    exact ⟨b, o, ha, fun k hk => by rw [hb.cell (p := ⟨b, o + k, none⟩) (cell_lt (hc k hk))]; exact hc k hk⟩⟩
theorem StrRow.alloc {w : World} {ls : List (List UInt8)} {v : Value} (h : StrRow w v ls) (o : Obj) : StrRow (w.alloc o) v ls := h.below ((Below.refl _ _).alloc (Nat.le_refl _) o)
theorem StrRow.take {w : World} {ls : List (List UInt8)} {a : Option Addr} {n c : Nat} (h : StrRow w (.slice a n c) ls) (k : Nat) (hk : k ≤ ls.length) : StrRow w (.slice a k c) (ls.take k) := by
  obtain ⟨a', c', he, hg⟩ := h
  simp only [Value.slice.injEq] at he
  obtain ⟨rfl, rfl, rfl⟩ := he
  refine ⟨a, c, by simp [Nat.min_eq_left hk], fun hne => ?_⟩
  have hne2 : ls ≠ [] := by intro e; subst e; simp at hne
  obtain ⟨b, o, ha, hc⟩ := hg hne2
  refine ⟨b, o, ha, fun j hj => ?_⟩
  rw [List.length_take] at hj
  rw [List.getElem_take]; exact hc j (by omega)
theorem ixF_bd : ∀ (ls : List (List UInt8)) (s : List UInt8) (k : Nat), ixF ls s k = -1 ∨ ((k : Int) ≤ ixF ls s k ∧ ixF ls s k < k + ls.length)
  | [], _, _ => .inl rfl
  | a :: r, s, k => by
    unfold ixF; split
    · right; simp; omega
    · rcases ixF_bd r s (k + 1) with h | h
      · exact .inl h
      · right; simp at h ⊢; omega
theorem ixF_mem : ∀ (ls : List (List UInt8)) (s : List UInt8) (k : Nat), (0 ≤ ixF ls s k) ↔ s ∈ ls
  | [], s, k => by simp [ixF]
  | a :: r, s, k => by
    unfold ixF; split
    · rename_i h; subst h; simp
    · rename_i h; rw [ixF_mem r s (k + 1)]; simp [Ne.symm h]
/-- slices.Contains at texts -/
theorem contains_any (ls : List (List UInt8)) (v : Value) (s : List UInt8) (w : World) (h : StrRow w v ls) (hl : ls.length ≤ 9223372036854775807) :
    Calls Tryz.prog 67 #[v, .string ⟨s.toArray⟩] w fun e w' => e = .returned (.bool (decide (s ∈ ls))) ∧ Below w.heap.size w w' := by
  have HC := Lib.hid (slicesIndex_any ls v s w h hl)
  have H := Lib.hid (show decide (s ∈ ls) = decide (0 ≤ ixF ls s 0) from decide_eq_decide.2 (ixF_mem ls s 0).symm)
  go_enter Tryz.func67, Tryz.ntmps67
  go_wp2_with (go_at_call 71; refine HC.out.mono ?_; rintro e w1 ⟨rfl, hb1⟩)
  go_ret
  exact ⟨by rw [H.out]; rfl, hb1⟩

set_option maxHeartbeats 1000000 in
set_option maxRecDepth 10000 in
theorem isFields_any (x : Sh) (cs : List Value) (w : World) (h : Rd w x.d cs) (hwf : x.wf) (hbk : x.bulk ≤ 4294967295) (hT : Tabs w) :
    Calls Tryz.prog 86 #[.agg cs.toArray] w fun e w' => e = .returned (.bool (match x with | .mk _ _ _ ks m kids => Sh.fields ks m kids.length)) ∧ Below w.heap.size w w' := by
  obtain ⟨k, l, hi, ks, m, kids, v1, v2, rfl, rfl, hk, hkids⟩ := Sh.lay h
  obtain ⟨ok, hok⟩ : ∃ ok, Sh.fields ks m kids.length = ok := ⟨_, rfl⟩
  simp only [hok]
  have HOK := Lib.hid hok; clear hok
  have hbk1 : ks.length ≤ 4294967295 ∧ kids.length ≤ 4294967295 := by simp only [Sh.bulk] at hbk; omega
  obtain ⟨hn1, hn2⟩ := hbk1
  have hstr : ∀ i (hi : i < ks.length), ks[i].length ≤ 4294967295 := fun i hi => by
    have h1 := ssBulk_snoc ks i hi; have h2 := ssBulk_take ks (i + 1); simp only [Sh.bulk] at hbk; omega
  have hrow := hk.strRow
  obtain ⟨a1, c1, rfl, hg⟩ := hk.strs
  obtain ⟨a2, c2, rfl⟩ := Rd.sl_form hkids
  rw [Sh.ds_map, List.length_map]
  have hm1 := hwf.2.2.2.2.1.1
  have hm2 := hwf.2.2.2.2.1.2
  clear hwf hbk h
  go_enter Tryz.func86, Tryz.ntmps86
  go_wp2
  obtain ⟨W0, hW0⟩ : ∃ W0, W0 = w.alloc (.cells #[.int .i64 k, .int .i64 l, .int .i64 hi, .slice a1 ks.length c1, .int .i64 m, .slice a2 kids.length c2] 39) := ⟨_, rfl⟩
  rw [← hW0]
  have hA : Below w.heap.size w W0 := by rw [hW0]; exact (Below.refl _ _).alloc (Nat.le_refl _) _
  have hz : w.heap.size < W0.heap.size := by rw [hW0]; simp
  have f3 : W0.cell? ⟨w.heap.size, 3, none⟩ = some (.slice a1 ks.length c1) := by rw [hW0]; simp
  have f4 : W0.cell? ⟨w.heap.size, 4, none⟩ = some (.int .i64 m) := by rw [hW0]; simp
  have f5 : W0.cell? ⟨w.heap.size, 5, none⟩ = some (.slice a2 kids.length c2) := by rw [hW0]; simp
  have hT0 : Tabs W0 := by rw [hW0]; exact hT.alloc _
  have hrow0 : StrRow W0 (.slice a1 ks.length c1) ks := by rw [hW0]; exact hrow.alloc _
  clear hW0
  go_loopw [8] (fun i wr => ∃ (j : Nat), j ≤ ks.length ∧ i = .int .i64 j ∧ keysOk (ks.take j) = true ∧ Below W0.heap.size W0 wr) (fun i _ => ks.length - (intOf i).toNat)
  case atStart => exact ⟨0, Nat.zero_le _, rfl, by simp [keysOk], Below.refl _ _⟩
  case round =>
    obtain ⟨j, hj, rfl, hko, hbel⟩ := hrel
    have HKO := Lib.hid hko; clear hko
    obtain ⟨hb0, _⟩ := bcell hbel
    by_cases hlt : j < ks.length
    · obtain ⟨hc0, _, b, o, rfl, hb, hcell⟩ := hg (by intro e; rw [e] at hlt; simp at hlt)
      have hc := hcell j hlt
      have hsl := hstr j hlt
      have hbelw := below2 hA hbel (Nat.le_refl _)
      obtain ⟨hbc, _⟩ := bcell hbelw
      clear hcell hg hstr
      have hi1 : (0 : Int) ≤ j := by omega
      have hi3 : (j : Int) < ks.length := by omega
      have hi4 : j ≤ c1 := by omega
      have hTr := hT0.below hbel
      have HC1 := Lib.hid (fun w1 (hb1 : Below wr.heap.size wr w1) => contains_any (ks.take j) _ ks[j] w1 (((hrow0.below hbel).below hb1).take j hj) (by rw [List.length_take]; omega))
      have HT1 := Lib.hid (textOk_impl ks[j] wr hsl hTr)
      have hsn : keysOk (ks.take (j + 1)) = (keyOk ks[j] && decide (ks[j] ∉ ks.take j)) := by
        rw [List.take_succ_eq_append_getElem hlt, keysOk_snoc, HKO.out, Bool.true_and]
      have HSN := Lib.hid hsn
      clear hsn hrow0 hrow hT hT0 hTr hk hkids
      by_cases q1 : ks[j].length ≤ 100
      · have q1' : ¬ (100 : Int) < ks[j].length := by omega
        by_cases q2 : validD ks[j] = true
        · by_cases q3 : ks[j] ∈ ks.take j
          · have Q2 := Lib.hid q2
            have Q3 := Lib.hid (decide_eq_true q3)
            have HF : Hid (Sh.fields ks m kids.length = false) := by
              show _ = _
              have : keysOk (ks.take (j + 1)) = false := by rw [HSN.out]; simp [q3]
              unfold Sh.fields; rw [keysOk_take _ this]; rfl
            clear q2 q3
            go_wp2_with (first | (go_at_call 73; refine HT1.out.mono ?_; rw [Q2.out]; rintro e w1 ⟨rfl, hb1⟩; obtain ⟨hb2, _⟩ := bcell hb1; have hz1 : w.heap.size < wr.heap.size := (by have := hbel.size; omega)) | (go_at_call 67; refine (HC1.out _ hb1).mono ?_; rw [Q3.out]; rintro e w2 ⟨rfl, hb2⟩))
            go_ret
            exact ⟨by rw [← HOK.out, HF.out]; rfl, below2 (below2 hbelw hb1 (Nat.le_refl _)) (by assumption) (Nat.le_refl _)⟩
          · have Q2 := Lib.hid q2
            have Q3 := Lib.hid (decide_eq_false q3)
            have HK : Hid (keysOk (ks.take (j + 1)) = true) := by
              show _ = _; rw [HSN.out]; simp [q3, keyOk, q1, q2]
            clear q2 q3
            go_wp2_with (first | (go_at_call 73; refine HT1.out.mono ?_; rw [Q2.out]; rintro e w1 ⟨rfl, hb1⟩; obtain ⟨hb2, _⟩ := bcell hb1; have hz1 : w.heap.size < wr.heap.size := (by have := hbel.size; omega)) | (go_at_call 67; refine (HC1.out _ hb1).mono ?_; rw [Q3.out]; rintro e w2 ⟨rfl, hb2⟩))
            go_roundw
            case rel => exact ⟨j + 1, by omega, by go_num, HK.out, below2 (below2 hbel hb1 (Nat.le_refl _)) (by assumption) (Nat.le_refl _)⟩
            case measure => simp [intOf]; omega
        · have Q2 := Lib.hid (show validD ks[j] = false by simpa using q2)
          have HF : Hid (Sh.fields ks m kids.length = false) := by
            show _ = _
            have : keysOk (ks.take (j + 1)) = false := by rw [HSN.out]; simp [keyOk, q2]
            unfold Sh.fields; rw [keysOk_take _ this]; rfl
          clear q2
          go_wp2_with (first | (go_at_call 73; refine HT1.out.mono ?_; rw [Q2.out]; rintro e w1 ⟨rfl, hb1⟩))
          go_ret
          exact ⟨by rw [← HOK.out, HF.out]; rfl, below2 hbelw hb1 (Nat.le_refl _)⟩
      · have q1' : (100 : Int) < ks[j].length := by omega
        have HF : Hid (Sh.fields ks m kids.length = false) := by
          show _ = _
          have : keysOk (ks.take (j + 1)) = false := by rw [HSN.out]; simp [keyOk, q1]
          unfold Sh.fields; rw [keysOk_take _ this]; rfl
        clear q1
        go_wp2
        go_ret
        exact ⟨by rw [← HOK.out, HF.out]; rfl, hbelw⟩
    · obtain rfl : j = ks.length := by omega
      have HK := HKO.out
      rw [List.take_length] at HK
      have HF : Hid (ok = (decide (kids.length = ks.length) && (decide (0 ≤ m) && decide (m ≤ ks.length)))) := by
        show _ = _; rw [← HOK.out]; unfold Sh.fields; rw [HK]; rfl
      clear HK
      have hbelw := below2 hA hbel (Nat.le_refl _)
      by_cases q : kids.length = ks.length
      · have q' : ((kids.length : Int) == ks.length) = true := by simp [q]
        have Q := Lib.hid q; clear q
        go_wp2_with (go_at_call 63; refine (within_any _ _ _ _).mono ?_; rintro e w1 ⟨rfl, rfl⟩)
        go_ret
        exact ⟨by rw [HF.out, decide_eq_true Q.out]; rfl, hbelw⟩
      · have q' : ((kids.length : Int) == ks.length) = false := by simp; omega
        have Q := Lib.hid q; clear q
        go_wp2_with (go_at_call 63; refine (within_any _ _ _ _).mono ?_; rintro e w1 ⟨rfl, rfl⟩)
        go_ret
        exact ⟨by rw [HF.out, decide_eq_false Q.out]; rfl, hbelw⟩
end Go.Proofs.YtkeieeogkeonfaaGreatDoor
