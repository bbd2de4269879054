/- Marks laid into own texts: the law's markStringS and heldStringS. -/
import Derived.Test.YtkeieeogkeonfaaDoorMarkT
import Derived.Deep.QuietTactic
import Derived.BigQuiet
import Derived.StillTailTactics
import Derived.Deep.RegionHeld3
namespace Go.Proofs.YtkeieeogkeonfaaDoor
open Go.RowKit

theorem halfS_zero (k : Nat) (ls : List (List UInt8)) : halfS k ls 0 = ls := by simp [halfS, mtS]
theorem halfS_all (k : Nat) (ls : List (List UInt8)) : halfS k ls ls.length = mtS k ls := by simp [halfS]
theorem halfS_length (k : Nat) (ls : List (List UInt8)) (j : Nat) (h : j ≤ ls.length) : (halfS k ls j).length = ls.length := by simp [halfS, mtS_length]; omega
theorem dS_set (ls : List (List UInt8)) (j : Nat) (s : List UInt8) : (ls.map dS).set j (dS s) = (ls.set j s).map dS := by rw [List.map_set]

set_option maxHeartbeats 800000 in
set_option maxRecDepth 10000 in
theorem markStringS_any (ls : List (List UInt8)) (v : Value) (k : Nat) (fp : List Nat) (w : World) (h : TreeC w (dSs ls) fp [v]) (hn : fp.Nodup) (hl : ls.length ≤ 4294967296) (hk : 0 < k) (hk2 : k ≤ 4611686018427387904) :
    Calls Tryd.prog 39 #[v, .int .i64 k] w fun e w' => e = .returned (.int .i64 ((k + ls.length : Nat) : Int)) ∧ Keep (· ∈ fp) w w' ∧ TreeC w' (dSs (mtS k ls)) fp [v] := by
  by_cases hne : ls = []
  · subst hne
    have h0 := h
    obtain ⟨a, c, rfl, _⟩ := TreeC.row h
    have H0 := Lib.hid h0
    clear h h0
    go_enter Tryd.func39, Tryd.ntmps39
    go_wp2
    go_loopw [1, 5] (fun kk i wr => kk = .int .i64 k ∧ i = .int .i64 (0 : Int) ∧ wr = w) (fun _ _ _ => 0)
    case atStart => exact ⟨rfl, rfl, rfl⟩
    case round =>
      obtain ⟨rfl, rfl, rfl⟩ := hrel
      go_wp2
      go_ret
      exact ⟨rfl, Keep.refl _ _, H0.out⟩
  · obtain ⟨a, c, rfl, hg⟩ := TreeC.row h
    obtain ⟨g, fr, e, sz, rfl, rfl, hc1, hc2, hrow⟩ := hg (by simpa using hne)
    rw [List.length_map] at hc1 ⊢
    clear hg h
    have HC := Lib.hid (show ls.length ≤ c ∧ c ≤ maxLen from ⟨hc1, hc2⟩)
    clear hc1 hc2
    go_enter Tryd.func39, Tryd.ntmps39
    go_wp2
    go_loopw [1, 5] (fun kk i wr => ∃ j : Nat, j ≤ ls.length ∧ kk = .int .i64 ((k + j : Nat) : Int) ∧ i = .int .i64 j ∧ Row wr 1 g e sz fr ((halfS k ls j).map dS) ∧ Keep (· ∈ g :: fr) w wr) (fun _ i _ => ls.length - (intOf i).toNat)
    case atStart => exact ⟨0, Nat.zero_le _, rfl, rfl, by rw [halfS_zero]; exact hrow, Keep.refl _ _⟩
    case round =>
      obtain ⟨j, hj, rfl, rfl, hr, hkp⟩ := hrel
      by_cases hlt : j < ls.length
      · have hjl : j < ((halfS k ls j).map dS).length := by rw [List.length_map, halfS_length _ _ _ hj]; exact hlt
        obtain ⟨fi, ci, _, _, hgf, ht, hci, hsz, hcell, hput⟩ := hr.at hn j hjl
        simp only [List.getElem_map, dS, TreeC] at ht
        obtain ⟨rfl, rfl⟩ := ht
        have d0 := hcell 0 _ (by decide) rfl
        have hfr := hr.blk.free (j * 1)
        have hlt2 := hr.blk.lt
        simp only [Nat.mul_one, Nat.add_zero] at d0 hfr hsz
        have i1 : (0 : Int) ≤ j := by omega
        have i2 : (j : Int) < ls.length := by omega
        have hkj : 0 < k + j := by omega
        have hkj2 : k + j ≤ 9223372036854775806 := by omega
        have HMT := Lib.hid (markText_any (k + j) wr (by omega) hkj)
        have HFR := Lib.hid hr.blk
        have HSET := Lib.hid (halfS_set k ls j hlt)
        go_wp2_with (go_at_call 71; refine HMT.out.mono ?_; rintro e1 w1 ⟨rfl, hb1⟩; have c1 : w1.cell? ⟨g, j, none⟩ = some _ := (by rw [(bcell hb1).1 _ _ hlt2]; exact d0); have c2 : w1.frozen? ⟨g, j, none⟩ = false := (by rw [(bcell hb1).2 _ _ hlt2]; exact hfr))
        go_roundw
        case rel =>
          refine ⟨j + 1, by omega, by go_num, by go_num, ?_, ?_⟩
          · rw [← HSET.out, ← dS_set]
            refine hput _ _ [.string ⟨(mt (k + j)).toArray⟩] rfl ((HFR.out.below hb1).setCell _ _) ?_ ?_ ?_ (by simp [TreeC, dS])
            · intro i hi
              obtain rfl : i = 0 := by omega
              simp only [Nat.mul_one, Nat.add_zero]
              simp [go_sem, c1]
            · intro o ho
              rw [← (bcell hb1).1 _ _ hlt2]
              have : o ≠ j := by omega
              simp [go_sem, this]
            · intro b hb _
              have hne : b ≠ g := fun e => by subst e; exact (List.nodup_cons.1 hn).1 hb
              have hbl : b < wr.heap.size := by obtain ⟨_, _, _, _, _, hts⟩ := hr; exact hts.lt b hb
              rw [Below.heap_setCell _ _ _ _ (by simpa using hne), hb1.block b hbl]
          · exact (hkp.then hb1).setCell (.inl (by simp)) _
        case measure => simp [intOf]; omega
      · obtain rfl : j = ls.length := by omega
        rw [halfS_all] at hr
        go_wp2
        go_ret
        have := Row.tree (c := c) hr (by decide) (by simpa [mtS_length] using HC.out)
        rw [List.length_map, mtS_length] at this
        exact ⟨rfl, hkp, this⟩

set_option maxHeartbeats 800000 in
set_option maxRecDepth 10000 in
theorem heldStringS_any (ls : List (List UInt8)) (v : Value) (k : Nat) (w : World) (h : Rd w (dSs (mtS k ls)) [v]) (hl : ls.length ≤ 4294967296) (hk : 0 < k) (hk2 : k ≤ 4611686018427387904) :
    Calls Tryd.prog 41 #[v, .int .i64 k] w fun e w' => e = .returned (.int .i64 ((k + ls.length : Nat) : Int)) ∧ Below w.heap.size w w' := by
  obtain ⟨a, c, rfl, hg⟩ := h.strs
  rw [mtS_length]
  clear h
  go_enter Tryd.func41, Tryd.ntmps41
  go_wp2
  go_loopw [1, 5] (fun kk i wr => ∃ j q : Nat, j ≤ ls.length ∧ q = k + j ∧ kk = .int .i64 q ∧ i = .int .i64 j ∧ Below w.heap.size w wr) (fun _ i _ => ls.length - (intOf i).toNat)
  case atStart => exact ⟨0, k, Nat.zero_le _, rfl, rfl, rfl, Below.refl _ _⟩
  case round =>
    obtain ⟨j, q, hj, hq, rfl, rfl, hbel⟩ := hrel
    have HQ := Lib.hid hq
    by_cases hlt : j < ls.length
    · obtain ⟨_, _, b, o, rfl, hb, hcell⟩ := hg (by intro e; have := congrArg List.length e; simp [mtS_length] at this; subst this; simp at hlt)
      have d0 := hcell j (by rw [mtS_length]; exact hlt)
      rw [mtS_get k ls j hlt, ← (bcell hbel).1 _ _ hb] at d0
      rw [← hq] at d0
      have i1 : (0 : Int) ≤ j := by omega
      have hq2 : q ≤ 4611686018427387904 + 4294967296 := by omega
      have hq3 : 0 < q := by omega
      clear hq
      have i2 : (j : Int) < ls.length := by omega
      have hb' : b < wr.heap.size := Nat.lt_of_lt_of_le hb hbel.size
      have HMT := fun W => Lib.hid (markText_any q W (by omega) (by omega))
      have hwr := Below.refl wr.heap.size wr
      have KB : Hid (∀ W, Below wr.heap.size wr W → W.cell? ⟨b, o + j, none⟩ = some (.string ⟨(mt q).toArray⟩)) := fun W hW => by rw [(bcell hW).1 _ _ hb']; exact d0
      clear hcell hg d0
      go_wp2_with fail
      go_region_held3 (fun W => W.cell? ⟨b, o + j, none⟩ = some (.string ⟨(mt q).toArray⟩)) (first | exact KB.out _ hwr | exact KB.out _ hwr.drew)
        ((go_at_call 71; with_reducible refine (HMT _).out.mono ?_; rintro e1 w1 ⟨rfl, hb1⟩; replace hwr := below2 (by first | exact hwr | exact hwr.drew) hb1 (Nat.le_refl _)))
      go_wp2
      go_roundw
      case rel => exact ⟨j + 1, q + 1, by omega, by have := HQ.out; omega, by go_num, by go_num, below2 hbel (by first | exact hwr | exact hwr.drew) (Nat.le_refl _)⟩
      case measure => simp [intOf]; omega
    · obtain rfl : j = ls.length := by omega
      clear hq
      go_wp2
      go_ret
      exact ⟨by rw [← HQ.out]; rfl, hbel⟩
end Go.Proofs.YtkeieeogkeonfaaDoor
