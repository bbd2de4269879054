/- The law's own marks as texts. -/
import Derived.Test.YtkeieeogkeonfaaDoorDecDef
import Derived.Test.YtkeieeogkeonfaaDoorMark
import Derived.Test.YtkeieeogkeonfaaDoorProg
import Derived.IntWalk
namespace Go.Proofs.YtkeieeogkeonfaaDoor
open Go.RowKit

theorem byte48 {r : Nat} : byteOf (48 + (r : Int)).toNat = UInt8.ofNat (48 + r) := by
  rw [← cb_ofNat]; congr 1
set_option maxHeartbeats 800000 in
set_option maxRecDepth 10000 in
theorem markText_any (k : Nat) (w : World) (hk : k ≤ 9223372036854775807) (h0 : 0 < k) :
    Calls Tryd.prog 71 #[.int .i64 k] w fun e w' => e = .returned (.string ⟨(mt k).toArray⟩) ∧ Below w.heap.size w w' := by
  obtain ⟨res, hres⟩ : ∃ res, Lib.decDigits k = res := ⟨_, rfl⟩
  have hrl : res.length ≤ 20 := by rw [← hres]; exact decDigits_len20 (by omega)
  have HM := Lib.hid (show mt k = 109 :: res by unfold mt; rw [hres])
  have hk1 : ¬ (k : Int) ≤ 0 := by omega
  go_enter Tryd.func71, Tryd.ntmps71
  go_wp2
  go_loopw [0, 3] (fun m o wr => ∃ (l : List UInt8) (q : Nat), o = .string ⟨l.toArray⟩ ∧ m = .int .i64 q ∧ q ≤ 9223372036854775807 ∧ decOn q l = res ∧ Below w.heap.size w wr) (fun m _ _ => (intOf m).toNat)
  case atStart => exact ⟨[], k, rfl, rfl, hk, by unfold decOn; rw [if_neg (by omega), hres]; simp, Below.refl _ _⟩
  case round =>
    obtain ⟨l, q, rfl, rfl, hq, hd, hbel⟩ := hrel
    by_cases hq0 : q = 0
    · subst hq0
      have hl : l = res := by rw [← hd]; rfl
      subst hl
      clear hd
      go_wp2
      go_ret
      exact ⟨by rw [HM.out]; rfl, hbel⟩
    · have ll : l.length ≤ 20 := by
        have := congrArg List.length hd; unfold decOn at this; rw [if_neg hq0, List.length_append] at this; omega
      have st := decOn_step hq0 l
      rw [hd] at st
      have ST := Lib.hid st
      clear hd st
      have gq : (0 : Int) < q := by omega
      have hr : q % 10 < 10 := Nat.mod_lt _ (by decide)
      have e1 : Int.tmod (q : Int) 10 = ((q % 10 : Nat) : Int) := by rw [Int.tmod_eq_emod_of_nonneg (by omega)]; rfl
      have e2 : Int.tdiv (q : Int) 10 = ((q / 10 : Nat) : Int) := by rw [Int.tdiv_eq_ediv_of_nonneg (by omega)]; rfl
      have B := byte48 (r := q % 10)
      have hcv := fun b c w => conv1 (P := Tryd.prog) Tryd.underlying105 Tryd.underlying5 Tryd.underlying9 b c w
      generalize hrr : q % 10 = r at *
      go_wp2
      go_roundw
      case rel => exact ⟨_, q / 10, rfl, by first | rfl | go_num, by omega, by first | exact ST.out | (rw [B]; exact ST.out) | simpa using ST.out, by first | exact hbel | exact hbel.alloc hbel.size _⟩
      case measure => simp [intOf]; omega
end Go.Proofs.YtkeieeogkeonfaaDoor
