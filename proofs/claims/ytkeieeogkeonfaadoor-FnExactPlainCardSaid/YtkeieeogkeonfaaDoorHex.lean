/- Hexadecimal digits: PutHex of the reference and of the program. -/
import Derived.Test.YtkeieeogkeonfaaDoorPlainDef
import Derived.Test.YtkeieeogkeonfaaDoorStep
import Derived.Test.YtkeieeogkeonfaaDoorOwnSl
import Derived.Test.YtkeieeogkeonfaaDoorValueOwn
import Derived.Test.YtkeieeogkeonfaaDoorProg
import Derived.IntWalk
import Derived.Deep.RegionHeld3
namespace Go.Proofs.YtkeieeogkeonfaaDoor
open Go.RowKit

theorem tyBh : ElemTy Tryd.prog 105 5 1 1 := ElemTy.mk' (z := .int .u8 0) Tryd.underlying105 (by kernel_rfl) rfl (by decide)
theorem andF : ∀ q : Fin 256, bits .and .u8 ((q.val : Nat) : Int) 15 = ((q.val % 16 : Nat) : Int) := by decide +kernel
set_option maxHeartbeats 1000000 in
set_option maxRecDepth 10000 in
theorem putHex_spec (s : List UInt8) (w : World) (hl : s.length ≤ 1073741824) :
    Calls Tryd.prog 76 #[.string ⟨s.toArray⟩] w fun e w' => e = .returned (.string ⟨(hexL s).toArray⟩) ∧ Below w.heap.size w w' := by
  go_enter Tryd.func76, Tryd.ntmps76
  go_wp2
  go_loopw [3, 4] (fun v i wr => ∃ j : Nat, j ≤ s.length ∧ i = .int .i64 j ∧ OwnB wr w.heap.size 5 v (hexL (s.take j)) ∧ v ≠ .slice none 0 0 ∧ Below w.heap.size w wr) (fun _ i _ => s.length - (intOf i).toNat)
  case atStart => exact ⟨0, Nat.zero_le _, rfl, OwnB.start, by simp, (Below.refl _ _).alloc (Nat.le_refl _) _⟩
  case round =>
    obtain ⟨j, hj, rfl, hown, hvn, hbel⟩ := hrel
    obtain ⟨g, c, rfl, hg⟩ := hown.form' hvn
    obtain ⟨hx, hhx⟩ : ∃ hx, hexL (s.take j) = hx := ⟨_, rfl⟩
    have hhl : hx.length ≤ 2147483648 := by rw [← hhx, hexL_length, List.length_take]; omega
    rw [hhx] at hown ⊢
    by_cases hlt : j < s.length
    · have i1 : (0 : Int) ≤ j := by omega
      have i2 : (j : Int) < s.length := by omega
      have hb8 := s[j].toNat_lt
      obtain ⟨q, hq⟩ : ∃ q : Nat, s[j].toNat = q := ⟨_, rfl⟩
      have hq256 : q < 256 := by omega
      obtain ⟨a, ha⟩ : ∃ a : Nat, q / 16 = a := ⟨_, rfl⟩
      obtain ⟨r, hr⟩ : ∃ r : Nat, q % 16 = r := ⟨_, rfl⟩
      have a16 : a < 16 := by omega
      have r16 : r < 16 := by omega
      have HS := Lib.hid (show hexL (s.take (j + 1)) = hx ++ [hexTab[a]'a16, hexTab[r]'r16] by
        rw [hexL_take s j hlt, hhx, hq, ha, hr]; unfold hexd
        rw [List.getD_eq_getElem?_getD, List.getD_eq_getElem?_getD, List.getElem?_eq_getElem (show a < hexTab.length from a16), List.getElem?_eq_getElem (show r < hexTab.length from r16)]; rfl)
      have w1 : IntKind.u8.wrap ((q : Int) / 16) = (a : Int) := by rw [IntKind.wrap_u8]; omega
      have w2 : (q : Int) % 16 = (r : Int) := by omega
      have w5 : Int.tmod (q : Int) 16 = (r : Int) := by rw [Int.tmod_eq_emod_of_nonneg (by omega)]; exact w2
      have w6 : Int.tdiv (q : Int) 16 = (a : Int) := by rw [Int.tdiv_eq_ediv_of_nonneg (by omega)]; omega
      have w7 : IntKind.u8.wrap (a : Int) = (a : Int) := by rw [IntKind.wrap_u8]; omega
      have w8 : IntKind.u8.wrap (r : Int) = (r : Int) := by rw [IntKind.wrap_u8]; omega
      have w3 : (a : Int) < 16 := by omega
      have w4 : (r : Int) < 16 := by omega
      have hzz := hbel.size
      have hod : OwnB wr.drew w.heap.size 5 (.slice (some ⟨g, 0, none⟩) hx.length c) hx := hown
      have hbd : Below w.heap.size w wr.drew := hbel.drew
      clear ha hr hhx hb8 hq256 hown hbel
      go_wp2_with fail
      go_region_held3 (fun W => True) (trivial) ((refine step_appB (r := [hexTab[a]'a16, hexTab[r]'r16]) tyBh rfl rfl w.heap.size (hod.alloc _) rfl ⟨wr.heap.size, 0, none⟩ 2 rfl (lit_cells (w := wr.drew) (news := [.int .u8 ((hexTab[a]'a16).toNat : Nat), .int .u8 ((hexTab[r]'r16).toNat : Nat)])) (by simp) (by simp; omega) (by simp; omega) ?_; intro v' w2 hown2 hgr hvn2))
      all_goals
        have hbel2 := OwnB.below (hod.alloc _) (hbd.alloc (by simp; omega) _) hgr (by simp; omega)
        go_wp2
        go_roundw
        case rel => exact ⟨j + 1, by omega, by go_num, by rw [HS.out]; exact hown2, hvn2, hbel2⟩
        case measure => simp [intOf]; omega
    · obtain rfl : j = s.length := by omega
      have hres := hhx
      rw [List.take_length] at hres
      subst hres
      have hcv := hown.str (P := Tryd.prog) 105 Tryd.underlying105 Tryd.underlying5
      go_wp2
      go_ret
      exact ⟨rfl, hbel⟩
set_option maxHeartbeats 1000000 in
set_option maxRecDepth 10000 in
theorem putHex_impl (s : List UInt8) (w : World) (hl : s.length ≤ 1073741824) :
    Calls Tryd.prog 80 #[.string ⟨s.toArray⟩] w fun e w' => e = .returned (.string ⟨(hexL s).toArray⟩) ∧ Below w.heap.size w w' := by
  obtain ⟨m, hm⟩ : ∃ m : Nat, m = 2 * s.length := ⟨_, rfl⟩
  obtain ⟨mcs, hmcs, hmk⟩ := run_mk0 tyBh m (by omega) (by decide)
  have HMC := Lib.hid hmcs
  have hw3 : (2 * (s.length : Int)) = (m : Int) := by omega
  have hm9 : m ≤ 2147483648 := by omega
  clear hm
  clear hmcs
  go_enter Tryd.func80, Tryd.ntmps80
  go_wp2
  go_loopw [3, 11] (fun v i wr => ∃ j : Nat, j ≤ s.length ∧ i = .int .i64 j ∧ OwnB wr w.heap.size 5 v (hexL (s.take j)) ∧ v ≠ .slice none 0 0 ∧ Below w.heap.size w wr) (fun _ i _ => s.length - (intOf i).toNat)
  case atStart => exact ⟨0, Nat.zero_le _, rfl, World.ownsRow_made w mcs m (Nat.le_refl _) (by unfold maxLen; omega) HMC.out, by simp, (Below.refl _ _).alloc (Nat.le_refl _) _⟩
  case round =>
    obtain ⟨j, hj, rfl, hown, hvn, hbel⟩ := hrel
    obtain ⟨g, c, rfl, hg⟩ := hown.form' hvn
    obtain ⟨hx, hhx⟩ : ∃ hx, hexL (s.take j) = hx := ⟨_, rfl⟩
    have hhl : hx.length ≤ 2147483648 := by rw [← hhx, hexL_length, List.length_take]; omega
    rw [hhx] at hown ⊢
    by_cases hlt : j < s.length
    · have i1 : (0 : Int) ≤ j := by omega
      have i2 : (j : Int) < s.length := by omega
      have hb8 := s[j].toNat_lt
      obtain ⟨q, hq⟩ : ∃ q : Nat, s[j].toNat = q := ⟨_, rfl⟩
      have hq256 : q < 256 := by omega
      obtain ⟨a, ha⟩ : ∃ a : Nat, q / 16 = a := ⟨_, rfl⟩
      obtain ⟨r, hr⟩ : ∃ r : Nat, q % 16 = r := ⟨_, rfl⟩
      have a16 : a < 16 := by omega
      have r16 : r < 16 := by omega
      have HS := Lib.hid (show hexL (s.take (j + 1)) = hx ++ [hexTab[a]'a16, hexTab[r]'r16] by
        rw [hexL_take s j hlt, hhx, hq, ha, hr]; unfold hexd
        rw [List.getD_eq_getElem?_getD, List.getD_eq_getElem?_getD, List.getElem?_eq_getElem (show a < hexTab.length from a16), List.getElem?_eq_getElem (show r < hexTab.length from r16)]; rfl)
      have w1 : IntKind.u8.wrap ((q : Int) / 16) = (a : Int) := by rw [IntKind.wrap_u8]; omega
      have w2 : (q : Int) % 16 = (r : Int) := by omega
      have w5 : Int.tmod (q : Int) 16 = (r : Int) := by rw [Int.tmod_eq_emod_of_nonneg (by omega)]; exact w2
      have w6 : Int.tdiv (q : Int) 16 = (a : Int) := by rw [Int.tdiv_eq_ediv_of_nonneg (by omega)]; omega
      have w7 : IntKind.u8.wrap (a : Int) = (a : Int) := by rw [IntKind.wrap_u8]; omega
      have w8 : IntKind.u8.wrap (r : Int) = (r : Int) := by rw [IntKind.wrap_u8]; omega
      have w9 : (q : Int) / 16 = (a : Int) := by omega
      have w10 : bits .and .u8 (q : Int) 15 = (r : Int) := by rw [andF ⟨q, hq256⟩, ← hr]
      have w3 : (a : Int) < 16 := by omega
      have w11 : (0 : Int) ≤ a := by omega
      have w12 : (0 : Int) ≤ r := by omega
      have w4 : (r : Int) < 16 := by omega
      have hzz := hbel.size
      have hod : OwnB wr.drew w.heap.size 5 (.slice (some ⟨g, 0, none⟩) hx.length c) hx := hown
      have hbd : Below w.heap.size w wr.drew := hbel.drew
      clear ha hr hhx hb8 hq256 hown hbel
      go_wp2_with fail
      go_region_held3 (fun W => True) (trivial) ((refine step_appB (r := [hexTab[a]'a16, hexTab[r]'r16]) tyBh rfl rfl w.heap.size (hod.alloc _) rfl ⟨wr.heap.size, 0, none⟩ 2 rfl (lit_cells (w := wr.drew) (news := [.int .u8 ((hexTab[a]'a16).toNat : Nat), .int .u8 ((hexTab[r]'r16).toNat : Nat)])) (by simp) (by simp; omega) (by simp; omega) ?_; intro v' w2 hown2 hgr hvn2))
      all_goals
        have hbel2 := OwnB.below (hod.alloc _) (hbd.alloc (by simp; omega) _) hgr (by simp; omega)
        go_wp2
        go_roundw
        case rel => exact ⟨j + 1, by omega, by go_num, by rw [HS.out]; exact hown2, hvn2, hbel2⟩
        case measure => simp [intOf]; omega
    · obtain rfl : j = s.length := by omega
      have hres := hhx
      rw [List.take_length] at hres
      subst hres
      have hcv := hown.str (P := Tryd.prog) 105 Tryd.underlying105 Tryd.underlying5
      go_wp2
      go_ret
      exact ⟨rfl, hbel⟩
end Go.Proofs.YtkeieeogkeonfaaDoor
