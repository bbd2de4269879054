/- Decimal numerals, digit by digit. No program in sight. -/
import Derived.Test.YtkeieeogkeonfaaGreatDoorOwn
import Derived.Lib.ItoaLen
import Derived.Test.YtkeieeogkeonfaaGreatDoorShelf
import Derived.Test.YtkeieeogkeonfaaGreatDoorFind
import Derived.Lib.AppendIntMem
import Derived.Lib.LaidTab
import Derived.WalkSmall
namespace Go.Proofs.YtkeieeogkeonfaaGreatDoor
open Go.RowKit

def decOn (u : Nat) (l : List UInt8) : List UInt8 := if u = 0 then l else Lib.decDigits u ++ l
theorem decOn_step {u : Nat} (h : u ≠ 0) (l : List UInt8) : decOn (u / 10) (UInt8.ofNat (48 + u % 10) :: l) = decOn u l := by
  unfold decOn
  rw [if_neg h]
  by_cases h1 : u < 10
  · rw [if_pos (by omega), Lib.decDigits_one h1, Nat.mod_eq_of_lt h1]; rfl
  · rw [if_neg (by omega)]
    conv => rhs; rw [Lib.decDigits, dif_neg h1]
    simp
def digs : List UInt8 := [48, 49, 50, 51, 52, 53, 54, 55, 56, 57]
theorem digs_piece : ∀ d : Fin 10, (digs.drop d.val).take 1 = [UInt8.ofNat (48 + d.val)] := by decide
theorem digs_at {d : Nat} (h : d < 10) : (([48, 49, 50, 51, 52, 53, 54, 55, 56, 57] : List UInt8).drop d).take 1 = [UInt8.ofNat (48 + d)] := digs_piece ⟨d, h⟩
theorem tdivAbs (m : Int) : (Int.tdiv m 10).natAbs = m.natAbs / 10 := by rw [Int.natAbs_tdiv]; rfl
theorem tmodAbs (m : Int) : (Int.tmod m 10).natAbs = m.natAbs % 10 := by rw [Int.natAbs_tmod]; rfl
theorem decDigits_len20 {u : Nat} (h : u ≤ 9223372036854775808) : (Lib.decDigits u).length ≤ 20 := by rw [Lib.decDigits_length]; exact Lib.nDigits_le20 u (by omega)
end Go.Proofs.YtkeieeogkeonfaaGreatDoor

/- Decimal numerals: the reference's DecText and the program's (strconv.Itoa). -/
namespace Go.Proofs.YtkeieeogkeonfaaGreatDoor
open Go.RowKit

set_option maxHeartbeats 800000 in
set_option maxRecDepth 10000 in
theorem decText_spec (n : Int) (w : World) (hn : i64ok n) :
    Calls Tryz.prog 35 #[.int .i64 n] w fun e w' => e = .returned (.string ⟨(Lib.itoa n).toArray⟩) ∧ Below w.heap.size w w' := by
  obtain ⟨h1, h2⟩ := hn
  by_cases h0 : n = 0
  · subst h0
    have HZ := Lib.hid (show Lib.itoa 0 = [48] by rw [show (0 : Int) = ((0 : Nat) : Int) from rfl, Lib.itoa_nonneg, Lib.decDigits_one (by decide)]; rfl)
    go_enter Tryz.func35, Tryz.ntmps35
    go_wp2
    go_ret
    exact ⟨ret_str HZ.out.symm, Below.refl _ _⟩
  have g0 : (n == 0) = false := by simpa using h0
  obtain ⟨res, hres⟩ : ∃ res, Lib.decDigits n.natAbs = res := ⟨_, rfl⟩
  have hrl : res.length ≤ 20 := by rw [← hres]; exact decDigits_len20 (by omega)
  go_enter Tryz.func35, Tryz.ntmps35
  go_wp2
  go_loopw [3, 4, 5] (fun o m d wr => ∃ (l : List UInt8) (q : Int), o = .string ⟨l.toArray⟩ ∧ m = .int .i64 q ∧ -9223372036854775808 ≤ q ∧ q ≤ 9223372036854775807 ∧ decOn q.natAbs l = res ∧ (0 ≤ n → 0 ≤ q) ∧ (n ≤ 0 → q ≤ 0) ∧ wr = w) (fun _ m _ _ => (intOf m).natAbs)
  case atStart => exact ⟨[], n, rfl, rfl, h1, h2, by unfold decOn; rw [if_neg (by omega), hres]; simp, fun h => h, fun h => h, rfl⟩
  case round =>
    obtain ⟨l, q, rfl, rfl, hq1, hq2, hd, hs1, hs2, rfl⟩ := hrel
    have HD := Lib.hid hd
    by_cases hq : q = 0
    · subst hq
      have hl : l = res := by rw [← hd]; rfl
      subst hl
      clear hd
      by_cases hneg : n < 0
      · have HR := Lib.hid (show Lib.itoa n = 45 :: l by unfold Lib.itoa; rw [if_pos hneg]; exact congrArg _ hres)
        go_wp2
        go_ret
        exact ⟨by rw [HR.out]; rfl, Below.refl _ _⟩
      · have HR := Lib.hid (show Lib.itoa n = l by unfold Lib.itoa; rw [if_neg hneg, show n.toNat = n.natAbs by omega]; exact hres)
        go_wp2
        go_ret
        exact ⟨by rw [HR.out]; rfl, Below.refl _ _⟩
    · have gq : (q != 0) = true := by simpa using hq
      have hu : q.natAbs ≠ 0 := by omega
      have ll : l.length ≤ 20 := by
        have := congrArg List.length hd; unfold decOn at this; rw [if_neg hu, List.length_append] at this; omega
      have st := decOn_step hu l
      rw [hd] at st
      clear hd
      have ta := tdivAbs q
      have tm := tmodAbs q
      have hb1 : -9223372036854775808 ≤ Int.tdiv q 10 := by omega
      have hb2 : Int.tdiv q 10 ≤ 9223372036854775807 := by omega
      obtain ⟨r, hr⟩ : ∃ r, Int.tmod q 10 = r := ⟨_, rfl⟩
      obtain ⟨t, ht⟩ : ∃ t, Int.tdiv q 10 = t := ⟨_, rfl⟩
      have hz1 : 0 ≤ q → 0 ≤ t := fun h => by rw [← ht]; exact Int.tdiv_nonneg h (by decide)
      have hz2 : q ≤ 0 → t ≤ 0 := fun h => by rw [← ht]; (have hh := Int.tdiv_nonneg (a := -q) (b := 10) (by omega) (by decide); rw [Int.neg_tdiv] at hh; omega)
      rw [hr] at tm
      rw [ht] at ta hb1 hb2
      have hd10 : r.natAbs < 10 := by omega
      have P := digs_at hd10
      rw [← ta, ← tm] at st
      have HST := Lib.hid st
      have hmeas : t.natAbs < q.natAbs := by omega
      clear st tm ta
      by_cases hr0 : r < 0
      · obtain ⟨d, rfl⟩ : ∃ d : Nat, r = -(d : Int) := ⟨r.natAbs, by omega⟩
        have e1 : (-(d : Int)).natAbs = d := by omega
        rw [e1] at P hd10 HST
        have i1 : (0 : Int) ≤ d := by omega
        have i2 : (d : Int) + 1 ≤ 10 := by omega
        go_wp2
        go_roundw
        case rel => exact ⟨_, t, rfl, rfl, hb1, hb2, by simpa using HST.out, fun h => hz1 (hs1 h), fun h => hz2 (hs2 h), by first | rfl | trivial⟩
        case measure => simp only [intOf]; exact hmeas
      · obtain ⟨d, rfl⟩ : ∃ d : Nat, r = (d : Int) := ⟨r.natAbs, by omega⟩
        have e1 : ((d : Int)).natAbs = d := by omega
        rw [e1] at P hd10 HST
        have i1 : (0 : Int) ≤ d := by omega
        have i2 : (d : Int) + 1 ≤ 10 := by omega
        go_wp2
        go_roundw
        case rel => exact ⟨_, t, rfl, rfl, hb1, hb2, by simpa using HST.out, fun h => hz1 (hs1 h), fun h => hz2 (hs2 h), by first | rfl | trivial⟩
        case measure => simp only [intOf]; exact hmeas
/-- the program's table of powers of ten -/
def TenTab (w : World) : Prop := Lib.TabIs Tryz.prog w "internal/strconv.uint64pow10" .u64 Lib.pow10Tab

theorem tenG : Tryz.prog.globalNamed "internal/strconv.uint64pow10" = some 3 := by kernel_rfl
theorem TenTab.lt {w : World} (h : TenTab w) : 3 < w.heap.size := cell_lt (Lib.TabIs.cell h tenG 0 (by decide))
theorem TenTab.below' {B : Nat} {w w' : World} (h : TenTab w) (hb : Below B w w') (hB : 3 < B) : TenTab w' := var?_below hb tenG hB h
theorem TenTab.below {w w' : World} (h : TenTab w) (hb : Below w.heap.size w w') : TenTab w' := h.below' hb h.lt
set_option maxHeartbeats 400000 in
theorem decText_impl (n : Int) (w : World) (hn : i64ok n) (hT : TenTab w) :
    Calls Tryz.prog 69 #[.int .i64 n] w fun e w' => e = .returned (.string ⟨(Lib.itoa n).toArray⟩) ∧ Below w.heap.size w w' := by
  have H := Lib.hid (Tryz.strconv_Itoa n hn.1 hn.2 w hT)
  go_enter Tryz.func69, Tryz.ntmps69
  go_wp2_with (go_at_call 89; refine H.out.mono ?_; rintro e w' ⟨rfl, k, os, rfl⟩)
  go_ret
  exact ⟨rfl, Lib.below_grow _ _ (Nat.le_refl _) _ _⟩
end Go.Proofs.YtkeieeogkeonfaaGreatDoor
