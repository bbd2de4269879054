/- The place of a key: the reference's l02Key and the program's find. -/
import Derived.Test.YtkeieeogkeonfaaDoorPlainDef
import Derived.Test.YtkeieeogkeonfaaDoorValueTo
namespace Go.Proofs.YtkeieeogkeonfaaDoor
open Go.RowKit

theorem mfind_step {xs : List V} {s : List UInt8} {j : Nat} (h : 2 * j + 1 < xs.length) : mfind (xs.drop (2 * j)) s (2 * j) = if xs[2 * j].kind = 5 ∧ xs[2 * j].text = s then ((2 * j : Nat) : Int) else mfind (xs.drop (2 * (j + 1))) s (2 * (j + 1)) := by
  rw [List.drop_eq_getElem_cons (by omega), List.drop_eq_getElem_cons h, mfind, show 2 * (j + 1) = 2 * j + 1 + 1 by omega]
theorem mfind_end {xs : List V} {s : List UInt8} {j : Nat} (h : ¬ 2 * j + 1 < xs.length) : mfind (xs.drop (2 * j)) s (2 * j) = -1 := by
  have hl : (xs.drop (2 * j)).length ≤ 1 := by rw [List.length_drop]; omega
  match xs.drop (2 * j), hl with
  | [], _ => rfl
  | [_], _ => rfl
theorem mfind_bd : ∀ (xs : List V) (s : List UInt8) (i : Nat), -1 ≤ mfind xs s i ∧ mfind xs s i ≤ i + xs.length
  | [], _, i => by simp only [mfind, List.length_nil]; omega
  | [_], _, i => by simp only [mfind, List.length_cons, List.length_nil]; omega
  | x :: y :: r, s, i => by
    have := mfind_bd r s (i + 2)
    simp only [mfind, List.length_cons]
    split <;> omega

set_option maxHeartbeats 800000 in
set_option maxRecDepth 10000 in
theorem l02Key_any (xs : List V) (v : Value) (s : List UInt8) (w : World) (h : Rd w (.sl 5 (V.ds xs)) [v]) (hl : xs.length ≤ 4294967295) :
    Calls Tryd.prog 78 #[v, .string ⟨s.toArray⟩] w fun e w' => e = .returned (.int .i64 (mfind xs s 0)) ∧ w' = w := by
  obtain ⟨a, c, rfl, hg⟩ := h.values
  obtain ⟨r, hr⟩ : ∃ r, mfind xs s 0 = r := ⟨_, rfl⟩
  rw [hr]
  go_enter Tryd.func78, Tryd.ntmps78
  go_wp2
  go_loopw [5] (fun i wr => ∃ (j : Nat), 2 * j ≤ xs.length + 1 ∧ i = .int .i64 ((2 * j : Nat) : Int) ∧ mfind (xs.drop (2 * j)) s (2 * j) = r ∧ wr = w) (fun i _ => xs.length + 2 - (intOf i).toNat)
  case atStart => exact ⟨0, by omega, rfl, by simpa using hr, rfl⟩
  case round =>
    obtain ⟨j, hj, rfl, hix, rfl⟩ := hrel
    obtain ⟨q, hq⟩ : ∃ q, q = 2 * j := ⟨_, rfl⟩
    have HQ := Lib.hid hq
    have HX := Lib.hid hix; clear hix
    rw [← hq]
    by_cases hlt : q + 1 < xs.length
    · have HS := Lib.hid (mfind_step (xs := xs) (s := s) (j := j) (by omega))
      obtain ⟨_, _, b, o, rfl, hb, hcell⟩ := hg (by intro e; rw [e] at hlt; simp at hlt)
      obtain ⟨v0, v1, v2, v3, v4, hr, d0, d1, d2, d3, d4⟩ := hcell q (by omega)
      obtain ⟨k, n, e, s', kids, u, hxe, hcs, _⟩ := V.lay hr
      simp only [List.cons.injEq, and_true] at hcs
      obtain ⟨rfl, rfl, rfl, rfl, rfl⟩ := hcs
      have HS2 := Lib.hid (show (if k = 5 ∧ s' = s then ((2 * j : Nat) : Int) else mfind (xs.drop (2 * (j + 1))) s (2 * (j + 1))) = r by
        rw [← HX.out, HS.out]
        have : xs[2 * j]'(by omega) = V.mk k n e s' kids := by rw [← hxe]; simp only [HQ.out]
        rw [this]; rfl)
      have i1 : (0 : Int) ≤ q := by omega
      have i2 : (q : Int) + 1 < xs.length := by omega
      have i3 : (q : Int) < xs.length := by omega
      have hq9 : q ≤ 4294967295 := by omega
      have HJ1 := Lib.hid (show 2 * (j + 1) ≤ xs.length + 1 ∧ ((q : Int) + 2 = ((2 * (j + 1) : Nat) : Int)) ∧ q + 2 ≤ xs.length + 1 by omega)
      clear hcell hg hxe hr hj HS hq hlt
      by_cases hk : k = 5
      · subst hk
        by_cases hs : s' = s
        · subst hs
          have HR := Lib.hid (show r = q by rw [← HS2.out, if_pos ⟨rfl, rfl⟩, HQ.out])
          go_wp2
          go_ret
          exact ⟨by rw [HR.out]; rfl, rfl⟩
        · have hsb : (s' == s) = false := by simpa using hs
          have HR := Lib.hid (show mfind (xs.drop (2 * (j + 1))) s (2 * (j + 1)) = r by rw [← HS2.out, if_neg (fun h => hs h.2)])
          clear hs
          go_wp2
          go_roundw
          case rel => exact ⟨j + 1, HJ1.out.1, by first | rw [← HJ1.out.2.1] | (rw [← HJ1.out.2.1]; rfl), HR.out, by first | rfl | trivial⟩
          case measure => have := HJ1.out.2.2; simp [intOf]; omega
      · have hkb : (k == 5) = false := by simpa using hk
        have HR := Lib.hid (show mfind (xs.drop (2 * (j + 1))) s (2 * (j + 1)) = r by rw [← HS2.out, if_neg (fun h => hk h.1)])
        clear hk
        go_wp2
        go_roundw
        case rel => exact ⟨j + 1, HJ1.out.1, by first | rw [← HJ1.out.2.1] | (rw [← HJ1.out.2.1]; rfl), HR.out, by first | rfl | trivial⟩
        case measure => have := HJ1.out.2.2; simp [intOf]; omega
    · have HR := Lib.hid (show r = -1 by rw [← HX.out, mfind_end (by omega)])
      have i1 : (0 : Int) ≤ q := by omega
      have hq9 : q ≤ 4294967297 := by omega
      have i2 : ¬ (q : Int) + 1 < xs.length := by omega
      clear hq
      go_wp2
      go_ret
      exact ⟨by rw [HR.out]; rfl, rfl⟩
set_option maxHeartbeats 800000 in
set_option maxRecDepth 10000 in
theorem find_any (x : V) (cs : List Value) (s : List UInt8) (w : World) (h0 : Rd w x.d cs) (hk8 : x.kind = 8) (hl : x.kids.length ≤ 4294967295) :
    Calls Tryd.prog 83 #[.agg cs.toArray, .string ⟨s.toArray⟩] w fun e w' => e = .returned (.int .i64 (mfind x.kids s 0)) ∧ Below w.heap.size w w' := by
  obtain ⟨k, n, e, s0, xs, v1, rfl, rfl, h⟩ := V.lay h0
  obtain rfl : k = 8 := hk8
  obtain ⟨a, c, rfl, hg⟩ := h.values
  simp only [V.kids] at hl ⊢
  obtain ⟨W0, hW0⟩ : ∃ W0, W0 = w.alloc (.cells #[.int .i64 8, .int .i64 n, .int .i64 e, .string ⟨s0.toArray⟩, .slice a xs.length c] 41) := ⟨_, rfl⟩
  have HW := Lib.hid hW0
  have hA0 : Below w.heap.size w W0 := by rw [hW0]; exact (Below.refl _ _).alloc (Nat.le_refl _) _
  have p0 : W0.cell? ⟨w.heap.size, 0, none⟩ = some (.int .i64 8) := by rw [hW0]; simp
  have p4 : W0.cell? ⟨w.heap.size, 4, none⟩ = some (.slice a xs.length c) := by rw [hW0]; simp
  clear hW0 h0
  obtain ⟨r, hr⟩ : ∃ r, mfind xs s 0 = r := ⟨_, rfl⟩
  rw [hr]
  go_enter Tryd.func83, Tryd.ntmps83
  go_wp2_with fail
  rw [← HW.out]
  go_loopw [5] (fun i wr => ∃ (j : Nat), 2 * j ≤ xs.length + 1 ∧ i = .int .i64 ((2 * j : Nat) : Int) ∧ mfind (xs.drop (2 * j)) s (2 * j) = r ∧ wr = W0) (fun i _ => xs.length + 2 - (intOf i).toNat)
  case atStart => exact ⟨0, by omega, rfl, by simpa using hr, rfl⟩
  case round =>
    obtain ⟨j, hj, rfl, hix, hwr⟩ := hrel
    subst hwr
    obtain ⟨q, hq⟩ : ∃ q, q = 2 * j := ⟨_, rfl⟩
    have HQ := Lib.hid hq
    have HX := Lib.hid hix; clear hix
    rw [← hq]
    by_cases hlt : q + 1 < xs.length
    · have HS := Lib.hid (mfind_step (xs := xs) (s := s) (j := j) (by omega))
      obtain ⟨_, _, b, o, rfl, hb, hcell⟩ := hg (by intro e; rw [e] at hlt; simp at hlt)
      obtain ⟨v0, v1, v2, v3, v4, hr, d0, d1, d2, d3, d4⟩ := hcell q (by omega)
      have hbc := (bcell hA0).1
      rw [← hbc _ _ hb] at d0 d1 d2 d3 d4
      clear hbc
      obtain ⟨k, n, e, s', kids, u, hxe, hcs, _⟩ := V.lay hr
      simp only [List.cons.injEq, and_true] at hcs
      obtain ⟨rfl, rfl, rfl, rfl, rfl⟩ := hcs
      have HS2 := Lib.hid (show (if k = 5 ∧ s' = s then ((2 * j : Nat) : Int) else mfind (xs.drop (2 * (j + 1))) s (2 * (j + 1))) = r by
        rw [← HX.out, HS.out]
        have : xs[2 * j]'(by omega) = V.mk k n e s' kids := by rw [← hxe]; simp only [HQ.out]
        rw [this]; rfl)
      have i1 : (0 : Int) ≤ q := by omega
      have i2 : (q : Int) + 1 < xs.length := by omega
      have i3 : (q : Int) < xs.length := by omega
      have hq9 : q ≤ 4294967295 := by omega
      have HJ1 := Lib.hid (show 2 * (j + 1) ≤ xs.length + 1 ∧ ((q : Int) + 2 = ((2 * (j + 1) : Nat) : Int)) ∧ q + 2 ≤ xs.length + 1 by omega)
      clear hcell hg hxe hr hj HS hq hlt
      by_cases hk : k = 5
      · subst hk
        by_cases hs : s' = s
        · subst hs
          have HR := Lib.hid (show r = q by rw [← HS2.out, if_pos ⟨rfl, rfl⟩, HQ.out])
          go_wp2
          go_ret
          exact ⟨by rw [HR.out]; rfl, hA0⟩
        · have hsb : (s' == s) = false := by simpa using hs
          have HR := Lib.hid (show mfind (xs.drop (2 * (j + 1))) s (2 * (j + 1)) = r by rw [← HS2.out, if_neg (fun h => hs h.2)])
          clear hs
          go_wp2
          go_roundw
          case rel => exact ⟨j + 1, HJ1.out.1, by first | rw [← HJ1.out.2.1] | (rw [← HJ1.out.2.1]; rfl), HR.out, by first | rfl | trivial⟩
          case measure => have := HJ1.out.2.2; simp [intOf]; omega
      · have hkb : (k == 5) = false := by simpa using hk
        have HR := Lib.hid (show mfind (xs.drop (2 * (j + 1))) s (2 * (j + 1)) = r by rw [← HS2.out, if_neg (fun h => hk h.1)])
        clear hk
        go_wp2
        go_roundw
        case rel => exact ⟨j + 1, HJ1.out.1, by first | rw [← HJ1.out.2.1] | (rw [← HJ1.out.2.1]; rfl), HR.out, by first | rfl | trivial⟩
        case measure => have := HJ1.out.2.2; simp [intOf]; omega
    · have HR := Lib.hid (show r = -1 by rw [← HX.out, mfind_end (by omega)])
      have i1 : (0 : Int) ≤ q := by omega
      have hq9 : q ≤ 4294967297 := by omega
      have i2 : ¬ (q : Int) + 1 < xs.length := by omega
      clear hq
      go_wp2
      go_ret
      exact ⟨by rw [HR.out]; rfl, hA0⟩
end Go.Proofs.YtkeieeogkeonfaaDoor
