/- Whether a text is right: the contracts of PutSign, GetSign, Signs and TextOk of the reference. -/
import Derived.Test.YtkeieeogkeonfaaDoorUtf
import Derived.Test.YtkeieeogkeonfaaDoorBits
import Derived.Test.YtkeieeogkeonfaaDoorRange
import Derived.Deep.RegionHeld3
import Derived.Deep.QuietTactic
import Derived.BigQuiet
import Derived.Lib.ConvBytes
namespace Go.Proofs.YtkeieeogkeonfaaDoor
open Go.RowKit Go.Lib

set_option maxRecDepth 10000 in
theorem l01Many_any (b : UInt8) (w : World) :
    Calls Tryd.prog 169 #[.int .i64 (b.toNat : Nat)] w fun e w' => e = .returned (.tuple #[.int .i64 ((many b.toNat).1 : Nat), .int .i64 ((many b.toNat).2 : Nat)]) ∧ w = w' := by
  have hb := b.toNat_lt
  generalize b.toNat = n at *
  have h0 : (0 : Int) ≤ n := by omega
  rcases many_cases n with ⟨h, e⟩ | ⟨h1, h2, e⟩ | ⟨h1, h2, e⟩ | ⟨h1, h2, e⟩ | ⟨h, e⟩
  · have H := Lib.hid e; clear e
    have n1 : ((n : Int) < 128) := by omega
    go_enter Tryd.func169, Tryd.ntmps169
    go_wp2
    go_ret2
    rw [H.out]; exact ⟨rfl, rfl⟩
  · have H := Lib.hid e; clear e
    have r1 : inR n 192 223 = true := inR_yes (by omega)
    have n1 : ¬ ((n : Int) < 128) := by omega
    clear h1 h2
    go_enter Tryd.func169, Tryd.ntmps169
    go_wp2_with (go_at_call 121; refine (l01In_any _ _ _ _).mono ?_; rintro e w' ⟨rfl, rfl⟩)
    go_ret2
    rw [H.out]; exact ⟨rfl, rfl⟩
  · have H := Lib.hid e; clear e
    have r1 : inR n 192 223 = false := inR_no (by omega)
    have r2 : inR n 224 239 = true := inR_yes (by omega)
    have n1 : ¬ ((n : Int) < 128) := by omega
    clear h1 h2
    go_enter Tryd.func169, Tryd.ntmps169
    go_wp2_with (go_at_call 121; refine (l01In_any _ _ _ _).mono ?_; rintro e w' ⟨rfl, rfl⟩)
    go_ret2
    rw [H.out]; exact ⟨rfl, rfl⟩
  · have H := Lib.hid e; clear e
    have r1 : inR n 192 223 = false := inR_no (by omega)
    have r2 : inR n 224 239 = false := inR_no (by omega)
    have r3 : inR n 240 247 = true := inR_yes (by omega)
    have n1 : ¬ ((n : Int) < 128) := by omega
    clear h1 h2
    go_enter Tryd.func169, Tryd.ntmps169
    go_wp2_with (go_at_call 121; refine (l01In_any _ _ _ _).mono ?_; rintro e w' ⟨rfl, rfl⟩)
    go_ret2
    rw [H.out]; exact ⟨rfl, rfl⟩
  · have H := Lib.hid e; clear e
    have r1 : inR n 192 223 = false := inR_no (by omega)
    have r2 : inR n 224 239 = false := inR_no (by omega)
    have r3 : inR n 240 247 = false := inR_no (by omega)
    have n1 : ¬ ((n : Int) < 128) := by omega
    clear h
    go_enter Tryd.func169, Tryd.ntmps169
    go_wp2_with (go_at_call 121; refine (l01In_any _ _ _ _).mono ?_; rintro e w' ⟨rfl, rfl⟩)
    go_ret2
    rw [H.out]; exact ⟨rfl, rfl⟩

/-- PutSign, of any number -/
def putSign (n : Int) : List UInt8 := if n < 0 then [] else utf n.toNat
theorem putSign_nat (n : Nat) : putSign n = utf n := by unfold putSign; rw [if_neg (by omega)]; simp
theorem putSign_far {n : Int} (h : ¬ (0 ≤ n ∧ n ≤ 1114111)) : putSign n = [] := by
  unfold putSign; by_cases h0 : n < 0
  · rw [if_pos h0]
  · rw [if_neg h0]; unfold utf; rw [if_pos (by omega)]
theorem putSign_sur {n : Int} (h : 55296 ≤ n ∧ n ≤ 57343) : putSign n = [] := by
  unfold putSign; rw [if_neg (by omega)]; unfold utf; rw [if_pos (by omega)]

set_option maxHeartbeats 400000 in
set_option maxRecDepth 10000 in
theorem putSign_spec (n : Int) (w : World) (hn : i64ok n) :
    Calls Tryd.prog 170 #[.int .i64 n] w fun e w' => e = .returned (.string ⟨(putSign n).toArray⟩) ∧ Below w.heap.size w w' := by
  obtain ⟨hn1, hn2⟩ := hn
  by_cases hr : 0 ≤ n ∧ n ≤ 1114111
  · have r1 : inR n 0 1114111 = true := inR_yes hr
    by_cases hs : 55296 ≤ n ∧ n ≤ 57343
    · have r2 : inR n 55296 57343 = true := inR_yes hs
      have H := Lib.hid (putSign_sur hs)
      clear hr hs
      go_enter Tryd.func170, Tryd.ntmps170
      go_wp2_with (go_at_call 121; refine (l01In_any _ _ _ _).mono ?_; rintro e w' ⟨rfl, rfl⟩)
      go_ret
      exact ⟨ret_str H.out.symm, Below.refl _ _⟩
    · have r2 : inR n 55296 57343 = false := inR_no hs
      obtain ⟨hr1, hr2⟩ := hr
      have hcv1 := fun b c w => conv1 (P := Tryd.prog) Tryd.underlying105 Tryd.underlying5 Tryd.underlying9 b c w
      have hcv2 := fun b c w => conv2 (P := Tryd.prog) Tryd.underlying105 Tryd.underlying5 Tryd.underlying9 b c w
      have hcv3 := fun b c w => conv3 (P := Tryd.prog) Tryd.underlying105 Tryd.underlying5 Tryd.underlying9 b c w
      have hcv4 := fun b c w => conv4 (P := Tryd.prog) Tryd.underlying105 Tryd.underlying5 Tryd.underlying9 b c w
      by_cases c1 : n < 128
      · have H : Hid (putSign n = [byteOf n.toNat]) := by
          show _ = _; unfold putSign; rw [if_neg (by omega)]; unfold utf; rw [if_neg (by omega), if_pos (by omega)]
        clear hs
        go_enter Tryd.func170, Tryd.ntmps170
        go_wp2_with (go_at_call 121; refine (l01In_any _ _ _ _).mono ?_; rintro e w' ⟨rfl, rfl⟩)
        go_ret
        exact ⟨ret_str H.out.symm, (Below.refl _ _).alloc (Nat.le_refl _) _⟩
      · by_cases c2 : n < 2048
        · have H : Hid (putSign n =  [byteOf (192 + n.toNat / 64), byteOf (128 + n.toNat % 64)]) := by
            show _ = _; unfold putSign; rw [if_neg (by omega)]; unfold utf; rw [if_neg (by omega), if_neg (by omega), if_pos (by omega)]
          clear hs
          go_enter Tryd.func170, Tryd.ntmps170
          go_wp2_with (go_at_call 121; refine (l01In_any _ _ _ _).mono ?_; rintro e w' ⟨rfl, rfl⟩)
          go_ret
          refine ⟨ret_str ?_, (Below.refl _ _).alloc (Nat.le_refl _) _⟩
          rw [H.out]; try rfl
          simp only [List.cons.injEq, and_true]
          exact ⟨congrArg byteOf (by omega), congrArg byteOf (by omega)⟩
        · by_cases c3 : n < 65536
          · have H : Hid (putSign n = [byteOf (224 + n.toNat / 4096), byteOf (128 + n.toNat / 64 % 64), byteOf (128 + n.toNat % 64)]) := by
              show _ = _; unfold putSign; rw [if_neg (by omega)]; unfold utf; rw [if_neg (by omega), if_neg (by omega), if_neg (by omega), if_pos (by omega)]
            clear hs
            go_enter Tryd.func170, Tryd.ntmps170
            go_wp2_with (go_at_call 121; refine (l01In_any _ _ _ _).mono ?_; rintro e w' ⟨rfl, rfl⟩)
            go_ret
            refine ⟨ret_str ?_, (Below.refl _ _).alloc (Nat.le_refl _) _⟩
            rw [H.out]; try rfl
            simp only [List.cons.injEq, and_true]
            exact ⟨congrArg byteOf (by omega), congrArg byteOf (by omega), congrArg byteOf (by omega)⟩
          · have H : Hid (putSign n = [byteOf (240 + n.toNat / 262144), byteOf (128 + n.toNat / 4096 % 64), byteOf (128 + n.toNat / 64 % 64), byteOf (128 + n.toNat % 64)]) := by
              show _ = _; unfold putSign; rw [if_neg (by omega)]; unfold utf; rw [if_neg (by omega), if_neg (by omega), if_neg (by omega), if_neg (by omega)]
            clear hs
            go_enter Tryd.func170, Tryd.ntmps170
            go_wp2_with (go_at_call 121; refine (l01In_any _ _ _ _).mono ?_; rintro e w' ⟨rfl, rfl⟩)
            go_ret
            refine ⟨ret_str ?_, (Below.refl _ _).alloc (Nat.le_refl _) _⟩
            rw [H.out]; try rfl
            simp only [List.cons.injEq, and_true]
            exact ⟨congrArg byteOf (by omega), congrArg byteOf (by omega), congrArg byteOf (by omega), congrArg byteOf (by omega)⟩
  · have r1 : inR n 0 1114111 = false := inR_no hr
    have H := Lib.hid (putSign_far hr)
    clear hr
    go_enter Tryd.func170, Tryd.ntmps170
    go_wp2_with (go_at_call 121; refine (l01In_any _ _ _ _).mono ?_; rintro e w' ⟨rfl, rfl⟩)
    go_ret
    exact ⟨ret_str H.out.symm, Below.refl _ _⟩

set_option maxHeartbeats 1000000 in
set_option maxRecDepth 10000 in
theorem getSign_spec (l : List UInt8) (i : Int) (w : World) (hi : i64ok i) (hl : l.length ≤ 4611686018427387904) :
    Calls Tryd.prog 158 #[.string ⟨l.toArray⟩, .int .i64 i] w fun e w' => e = .returned (.tuple #[.int .i64 (signAt l i).1, .int .i64 (signAt l i).2]) ∧ Below w.heap.size w w' := by
  obtain ⟨hi1, hi2⟩ := hi
  by_cases hr : 0 ≤ i ∧ i < l.length
  · obtain ⟨k, rfl⟩ : ∃ k : Nat, i = k := ⟨i.toNat, by omega⟩
    have hk : k < l.length := by omega
    have hk1 : (0 : Int) ≤ k := by omega
    have hk2 : (k : Int) < l.length := by omega
    have hS := sgn_many l[k] (l.drop (k + 1))
    rw [← List.drop_eq_getElem_cons hk] at hS
    have hbd := many_bd l[k].toNat l[k].toNat_lt
    obtain ⟨hbd1, hbd2⟩ := hbd
    have HC := Lib.hid (l01Many_any l[k])
    obtain ⟨m, hm⟩ : ∃ m, (many l[k].toNat).1 = m := ⟨_, rfl⟩
    obtain ⟨v0, hv⟩ : ∃ v, (many l[k].toNat).2 = v := ⟨_, rfl⟩
    rw [hm] at hbd1 hS
    rw [hv] at hbd2 hS
    have HC : Hid (∀ w, Calls Tryd.prog 169 #[.int .i64 (l[k].toNat : Nat)] w fun e w' => e = .returned (.tuple #[.int .i64 (m : Nat), .int .i64 (v0 : Nat)]) ∧ w = w') := by
      intro w; rw [← hm, ← hv]; exact HC.out w
    clear hm hv hr
    by_cases hA : m = 0 ∨ (l.drop (k + 1)).length + 1 < m
    · rw [if_pos (.inl hA)] at hS
      have H := Lib.hid (signAt_none hS)
      clear hS
      rw [List.length_drop] at hA
      by_cases hA0 : m = 0
      · subst hA0
        go_enter Tryd.func158, Tryd.ntmps158
        go_wp2_with (go_at_call 169; refine (HC.out _).mono ?_; rintro e w1 ⟨rfl, rfl⟩)
        go_ret2
        rw [H.out]; exact ⟨rfl, Below.refl _ _⟩
      · have hA1 : (l.length : Int) - k < m := by omega
        have hA2 : ((m : Int) == 0) = false := by simpa using hA0
        clear hA hA0
        go_enter Tryd.func158, Tryd.ntmps158
        go_wp2_with (go_at_call 169; refine (HC.out _).mono ?_; rintro e w1 ⟨rfl, rfl⟩)
        go_ret2
        rw [H.out]; exact ⟨rfl, Below.refl _ _⟩
    · have hA0 : 1 ≤ m := by omega
      have hA1 : k + m ≤ l.length := by rw [List.length_drop] at hA; omega
      have hA2 : ((m : Int) == 0) = false := by simp; omega
      have hA3 : ¬ (l.length : Int) - k < m := by omega
      have hle : ((l.drop (k + 1)).length : Nat) = l.length - (k + 1) := List.length_drop
      have HS := Lib.hid hS
      have HA := Lib.hid hA
      have HL := Lib.hid hle
      clear hA hS hle
      go_enter Tryd.func158, Tryd.ntmps158
      go_wp2_with (go_at_call 169; refine (HC.out _).mono ?_; rintro e w1 ⟨rfl, rfl⟩)
      go_loop [7, 8] (fun x i => ∃ (j : Nat), j + 1 ≤ m ∧ i = .int .i64 ((j + 1 : Nat) : Int) ∧ x = .int .i64 (sgnV v0 ((l.drop (k + 1)).take j))) (fun _ i => 5 - (intOf i).toNat)
      case atStart => exact ⟨0, by omega, rfl, by simp [sgnV]⟩
      case round =>
        obtain ⟨j, hj, rfl, rfl⟩ := hrel
        by_cases hlt : j + 1 < m
        · have hjl : j < (l.drop (k + 1)).length := by have := HL.out; omega
          have HN := Lib.hid (sgnV_snoc v0 (l.drop (k + 1)) j hjl)
          have hb := sgnV_bd v0 (l.drop (k + 1)) j hbd2 (by omega)
          have hget : (l.drop (k + 1))[j] = l[k + (j + 1)]'(by have := HL.out; omega) := by rw [List.getElem_drop]; congr 1; omega
          rw [hget] at HN
          have hk4 : k + (j + 1) < l.length := by omega
          have e1 : ((k : Int) + (j + 1 : Nat)).toNat = k + (j + 1) := by omega
          obtain ⟨x, hx⟩ : ∃ x, sgnV v0 ((l.drop (k + 1)).take j) = x := ⟨_, rfl⟩
          rw [hx] at HN hb ⊢
          have HX := Lib.hid hx; clear hx
          go_wp2
          go_round
          case rel =>
            refine ⟨j + 1, by omega, by go_num, ?_⟩
            rw [HN.out]; go_num
          case measure => simp [intOf] <;> omega
        · obtain rfl : m = j + 1 := by omega
          have hb := sgnV_bd v0 (l.drop (k + 1)) j hbd2 (by omega)
          have HS2 := HS.out
          have hpre : ¬ ((j + 1 = 0) ∨ (l.drop (k + 1)).length + 1 < j + 1) := HA.out
          simp only [hpre, false_or, Nat.add_sub_cancel] at HS2
          have HS2 := Lib.hid HS2
          clear hpre
          go_wp2
          obtain ⟨x, hx⟩ : ∃ x, sgnV v0 ((l.drop (k + 1)).take j) = x := ⟨_, rfl⟩
          rw [hx] at hb HS2
          have HX := Lib.hid hx
          simp only [hx]
          clear hx HS
          have hB := Below.refl w.heap.size w
          have z1 : IntKind.i64.wrap ((k : Int) + (↑j + 1)) = (k : Int) + (↑j + 1) := IntWalk.i64_in _ (by omega)
          have z2 : (0 : Int) ≤ (k : Int) + (↑j + 1) := by omega
          have z3 : (k : Int) ≤ (k : Int) + (↑j + 1) := by omega
          have z4 : (k : Int) + (↑j + 1) ≤ l.length := by omega
          have z5 : ((k : Int) + (↑j + 1)).toNat = k + (j + 1) := by omega
          have hxo : i64ok x := ⟨by omega, by omega⟩
          go_region_held3 (fun W => Below w.heap.size w W) (first | exact hB | exact hB.drew)
            (first | (go_at_call 170; refine (putSign_spec x _ hxo).mono ?_; rintro e w2 ⟨rfl, hb2⟩; replace hB := below2 (by first | exact hB | exact hB.drew) hb2 (Nat.le_refl _)))
          go_wp2
          · have he : (!putSign ↑x == List.take (j + 1) (List.drop k l)) = true := by assumption
            rw [putSign_nat] at he
            have h2 := HS2.out
            rw [if_pos (by simpa using he)] at h2
            go_ret2
            rw [signAt_none h2]; exact ⟨rfl, hB⟩
          · have he : (!putSign ↑x == List.take (j + 1) (List.drop k l)) = false := by assumption
            rw [putSign_nat] at he
            have h2 := HS2.out
            rw [if_neg (by simpa using he)] at h2
            go_ret2
            rw [signAt_some hk h2]; exact ⟨by simp, hB⟩
  · have H := Lib.hid (signAt_far hr)
    by_cases h0 : i < 0
    · clear hr
      go_enter Tryd.func158, Tryd.ntmps158
      go_wp2
      go_ret2
      rw [H.out]; exact ⟨rfl, Below.refl _ _⟩
    · have h1 : ¬ i < l.length := by omega
      clear hr
      go_enter Tryd.func158, Tryd.ntmps158
      go_wp2
      go_ret2
      rw [H.out]; exact ⟨rfl, Below.refl _ _⟩
end Go.Proofs.YtkeieeogkeonfaaDoor
