/- Whether a text is right: the contracts of Signs and TextOk of the reference. -/
import Derived.Test.YtkeieeogkeonfaaGreatDoorText
namespace Go.Proofs.YtkeieeogkeonfaaGreatDoor
open Go.RowKit Go.Lib

theorem tyI : ElemTy Tryz.prog 100 3 1 8 := ElemTy.mk' Tryz.underlying100 (z := .int .i64 0) (by kernel_rfl) rfl (by decide)

theorem signAt_bd {l : List UInt8} {k : Nat} (_ : k ≤ l.length) : -1 ≤ (signAt l k).1 ∧ (signAt l k).1 ≤ 1114111 ∧ -1 ≤ (signAt l k).2 ∧ (signAt l k).2 ≤ l.length := by
  unfold signAt; split
  · rename_i h
    rw [Int.toNat_natCast]
    cases hs : sgn (l.drop k) with
    | none => simp; try omega
    | some r =>
      obtain ⟨n, m⟩ := r
      have := sgn_bd hs
      simp [List.length_drop] at this ⊢; omega
  · simp; try omega
theorem signAt_step {l : List UInt8} {k : Nat} (hk : k < l.length) : ((signAt l k).2 < 0 ∧ validD (l.drop k) = false) ∨ (∃ m : Nat, (signAt l k).2 = (k + m : Nat) ∧ 1 ≤ m ∧ k + m ≤ l.length ∧ validD (l.drop k) = validD (l.drop (k + m))) := by
  have hne : l.drop k ≠ [] := by simp; omega
  have hv := validD_sgn (l.drop k) hne
  cases hs : sgn (l.drop k) with
  | none => rw [hs] at hv; left; rw [signAt_none hs]; exact ⟨by simp, hv⟩
  | some r =>
    obtain ⟨n, m⟩ := r
    have := sgn_bd hs
    rw [hs] at hv; right; rw [signAt_some hk hs]; simp [List.length_drop, List.drop_drop] at this hv ⊢
    exact ⟨m, rfl, by omega, by omega, hv⟩

set_option maxHeartbeats 1000000 in
set_option maxRecDepth 10000 in
theorem signs_spec (l : List UInt8) (w : World) (hl : l.length ≤ 4294967295) :
    Calls Tryz.prog 80 #[.string ⟨l.toArray⟩] w fun e w' => (∃ a n c, e = .returned (.slice a n c) ∧ n ≤ 4294967295 ∧ (l ≠ [] → (decide (0 < n)) = validD l)) ∧ Below w.heap.size w w' := by
  obtain ⟨ok, hok⟩ : ∃ ok, validD l = ok := ⟨_, rfl⟩
  rw [hok]
  go_enter Tryz.func80, Tryz.ntmps80
  go_wp2
  go_loopw [3, 4] (fun v i wr => ∃ (k : Nat) (xs : List Value), k ≤ l.length ∧ i = .int .i64 k ∧ OwnR wr w.heap.size 3 v xs ∧ xs.length ≤ k ∧ (0 < k → 0 < xs.length) ∧ validD (l.drop k) = ok ∧ Below w.heap.size w wr) (fun _ i _ => l.length - (intOf i).toNat)
  case atStart => exact ⟨0, [], Nat.zero_le _, rfl, OwnR.start, by simp, by simp, by simpa using hok, (Below.refl _ _).alloc (Nat.le_refl _) _⟩
  case round =>
    obtain ⟨k, xs, hk, rfl, hown, hx1, hx2, hv, hbel⟩ := hrel
    have HV := Lib.hid hv; clear hv hok
    have hsz := hbel.size
    obtain ⟨a, c, rfl⟩ := hown.any
    by_cases hlt : k < l.length
    · have hki : i64ok k := ⟨by omega, by omega⟩
      have HB := signAt_bd (l := l) (k := k) hk
      have HS := Lib.hid (signAt_step hlt)
      obtain ⟨p, hp⟩ : ∃ p, signAt l k = p := ⟨_, rfl⟩
      have HC : Hid (∀ w, Calls Tryz.prog 96 #[.string ⟨l.toArray⟩, .int .i64 k] w fun e w' => e = .returned (.tuple #[.int .i64 p.1, .int .i64 p.2]) ∧ Below w.heap.size w w') := by
        intro w; rw [← hp]; exact getSign_spec l k w hki (by omega)
      rw [hp] at HB HS
      clear hp
      obtain ⟨p1, p2⟩ := p
      simp only at HB HS HC
      obtain ⟨HB1, HB2, HB3, HB4⟩ := HB
      by_cases hneg : p2 < 0
      · have hf : ok = false := by
          rcases HS.out with ⟨_, h2⟩ | ⟨m, h1, _⟩
          · rw [← HV.out, h2]
          · omega
        have HF := Lib.hid hf
        clear hf
        go_wp2_with (go_at_call 96; refine (HC.out _).mono ?_; rintro e w1 ⟨rfl, hb1⟩)
        go_ret
        exact ⟨⟨_, _, _, rfl, by simp, fun _ => by rw [HF.out]; rfl⟩, (below2 hbel hb1 (Nat.le_refl _)).alloc (Nat.le_trans hsz hb1.size) _⟩
      · obtain ⟨m, hm1, hm2, hm3, hm4⟩ : ∃ m : Nat, p2 = (k + m : Nat) ∧ 1 ≤ m ∧ k + m ≤ l.length ∧ validD (l.drop k) = validD (l.drop (k + m)) := by
          rcases HS.out with ⟨h1, _⟩ | h
          · omega
          · exact h
        subst hm1
        have HM := Lib.hid hm4
        clear hm4
        go_wp2_with (first | (go_at_call 96; refine (HC.out _).mono ?_; rintro e w1 ⟨rfl, hb1⟩) | (at_builtin; refine wp_appR (ys := [.int .i64 p1]) tyI rfl rfl w.heap.size ((hown.below hb1).alloc _) rfl ⟨w1.heap.size, 0, none⟩ 1 rfl (cell_one_new _ _ _) (by simp [Value.oneCell']) (by simp; omega) (by decide) (by have := hb1.size; simp; omega) ?_))
        intro v' w2 hown1 hgr _
        have hbel1 := OwnR.grown ((hown.below hb1).alloc _) ((below2 hbel hb1 (Nat.le_refl _)).alloc (Nat.le_trans hsz hb1.size) _) hgr (by have := hb1.size; simp; omega)
        clear hown hbel
        go_wp2
        go_roundw
        case rel => exact ⟨k + m, _, hm3, by go_num, hown1, by simp; omega, by simp, by rw [← HM.out]; exact HV.out, hbel1⟩
        case measure => simp [intOf]; omega
    · obtain rfl : k = l.length := by omega
      have h1 := HV.out
      rw [List.drop_length] at h1
      have HF := Lib.hid h1
      clear h1
      go_wp2
      go_ret
      exact ⟨⟨_, _, _, rfl, by omega, fun hne => by rw [← HF.out, decide_eq_true (hx2 (List.length_pos_iff.2 hne))]; rfl⟩, hbel⟩

theorem isEmpty_of {l : List UInt8} (h : l ≠ []) : l.toArray.toList.isEmpty = false := by simp [h]
set_option maxRecDepth 10000 in
theorem textOk_spec (l : List UInt8) (w : World) (hl : l.length ≤ 4294967295) :
    Calls Tryz.prog 55 #[.string ⟨l.toArray⟩] w fun e w' => e = .returned (.bool (validD l)) ∧ Below w.heap.size w w' := by
  by_cases h : l = []
  · subst h
    go_enter Tryz.func55, Tryz.ntmps55
    go_wp2
    go_ret
    exact ⟨rfl, Below.refl _ _⟩
  · have HC := Lib.hid (signs_spec l w hl)
    have h1 : l.isEmpty = false := by simpa using h
    have HN := Lib.hid h
    clear h
    go_enter Tryz.func55, Tryz.ntmps55
    go_wp2_with (go_at_call 80; refine HC.out.mono ?_; rintro e w1 ⟨⟨a, n, c, rfl, hn, hv⟩, hb1⟩; have HV := Lib.hid (hv HN.out); clear hv)
    go_ret
    exact ⟨by rw [← HV.out]; rfl, hb1⟩
end Go.Proofs.YtkeieeogkeonfaaGreatDoor
