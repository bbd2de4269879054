/- The text of a right shape: the reference's l15Text over kids, and ShapeText. -/
import Derived.Test.YtkeieeogkeonfaaDoorShTextS
namespace Go.Proofs.YtkeieeogkeonfaaDoor
open Go.RowKit

def TxM (n : Nat) : Prop := ∀ (x : Sh) (cs : List Value) (d : Int) (w : World), x.nodes ≤ n + 1 → Rd w x.d cs → x.wf → x.bulk ≤ 4294967295 → Sh.right d x = true → (x.kind' = 8 ∨ x.kind' = 9) →
  Calls Tryd.prog 54 #[.agg cs.toArray] w fun e w' => e = .returned (.string ⟨(Sh.text x).toArray⟩) ∧ Below w.heap.size w w'
set_option maxHeartbeats 1000000 in
set_option maxRecDepth 10000 in
theorem TxM_of {n : Nat} (hA : TxS n) : TxM n := by
  intro x cs d w hn h hwf hbk hrt hkind
  have hx0 := hwf
  have hr0 := h
  obtain ⟨k, lo, hi, ks, m, kids, v1, v2, rfl, rfl, hk, hkids⟩ := Sh.lay h
  replace hkind : k = 8 ∨ k = 9 := hkind
  have hnk : Sh.nodess kids ≤ n := by simp only [Sh.nodes] at hn; omega
  have hkw : Sh.wfs kids := hwf.2.2.2.2.2.2
  have hkb : kids.length + Sh.bulks kids ≤ 4294967295 := by simp only [Sh.bulk] at hbk; omega
  simp only [Sh.right, Bool.and_eq_true] at hrt
  obtain ⟨hrk, _, hself⟩ := hrt
  rw [Sh.rights_all, List.all_eq_true] at hrk
  obtain ⟨a1, c1, rfl, hgk⟩ := hk.strs
  obtain ⟨a2, c2, rfl, hg⟩ := hkids.shapes
  obtain ⟨W0, hW0⟩ : ∃ W0, W0 = w.alloc (.cells #[.int .i64 k, .int .i64 lo, .int .i64 hi, .slice a1 ks.length c1, .int .i64 m, .slice a2 kids.length c2] 29) := ⟨_, rfl⟩
  have HW := Lib.hid hW0
  have hA0 : Below w.heap.size w W0 := by rw [hW0]; exact (Below.refl _ _).alloc (Nat.le_refl _) _
  have hz : w.heap.size < W0.heap.size := by rw [hW0]; simp
  have KB : Hid (∀ W, Below W0.heap.size W0 W → W.cell? ⟨w.heap.size, 0, none⟩ = some (.int .i64 k) ∧ W.cell? ⟨w.heap.size, 1, none⟩ = some (.int .i64 lo) ∧ W.cell? ⟨w.heap.size, 2, none⟩ = some (.int .i64 hi) ∧ W.cell? ⟨w.heap.size, 3, none⟩ = some (.slice a1 ks.length c1) ∧ W.cell? ⟨w.heap.size, 4, none⟩ = some (.int .i64 m) ∧ W.cell? ⟨w.heap.size, 5, none⟩ = some (.slice a2 kids.length c2)) := by
    intro W hb
    obtain ⟨hc, _⟩ := bcell hb
    simp only [hc _ _ hz]; subst hW0; simp
  have hB := Below.refl W0.heap.size W0
  have hks : k = 8 → ks.length = kids.length := fun e => by subst e; exact (Sh.self8 hself).1
  have hmr : i64ok m := hwf.2.2.2.2.1
  have hbk' : (ks.length + ssBulk ks) + (kids.length + Sh.bulks kids) ≤ 4294967295 := by simpa only [Sh.bulk] using hbk
  have hJL := fun j => Sh.joins_le (k := k) (m := m) hkw hbk' j
  obtain ⟨res, hres⟩ : ∃ res, Lib.join (Sh.texts k ks m 0 kids) sep2 = res := ⟨_, rfl⟩
  have hrl : res.length ≤ 1099511627776 := by rw [← hres]; have := hJL kids.length; rwa [List.take_length] at this
  have HT := Lib.hid (show Sh.text (.mk k lo hi ks m kids) = shWord k ++ ((40 : UInt8) :: (res ++ [41])) by
    have hb : hasBd k = false := by rcases hkind with rfl | rfl <;> rfl
    rw [Sh.text, hb, shWrap_self ?_, ← hres]; rfl
    rcases hkind with e | e
    · exact .inr e
    · left; subst e; simp only [Sh.self] at hself; rw [if_neg (by decide), if_neg (by decide), if_neg (by decide), if_pos trivial] at hself
      simp only [Bool.and_eq_true, decide_eq_true_eq] at hself
      intro hh; have := congrArg List.length hh; simp [Sh.texts_length] at this; have := hself.2.2.2.2; simp_all)
  rw [HT.out]
  have HJL := Lib.hid hJL
  have hrk' := hrk
  clear hW0 h hr0 hk hkids hself hrk hJL
  obtain ⟨p0, p1, p2, p3, p4, p5⟩ := KB.out _ hB
  have hm1 := hmr.1
  have hm2 := hmr.2
  have k89 : ¬ k = 0 ∧ ¬ k = 1 ∧ ¬ k = 2 ∧ ¬ k = 4 ∧ ¬ k = 3 ∧ ¬ k = 5 ∧ ¬ k = 6 ∧ ¬ k = 7 := by omega
  have kb : (k == 0) = false ∧ (k == 1) = false ∧ (k == 2) = false ∧ (k == 4) = false ∧ (k == 3) = false ∧ (k == 5) = false ∧ (k == 6) = false ∧ (k == 7) = false := by simpa using k89
  clear k89
  obtain ⟨k0, k1, k2, k4, k3, k5, k6, k7⟩ := kb
  have hWD := Lib.hid (show (k = 8 → shWord k = [109, 97, 112]) ∧ (k = 9 → shWord k = [111, 110, 101]) from ⟨fun e => by subst e; rfl, fun e => by subst e; rfl⟩)
  go_enter Tryd.func54, Tryd.ntmps54
  go_wp2_with fail
  rw [← HW.out]
  go_loopw [3, 4] (fun o i wr => ∃ (j : Nat) (jl : List UInt8), j ≤ kids.length ∧ i = .int .i64 j ∧ o = .string ⟨jl.toArray⟩ ∧ jl = Lib.join (Sh.texts k ks m 0 (kids.take j)) sep2 ∧ Below W0.heap.size W0 wr) (fun _ i _ => kids.length - (intOf i).toNat)
  case atStart => exact ⟨0, [], Nat.zero_le _, rfl, rfl, by simp [Sh.texts, Lib.join_nil], hB⟩
  case round =>
    obtain ⟨j, jl, hj, rfl, rfl, hjl, hbel⟩ := hrel
    have HJ := Lib.hid hjl
    have hjl2 : jl.length ≤ 1099511627776 := by rw [hjl]; exact HJL.out j
    clear hjl
    clear p0 p1 p2 p3 p4 p5
    obtain ⟨p0, p1, p2, p3, p4, p5⟩ := KB.out _ hbel
    by_cases hlt : j < kids.length
    · obtain ⟨_, _, b, o, rfl, hb, hcell⟩ := hg (by intro e; rw [e] at hlt; simp at hlt)
      obtain ⟨v0, v1, v2, v3, v4, v5, hr, d0, d1, d2, d3, d4, d5⟩ := hcell j hlt
      clear hcell hg
      obtain ⟨k1', k2', k3', a4, n4, m4, k5', a6, n6, m6, hcs⟩ := Sh.form hr
      simp only [List.cons.injEq, and_true] at hcs
      obtain ⟨rfl, rfl, rfl, rfl, rfl, rfl⟩ := hcs
      have hbw := below2 hA0 hbel (Nat.le_refl _)
      have hbc := (bcell hbw).1
      rw [← hbc _ _ hb] at d0 d1 d2 d3 d4 d5
      have i1 : (0 : Int) ≤ j := by omega
      have i2 : (j : Int) < kids.length := by omega
      have hn0 := Sh.nodes_get kids j hlt
      have hb0 := Sh.bulk_get' hkb j hlt
      have hw0 := Sh.wfs_get hkw j hlt
      have hkl := Sh.text_len' hw0 hb0
      have HC := Lib.hid (hA kids[j] _ (d - 1) wr (by omega) (hr.below hbw) hw0 hb0 (hrk' _ (List.getElem_mem hlt)))
      obtain ⟨tx, htx⟩ : ∃ tx, Sh.text kids[j] = tx := ⟨_, rfl⟩
      rw [htx] at HC hkl
      have HP : Hid (Lib.join (Sh.texts k ks m 0 (kids.take (j + 1))) sep2 = (if j = 0 then [] else jl ++ [44, 32]) ++ (if k = 8 then ks.getD j [] ++ (shMark m j ++ tx) else tx)) := by
        show _ = _
        by_cases hj0 : j = 0
        · subst hj0; rw [Sh.joins_zero k ks m kids hlt, if_pos rfl, Sh.part, htx]; rfl
        · rw [Sh.joins_succ k ks m kids j hlt (by omega), if_neg hj0, ← HJ.out, Sh.part, htx]; simp
      clear hn0 hb0 hw0 htx hr hbc hkw hkb
      by_cases k8 : k = 8
      · have hkj : j < ks.length := by rw [hks k8]; exact hlt
        obtain ⟨_, _, bk, ok, rfl, hbk2, hkc⟩ := hgk (by intro e; rw [e] at hkj; simp at hkj)
        have e0 := hkc j hkj
        rw [← (bcell hbw).1 _ _ hbk2] at e0
        have hkl2 : ks[j].length ≤ 4294967295 := by have := ssBulk_snoc ks j hkj; have := ssBulk_take ks (j + 1); omega
        have i3 : (j : Int) < ks.length := by omega
        have HP2 := Lib.hid (show Lib.join (Sh.texts k ks m 0 (kids.take (j + 1))) sep2 = (if j = 0 then [] else jl ++ [44, 32]) ++ (ks[j] ++ (shMark m j ++ tx)) by
          rw [HP.out, if_pos k8]; simp [List.getD_eq_getElem?_getD, hkj])
        obtain ⟨kj, hkj'⟩ : ∃ kj, ks[j] = kj := ⟨_, rfl⟩
        rw [hkj'] at e0 hkl2 HP2
        subst k8
        clear hkc hgk HP hkj' hks hkind
        by_cases hj0 : j = 0
        · rw [if_pos hj0] at HP2
          have hjn : jl = [] := by rw [HJ.out, hj0]; simp [Sh.texts, Lib.join_nil]
          have i4 : ¬ (0 : Int) < j := by omega
          subst hjn
          clear hj0
          by_cases hmj : m ≤ j
          · have HM := Lib.hid (show shMark m j = [63, 58, 32] by unfold shMark; rw [if_pos hmj])
            go_wp2_with (go_at_call 54; refine HC.out.mono ?_; rintro e1 w1 ⟨rfl, hb1⟩)
            go_roundw
            case rel => exact ⟨j + 1, _, by omega, by go_num, rfl, by rw [HP2.out, HM.out]; simp, below2 hbel hb1 (Nat.le_refl _)⟩
            case measure => simp [intOf]; omega
          · have HM := Lib.hid (show shMark m j = [58, 32] by unfold shMark; rw [if_neg hmj])
            go_wp2_with (go_at_call 54; refine HC.out.mono ?_; rintro e1 w1 ⟨rfl, hb1⟩)
            go_roundw
            case rel => exact ⟨j + 1, _, by omega, by go_num, rfl, by rw [HP2.out, HM.out]; simp, below2 hbel hb1 (Nat.le_refl _)⟩
            case measure => simp [intOf]; omega
        · rw [if_neg hj0] at HP2
          have i4 : (0 : Int) < j := by omega
          clear hj0
          by_cases hmj : m ≤ j
          · have HM := Lib.hid (show shMark m j = [63, 58, 32] by unfold shMark; rw [if_pos hmj])
            go_wp2_with (go_at_call 54; refine HC.out.mono ?_; rintro e1 w1 ⟨rfl, hb1⟩)
            go_roundw
            case rel => exact ⟨j + 1, _, by omega, by go_num, rfl, by rw [HP2.out, HM.out]; simp, below2 hbel hb1 (Nat.le_refl _)⟩
            case measure => simp [intOf]; omega
          · have HM := Lib.hid (show shMark m j = [58, 32] by unfold shMark; rw [if_neg hmj])
            go_wp2_with (go_at_call 54; refine HC.out.mono ?_; rintro e1 w1 ⟨rfl, hb1⟩)
            go_roundw
            case rel => exact ⟨j + 1, _, by omega, by go_num, rfl, by rw [HP2.out, HM.out]; simp, below2 hbel hb1 (Nat.le_refl _)⟩
            case measure => simp [intOf]; omega
      · have HP2 := Lib.hid (show Lib.join (Sh.texts k ks m 0 (kids.take (j + 1))) sep2 = (if j = 0 then [] else jl ++ [44, 32]) ++ tx by rw [HP.out, if_neg k8])
        clear HP
        by_cases hj0 : j = 0
        · rw [if_pos hj0] at HP2
          have hjn : jl = [] := by rw [HJ.out, hj0]; simp [Sh.texts, Lib.join_nil]
          have i4 : ¬ (0 : Int) < j := by omega
          subst hjn
          clear hj0
          go_wp2_with (go_at_call 54; refine HC.out.mono ?_; rintro e1 w1 ⟨rfl, hb1⟩)
          go_roundw
          case rel => exact ⟨j + 1, _, by omega, by go_num, rfl, by rw [HP2.out]; simp, below2 hbel hb1 (Nat.le_refl _)⟩
          case measure => simp [intOf]; omega
        · rw [if_neg hj0] at HP2
          have i4 : (0 : Int) < j := by omega
          clear hj0
          go_wp2_with (go_at_call 54; refine HC.out.mono ?_; rintro e1 w1 ⟨rfl, hb1⟩)
          go_roundw
          case rel => exact ⟨j + 1, _, by omega, by go_num, rfl, by rw [HP2.out]; simp, below2 hbel hb1 (Nat.le_refl _)⟩
          case measure => simp [intOf]; omega
    · obtain rfl : j = kids.length := by omega
      have hjr : jl = res := by rw [HJ.out, List.take_length, hres]
      subst hjr
      by_cases k8 : k = 8
      · have HWD := Lib.hid (hWD.out.1 k8)
        go_wp2
        go_ret
        exact ⟨ret_str (by rw [HWD.out]; simp), below2 hA0 hbel (Nat.le_refl _)⟩
      · have HWD := Lib.hid (hWD.out.2 (by omega))
        go_wp2
        go_ret
        exact ⟨ret_str (by rw [HWD.out]; simp), below2 hA0 hbel (Nat.le_refl _)⟩
theorem TxS_of {n : Nat} (hA : TxS n) : TxS (n + 1) := by
  intro x cs d w hn h hwf hbk hrt
  have hs : x.self = true := by obtain ⟨k, lo, hi, ks, m, kids⟩ := x; simp only [Sh.right, Bool.and_eq_true] at hrt; exact hrt.2.2
  by_cases q1 : x.kind' = 0 ∨ x.kind' = 1 ∨ x.kind' = 2 ∨ x.kind' = 4
  · exact TxP_of x cs d w hn h hwf hbk hrt q1
  by_cases q2 : x.kind' = 3 ∨ x.kind' = 5 ∨ x.kind' = 6
  · exact TxB_of x cs d w hn h hwf hbk hrt q2
  by_cases q3 : x.kind' = 7
  · exact TxL_of hA x cs d w hn h hwf hbk hrt q3
  by_cases q4 : x.kind' = 8 ∨ x.kind' = 9
  · exact TxM_of hA x cs d w hn h hwf hbk hrt q4
  exfalso
  obtain ⟨k, lo, hi, ks, m, kids⟩ := x
  simp only [Sh.kind'] at q1 q2 q3 q4
  simp only [Sh.self] at hs
  rw [if_neg (fun e => q4 (.inl e)), if_neg q2, if_neg q3, if_neg (fun e => q4 (.inr e)), if_neg q1] at hs
  cases hs
theorem TxS_all : ∀ n, TxS n
  | 0 => fun x cs d w hn => absurd x.nodes_pos (by omega)
  | n + 1 => TxS_of (TxS_all n)

set_option maxHeartbeats 400000 in
set_option maxRecDepth 10000 in
theorem shapeText_spec (x : Sh) (cs : List Value) (w : World) (h : Rd w x.d cs) (hwf : x.wf) (hbk : x.bulk ≤ 4294967295) :
    Calls Tryd.prog 22 #[.agg cs.toArray] w fun e w' => e = .returned (.string ⟨(Sh.shown x).toArray⟩) ∧ Below w.heap.size w w' := by
  obtain ⟨k, l, hi, a1, n1, c1, m, a2, n2, c2, rfl⟩ := Sh.form h
  obtain ⟨W0, hW0⟩ : ∃ W0, W0 = w.alloc (.cells #[.int .i64 k, .int .i64 l, .int .i64 hi, .slice a1 n1 c1, .int .i64 m, .slice a2 n2 c2] 29) := ⟨_, rfl⟩
  have HW := Lib.hid hW0
  have hA : Below w.heap.size w W0 := by rw [hW0]; exact (Below.refl _ _).alloc (Nat.le_refl _) _
  have hz : w.heap.size < W0.heap.size := by rw [hW0]; simp
  have KB : Hid (∀ W, Below W0.heap.size W0 W → W.cell? ⟨w.heap.size, 0, none⟩ = some (.int .i64 k) ∧ W.cell? ⟨w.heap.size, 1, none⟩ = some (.int .i64 l) ∧ W.cell? ⟨w.heap.size, 2, none⟩ = some (.int .i64 hi) ∧ W.cell? ⟨w.heap.size, 3, none⟩ = some (.slice a1 n1 c1) ∧ W.cell? ⟨w.heap.size, 4, none⟩ = some (.int .i64 m) ∧ W.cell? ⟨w.heap.size, 5, none⟩ = some (.slice a2 n2 c2)) := by
    intro W hb
    obtain ⟨hc, _⟩ := bcell hb
    simp only [hc _ _ hz]; subst hW0; simp
  have hB := Below.refl W0.heap.size W0
  have HO := fun W (hb : Below W0.heap.size W0 W) => Lib.hid (shapeOk_spec x _ W (h.below (below2 hA hb (Nat.le_refl _))) hwf hbk)
  cases hv : x.ok with
  | true =>
    have HV := Lib.hid hv
    have hrt : Sh.right 8 x = true := by unfold Sh.ok at hv; rw [Bool.and_eq_true] at hv; exact hv.1
    have HX := fun W (hb : Below W0.heap.size W0 W) => Lib.hid (TxS_all x.nodes x _ 8 W (Nat.le_refl _) (h.below (below2 hA hb (Nat.le_refl _))) hwf hbk hrt)
    rw [show Sh.shown x = Sh.text x by unfold Sh.shown; rw [hv, if_pos rfl]]
    clear hW0 h hv
    obtain ⟨p0, p1, p2, p3, p4, p5⟩ := KB.out _ hB
    go_enter Tryd.func22, Tryd.ntmps22
    go_wp2_with fail
    rw [← HW.out]
    go_wp2_with (first | (go_at_call 30; refine (HO _ hB).out.mono ?_; rw [HV.out]; rintro e1 w1 ⟨rfl, hb1⟩; obtain ⟨q0, q1, q2, q3, q4, q5⟩ := KB.out _ hb1) | (go_at_call 54; refine (HX _ hb1).out.mono ?_; rintro e1 w2 ⟨rfl, hb2⟩))
    go_ret
    exact ⟨rfl, below2 hA (below2 hb1 hb2 (Nat.le_refl _)) (Nat.le_refl _)⟩
  | false =>
    have HV := Lib.hid hv
    rw [show Sh.shown x = [] by unfold Sh.shown; rw [hv]; rfl]
    clear hW0 h hv
    obtain ⟨p0, p1, p2, p3, p4, p5⟩ := KB.out _ hB
    go_enter Tryd.func22, Tryd.ntmps22
    go_wp2_with fail
    rw [← HW.out]
    go_wp2_with (go_at_call 30; refine (HO _ hB).out.mono ?_; rw [HV.out]; rintro e1 w1 ⟨rfl, hb1⟩)
    go_ret
    exact ⟨rfl, below2 hA hb1 (Nat.le_refl _)⟩
end Go.Proofs.YtkeieeogkeonfaaDoor
