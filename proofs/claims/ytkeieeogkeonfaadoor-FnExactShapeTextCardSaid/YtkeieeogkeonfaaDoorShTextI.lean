/- The text of a right shape: the program's shapeText. -/
import Derived.Test.YtkeieeogkeonfaaDoorShTextS
import Derived.Test.YtkeieeogkeonfaaDoorShapeForm
import Derived.Test.YtkeieeogkeonfaaDoorStep
import Derived.Test.YtkeieeogkeonfaaDoorTree
import Derived.Deep.RegionHeld3
import Derived.Deep.RegionWith
import Derived.Deep.DeepCutAuto
import Derived.Test.YtkeieeogkeonfaaDoorPrefS0
namespace Go.Proofs.YtkeieeogkeonfaaDoor
open Go.RowKit

def shWordText : List UInt8 := [97, 110, 121, 32, 110, 117, 108, 108, 32, 98, 111, 111, 108, 32, 105, 110, 116, 32, 110, 117, 109, 32, 116, 101, 120, 116, 32, 98, 121, 116, 101, 115, 32, 108, 105, 115, 116, 32, 109, 97, 112, 32, 111, 110, 101]
theorem words_count : Lib.countB ⟨shWordText.toArray⟩ ⟨#[32]⟩ = 9 := by kernel_rfl
theorem words_split : Lib.splitB ⟨#[32]⟩ 0 9 ⟨shWordText.toArray⟩ = shWords.map fun l => ⟨l.toArray⟩ := by kernel_rfl
/-- the cell that tells how long a text is for which the library looks by another road -/
def MaxCell (m : Int) (w : World) : Prop := w.cell? ⟨2, 0, none⟩ = some (.int .i64 m)
theorem MaxCell.lt {m : Int} {w : World} (h : MaxCell m w) : 2 < w.heap.size := cell_lt h
theorem MaxCell.below {m : Int} {w w' : World} (h : MaxCell m w) (hb : Below w.heap.size w w') : MaxCell m w' := by unfold MaxCell; rw [(bcell hb).1 _ _ h.lt]; exact h

set_option maxHeartbeats 400000 in
theorem shapeWords_any (m : Int) (w : World) (hm : MaxCell m w) :
    Calls Tryd.prog 85 #[] w fun e w' => e = .returned (.slice (some ⟨w.heap.size, 0, none⟩) 10 10) ∧ Below w.heap.size w w' ∧ ∀ k (h : k < 10), w'.cell? ⟨w.heap.size, k, none⟩ = some (.string ⟨(shWords.getD k []).toArray⟩) := by
  have hS := Tryd.strings_Split ⟨shWordText.toArray⟩ ⟨#[32]⟩ m w (by decide) hm (by decide)
  rw [words_count, words_split] at hS
  go_enter Tryd.func85, Tryd.ntmps85
  go_wp2_with (go_at_call 115; refine hS.mono ?_; rintro e w' ⟨rfl, rfl⟩)
  go_ret
  refine ⟨rfl, (Below.refl _ _).alloc (Nat.le_refl _) _, fun k hk => ?_⟩
  have : k = 0 ∨ k = 1 ∨ k = 2 ∨ k = 3 ∨ k = 4 ∨ k = 5 ∨ k = 6 ∨ k = 7 ∨ k = 8 ∨ k = 9 := by omega
  rcases this with rfl | rfl | rfl | rfl | rfl | rfl | rfl | rfl | rfl | rfl <;> simp [shWords]

theorem OwnR.row {w : World} {B e : Nat} {v : Value} {xs : List Value} (h : OwnR w B e v xs) (hne : xs ≠ []) : ∃ g c, v = .slice (some ⟨g, 0, none⟩) xs.length c ∧ xs.length ≤ c ∧ g < w.heap.size ∧ ∀ j x, xs[j]? = some x → w.cell? ⟨g, j, none⟩ = some x := by
  have h0 := h
  rcases h.2 with ⟨_, h2⟩ | ⟨g, cap, cur, h1, h2, h3, h4, _⟩
  · exact absurd (List.length_eq_zero_iff.1 h2) hne
  · refine ⟨g, cap, h1, h4, heap_lt h3, fun j x hj => ?_⟩
    have := h0.cells g (by rw [h1]; rfl) j x hj
    rwa [add_plain, Nat.zero_add] at this

theorem join_any (ps : List (List UInt8)) (v : Value) (B : Nat) (w : World) (h : OwnR w B 9 v (ps.map strV)) (hl : ps.length ≤ 4294967296) (hj : (Lib.join ps sep2).length ≤ 1099511627776) :
    Calls Tryd.prog 86 #[v, .string ⟨#[44, 32]⟩] w fun e w' => e = .returned (.string ⟨(Lib.join ps sep2).toArray⟩) ∧ Below w.heap.size w w' := by
  by_cases hne : ps = []
  · subst hne
    obtain ⟨a, c, rfl⟩ := h.any
    refine (Tryd.strings_Join_none a c ⟨#[44, 32]⟩ w).mono ?_
    rintro e w' ⟨rfl, rfl⟩
    exact ⟨rfl, Below.refl _ _⟩
  · obtain ⟨g, c, rfl, hc, hg, hcell⟩ := h.row (by simpa using hne)
    have hm : ((ps.map fun l => (⟨l.toArray⟩ : ByteArray)).map fun b => b.data.toList) = ps := by rw [List.map_map]; exact List.map_id ps
    have H := Tryd.strings_Join g 0 c (ps.map fun l => (⟨l.toArray⟩ : ByteArray)) ⟨#[44, 32]⟩ w (fun j x hx => by
      rw [List.getElem?_map] at hx
      cases hp : ps[j]? with
      | none => rw [hp] at hx; cases hx
      | some l =>
        rw [hp] at hx; simp at hx; subst hx
        have := hcell j (strV l) (by rw [List.getElem?_map, hp]; rfl)
        rw [Nat.zero_add]; exact this) hg (by simp; omega) (by simpa using hc) (by rw [hm]; exact Nat.le_trans hj (by decide))
    rw [hm] at H
    rw [List.length_map] at H ⊢
    exact H

def TxI (n : Nat) : Prop := ∀ (x : Sh) (cs : List Value) (d M : Int) (w : World), x.nodes ≤ n → Rd w x.d cs → x.wf → x.bulk ≤ 4294967295 → Sh.right d x = true → TenTab w → MaxCell M w →
  Calls Tryd.prog 55 #[.agg cs.toArray] w fun e w' => e = .returned (.string ⟨(Sh.text x).toArray⟩) ∧ Below w.heap.size w w'

theorem Sh.self_kind {k lo hi m : Int} {ks : List (List UInt8)} {kids : List Sh} (h : Sh.self (.mk k lo hi ks m kids) = true) : 0 ≤ k ∧ k ≤ 9 := by
  simp only [Sh.self] at h
  by_cases h1 : k = 8
  · omega
  rw [if_neg h1] at h
  by_cases h2 : k = 3 ∨ k = 5 ∨ k = 6
  · omega
  rw [if_neg h2] at h
  by_cases h3 : k = 7
  · omega
  rw [if_neg h3] at h
  by_cases h4 : k = 9
  · omega
  rw [if_neg h4] at h
  by_cases h5 : k = 0 ∨ k = 1 ∨ k = 2 ∨ k = 4
  · omega
  rw [if_neg h5] at h; cases h

set_option maxHeartbeats 16000000 in
set_option maxRecDepth 10000 in
theorem TxI_of {n : Nat} (hA : TxI n) : TxI (n + 1) := by
  intro x cs d M w hn h hwf hbk hrt hTT hMC
  obtain ⟨k, lo, hi, ks, m, kids, v1, v2, rfl, rfl, hk, hkids⟩ := Sh.lay h
  have hnk : Sh.nodess kids ≤ n := by simp only [Sh.nodes] at hn; omega
  have hkw : Sh.wfs kids := hwf.2.2.2.2.2.2
  have hkb : kids.length + Sh.bulks kids ≤ 4294967295 := by simp only [Sh.bulk] at hbk; omega
  simp only [Sh.right, Bool.and_eq_true] at hrt
  obtain ⟨hrk, _, hself⟩ := hrt
  rw [Sh.rights_all, List.all_eq_true] at hrk
  obtain ⟨a1, c1, rfl, hgk⟩ := hk.strs
  obtain ⟨a2, c2, rfl, hg⟩ := hkids.shapes
  obtain ⟨kn, hkn⟩ : ∃ kn : Nat, k = kn := ⟨k.toNat, by have := Sh.self_kind hself; omega⟩
  have hk9 : kn < 10 := by have := Sh.self_kind hself; omega
  subst hkn
  obtain ⟨W0, hW0⟩ : ∃ W0, W0 = w.alloc (.cells #[.int .i64 kn, .int .i64 lo, .int .i64 hi, .slice a1 ks.length c1, .int .i64 m, .slice a2 kids.length c2] 29) := ⟨_, rfl⟩
  have HW := Lib.hid hW0
  have hA0 : Below w.heap.size w W0 := by rw [hW0]; exact (Below.refl _ _).alloc (Nat.le_refl _) _
  have hz : w.heap.size < W0.heap.size := by rw [hW0]; simp
  have KB : Hid (∀ W, Below W0.heap.size W0 W → W.cell? ⟨w.heap.size, 0, none⟩ = some (.int .i64 kn) ∧ W.cell? ⟨w.heap.size, 1, none⟩ = some (.int .i64 lo) ∧ W.cell? ⟨w.heap.size, 2, none⟩ = some (.int .i64 hi) ∧ W.cell? ⟨w.heap.size, 3, none⟩ = some (.slice a1 ks.length c1) ∧ W.cell? ⟨w.heap.size, 4, none⟩ = some (.int .i64 m) ∧ W.cell? ⟨w.heap.size, 5, none⟩ = some (.slice a2 kids.length c2)) := by
    intro W hb
    obtain ⟨hc, _⟩ := bcell hb
    simp only [hc _ _ hz]; subst hW0; simp
  have HTT := Lib.hid (fun W (hb : Below W0.heap.size W0 W) => hTT.below (below2 hA0 hb (Nat.le_refl _)))
  have HMC := Lib.hid (fun W (hb : Below W0.heap.size W0 W) => hMC.below (below2 hA0 hb (Nat.le_refl _)))
  have HWD := Lib.hid (fun W (hb : Below W0.heap.size W0 W) => shapeWords_any M W (HMC.out W hb))
  have hB := Below.refl W0.heap.size W0
  have hk0 : (0 : Int) ≤ kn := by omega
  have hk1 : (kn : Int) < 10 := by omega
  clear hW0 h hk hkids
  go_enter Tryd.func55, Tryd.ntmps55
  go_upto_region 1 with fail
  rw [← HW.out]
  go_cut [3] (fun s3 wx => s3 = .string ⟨(shWord kn).toArray⟩ ∧ Below W0.heap.size W0 wx)
  case first =>
    obtain ⟨p0, p1, p2, p3, p4, p5⟩ := KB.out _ hB
    go_region_with (go_at_call 85; refine (HWD.out _ (by first | exact hB | exact hB.drew)).mono ?_; rintro e1 w1 ⟨rfl, hb1, hcw⟩; have cw : w1.cell? ⟨W0.heap.size, kn, none⟩ = some (.string ⟨(shWord kn).toArray⟩) := hcw kn hk9; clear hcw; obtain ⟨q0, q1, q2, q3, q4, q5⟩ := KB.out _ (below2 (by first | exact hB | exact hB.drew) hb1 (Nat.le_refl _)))
    all_goals (go_wp2_with fail; go_meet; exact ⟨rfl, below2 (by first | exact hB | exact hB.drew) hb1 (Nat.le_refl _)⟩)
  case rest =>
    obtain ⟨rfl, hB1⟩ := hcut
    obtain ⟨p0, p1, p2, p3, p4, p5⟩ := KB.out _ hB1
    have hz1 : w.heap.size < wc.heap.size := Nat.lt_of_lt_of_le hz hB1.size
    go_upto_if 17 with (go_at_call 68; refine (hasBounds_any _ _).mono ?_; rintro e1 w1 ⟨rfl, rfl⟩)
    go_cut [4] (fun s4 wx => OwnR wx W0.heap.size 9 s4 ((if hasBd kn then [bnd lo hi] else []).map strV) ∧ Below W0.heap.size W0 wx)
    case first =>
      have hBc : Below W0.heap.size W0 (wc.alloc (.cells #[] 9)) := hB1.alloc hB1.size _
      have hst : OwnR (wc.alloc (.cells #[] 9)) W0.heap.size 9 (.slice (some ⟨wc.heap.size, 0, none⟩) 0 0) [] := by
        have := OwnR.start (w := wc) (e := 9)
        exact ⟨this.1, this.2.imp id fun ⟨g, c, cur, h1, h2, h3⟩ => ⟨g, c, cur, h1, Nat.le_trans hB1.size h2, h3⟩⟩
      have HST := Lib.hid hst
      clear hst
      cases hb : hasB kn with
      | false =>
        have HB := Lib.hid (show hasBd kn = false from hb)
        go_wp2_with fail
        go_meet
        exact ⟨by rw [HB.out]; exact HST.out, hBc⟩
      | true =>
        have HB := Lib.hid (show hasBd kn = true from hb)
        have q1 := Lib.itoa_length_le lo hwf.2.1.1 hwf.2.1.2
        have q2 := Lib.itoa_length_le hi hwf.2.2.1.1 hwf.2.2.1.2
        have HD1 := fun W hW => Lib.hid (decText_impl lo W hwf.2.1 hW)
        have HD2 := fun W hW => Lib.hid (decText_impl hi W hwf.2.2.1 hW)
        obtain ⟨t1, ht1⟩ : ∃ t, Lib.itoa lo = t := ⟨_, rfl⟩
        obtain ⟨t2, ht2⟩ : ∃ t, Lib.itoa hi = t := ⟨_, rfl⟩
        have HT := Lib.hid (show bnd lo hi = t1 ++ ([46, 46] ++ t2) by unfold bnd; rw [ht1, ht2])
        rw [ht1] at HD1 q1
        rw [ht2] at HD2 q2
        have L1 : ¬ 9223372036854775807 < t1.length + 2 := by omega
        have L2 : ¬ 9223372036854775807 < t1.length + 2 + t2.length := by omega
        clear ht1 ht2 p0 p1 p2 p3 p4 p5
        obtain ⟨WC, hWC⟩ : ∃ WC, WC = wc.alloc (.cells #[] 9) := ⟨_, rfl⟩
        have HWC := Lib.hid hWC
        have hzc : wc.heap.size + 1 = WC.heap.size := by rw [hWC]; simp
        rw [← hWC] at hBc HST
        clear hWC
        go_wp2_with fail
        rw [← HWC.out]
        have hC := Below.refl WC.heap.size WC
        go_region_held3 (fun W => W.cell? ⟨w.heap.size, 1, none⟩ = some (.int .i64 lo) ∧ W.cell? ⟨w.heap.size, 2, none⟩ = some (.int .i64 hi))
          (first | (obtain ⟨r0, r1, r2, r3, r4, r5⟩ := KB.out _ (below2 hBc hC (Nat.le_refl _)); exact ⟨r1, r2⟩) | (obtain ⟨r0, r1, r2, r3, r4, r5⟩ := KB.out _ (below2 hBc hC.drew (Nat.le_refl _)); exact ⟨r1, r2⟩) | (obtain ⟨r0, r1, r2, r3, r4, r5⟩ := KB.out _ (below2 hBc (hC.alloc hC.size _) (Nat.le_refl _)); exact ⟨r1, r2⟩) | (obtain ⟨r0, r1, r2, r3, r4, r5⟩ := KB.out _ (below2 hBc (hC.drew.alloc (by simpa using hC.size) _) (Nat.le_refl _)); exact ⟨r1, r2⟩) | (obtain ⟨r0, r1, r2, r3, r4, r5⟩ := KB.out _ hgrB; exact ⟨r1, r2⟩))
          (first
            | (go_at_call 82; with_reducible refine (HD1 _ (HTT.out _ (below2 hBc (by first | exact hC | exact hC.drew) (Nat.le_refl _)))).out.mono ?_; rintro e1 w1 ⟨rfl, hb1⟩; replace hC := below2 (by first | exact hC | exact hC.drew) hb1 (Nat.le_refl _))
            | (go_at_call 82; with_reducible refine (HD2 _ (HTT.out _ (below2 hBc (by first | exact hC | exact hC.drew) (Nat.le_refl _)))).out.mono ?_; rintro e1 w1 ⟨rfl, hb1⟩; replace hC := below2 (by first | exact hC | exact hC.drew) hb1 (Nat.le_refl _))
            | (refine step_appR (ys := [.string ⟨(t1 ++ ([46, 46] ++ t2)).toArray⟩]) tyStr rfl rfl W0.heap.size ((OwnR.below HST.out hC).alloc _) rfl ⟨_, 0, none⟩ 1 rfl cell_one_of (by simp [Value.oneCell']) (by simp) (by simp) (by decide) (by first | (simp; have := hC.size; have := hBc.size; omega)) ?_; intro v' w2 hown hgr; have hgrB := OwnR.grown ((OwnR.below HST.out hC).alloc _) ((below2 hBc hC (Nat.le_refl _)).alloc (by have := hC.size; have := hBc.size; omega) _) hgr (by simp; have := hC.size; have := hBc.size; omega)))
        go_wp2_with fail
        go_meet
        refine ⟨by rw [HB.out, HT.out]; exact hown, hgrB⟩
    case rest =>
      obtain ⟨hown, hB2⟩ := hcut
      obtain ⟨pre, hpre⟩ : ∃ pre : List (List UInt8), (if hasBd kn then [bnd lo hi] else []) = pre := ⟨_, rfl⟩
      rw [hpre] at hown
      have hpl : pre.length ≤ 1 := by rw [← hpre]; split <;> simp
      have HPRE := Lib.hid (show Sh.text (.mk kn lo hi ks m kids) = shWrap kn (pre ++ Sh.texts kn ks m 0 kids) by rw [← hpre]; rfl)
      have hbk' : (ks.length + ssBulk ks) + (kids.length + Sh.bulks kids) ≤ 4294967295 := by simpa only [Sh.bulk] using hbk
      have HKS : Hid (kn = 8 → ks.length = kids.length) := fun e => by subst e; exact (Sh.self8 hself).1
      have hm1 := hwf.2.2.2.2.1.1
      have hm2 := hwf.2.2.2.2.1.2
      have htl := Sh.text_len' hwf hbk
      rw [HPRE.out] at htl
      clear hpre p0 p1 p2 p3 p4 p5 hself hwf hbk
      by_cases k8 : kn = 8
      · subst k8
        simp only [Int.cast_ofNat_Int] at *
        obtain ⟨p0, p1, p2, p3, p4, p5⟩ := KB.out _ hB2
        go_wp2_with fail
        go_loopw [4, 32] (fun v i wr => ∃ j : Nat, j ≤ kids.length ∧ i = .int .i64 j ∧ OwnR wr W0.heap.size 9 v ((pre ++ Sh.texts 8 ks m 0 (kids.take j)).map strV) ∧ Below W0.heap.size W0 wr) (fun _ i _ => kids.length - (intOf i).toNat)
        case atStart => exact ⟨0, Nat.zero_le _, rfl, by simpa [Sh.texts] using hown, hB2⟩
        case round =>
          clear hown hB2 p0 p1 p2 p3 p4 p5
          obtain ⟨j, hj, rfl, hown, hbel⟩ := hrel
          obtain ⟨xs, hxs⟩ : ∃ xs, (pre ++ Sh.texts 8 ks m 0 (kids.take j)).map strV = xs := ⟨_, rfl⟩
          have hxl : xs.length ≤ 1 + j := by rw [← hxs, List.length_map, List.length_append, Sh.texts_length, List.length_take]; omega
          rw [hxs] at hown
          obtain ⟨av, cv, rfl⟩ := hown.any
          by_cases hlt : j < kids.length
          · have HXS := Lib.hid hxs
            obtain ⟨_, _, b, o, rfl, hb, hcell⟩ := hg (by intro e; rw [e] at hlt; simp at hlt)
            obtain ⟨v0, v1, v2, v3, v4, v5, hr, d0, d1, d2, d3, d4, d5⟩ := hcell j hlt
            clear hcell hg hxs
            obtain ⟨k1', k2', k3', a4, n4, m4, k5', a6, n6, m6, hcs⟩ := Sh.form hr
            simp only [List.cons.injEq, and_true] at hcs
            obtain ⟨rfl, rfl, rfl, rfl, rfl, rfl⟩ := hcs
            have hbw := below2 hA0 hbel (Nat.le_refl _)
            have hbc := (bcell hbw).1
            rw [← hbc _ _ hb] at d0 d1 d2 d3 d4 d5
            have hxl2 : xs.length + 1 ≤ 4294967296 := by omega
            clear hxl
            have i1 : (0 : Int) ≤ j := by omega
            have i2 : (j : Int) < kids.length := by omega
            have hn0 := Sh.nodes_get kids j hlt
            have hb0 := Sh.bulk_get' hkb j hlt
            have hw0 := Sh.wfs_get hkw j hlt
            have hkl := Sh.text_len' hw0 hb0
            have hwB : Below wr.heap.size wr (wr.alloc (.cells #[.int .i64 k1', .int .i64 k2', .int .i64 k3', .slice a4 n4 m4, .int .i64 k5', .slice a6 n6 m6] 29)) := (Below.refl _ _).alloc (Nat.le_refl _) _
            have HC := fun W (hW : Below wr.heap.size wr W) => Lib.hid (hA kids[j] _ (d - 1) M W (by omega) ((hr.below hbw).below hW) hw0 hb0 (hrk _ (List.getElem_mem hlt)) (HTT.out _ (below2 hbel hW (Nat.le_refl _))) (HMC.out _ (below2 hbel hW (Nat.le_refl _))))
            obtain ⟨tx, htx⟩ : ∃ tx, Sh.text kids[j] = tx := ⟨_, rfl⟩
            rw [htx] at HC hkl
            have HP : Hid (Sh.texts 8 ks m 0 (kids.take (j + 1)) = Sh.texts 8 ks m 0 (kids.take j) ++ [if (8 : Int) = 8 then ks.getD j [] ++ (shMark m j ++ tx) else tx]) := by
              show _ = _
              rw [Sh.texts_take 8 ks m kids j hlt, Sh.part, htx]
            clear hn0 hb0 hw0 htx hr hbc
            have hkj : j < ks.length := by rw [HKS.out (by first | rfl | trivial)]; exact hlt
            obtain ⟨_, _, bk, ok, rfl, hbk2, hkc⟩ := hgk (by intro e; rw [e] at hkj; simp at hkj)
            have e0 := hkc j hkj
            rw [← (bcell hbw).1 _ _ hbk2] at e0
            have hbk3 : bk < wr.heap.size := Nat.lt_of_lt_of_le hbk2 hbw.size
            have hkl2 : ks[j].length ≤ 4294967295 := by have := ssBulk_snoc ks j hkj; have := ssBulk_take ks (j + 1); omega
            have i3 : (j : Int) < ks.length := by omega
            have HE := Lib.hid (fun W (hW : Below wr.heap.size wr W) => show W.cell? ⟨bk, ok + j, none⟩ = some (.string ⟨ks[j].toArray⟩) by rw [(bcell hW).1 _ _ hbk3]; exact e0)
            have HP2a := Lib.hid (show Sh.texts 8 ks m 0 (kids.take (j + 1)) = Sh.texts 8 ks m 0 (kids.take j) ++ [ks[j] ++ (shMark m j ++ tx)] by
              rw [HP.out, if_pos rfl]; simp [List.getD_eq_getElem?_getD, hkj])
            obtain ⟨kj, hkj'⟩ : ∃ kj, ks[j] = kj := ⟨_, rfl⟩
            rw [hkj'] at hkl2 HP2a HE
            clear hkc hgk HP hkj' e0
            by_cases hmj : m ≤ j
            · have HP2 := Lib.hid (show Sh.texts 8 ks m 0 (kids.take (j + 1)) = Sh.texts 8 ks m 0 (kids.take j) ++ [kj ++ ([63, 58, 32] ++ tx)] by rw [HP2a.out]; unfold shMark; rw [if_pos hmj])
              clear HP2a
              go_wp2_with (first | (go_at_call 55; refine (HC _ (by first | exact hwB)).out.mono ?_; rintro e1 w1 ⟨rfl, hb1⟩; have hown1 := hown.below (below2 hwB hb1 (Nat.le_refl _)); have hz3 := hb1.size; have hwW : Below W0.heap.size W0 w1 := below2 hbel (below2 hwB hb1 (Nat.le_refl _)) (Nat.le_refl _); obtain ⟨r0, r1, r2, r3, r4, r5⟩ := KB.out _ hwW; have e0 := HE.out _ (below2 hwB hb1 (Nat.le_refl _))) | (at_builtin; refine wp_appR (ys := [.string ⟨(kj ++ ([63, 58, 32] ++ tx)).toArray⟩]) tyStr rfl rfl W0.heap.size (hown1.alloc _) rfl ⟨w1.heap.size, 0, none⟩ 1 rfl (cell_one_new _ _ _) (by simp [Value.oneCell']) (by simp; omega) (by decide) (by simp; have := hwW.size; omega) ?_))
              intro v' w2 hown2 hgr _
              have hbel2 := OwnR.grown (hown1.alloc _) (hwW.alloc hwW.size _) hgr (by simp; have := hwW.size; omega)
              go_wp2
              go_roundw
              case rel => exact ⟨j + 1, by omega, by go_num, by rw [HP2.out, ← List.append_assoc, List.map_append, HXS.out]; exact hown2, hbel2⟩
              case measure => simp [intOf]; omega
            · have HP2 := Lib.hid (show Sh.texts 8 ks m 0 (kids.take (j + 1)) = Sh.texts 8 ks m 0 (kids.take j) ++ [kj ++ ([58, 32] ++ tx)] by rw [HP2a.out]; unfold shMark; rw [if_neg hmj])
              clear HP2a
              go_wp2_with (first | (go_at_call 55; refine (HC _ (by first | exact hwB)).out.mono ?_; rintro e1 w1 ⟨rfl, hb1⟩; have hown1 := hown.below (below2 hwB hb1 (Nat.le_refl _)); have hz3 := hb1.size; have hwW : Below W0.heap.size W0 w1 := below2 hbel (below2 hwB hb1 (Nat.le_refl _)) (Nat.le_refl _); obtain ⟨r0, r1, r2, r3, r4, r5⟩ := KB.out _ hwW; have e0 := HE.out _ (below2 hwB hb1 (Nat.le_refl _))) | (at_builtin; refine wp_appR (ys := [.string ⟨(kj ++ ([58, 32] ++ tx)).toArray⟩]) tyStr rfl rfl W0.heap.size (hown1.alloc _) rfl ⟨w1.heap.size, 0, none⟩ 1 rfl (cell_one_new _ _ _) (by simp [Value.oneCell']) (by simp; omega) (by decide) (by simp; have := hwW.size; omega) ?_))
              intro v' w2 hown2 hgr _
              have hbel2 := OwnR.grown (hown1.alloc _) (hwW.alloc hwW.size _) hgr (by simp; have := hwW.size; omega)
              go_wp2
              go_roundw
              case rel => exact ⟨j + 1, by omega, by go_num, by rw [HP2.out, ← List.append_assoc, List.map_append, HXS.out]; exact hown2, hbel2⟩
              case measure => simp [intOf]; omega
          · obtain rfl : j = kids.length := by omega
            rw [List.take_length] at hxs
            have hbw := below2 hA0 hbel (Nat.le_refl _)
            obtain ⟨p0, p1, p2, p3, p4, p5⟩ := KB.out _ hbel
            obtain ⟨ps, hps⟩ : ∃ ps, pre ++ Sh.texts 8 ks m 0 kids = ps := ⟨_, rfl⟩
            rw [hps] at HPRE htl hxs
            have hpsl : ps.length ≤ 4294967296 := by rw [← hps, List.length_append, Sh.texts_length]; omega
            have hxn : xs.length = ps.length := by rw [← hxs, List.length_map]
            have HTX := Lib.hid HPRE.out
            rw [hxn] at hown ⊢
            clear hxn
            subst hxs
            have hjl : (Lib.join ps sep2).length ≤ 1099511627776 := by rw [shWrap_self (.inr rfl)] at htl; simp only [List.length_append, List.length_cons] at htl; omega
            have HT2 := Lib.hid (show Sh.text (.mk 8 lo hi ks m kids) = shWord 8 ++ ((40 : UInt8) :: (Lib.join ps sep2 ++ [41])) by rw [HTX.out, shWrap_self (.inr rfl)])
            have hw5 : (shWord 8).length ≤ 5 := shWord_len 8
            have HJ := Lib.hid (join_any ps _ _ wr hown hpsl hjl)
            clear HPRE HTX hps htl hown
            obtain ⟨wd, hwd⟩ : ∃ wd, shWord 8 = wd := ⟨_, rfl⟩
            rw [hwd] at HT2 hw5 ⊢
            clear hwd
            by_cases hp0 : ps.length = 0
            · rw [hp0] at HJ ⊢
              clear hp0
              go_wp2_with (go_at_call 86; refine HJ.out.mono ?_; rintro e1 w1 ⟨rfl, hb1⟩)
              go_ret
              exact ⟨ret_str (Eq.trans (by simp) HT2.out.symm), below2 hbw hb1 (Nat.le_refl _)⟩
            · obtain ⟨q, hq⟩ : ∃ q, ps.length = q + 1 := ⟨ps.length - 1, by omega⟩
              have hq0 : (((q + 1 : Nat) : Int) == 0) = false := by simp; omega
              rw [hq] at HJ ⊢
              clear hq hp0
              go_wp2_with (go_at_call 86; refine HJ.out.mono ?_; rintro e1 w1 ⟨rfl, hb1⟩)
              go_ret
              exact ⟨ret_str (Eq.trans (by simp) HT2.out.symm), below2 hbw hb1 (Nat.le_refl _)⟩
      · have k8b : ((kn : Int) == 8) = false := by simpa using (show ¬ (kn : Int) = 8 by omega)
        obtain ⟨p0, p1, p2, p3, p4, p5⟩ := KB.out _ hB2
        go_wp2_with fail
        go_loopw [4, 32] (fun v i wr => ∃ j : Nat, j ≤ kids.length ∧ i = .int .i64 j ∧ OwnR wr W0.heap.size 9 v ((pre ++ Sh.texts kn ks m 0 (kids.take j)).map strV) ∧ Below W0.heap.size W0 wr) (fun _ i _ => kids.length - (intOf i).toNat)
        case atStart => exact ⟨0, Nat.zero_le _, rfl, by simpa [Sh.texts] using hown, hB2⟩
        case round =>
          clear hown hB2 p0 p1 p2 p3 p4 p5
          obtain ⟨j, hj, rfl, hown, hbel⟩ := hrel
          obtain ⟨xs, hxs⟩ : ∃ xs, (pre ++ Sh.texts kn ks m 0 (kids.take j)).map strV = xs := ⟨_, rfl⟩
          have hxl : xs.length ≤ 1 + j := by rw [← hxs, List.length_map, List.length_append, Sh.texts_length, List.length_take]; omega
          rw [hxs] at hown
          obtain ⟨av, cv, rfl⟩ := hown.any
          by_cases hlt : j < kids.length
          · have HXS := Lib.hid hxs
            obtain ⟨_, _, b, o, rfl, hb, hcell⟩ := hg (by intro e; rw [e] at hlt; simp at hlt)
            obtain ⟨v0, v1, v2, v3, v4, v5, hr, d0, d1, d2, d3, d4, d5⟩ := hcell j hlt
            clear hcell hg hxs
            obtain ⟨k1', k2', k3', a4, n4, m4, k5', a6, n6, m6, hcs⟩ := Sh.form hr
            simp only [List.cons.injEq, and_true] at hcs
            obtain ⟨rfl, rfl, rfl, rfl, rfl, rfl⟩ := hcs
            have hbw := below2 hA0 hbel (Nat.le_refl _)
            have hbc := (bcell hbw).1
            rw [← hbc _ _ hb] at d0 d1 d2 d3 d4 d5
            have hxl2 : xs.length + 1 ≤ 4294967296 := by omega
            clear hxl
            have i1 : (0 : Int) ≤ j := by omega
            have i2 : (j : Int) < kids.length := by omega
            have hn0 := Sh.nodes_get kids j hlt
            have hb0 := Sh.bulk_get' hkb j hlt
            have hw0 := Sh.wfs_get hkw j hlt
            have hkl := Sh.text_len' hw0 hb0
            have hwB : Below wr.heap.size wr (wr.alloc (.cells #[.int .i64 k1', .int .i64 k2', .int .i64 k3', .slice a4 n4 m4, .int .i64 k5', .slice a6 n6 m6] 29)) := (Below.refl _ _).alloc (Nat.le_refl _) _
            have HC := fun W (hW : Below wr.heap.size wr W) => Lib.hid (hA kids[j] _ (d - 1) M W (by omega) ((hr.below hbw).below hW) hw0 hb0 (hrk _ (List.getElem_mem hlt)) (HTT.out _ (below2 hbel hW (Nat.le_refl _))) (HMC.out _ (below2 hbel hW (Nat.le_refl _))))
            obtain ⟨tx, htx⟩ : ∃ tx, Sh.text kids[j] = tx := ⟨_, rfl⟩
            rw [htx] at HC hkl
            have HP : Hid (Sh.texts kn ks m 0 (kids.take (j + 1)) = Sh.texts kn ks m 0 (kids.take j) ++ [if (kn : Int) = 8 then ks.getD j [] ++ (shMark m j ++ tx) else tx]) := by
              show _ = _
              rw [Sh.texts_take _ ks m kids j hlt, Sh.part, htx]
            clear hn0 hb0 hw0 htx hr hbc
            have HP2 := Lib.hid (show Sh.texts kn ks m 0 (kids.take (j + 1)) = Sh.texts kn ks m 0 (kids.take j) ++ [tx] by rw [HP.out, if_neg (show ¬ (kn : Int) = 8 by omega)])
            clear HP
            go_wp2_with (first | (go_at_call 55; refine (HC _ (by first | exact hwB)).out.mono ?_; rintro e1 w1 ⟨rfl, hb1⟩; have hown1 := hown.below (below2 hwB hb1 (Nat.le_refl _)); have hz3 := hb1.size; have hwW : Below W0.heap.size W0 w1 := below2 hbel (below2 hwB hb1 (Nat.le_refl _)) (Nat.le_refl _); obtain ⟨r0, r1, r2, r3, r4, r5⟩ := KB.out _ hwW) | (at_builtin; refine wp_appR (ys := [.string ⟨(tx).toArray⟩]) tyStr rfl rfl W0.heap.size (hown1.alloc _) rfl ⟨w1.heap.size, 0, none⟩ 1 rfl (cell_one_new _ _ _) (by simp [Value.oneCell']) (by simp; omega) (by decide) (by simp; have := hwW.size; omega) ?_))
            intro v' w2 hown2 hgr _
            have hbel2 := OwnR.grown (hown1.alloc _) (hwW.alloc hwW.size _) hgr (by simp; have := hwW.size; omega)
            go_wp2
            go_roundw
            case rel => exact ⟨j + 1, by omega, by go_num, by rw [HP2.out, ← List.append_assoc, List.map_append, HXS.out]; exact hown2, hbel2⟩
            case measure => simp [intOf]; omega
          · obtain rfl : j = kids.length := by omega
            rw [List.take_length] at hxs
            have hbw := below2 hA0 hbel (Nat.le_refl _)
            obtain ⟨p0, p1, p2, p3, p4, p5⟩ := KB.out _ hbel
            obtain ⟨ps, hps⟩ : ∃ ps, pre ++ Sh.texts kn ks m 0 kids = ps := ⟨_, rfl⟩
            rw [hps] at HPRE htl hxs
            have hpsl : ps.length ≤ 4294967296 := by rw [← hps, List.length_append, Sh.texts_length]; omega
            have hxn : xs.length = ps.length := by rw [← hxs, List.length_map]
            have HTX := Lib.hid HPRE.out
            rw [hxn] at hown ⊢
            clear hxn
            subst hxs
            have hw5 : (shWord kn).length ≤ 5 := shWord_len kn
            by_cases hp0 : ps = []
            · have HT2 := Lib.hid (show Sh.text (.mk kn lo hi ks m kids) = shWord kn by rw [HTX.out]; unfold shWrap; rw [if_pos ⟨hp0, by omega⟩])
              have hl0 : ps.length = 0 := by rw [hp0]; rfl
              rw [hl0]
              clear HPRE HTX hps htl hown hp0 hl0
              obtain ⟨wd, hwd⟩ : ∃ wd, shWord kn = wd := ⟨_, rfl⟩
              rw [hwd] at HT2 hw5 ⊢
              clear hwd
              go_wp2
              all_goals (go_ret; exact ⟨ret_str (by rw [HT2.out]), hbw⟩)
            · have hjl : (Lib.join ps sep2).length ≤ 1099511627776 := by rw [shWrap_self (.inl hp0)] at htl; simp only [List.length_append, List.length_cons] at htl; omega
              have HT2 := Lib.hid (show Sh.text (.mk kn lo hi ks m kids) = shWord kn ++ ((40 : UInt8) :: (Lib.join ps sep2 ++ [41])) by rw [HTX.out, shWrap_self (.inl hp0)])
              have HJ := Lib.hid (join_any ps _ _ wr hown hpsl hjl)
              obtain ⟨q, hq⟩ : ∃ q, ps.length = q + 1 := ⟨ps.length - 1, by
                have : ps.length ≠ 0 := fun e => hp0 (List.length_eq_zero_iff.1 e)
                omega⟩
              rw [hq] at HJ ⊢
              clear HPRE HTX hps htl hown hp0 hq
              obtain ⟨wd, hwd⟩ : ∃ wd, shWord kn = wd := ⟨_, rfl⟩
              rw [hwd] at HT2 hw5 ⊢
              clear hwd
              have hq0 : (((q + 1 : Nat) : Int) == 0) = false := by simp; omega
              go_wp2_with (go_at_call 86; refine HJ.out.mono ?_; rintro e1 w1 ⟨rfl, hb1⟩)
              all_goals (go_ret; exact ⟨ret_str (Eq.trans (by simp) HT2.out.symm), below2 hbw hb1 (Nat.le_refl _)⟩)
end Go.Proofs.YtkeieeogkeonfaaDoor
