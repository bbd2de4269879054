/- The text of a right shape: the reference's l15Bounds and l15Text. -/
import Derived.Test.YtkeieeogkeonfaaDoorShText
import Derived.Test.YtkeieeogkeonfaaDoorDec
import Derived.Test.YtkeieeogkeonfaaDoorShapeOkS
import Derived.Deep.RegionHeld3
namespace Go.Proofs.YtkeieeogkeonfaaDoor
open Go.RowKit

set_option maxHeartbeats 800000 in
set_option maxRecDepth 10000 in
theorem l15Bounds_any (x : Sh) (cs : List Value) (rest : List UInt8) (w : World) (h : Rd w x.d cs) (hwf : x.wf) (hr : rest.length ≤ 2199023255552) (lo hi : Int) (hlo : ∃ k ks m kids, x = .mk k lo hi ks m kids) :
    Calls Tryd.prog 84 #[.agg cs.toArray, .string ⟨rest.toArray⟩] w fun e w' => e = .returned (.string ⟨(40 :: (bnd lo hi ++ (rest ++ [41]))).toArray⟩) ∧ Below w.heap.size w w' := by
  obtain ⟨k, ks, m, kids, rfl⟩ := hlo
  obtain ⟨k', l', hi', ks', m', kids', v1, v2, hx, rfl, hk, hkids⟩ := Sh.lay h
  simp only [Sh.mk.injEq] at hx
  obtain ⟨rfl, rfl, rfl, rfl, rfl, rfl⟩ := hx
  obtain ⟨a1, c1, rfl⟩ := Rd.sl_form hk
  obtain ⟨a2, c2, rfl⟩ := Rd.sl_form hkids
  obtain ⟨_, h1, h2, _⟩ := hwf
  have q1 := Lib.itoa_length_le lo h1.1 h1.2
  have q2 := Lib.itoa_length_le hi h2.1 h2.2
  obtain ⟨W0, hW0⟩ : ∃ W0, W0 = w.alloc (.cells #[.int .i64 k, .int .i64 lo, .int .i64 hi, .slice a1 (ks.map dS).length c1, .int .i64 m, .slice a2 (Sh.ds kids).length c2] 29) := ⟨_, rfl⟩
  have e1 : (ks.map dS).length = ks.length := by simp
  have e2 : (Sh.ds kids).length = kids.length := by rw [Sh.ds_map]; simp
  rw [e1, e2] at hW0
  rw [e1, e2]
  have HW := Lib.hid hW0
  have hA : Below w.heap.size w W0 := by rw [hW0]; exact (Below.refl _ _).alloc (Nat.le_refl _) _
  have hz : w.heap.size < W0.heap.size := by rw [hW0]; simp
  have KB : Hid (∀ W, Below W0.heap.size W0 W → W.cell? ⟨w.heap.size, 1, none⟩ = some (.int .i64 lo) ∧ W.cell? ⟨w.heap.size, 2, none⟩ = some (.int .i64 hi)) := by
    intro W hb
    obtain ⟨hc, _⟩ := bcell hb
    simp only [hc _ _ hz]; subst hW0; simp
  have hB := Below.refl W0.heap.size W0
  have HD1 := fun W => Lib.hid (decText_spec lo W h1)
  have HD2 := fun W => Lib.hid (decText_spec hi W h2)
  obtain ⟨t1, ht1⟩ : ∃ t, Lib.itoa lo = t := ⟨_, rfl⟩
  obtain ⟨t2, ht2⟩ : ∃ t, Lib.itoa hi = t := ⟨_, rfl⟩
  have HT := Lib.hid (show 40 :: (bnd lo hi ++ (rest ++ [41])) = 40 :: (t1 ++ ([46, 46] ++ t2) ++ (rest ++ [41])) by unfold bnd; rw [ht1, ht2])
  rw [ht1] at HD1 q1
  rw [ht2] at HD2 q2
  rw [HT.out]
  have L1 : ¬ 9223372036854775807 < 1 + t1.length := by omega
  have L2 : ¬ 9223372036854775807 < t1.length + 1 + 2 := by omega
  have L3 : ¬ 9223372036854775807 < t1.length + 2 + 1 + t2.length := by omega
  have L4 : ¬ 9223372036854775807 < t1.length + (t2.length + 1 + 1) + 1 + rest.length := by omega
  have L5 : ¬ 9223372036854775807 < t1.length + (t2.length + rest.length + 1 + 1) + 1 + 1 := by omega
  clear hW0 h hk hkids ht1 ht2 e1 e2
  go_enter Tryd.func84, Tryd.ntmps84
  go_wp2_with fail
  rw [← HW.out]
  go_region_held3 (fun W => W.cell? ⟨w.heap.size, 1, none⟩ = some (.int .i64 lo) ∧ W.cell? ⟨w.heap.size, 2, none⟩ = some (.int .i64 hi)) (first | exact KB.out _ hB | exact KB.out _ hB.drew)
    (first | (go_at_call 77; with_reducible refine (HD1 _).out.mono ?_; rintro e1 w1 ⟨rfl, hb1⟩; replace hB := below2 (by first | exact hB | exact hB.drew) hb1 (Nat.le_refl _)) | (go_at_call 77; with_reducible refine (HD2 _).out.mono ?_; rintro e1 w1 ⟨rfl, hb1⟩; replace hB := below2 (by first | exact hB | exact hB.drew) hb1 (Nat.le_refl _)))
  go_wp2
  go_ret
  exact ⟨ret_str (by simp), below2 hA (by first | exact hB | exact hB.drew) (Nat.le_refl _)⟩

theorem shWrap_self {k : Int} {ps : List (List UInt8)} (h : ps ≠ [] ∨ k = 8) : shWrap k ps = shWord k ++ (40 :: (Lib.join ps sep2 ++ [41])) := by
  unfold shWrap; rw [if_neg]; rintro ⟨h1, h2⟩; rcases h with h | h
  · exact h h1
  · exact h2 h
theorem Sh.text_len' {x : Sh} (h : x.wf) (hb : x.bulk ≤ 4294967295) : (Sh.text x).length ≤ 1099511627776 := by
  have := Sh.text_len x h; have := x.nodes_bulk; omega
theorem Sh.text_seven (lo hi : Int) (ks : List (List UInt8)) (m : Int) (kid : Sh) : Sh.text (.mk 7 lo hi ks m [kid]) = shWord 7 ++ (40 :: (bnd lo hi ++ ((44 :: 32 :: Sh.text kid) ++ [41]))) := by
  have hb : hasBd 7 = true := rfl
  rw [Sh.text, hb, Sh.texts, Sh.texts, if_pos rfl, if_neg (by decide), shWrap_self (.inl (by simp))]
  rw [show Lib.join ([bnd lo hi] ++ [Sh.text kid]) sep2 = bnd lo hi ++ (44 :: 32 :: Sh.text kid) by rw [join_snoc _ [], Lib.join_one]; rfl, List.append_assoc]
theorem Sh.text_seven' (lo hi : Int) (ks : List (List UInt8)) (m : Int) (kids : List Sh) (h : kids.length = 1) (hlt : 0 < kids.length) : Sh.text (.mk 7 lo hi ks m kids) = shWord 7 ++ ((40 : UInt8) :: (bnd lo hi ++ (((44 : UInt8) :: 32 :: Sh.text (kids[0]'hlt)) ++ [41]))) := by
  match kids, h with
  | [kid], _ => exact Sh.text_seven lo hi ks m kid
def Sh.kind' : Sh → Int | .mk k _ _ _ _ _ => k
def TxP (n : Nat) : Prop := ∀ (x : Sh) (cs : List Value) (d : Int) (w : World), x.nodes ≤ n + 1 → Rd w x.d cs → x.wf → x.bulk ≤ 4294967295 → Sh.right d x = true → (x.kind' = 0 ∨ x.kind' = 1 ∨ x.kind' = 2 ∨ x.kind' = 4) →
  Calls Tryd.prog 54 #[.agg cs.toArray] w fun e w' => e = .returned (.string ⟨(Sh.text x).toArray⟩) ∧ Below w.heap.size w w'
set_option maxHeartbeats 1000000 in
set_option maxRecDepth 10000 in
theorem TxP_of {n : Nat} : TxP n := by
  intro x cs d w hn h hwf hbk hrt hkind
  have hx0 := hwf
  have hr0 := h
  obtain ⟨k, lo, hi, ks, m, kids, v1, v2, rfl, rfl, hk, hkids⟩ := Sh.lay h
  replace hkind : k = 0 ∨ k = 1 ∨ k = 2 ∨ k = 4 := hkind
  have hnk : Sh.nodess kids ≤ n := by simp only [Sh.nodes] at hn; omega
  have hkw : Sh.wfs kids := hwf.2.2.2.2.2.2
  have hkb : kids.length + Sh.bulks kids ≤ 4294967295 := by simp only [Sh.bulk] at hbk; omega
  simp only [Sh.right, Bool.and_eq_true] at hrt
  obtain ⟨hrk, _, hself⟩ := hrt
  rw [Sh.rights_all, List.all_eq_true] at hrk
  obtain ⟨a1, c1, rfl, hgk⟩ := hk.strs
  obtain ⟨a2, c2, rfl, hg⟩ := hkids.shapes
  obtain ⟨W0, hW0⟩ : ∃ W0, W0 = w.alloc (.cells #[.int .i64 k, .int .i64 lo, .int .i64 hi, .slice a1 ks.length c1, .int .i64 m, .slice a2 kids.length c2] 29) := ⟨_, rfl⟩
  have HW := Lib.hid hW0
  have hA0 : Below w.heap.size w W0 := by rw [hW0]; exact (Below.refl _ _).alloc (Nat.le_refl _) _
  have hz : w.heap.size < W0.heap.size := by rw [hW0]; simp
  have KB : Hid (∀ W, Below W0.heap.size W0 W → W.cell? ⟨w.heap.size, 0, none⟩ = some (.int .i64 k) ∧ W.cell? ⟨w.heap.size, 1, none⟩ = some (.int .i64 lo) ∧ W.cell? ⟨w.heap.size, 2, none⟩ = some (.int .i64 hi) ∧ W.cell? ⟨w.heap.size, 3, none⟩ = some (.slice a1 ks.length c1) ∧ W.cell? ⟨w.heap.size, 4, none⟩ = some (.int .i64 m) ∧ W.cell? ⟨w.heap.size, 5, none⟩ = some (.slice a2 kids.length c2)) := by
    intro W hb
    obtain ⟨hc, _⟩ := bcell hb
    simp only [hc _ _ hz]; subst hW0; simp
  have hB := Below.refl W0.heap.size W0
  simp only [Sh.self] at hself
  have hne : k ≠ 8 ∧ ¬ (k = 3 ∨ k = 5 ∨ k = 6) ∧ k ≠ 7 ∧ k ≠ 9 := by omega
  rw [if_neg hne.1, if_neg hne.2.1, if_neg hne.2.2.1, if_neg hne.2.2.2, if_pos hkind] at hself
  simp only [Bool.and_eq_true, decide_eq_true_eq] at hself
  have HT := Lib.hid (show Sh.text (.mk k lo hi ks m kids) = shWord k by
    obtain ⟨_, _, _, _, rfl⟩ := hself
    have hb : hasBd k = false := by rcases hkind with rfl | rfl | rfl | rfl <;> rfl
    simp only [Sh.text, Sh.texts, hb]; unfold shWrap; simp [hne.1])
  rw [HT.out]
  clear hW0 h hr0 hk hkids hg hgk hself hrk hne
  rcases hkind with rfl | rfl | rfl | rfl
  all_goals
    obtain ⟨p0, p1, p2, p3, p4, p5⟩ := KB.out _ hB
    go_enter Tryd.func54, Tryd.ntmps54
    go_wp2_with fail
    go_ret
    exact ⟨ret_str (by simp [shWord, shWords]), ((Below.refl _ _).alloc (Nat.le_refl _) _).alloc (by simp) _⟩
def TxB (n : Nat) : Prop := ∀ (x : Sh) (cs : List Value) (d : Int) (w : World), x.nodes ≤ n + 1 → Rd w x.d cs → x.wf → x.bulk ≤ 4294967295 → Sh.right d x = true → (x.kind' = 3 ∨ x.kind' = 5 ∨ x.kind' = 6) →
  Calls Tryd.prog 54 #[.agg cs.toArray] w fun e w' => e = .returned (.string ⟨(Sh.text x).toArray⟩) ∧ Below w.heap.size w w'
set_option maxHeartbeats 1000000 in
set_option maxRecDepth 10000 in
theorem TxB_of {n : Nat} : TxB n := by
  intro x cs d w hn h hwf hbk hrt hkind
  have hx0 := hwf
  have hr0 := h
  obtain ⟨k, lo, hi, ks, m, kids, v1, v2, rfl, rfl, hk, hkids⟩ := Sh.lay h
  replace hkind : k = 3 ∨ k = 5 ∨ k = 6 := hkind
  have hnk : Sh.nodess kids ≤ n := by simp only [Sh.nodes] at hn; omega
  have hkw : Sh.wfs kids := hwf.2.2.2.2.2.2
  have hkb : kids.length + Sh.bulks kids ≤ 4294967295 := by simp only [Sh.bulk] at hbk; omega
  simp only [Sh.right, Bool.and_eq_true] at hrt
  obtain ⟨hrk, _, hself⟩ := hrt
  rw [Sh.rights_all, List.all_eq_true] at hrk
  obtain ⟨a1, c1, rfl, hgk⟩ := hk.strs
  obtain ⟨a2, c2, rfl, hg⟩ := hkids.shapes
  obtain ⟨W0, hW0⟩ : ∃ W0, W0 = w.alloc (.cells #[.int .i64 k, .int .i64 lo, .int .i64 hi, .slice a1 ks.length c1, .int .i64 m, .slice a2 kids.length c2] 29) := ⟨_, rfl⟩
  have HW := Lib.hid hW0
  have hA0 : Below w.heap.size w W0 := by rw [hW0]; exact (Below.refl _ _).alloc (Nat.le_refl _) _
  have hz : w.heap.size < W0.heap.size := by rw [hW0]; simp
  have KB : Hid (∀ W, Below W0.heap.size W0 W → W.cell? ⟨w.heap.size, 0, none⟩ = some (.int .i64 k) ∧ W.cell? ⟨w.heap.size, 1, none⟩ = some (.int .i64 lo) ∧ W.cell? ⟨w.heap.size, 2, none⟩ = some (.int .i64 hi) ∧ W.cell? ⟨w.heap.size, 3, none⟩ = some (.slice a1 ks.length c1) ∧ W.cell? ⟨w.heap.size, 4, none⟩ = some (.int .i64 m) ∧ W.cell? ⟨w.heap.size, 5, none⟩ = some (.slice a2 kids.length c2)) := by
    intro W hb
    obtain ⟨hc, _⟩ := bcell hb
    simp only [hc _ _ hz]; subst hW0; simp
  have hB := Below.refl W0.heap.size W0
  have HBD := fun W (hb : Below W0.heap.size W0 W) (rest : List UInt8) (hr : rest.length ≤ 2199023255552) => Lib.hid (l15Bounds_any _ _ rest W (hr0.below (below2 hA0 hb (Nat.le_refl _))) hx0 hr lo hi ⟨k, ks, m, kids, rfl⟩)
  simp only [Sh.self] at hself
  have hne : k ≠ 8 := by omega
  rw [if_neg hne, if_pos hkind] at hself
  simp only [Bool.and_eq_true, decide_eq_true_eq] at hself
  have hbl := bnd_len hwf.2.1 hwf.2.2.1
  have HT := Lib.hid (show Sh.text (.mk k lo hi ks m kids) = shWord k ++ (40 :: (bnd lo hi ++ ([] ++ [41]))) by
    obtain ⟨_, _, rfl⟩ := hself
    have hb : hasBd k = true := by rcases hkind with rfl | rfl | rfl <;> rfl
    simp only [Sh.text, Sh.texts, hb, if_pos, List.append_nil]; rw [shWrap_self (.inl (by simp)), Lib.join_one]; simp)
  rw [HT.out]
  clear hW0 h hr0 hk hkids hg hgk hself hrk hne
  rcases hkind with rfl | rfl | rfl
  all_goals
    obtain ⟨p0, p1, p2, p3, p4, p5⟩ := KB.out _ hB
    go_enter Tryd.func54, Tryd.ntmps54
    go_wp2_with fail
    rw [← HW.out]
    go_wp2_with (go_at_call 84; refine (HBD _ hB [] (by simp)).out.mono ?_; rintro e1 w1 ⟨rfl, hb1⟩)
    go_ret
    exact ⟨ret_str (by simp [shWord, shWords]), below2 hA0 (below2 hB hb1 (Nat.le_refl _)) (Nat.le_refl _)⟩
def TxS (n : Nat) : Prop := ∀ (x : Sh) (cs : List Value) (d : Int) (w : World), x.nodes ≤ n → Rd w x.d cs → x.wf → x.bulk ≤ 4294967295 → Sh.right d x = true →
  Calls Tryd.prog 54 #[.agg cs.toArray] w fun e w' => e = .returned (.string ⟨(Sh.text x).toArray⟩) ∧ Below w.heap.size w w'
def TxL (n : Nat) : Prop := ∀ (x : Sh) (cs : List Value) (d : Int) (w : World), x.nodes ≤ n + 1 → Rd w x.d cs → x.wf → x.bulk ≤ 4294967295 → Sh.right d x = true → (x.kind' = 7) →
  Calls Tryd.prog 54 #[.agg cs.toArray] w fun e w' => e = .returned (.string ⟨(Sh.text x).toArray⟩) ∧ Below w.heap.size w w'
set_option maxHeartbeats 1000000 in
set_option maxRecDepth 10000 in
theorem TxL_of {n : Nat} (hA : TxS n) : TxL n := by
  intro x cs d w hn h hwf hbk hrt hkind
  have hx0 := hwf
  have hr0 := h
  obtain ⟨k, lo, hi, ks, m, kids, v1, v2, rfl, rfl, hk, hkids⟩ := Sh.lay h
  replace hkind : k = 7 := hkind
  have hnk : Sh.nodess kids ≤ n := by simp only [Sh.nodes] at hn; omega
  have hkw : Sh.wfs kids := hwf.2.2.2.2.2.2
  have hkb : kids.length + Sh.bulks kids ≤ 4294967295 := by simp only [Sh.bulk] at hbk; omega
  simp only [Sh.right, Bool.and_eq_true] at hrt
  obtain ⟨hrk, _, hself⟩ := hrt
  rw [Sh.rights_all, List.all_eq_true] at hrk
  obtain ⟨a1, c1, rfl, hgk⟩ := hk.strs
  obtain ⟨a2, c2, rfl, hg⟩ := hkids.shapes
  obtain ⟨W0, hW0⟩ : ∃ W0, W0 = w.alloc (.cells #[.int .i64 k, .int .i64 lo, .int .i64 hi, .slice a1 ks.length c1, .int .i64 m, .slice a2 kids.length c2] 29) := ⟨_, rfl⟩
  have HW := Lib.hid hW0
  have hA0 : Below w.heap.size w W0 := by rw [hW0]; exact (Below.refl _ _).alloc (Nat.le_refl _) _
  have hz : w.heap.size < W0.heap.size := by rw [hW0]; simp
  have KB : Hid (∀ W, Below W0.heap.size W0 W → W.cell? ⟨w.heap.size, 0, none⟩ = some (.int .i64 k) ∧ W.cell? ⟨w.heap.size, 1, none⟩ = some (.int .i64 lo) ∧ W.cell? ⟨w.heap.size, 2, none⟩ = some (.int .i64 hi) ∧ W.cell? ⟨w.heap.size, 3, none⟩ = some (.slice a1 ks.length c1) ∧ W.cell? ⟨w.heap.size, 4, none⟩ = some (.int .i64 m) ∧ W.cell? ⟨w.heap.size, 5, none⟩ = some (.slice a2 kids.length c2)) := by
    intro W hb
    obtain ⟨hc, _⟩ := bcell hb
    simp only [hc _ _ hz]; subst hW0; simp
  have hB := Below.refl W0.heap.size W0
  have HBD := fun W (hb : Below W0.heap.size W0 W) (rest : List UInt8) (hr : rest.length ≤ 2199023255552) => Lib.hid (l15Bounds_any _ _ rest W (hr0.below (below2 hA0 hb (Nat.le_refl _))) hx0 hr lo hi ⟨k, ks, m, kids, rfl⟩)
  subst hkind
  simp only [Sh.self] at hself
  rw [if_neg (by decide), if_neg (by decide), if_pos trivial] at hself
  simp only [Bool.and_eq_true, decide_eq_true_eq] at hself
  have hbl := bnd_len hwf.2.1 hwf.2.2.1
  have hl1 : kids.length = 1 := hself.2.2
  have hlt : 0 < kids.length := by omega
  have HT := Lib.hid (Sh.text_seven' lo hi ks m kids hl1 hlt)
  rw [HT.out]
  obtain ⟨_, _, b, o, ha2, hb, hcell⟩ := hg (by intro e; rw [e] at hlt; simp at hlt)
  obtain ⟨v0, v1, v2, v3, v4, v5, hr, d0, d1, d2, d3, d4, d5⟩ := hcell 0 hlt
  clear hcell hg
  obtain ⟨k1, k2, k3, a4, n4, m4, k5, a6, n6, m6, hcs⟩ := Sh.form hr
  simp only [List.cons.injEq, and_true] at hcs
  obtain ⟨rfl, rfl, rfl, rfl, rfl, rfl⟩ := hcs
  have hn0 := Sh.nodes_get kids 0 hlt
  have hb0 := Sh.bulk_get' hkb 0 hlt
  have hw0 := Sh.wfs_get hkw 0 hlt
  have hkl := Sh.text_len' hw0 hb0
  have HC := fun W (hb : Below W0.heap.size W0 W) => Lib.hid (hA kids[0] _ (d - 1) W (by omega) (hr.below (below2 hA0 hb (Nat.le_refl _))) hw0 hb0 (hrk _ (List.getElem_mem hlt)))
  have hll : (44 :: 32 :: Sh.text (kids[0]'hlt)).length ≤ 1099511627776 + 2 := by simp only [List.length_append, List.length_cons, List.length_nil]; omega
  have a2' := ha2
  subst ha2
  have hb' : b < W0.heap.size := Nat.lt_of_lt_of_le hb hA0.size
  have hbc := (bcell hA0).1
  rw [← hbc _ _ hb] at d0 d1 d2 d3 d4 d5
  have KX : Hid (∀ W, Below W0.heap.size W0 W → (W.cell? ⟨w.heap.size, 0, none⟩ = some (.int .i64 7) ∧ W.cell? ⟨w.heap.size, 1, none⟩ = some (.int .i64 lo) ∧ W.cell? ⟨w.heap.size, 2, none⟩ = some (.int .i64 hi) ∧ W.cell? ⟨w.heap.size, 3, none⟩ = some (.slice a1 ks.length c1) ∧ W.cell? ⟨w.heap.size, 4, none⟩ = some (.int .i64 m) ∧ W.cell? ⟨w.heap.size, 5, none⟩ = some (.slice (some ⟨b, o, none⟩) kids.length c2)) ∧ (W.cell? ⟨b, o + 0 * 6, none⟩ = some (.int .i64 k1) ∧ W.cell? ⟨b, o + 0 * 6 + 1, none⟩ = some (.int .i64 k2) ∧ W.cell? ⟨b, o + 0 * 6 + 2, none⟩ = some (.int .i64 k3) ∧ W.cell? ⟨b, o + 0 * 6 + 3, none⟩ = some (.slice a4 n4 m4) ∧ W.cell? ⟨b, o + 0 * 6 + 4, none⟩ = some (.int .i64 k5) ∧ W.cell? ⟨b, o + 0 * 6 + 5, none⟩ = some (.slice a6 n6 m6))) := by
    intro W hb
    refine ⟨KB.out _ hb, ?_⟩
    have := (bcell hb).1
    simp only [this _ _ hb']; exact ⟨d0, d1, d2, d3, d4, d5⟩
  rw [hl1] at KX HBD HW ⊢
  simp only [Nat.zero_mul, Nat.add_zero] at KX
  have i1 : (0 : Int) < 1 := by decide
  obtain ⟨tx, htx⟩ : ∃ tx, Sh.text (kids[0]'hlt) = tx := ⟨_, rfl⟩
  rw [htx] at HC hll hkl ⊢
  have HBD2 := fun W hb => HBD W hb (44 :: 32 :: tx) (by omega)
  have L1 : ¬ 9223372036854775807 < 2 + tx.length := by omega
  have hbl2 : ((40 : UInt8) :: (bnd lo hi ++ (((44 : UInt8) :: 32 :: tx) ++ [41]))).length ≤ 4398046511104 := by simp only [List.length_cons, List.length_append, List.length_nil] at hll ⊢; omega
  obtain ⟨rs, hrs⟩ : ∃ rs, (40 : UInt8) :: (bnd lo hi ++ (((44 : UInt8) :: 32 :: tx) ++ [41])) = rs := ⟨_, rfl⟩
  rw [hrs] at HBD2 hbl2 ⊢
  have L2 : ¬ 9223372036854775807 < 4 + rs.length := by omega
  clear hW0 h hr0 hk hkids hgk hself hrk hr hbc d0 d1 d2 d3 d4 d5 hn0 hb0 hw0 htx hrs HBD hll hl1 HT
  go_enter Tryd.func54, Tryd.ntmps54
  go_wp2_with fail
  rw [← HW.out]
  go_region_held3 (fun W => (W.cell? ⟨w.heap.size, 0, none⟩ = some (.int .i64 7) ∧ W.cell? ⟨w.heap.size, 1, none⟩ = some (.int .i64 lo) ∧ W.cell? ⟨w.heap.size, 2, none⟩ = some (.int .i64 hi) ∧ W.cell? ⟨w.heap.size, 3, none⟩ = some (.slice a1 ks.length c1) ∧ W.cell? ⟨w.heap.size, 4, none⟩ = some (.int .i64 m) ∧ W.cell? ⟨w.heap.size, 5, none⟩ = some (.slice (some ⟨b, o, none⟩) 1 c2)) ∧ (W.cell? ⟨b, o, none⟩ = some (.int .i64 k1) ∧ W.cell? ⟨b, o + 1, none⟩ = some (.int .i64 k2) ∧ W.cell? ⟨b, o + 2, none⟩ = some (.int .i64 k3) ∧ W.cell? ⟨b, o + 3, none⟩ = some (.slice a4 n4 m4) ∧ W.cell? ⟨b, o + 4, none⟩ = some (.int .i64 k5) ∧ W.cell? ⟨b, o + 5, none⟩ = some (.slice a6 n6 m6)))
    (first | exact KX.out _ hB | exact KX.out _ hB.drew)
    (first | (go_at_call 54; with_reducible refine (HC _ (by first | exact hB | exact hB.drew)).out.mono ?_; rintro e1 w1 ⟨rfl, hb1⟩; replace hB := below2 (by first | exact hB | exact hB.drew) hb1 (Nat.le_refl _)) | (go_at_call 84; with_reducible refine (HBD2 _ (by first | exact hB | exact hB.drew)).out.mono ?_; rintro e1 w1 ⟨rfl, hb1⟩; replace hB := below2 (by first | exact hB | exact hB.drew) hb1 (Nat.le_refl _)))
  go_wp2
  go_ret
  exact ⟨ret_str (by simp [shWord, shWords]), below2 hA0 (by first | exact hB | exact hB.drew) (Nat.le_refl _)⟩

theorem Sh.self8 {lo hi : Int} {ks : List (List UInt8)} {m : Int} {kids : List Sh} (h : Sh.self (.mk 8 lo hi ks m kids) = true) : ks.length = kids.length ∧ 0 ≤ m ∧ m ≤ ks.length := by
  simp only [Sh.self, if_pos] at h
  simp only [Sh.fields, Bool.and_eq_true, decide_eq_true_eq] at h
  omega
theorem Sh.wfs_take : ∀ {xs : List Sh}, Sh.wfs xs → ∀ j, Sh.wfs (xs.take j)
  | [], _, j => by simp [Sh.wfs]
  | x :: xs, h, 0 => by simp [Sh.wfs]
  | x :: xs, h, j + 1 => by simp only [List.take_succ_cons, Sh.wfs]; exact ⟨h.1, Sh.wfs_take h.2 j⟩
theorem join_app {ps : List (List UInt8)} (h : ps ≠ []) (p : List UInt8) : Lib.join (ps ++ [p]) sep2 = Lib.join ps sep2 ++ (44 :: 32 :: p) := by
  match ps, h with
  | a :: r, _ => rw [join_snoc]; rfl
theorem Sh.joins_zero (k : Int) (ks : List (List UInt8)) (m : Int) (kids : List Sh) (h : 0 < kids.length) : Lib.join (Sh.texts k ks m 0 (kids.take (0 + 1))) sep2 = Sh.part k ks m 0 kids[0] := by
  rw [Sh.texts_take k ks m kids 0 h]; simp [Sh.texts, Lib.join_one]
theorem Sh.joins_succ (k : Int) (ks : List (List UInt8)) (m : Int) (kids : List Sh) (j : Nat) (h : j < kids.length) (hj : 0 < j) : Lib.join (Sh.texts k ks m 0 (kids.take (j + 1))) sep2 = Lib.join (Sh.texts k ks m 0 (kids.take j)) sep2 ++ (44 :: 32 :: Sh.part k ks m j kids[j]) := by
  rw [Sh.texts_take k ks m kids j h]
  refine join_app (fun e => ?_) _
  have := congrArg List.length e; rw [Sh.texts_length, List.length_take, Nat.min_eq_left (by omega), List.length_nil] at this; omega
theorem Sh.joins_le {k : Int} {ks : List (List UInt8)} {m : Int} {kids : List Sh} (hw : Sh.wfs kids) (hb : (ks.length + ssBulk ks) + (kids.length + Sh.bulks kids) ≤ 4294967295) (j : Nat) : (Lib.join (Sh.texts k ks m 0 (kids.take j)) sep2).length ≤ 1099511627776 := by
  have h1 := join_le (Sh.texts k ks m 0 (kids.take j))
  have h2 : Sh.wfs (kids.take j) := Sh.wfs_take hw j
  have h3 := Sh.texts_len k ks m 0 _ h2
  have h4 := Sh.nodess_take kids j
  have h5 := Sh.bulks_take kids j
  have h6 := Sh.nodess_bulks kids
  simp only [List.drop_zero] at h3
  omega
end Go.Proofs.YtkeieeogkeonfaaDoor
