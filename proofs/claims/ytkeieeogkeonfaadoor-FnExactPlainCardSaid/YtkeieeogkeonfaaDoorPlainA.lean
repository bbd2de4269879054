/- What JSON holds of a right value: the program's plain, but for lists and maps. -/
import Derived.Test.YtkeieeogkeonfaaDoorPlainDef
import Derived.Test.YtkeieeogkeonfaaDoorPlainKey
import Derived.Test.YtkeieeogkeonfaaDoorPairs
import Derived.Test.YtkeieeogkeonfaaDoorHex
import Derived.Test.YtkeieeogkeonfaaDoorPTab
import Derived.Test.YtkeieeogkeonfaaDoorKeep
import Derived.Test.YtkeieeogkeonfaaDoorValBox
import Derived.Deep.RegionHeld3
import Derived.Deep.QuietTactic
import Derived.BigQuiet
import Derived.StillTailTactics
import Derived.Deep.RegionLaw
import Derived.Deep.DeepCutAuto
import Derived.Test.YtkeieeogkeonfaaDoorValueIs
namespace Go.Proofs.YtkeieeogkeonfaaDoor
open Go.RowKit

def PlI (n : Nat) : Prop := ∀ (x : V) (cs : List Value) (d : Int) (w : World), x.nodes ≤ n → Rd w x.d cs → x.wf → x.bulk ≤ 1048576 → V.rightBy pairsOk d x = true → PTab w →
  Calls Tryd.prog 50 #[.agg cs.toArray] w fun e w' => ∃ cs', e = .returned (.agg cs'.toArray) ∧ Below w.heap.size w w' ∧ Own w.heap.size w' x.plain.d cs'

set_option maxHeartbeats 1000000 in
set_option maxRecDepth 10000 in
theorem plain_leaf {k n e : Int} {s : List UInt8} {kids : List V} (cs : List Value) (w : World) (h : Rd w (V.d (.mk k n e s kids)) cs) (hk : kids = []) (h6 : k ≠ 6) (h7 : k ≠ 7) (h8 : k ≠ 8) (h9 : k ≠ 9) :
    Calls Tryd.prog 50 #[.agg cs.toArray] w fun e1 w' => ∃ cs', e1 = .returned (.agg cs'.toArray) ∧ Below w.heap.size w w' ∧ Own w.heap.size w' (V.plain (.mk k n e s kids)).d cs' := by
  obtain ⟨k', n', e', s', kids', v1, hm, rfl, hkids⟩ := V.lay h
  simp only [V.mk.injEq] at hm
  obtain ⟨rfl, rfl, rfl, rfl, rfl⟩ := hm
  subst hk
  obtain ⟨a, c, rfl⟩ := Rd.sl_form hkids
  simp only [V.plain, if_neg h6, if_neg h7, if_neg h8, if_neg h9]
  have g6 : (k == 6) = false := by simpa using h6
  have g7 : (k == 7) = false := by simpa using h7
  have g8 : (k == 8) = false := by simpa using h8
  have g9 : (k == 9) = false := by simpa using h9
  clear h hkids h6 h7 h8 h9
  simp only [V.ds, List.length_nil]
  go_enter Tryd.func50, Tryd.ntmps50
  go_wp2
  refine bodyPost_ret (v := .agg #[.int .i64 k, .int .i64 n, .int .i64 e, .string ⟨s.toArray⟩, .slice a 0 c]) ?_ rfl ⟨[.int .i64 k, .int .i64 n, .int .i64 e, .string ⟨s.toArray⟩, .slice a 0 c], rfl, ?_, ?_⟩
  · simp [results, Tryd.results50, go_sem]
  · exact ((Below.refl _ _).alloc (Nat.le_refl _) _).alloc (by simp) _
  · exact V.own ⟨[], by simp, by simp, by simp [TreeC, V.ds]⟩

set_option maxHeartbeats 1000000 in
set_option maxRecDepth 10000 in
theorem plain_bytes {n e : Int} {s : List UInt8} {kids : List V} (cs : List Value) (w : World) (h : Rd w (V.d (.mk 6 n e s kids)) cs) (hs : s.length ≤ 1048576) :
    Calls Tryd.prog 50 #[.agg cs.toArray] w fun e1 w' => ∃ cs', e1 = .returned (.agg cs'.toArray) ∧ Below w.heap.size w w' ∧ Own w.heap.size w' (V.plain (.mk 6 n e s kids)).d cs' := by
  obtain ⟨k', n', e', s', kids', v1, hm, rfl, hkids⟩ := V.lay h
  simp only [V.mk.injEq] at hm
  obtain ⟨rfl, rfl, rfl, rfl, rfl⟩ := hm
  obtain ⟨a, c, rfl⟩ := Rd.sl_form hkids
  rw [V.ds_length] at hkids ⊢
  simp only [V.plain, if_pos]
  have HH := fun W => Lib.hid (putHex_impl s W (by omega))
  clear h hkids
  go_enter Tryd.func50, Tryd.ntmps50
  go_wp2_with (go_at_call 80; refine (HH _).out.mono ?_; rintro e1 w2 ⟨rfl, hb2⟩; obtain ⟨hc2, hf2⟩ := bcell hb2; have hz2 := hb2.size; simp at hz2; have g5 : w.heap.size + 1 < w2.heap.size := (by omega); have f5 : ∀ i, w2.frozen? ⟨w.heap.size + 1, i, none⟩ = false := (by intro i; rw [hf2 _ _ (by simp)]; simp [go_sem]); have c0 : w2.cell? ⟨w.heap.size + 1, 0, none⟩ = some (.int .i64 0) := (by rw [hc2 _ _ (by simp)]; simp [go_sem]); have c1 : w2.cell? ⟨w.heap.size + 1, 1, none⟩ = some (.int .i64 0) := (by rw [hc2 _ _ (by simp)]; simp [go_sem]); have c2 : w2.cell? ⟨w.heap.size + 1, 2, none⟩ = some (.int .i64 0) := (by rw [hc2 _ _ (by simp)]; simp [go_sem]); have c3 : w2.cell? ⟨w.heap.size + 1, 3, none⟩ = some (.string ⟨#[]⟩) := (by rw [hc2 _ _ (by simp)]; simp [go_sem]); have c4 : w2.cell? ⟨w.heap.size + 1, 4, none⟩ = some (.slice none 0 0) := (by rw [hc2 _ _ (by simp)]; simp [go_sem]); clear hc2 hf2)
  refine bodyPost_ret (v := .agg #[.int .i64 5, .int .i64 0, .int .i64 0, .string ⟨(hexL s).toArray⟩, .slice none 0 0]) ?_ rfl ⟨[.int .i64 5, .int .i64 0, .int .i64 0, .string ⟨(hexL s).toArray⟩, .slice none 0 0], rfl, ?_, ?_⟩
  · simp [results, Tryd.results50, go_sem, c0, c1, c2, c3, c4]
  · iterate 5 (refine Below.setCell ?_ (by simp) _)
    exact below2 (((Below.refl _ _).alloc (Nat.le_refl _) _).alloc (by simp) _) hb2 (Nat.le_refl _)
  · exact V.own ⟨[], by simp, by simp, by simp [TreeC, V.ds]⟩

set_option maxHeartbeats 1000000 in
set_option maxRecDepth 10000 in
theorem plain_tag {m : Nat} (hA : PlI m) {n e : Int} {s : List UInt8} {kids : List V} (cs : List Value) (d : Int) (w : World) (hn : V.nodess kids ≤ m) (h : Rd w (V.d (.mk 9 n e s kids)) cs) (hwf : V.wf (.mk 9 n e s kids)) (hb : kids.length + V.bulks kids ≤ 1048576) (hr : V.rightBy pairsOk d (.mk 9 n e s kids) = true) (hT : PTab w) :
    Calls Tryd.prog 50 #[.agg cs.toArray] w fun e1 w' => ∃ cs', e1 = .returned (.agg cs'.toArray) ∧ Below w.heap.size w w' ∧ Own w.heap.size w' (V.plain (.mk 9 n e s kids)).d cs' := by
  obtain ⟨k', n', e', s', kids', v1, hm, rfl, hkids⟩ := V.lay h
  simp only [V.mk.injEq] at hm
  obtain ⟨rfl, rfl, rfl, rfl, rfl⟩ := hm
  obtain ⟨hkr, hself⟩ := V.right_at hr
  have h1 := V.self_nine hself
  obtain ⟨y, rfl⟩ : ∃ y, kids = [y] := by
    match kids, h1 with
    | [y], _ => exact ⟨y, rfl⟩
  obtain ⟨a, c, rfl, hg⟩ := hkids.values
  obtain ⟨_, _, b, o, rfl, hb0, hcell⟩ := hg (by simp)
  obtain ⟨v0, v1, v2, v3, v4, hr', d0, d1, d2, d3, d4⟩ := hcell 0 (by simp)
  simp only [List.getElem_cons_zero] at hr'
  obtain ⟨k1, k2, k3, s4, a5, n5, m5, hcs⟩ := V.form hr'
  simp only [List.cons.injEq, and_true] at hcs
  obtain ⟨rfl, rfl, rfl, rfl, rfl⟩ := hcs
  simp only [V.plain, V.plainHd, if_pos, if_neg (show ¬ (9 : Int) = 6 by decide)]
  simp only [Nat.zero_mul, Nat.add_zero] at d0 d1 d2 d3 d4
  have hA1 : Below w.heap.size w ((w.alloc (.cells #[.int .i64 9, .int .i64 n, .int .i64 e, .string ⟨s.toArray⟩, .slice (some ⟨b, o, none⟩) 1 c] 41)).alloc (.cells #[.int .i64 0, .int .i64 0, .int .i64 0, .string ⟨#[]⟩, .slice none 0 0] 41)) := ((Below.refl _ _).alloc (Nat.le_refl _) _).alloc (by simp) _
  have HC := Lib.hid (hA y _ (d - 1) _ (by simp only [V.nodess] at hn; omega) (hr'.below hA1) hwf.2.2.2.2.2.1 (by simp only [V.bulks, List.length_cons, List.length_nil] at hb; omega) (hkr y (by simp)) (hT.below hA1))
  have i1 : (0 : Int) < 1 := by decide
  clear h hkids hg hcell hr' hwf hb hr hT hkr hself hn h1 hA
  simp only [List.length_cons, List.length_nil]
  go_enter Tryd.func50, Tryd.ntmps50
  go_wp2_with (go_at_call 50; refine HC.out.mono ?_; rintro e1 w2 ⟨cs', rfl, hb2, hox⟩; obtain ⟨x0, x1, x2, x3, xa, xl, xc, rfl⟩ := V.form hox.rd; obtain ⟨hc2, hf2⟩ := bcell hb2; have hz2 := hb2.size; simp at hz2; have g5 : w.heap.size + 1 < w2.heap.size := (by omega); have f5 : ∀ i, w2.frozen? ⟨w.heap.size + 1, i, none⟩ = false := (by intro i; rw [hf2 _ _ (by simp)]; simp [go_sem]); have c0 : w2.cell? ⟨w.heap.size + 1, 0, none⟩ = some (.int .i64 0) := (by rw [hc2 _ _ (by simp)]; simp [go_sem]); have c1 : w2.cell? ⟨w.heap.size + 1, 1, none⟩ = some (.int .i64 0) := (by rw [hc2 _ _ (by simp)]; simp [go_sem]); have c2 : w2.cell? ⟨w.heap.size + 1, 2, none⟩ = some (.int .i64 0) := (by rw [hc2 _ _ (by simp)]; simp [go_sem]); have c3 : w2.cell? ⟨w.heap.size + 1, 3, none⟩ = some (.string ⟨#[]⟩) := (by rw [hc2 _ _ (by simp)]; simp [go_sem]); have c4 : w2.cell? ⟨w.heap.size + 1, 4, none⟩ = some (.slice none 0 0) := (by rw [hc2 _ _ (by simp)]; simp [go_sem]); clear hc2 hf2)
  refine bodyPost_ret (v := .agg #[.int .i64 x0, .int .i64 x1, .int .i64 x2, .string ⟨x3.toArray⟩, .slice xa xl xc]) ?_ rfl ⟨[.int .i64 x0, .int .i64 x1, .int .i64 x2, .string ⟨x3.toArray⟩, .slice xa xl xc], rfl, ?_, ?_⟩
  · simp [results, Tryd.results50, go_sem, c0, c1, c2, c3, c4]
  · iterate 5 (refine Below.setCell ?_ (by simp) _)
    exact below2 hA1 hb2 (Nat.le_refl _)
  · refine Own.mono (B := w.heap.size + 1 + 1) ?_ (by omega)
    iterate 5 (refine Own.setCell ?_ (by simp) _)
    simpa using hox
end Go.Proofs.YtkeieeogkeonfaaDoor

/- What JSON holds of a right value: the program's plain, of lists. -/
namespace Go.Proofs.YtkeieeogkeonfaaDoor
open Go.RowKit

set_option maxHeartbeats 2000000 in
set_option maxRecDepth 10000 in
theorem plain_list {m : Nat} (hA : PlI m) {n e : Int} {s : List UInt8} {kids : List V} (cs : List Value) (d : Int) (w : World) (hn : V.nodess kids ≤ m) (h : Rd w (V.d (.mk 7 n e s kids)) cs) (hwf : V.wf (.mk 7 n e s kids)) (hb : kids.length + V.bulks kids ≤ 1048576) (hr : V.rightBy pairsOk d (.mk 7 n e s kids) = true) (hT : PTab w) :
    Calls Tryd.prog 50 #[.agg cs.toArray] w fun e1 w' => ∃ cs', e1 = .returned (.agg cs'.toArray) ∧ Below w.heap.size w w' ∧ Own w.heap.size w' (V.plain (.mk 7 n e s kids)).d cs' := by
  obtain ⟨k', n', e', s', kids', v1, hm, rfl, hkids⟩ := V.lay h
  simp only [V.mk.injEq] at hm
  obtain ⟨rfl, rfl, rfl, rfl, rfl⟩ := hm
  obtain ⟨hkr, hself⟩ := V.right_at hr
  obtain ⟨a, c, rfl, hg⟩ := hkids.values
  have HPL := Lib.hid (show V.plain (.mk 7 n e s kids) = .mk 7 0 0 [] (V.plains kids) by simp [V.plain])
  rw [HPL.out]
  have hkw : V.wfs kids := hwf.2.2.2.2.2
  obtain ⟨B, hBd⟩ : ∃ B, B = w.heap.size + 3 := ⟨_, rfl⟩
  obtain ⟨W0, hW0⟩ : ∃ W0, W0 = (((w.alloc (.cells #[.int .i64 7, .int .i64 n, .int .i64 e, .string ⟨s.toArray⟩, .slice a kids.length c] 41)).alloc (.cells #[.int .i64 0, .int .i64 0, .int .i64 0, .string ⟨#[]⟩, .slice none 0 0] 41)).alloc (.cells #[.int .i64 7, .int .i64 0, .int .i64 0, .string ⟨#[]⟩, .slice none 0 0] 41)) := ⟨_, rfl⟩
  have HW := Lib.hid hW0
  have hA0 : Below w.heap.size w W0 := by rw [hW0]; exact (((Below.refl _ _).alloc (Nat.le_refl _) _).alloc (by simp) _).alloc (by simp <;> omega) _
  have hz : W0.heap.size = B := by rw [hW0, hBd]; simp
  have hbox : valBox W0 (w.heap.size + 1 + 1) 7 0 0 [] (.slice none 0 0) := by
    rw [hW0]
    have := valBox.new (w := (w.alloc (.cells #[.int .i64 7, .int .i64 n, .int .i64 e, .string ⟨s.toArray⟩, .slice a kids.length c] 41)).alloc (.cells #[.int .i64 0, .int .i64 0, .int .i64 0, .string ⟨#[]⟩, .slice none 0 0] 41)) (k := 7) (n := 0) (e := 0) (s := []) (v := .slice none 0 0)
    simpa using this
  have hres : valBox W0 (w.heap.size + 1) 0 0 0 [] (.slice none 0 0) := by
    rw [hW0]
    have := (valBox.new (w := w.alloc (.cells #[.int .i64 7, .int .i64 n, .int .i64 e, .string ⟨s.toArray⟩, .slice a kids.length c] 41)) (k := 0) (n := 0) (e := 0) (s := []) (v := .slice none 0 0)).alloc (.cells #[.int .i64 7, .int .i64 0, .int .i64 0, .string ⟨#[]⟩, .slice none 0 0] 41)
    simpa using this
  have hsb : w.heap.size + 1 + 1 < B := by omega
  have hB3 : B ≤ w.heap.size + 3 := by omega
  clear hW0 h hwf hself hr hBd
  have HG := Lib.hid hg
  clear hg
  go_enter Tryd.func50, Tryd.ntmps50
  go_wp2_with fail
  rw [← HW.out]
  go_loopw [31] (fun i wr => ∃ (j : Nat) (v : Value), j ≤ kids.length ∧ i = .int .i64 j ∧ OwnSl B wr 41 5 v (V.ds (V.plains (kids.take j))) ∧ valBox wr (w.heap.size + 1 + 1) 7 0 0 [] v ∧ Keep (· = w.heap.size + 1 + 1) W0 wr) (fun i _ => kids.length - (intOf i).toNat)
  case atStart => exact ⟨0, _, Nat.zero_le _, rfl, by simpa [V.plains, V.ds] using OwnSl.nil, hbox, Keep.refl _ _⟩
  case round =>
    obtain ⟨j, v, hj, rfl, hown, hbx, hkp⟩ := hrel
    obtain ⟨av, cv, rfl⟩ := hown.form
    have hdl : (V.ds (V.plains (kids.take j))).length = j := by rw [V.ds_length, V.plains_length, List.length_take]; omega
    rw [hdl] at hown hbx
    have hsz := hkp.size
    obtain ⟨q0, q1, q2, q3, q4⟩ := hbx.cells
    have qf := hbx.free 4
    by_cases hlt : j < kids.length
    · obtain ⟨_, _, b, o, rfl, hb0, hcell⟩ := HG.out (by intro e; rw [e] at hlt; simp at hlt)
      obtain ⟨v0, v1, v2, v3, v4, hr, d0, d1, d2, d3, d4⟩ := hcell j hlt
      obtain ⟨k1, k2, k3, s4, a5, n5, m5, hcs⟩ := V.form hr
      simp only [List.cons.injEq, and_true] at hcs
      obtain ⟨rfl, rfl, rfl, rfl, rfl⟩ := hcs
      have hbw : Below w.heap.size w wr := hA0.trans (hkp.below (by omega) (fun k hk e => by omega))
      have hbc := (bcell hbw).1
      rw [← hbc _ _ hb0] at d0 d1 d2 d3 d4
      have i1 : (0 : Int) ≤ j := by omega
      have i2 : (j : Int) < kids.length := by omega
      have hn1 := V.nodes_get kids j hlt
      have hb1 := V.bulk_getB hb j hlt
      have hal : Below wr.heap.size wr (wr.alloc (.cells #[.int .i64 k1, .int .i64 k2, .int .i64 k3, .string ⟨s4.toArray⟩, .slice a5 n5 m5] 41)) := (Below.refl _ _).alloc (Nat.le_refl _) _
      have HC := fun W (hW : Below wr.heap.size wr W) => Lib.hid (hA kids[j] _ (d - 1) W (Nat.le_trans hn1 hn) ((hr.below hbw).below hW) (V.wfs_get hkw j hlt) hb1 (hkr _ (List.getElem_mem hlt)) (hT.below (below2 hbw hW (Nat.le_refl _))))
      have HS := Lib.hid (show V.ds (V.plains (kids.take (j + 1))) = V.ds (V.plains (kids.take j)) ++ [(V.plain kids[j]).d] by rw [V.plains_take kids j hlt, V.ds_map, V.ds_map, List.map_append]; rfl)
      clear hbc hr hn1 hb1 hcell hkids
      have KW : Hid (∀ W, Below (wr.heap.size + 1) (wr.alloc (.cells #[.int .i64 k1, .int .i64 k2, .int .i64 k3, .string ⟨s4.toArray⟩, .slice a5 n5 m5] 41)) W → (W.cell? ⟨w.heap.size + 1 + 1, 4, none⟩ = some (.slice av j cv) ∧ W.frozen? ⟨w.heap.size + 1 + 1, 4, none⟩ = false) ∧ (W.cell? ⟨wr.heap.size, 0, none⟩ = some (.int .i64 k1) ∧ W.cell? ⟨wr.heap.size, 1, none⟩ = some (.int .i64 k2) ∧ W.cell? ⟨wr.heap.size, 2, none⟩ = some (.int .i64 k3) ∧ W.cell? ⟨wr.heap.size, 3, none⟩ = some (.string ⟨s4.toArray⟩) ∧ W.cell? ⟨wr.heap.size, 4, none⟩ = some (.slice a5 n5 m5))) := by
        intro W hW
        have b1 := (hbx.alloc (.cells #[.int .i64 k1, .int .i64 k2, .int .i64 k3, .string ⟨s4.toArray⟩, .slice a5 n5 m5] 41)).below hW (by omega)
        have b2 := (valBox.new (w := wr) (k := k1) (n := k2) (e := k3) (s := s4) (v := .slice a5 n5 m5)).below hW (by omega)
        exact ⟨⟨b1.cells.2.2.2.2, b1.free 4⟩, b2.cells⟩
      obtain ⟨WB, hWB⟩ : ∃ WB, WB = wr.alloc (.cells #[.int .i64 k1, .int .i64 k2, .int .i64 k3, .string ⟨s4.toArray⟩, .slice a5 n5 m5] 41) := ⟨_, rfl⟩
      have HWB := Lib.hid hWB
      have hzB : WB.heap.size = wr.heap.size + 1 := by rw [hWB]; simp
      rw [← hWB] at KW hal
      clear hWB
      go_wp2_with fail
      rw [← HWB.out]
      have hE := Below.refl (wr.heap.size + 1) WB
      obtain ⟨⟨p4, pf⟩, r0, r1, r2, r3, r4⟩ := KW.out _ hE
      go_region_law (first | (rw [if_pos (by rfl)]; go_simp; go_at_call 50; refine (HC _ (by first | exact hal | exact hal.drew)).out.mono ?_; rintro e1 w1 ⟨cs', rfl, hb1, hox⟩; obtain ⟨x0, x1, x2, x3, xa, xl, xc, rfl⟩ := V.form hox.rd; obtain ⟨⟨p4', pf'⟩, r0', r1', r2', r3', r4'⟩ := KW.out _ (hE.drew.trans (hb1.mono (by simp; omega))); have hz9 : w.heap.size + 1 + 1 < w1.heap.size := (by have h1 := hb1.size; simp only [World.drew] at h1; omega)) | (refine step_appD tyVi rfl rfl B hown (below2 (by first | exact hal | exact hal.drew) hb1 (Nat.le_refl _)) (by omega) (Owns.of1 (hox.mono (by first | exact hal.size | exact hal.drew.size))) (by intro d hd; simp at hd; subst hd; exact V.width _) (by simp) (V.cells_one hox.rd) rfl 1 rfl (by rw [hdl]; simp; omega) (by decide) ?_; intro g cap w2 hown2 hbel2; have hbx2 := hbx.below hbel2 hsb; have p9 := hbx2.cells.2.2.2.2; have f9 := hbx2.free 4))
      all_goals
        rw [hdl] at hown2
        go_wp2
        go_roundw
        case rel => exact ⟨j + 1, _, by omega, by go_num, by rw [HS.out]; exact hown2.setCell (p := ⟨w.heap.size + 1 + 1, 4, none⟩) hsb _, hbx2.set4 _, (hkp.belowB hbel2 (by omega)).setCell (.inl rfl) _⟩
        case measure => simp [intOf]; omega
    · obtain rfl : j = kids.length := by omega
      rw [List.take_length] at hown
      have hbr := hres.same (hkp.block _ hres.lt (by omega))
      obtain ⟨c0, c1, c2, c3, c4⟩ := hbr.cells
      have f5 := hbr.free
      have hbw : Below w.heap.size w wr := hA0.trans (hkp.below (by omega) (fun k hk e => by omega))
      have hz1 : w.heap.size + 1 < wr.heap.size := hbr.lt
      clear hbx hkp hkids HG hres hbox
      go_wp2
      refine bodyPost_ret (v := .agg #[.int .i64 7, .int .i64 0, .int .i64 0, .string ⟨#[]⟩, .slice av kids.length cv]) ?_ rfl ⟨[.int .i64 7, .int .i64 0, .int .i64 0, .string ⟨#[]⟩, .slice av kids.length cv], rfl, ?_, ?_⟩
      · simp [results, Tryd.results50, go_sem, c0, c1, c2, c3, c4]
      · iterate 5 (refine Below.setCell ?_ (by simp) _)
        exact hbw
      · refine Own.mono (B := B) ?_ (by omega)
        iterate 5 (refine Own.setCell ?_ (by simp; omega) _)
        have := V.own (k := 7) (m := 0) (e := 0) (s := []) (hown.own (by decide))
        exact this
end Go.Proofs.YtkeieeogkeonfaaDoor

/- What JSON holds of a right value: the program's plain, of maps. -/
namespace Go.Proofs.YtkeieeogkeonfaaDoor
open Go.RowKit

/-- a pair in a row of pairs -/
theorem RepC.pair {S : Nat → Prop} {w : World} {xs : List V} {v : Value} (h : RepC S w (.sl 10 (pairsD xs)) [v]) : ∃ a c, v = .slice a (xs.length / 2) c ∧ ∀ j (hj : 2 * j + 1 < xs.length), ∃ b o v0 v1 v2 v3 v4 u0 u1 u2 u3 u4, a = some ⟨b, o, none⟩ ∧ S b ∧
    RepC S w (xs[2 * j]'(by omega)).d [v0, v1, v2, v3, v4] ∧ RepC S w xs[2 * j + 1].d [u0, u1, u2, u3, u4] ∧
    w.cell? ⟨b, o + j * 10, none⟩ = some v0 ∧ w.cell? ⟨b, o + j * 10 + 1, none⟩ = some v1 ∧ w.cell? ⟨b, o + j * 10 + 2, none⟩ = some v2 ∧ w.cell? ⟨b, o + j * 10 + 3, none⟩ = some v3 ∧ w.cell? ⟨b, o + j * 10 + 4, none⟩ = some v4 ∧
    w.cell? ⟨b, o + j * 10 + 5, none⟩ = some u0 ∧ w.cell? ⟨b, o + j * 10 + 6, none⟩ = some u1 ∧ w.cell? ⟨b, o + j * 10 + 7, none⟩ = some u2 ∧ w.cell? ⟨b, o + j * 10 + 8, none⟩ = some u3 ∧ w.cell? ⟨b, o + j * 10 + 9, none⟩ = some u4 := by
  obtain ⟨a, c, rfl, hg⟩ := RepC.slice h
  rw [pairsD_length]
  refine ⟨a, c, rfl, fun j hj => ?_⟩
  have hne : pairsD xs ≠ [] := by intro e; have := congrArg List.length e; rw [pairsD_length] at this; simp at this; omega
  obtain ⟨_, _, _, b, o, rfl, hb, hcell⟩ := hg hne
  obtain ⟨cs, hl, hr, hc⟩ := hcell j (by rw [pairsD_length]; omega)
  rw [pairsD_get xs j hj] at hr
  simp only [RepC, RepCs] at hr
  obtain ⟨c1, c2, rfl, l1, h1, c3, c4, rfl, l3, h3, rfl⟩ := hr
  rw [V.width] at l1 l3
  match c1, l1, c3, l3 with
  | [v0, v1, v2, v3, v4], _, [u0, u1, u2, u3, u4], _ =>
    rw [Nat.mul_comm 10 j] at hc
    exact ⟨b, o, v0, v1, v2, v3, v4, u0, u1, u2, u3, u4, rfl, hb, h1, h3, hc 0 _ rfl, hc 1 _ rfl, hc 2 _ rfl, hc 3 _ rfl, hc 4 _ rfl, hc 5 _ rfl, hc 6 _ rfl, hc 7 _ rfl, hc 8 _ rfl, hc 9 _ rfl⟩
/-- the box of a pair -/
def pairBox (w : World) (g : Nat) (cs : List Value) : Prop := w.heap[g]? = some (.cells cs.toArray 84 (0, 0))
theorem pairBox.cell {w : World} {g : Nat} {cs : List Value} (h : pairBox w g cs) (i : Nat) (u : Value) (hu : cs[i]? = some u) : w.cell? ⟨g, i, none⟩ = some u := by rw [cell_of_block h]; simpa using hu

theorem pairBox.below {B : Nat} {w w' : World} {g : Nat} {cs : List Value} (h : pairBox w g cs) (hb : Below B w w') (hg : g < B) : pairBox w' g cs := (hb.block g hg).trans h
theorem valBox.fill {w : World} {g : Nat} {k n e : Int} {s : List UInt8} {v : Value} (h : valBox w g k n e s v) (k' n' e' : Int) (s' : List UInt8) (v' : Value) :
    valBox (((((w.setCell ⟨g, 0, none⟩ (.int .i64 k')).setCell ⟨g, 1, none⟩ (.int .i64 n')).setCell ⟨g, 2, none⟩ (.int .i64 e')).setCell ⟨g, 3, none⟩ (.string ⟨s'.toArray⟩)).setCell ⟨g, 4, none⟩ v') g k' n' e' s' v' := by
  have h0 := heap_setCell_at (o := 0) h (.int .i64 k')
  have h1 := heap_setCell_at (o := 1) h0 (.int .i64 n')
  have h2 := heap_setCell_at (o := 2) h1 (.int .i64 e')
  have h3 := heap_setCell_at (o := 3) h2 (.string ⟨s'.toArray⟩)
  exact heap_setCell_at (o := 4) h3 v'

set_option maxHeartbeats 4000000 in
set_option maxRecDepth 10000 in
theorem plain_map {m : Nat} (hA : PlI m) {n e : Int} {s : List UInt8} {kids : List V} (cs : List Value) (d : Int) (w : World) (hn : V.nodess kids ≤ m) (h : Rd w (V.d (.mk 8 n e s kids)) cs) (hwf : V.wf (.mk 8 n e s kids)) (hb : kids.length + V.bulks kids ≤ 1048576) (hr : V.rightBy pairsOk d (.mk 8 n e s kids) = true) (hT : PTab w) :
    Calls Tryd.prog 50 #[.agg cs.toArray] w fun e1 w' => ∃ cs', e1 = .returned (.agg cs'.toArray) ∧ Below w.heap.size w w' ∧ Own w.heap.size w' (V.plain (.mk 8 n e s kids)).d cs' := by
  have h00 := h
  obtain ⟨k', n', e', s', kids', v1, hm, rfl, hkids⟩ := V.lay h
  simp only [V.mk.injEq] at hm
  obtain ⟨rfl, rfl, rfl, rfl, rfl⟩ := hm
  obtain ⟨hkr, hself⟩ := V.right_at hr
  obtain ⟨e1', e2', e3', heven, hkeys⟩ := V.self_eight hself
  clear e1' e2' e3'
  obtain ⟨a, c, rfl⟩ := Rd.sl_form hkids
  rw [V.ds_length] at hkids h00 ⊢
  obtain ⟨tot, htot⟩ : ∃ tot, V.plainM [] kids = tot := ⟨_, rfl⟩
  have HPL := Lib.hid (show V.plain (.mk 8 n e s kids) = .mk 8 0 0 [] tot by simp [V.plain, htot])
  rw [HPL.out]
  have hkw : V.wfs kids := hwf.2.2.2.2.2
  obtain ⟨W0, hW0⟩ : ∃ W0, W0 = (((w.alloc (.cells #[.int .i64 8, .int .i64 n, .int .i64 e, .string ⟨s.toArray⟩, .slice a kids.length c] 41)).alloc (.cells #[.int .i64 0, .int .i64 0, .int .i64 0, .string ⟨#[]⟩, .slice none 0 0] 41)).alloc (.cells #[.int .i64 8, .int .i64 0, .int .i64 0, .string ⟨#[]⟩, .slice none 0 0] 41)) := ⟨_, rfl⟩
  have HW := Lib.hid hW0
  have hA0 : Below w.heap.size w W0 := by rw [hW0]; exact (((Below.refl _ _).alloc (Nat.le_refl _) _).alloc (by simp) _).alloc (by simp <;> omega) _
  have hz : W0.heap.size = w.heap.size + 3 := by rw [hW0]; simp
  have hbox : valBox W0 (w.heap.size + 1 + 1) 8 0 0 [] (.slice none 0 0) := by
    rw [hW0]
    have := valBox.new (w := (w.alloc (.cells #[.int .i64 8, .int .i64 n, .int .i64 e, .string ⟨s.toArray⟩, .slice a kids.length c] 41)).alloc (.cells #[.int .i64 0, .int .i64 0, .int .i64 0, .string ⟨#[]⟩, .slice none 0 0] 41)) (k := 8) (n := 0) (e := 0) (s := []) (v := .slice none 0 0)
    simpa using this
  have hres : valBox W0 (w.heap.size + 1) 0 0 0 [] (.slice none 0 0) := by
    rw [hW0]
    have := (valBox.new (w := w.alloc (.cells #[.int .i64 8, .int .i64 n, .int .i64 e, .string ⟨s.toArray⟩, .slice a kids.length c] 41)) (k := 0) (n := 0) (e := 0) (s := []) (v := .slice none 0 0)).alloc (.cells #[.int .i64 8, .int .i64 0, .int .i64 0, .string ⟨#[]⟩, .slice none 0 0] 41)
    simpa using this
  have hbx0 : valBox W0 w.heap.size 8 n e s (.slice a kids.length c) := by
    rw [hW0]
    exact ((valBox.new (w := w)).alloc _).alloc _
  obtain ⟨b0, b1, b2, b3, b4⟩ := hbx0.cells
  have HP := Lib.hid (pairsOf_any w.heap.size (.mk 8 n e s kids) _ W0 (RepC.frame (fun b hlt => hA0.block b hlt) h00) hA0.size (by simp only [V.kids]; omega))
  clear hW0 h h00 hwf hself hr hbx0
  go_enter Tryd.func50, Tryd.ntmps50
  go_wp2_with fail
  rw [← HW.out]
  go_wp2_with (go_at_call 81; refine HP.out.mono ?_; rintro e1 WP ⟨vp, rfl, hbp, hpr⟩; obtain ⟨pa, pc, rfl, hpg⟩ := RepC.pair hpr)
  clear b0 b1 b2 b3 b4 hpr
  simp only [V.kids] at hpg ⊢
  have HPG := Lib.hid hpg
  have hzP := hbp.size
  obtain ⟨B, hBd⟩ : ∃ B, B = WP.heap.size := ⟨_, rfl⟩
  have hbox1 := hbox.below hbp hbox.lt
  have hres1 := hres.below hbp hres.lt
  have hsb : w.heap.size + 1 + 1 < B := by omega
  have hAP : Below w.heap.size w WP := below2 hA0 hbp (Nat.le_refl _)
  have hBP : B ≤ WP.heap.size := by omega
  have hBP2 : WP.heap.size ≤ B := by omega
  clear hpg hBd hbox hres
  go_loopw [50] (fun i wr => ∃ (j : Nat) (v : Value) (acc : List V), j ≤ kids.length / 2 ∧ i = .int .i64 j ∧ OwnSl B wr 41 5 v (V.ds acc) ∧ V.plainM acc (kids.drop (2 * j)) = tot ∧ acc.length ≤ 2 * j ∧ valBox wr (w.heap.size + 1 + 1) 8 0 0 [] v ∧ Keep (· = w.heap.size + 1 + 1) WP wr) (fun i _ => kids.length - (intOf i).toNat)
  case atStart => exact ⟨0, _, [], Nat.zero_le _, rfl, by simpa [V.ds] using OwnSl.nil, by simpa using htot, by simp, hbox1, Keep.refl _ _⟩
  case round =>
    obtain ⟨j, v, acc, hj, rfl, hown, hpm, hal, hbx, hkp⟩ := hrel
    obtain ⟨av, cv, rfl⟩ := hown.form
    rw [V.ds_length] at hown hbx
    have hsz := hkp.size
    have HPM := Lib.hid hpm
    by_cases hlt : j < kids.length / 2
    · have hlt2 : 2 * j + 1 < kids.length := by omega
      have hlt1 : 2 * j < kids.length := by omega
      obtain ⟨bp, op, v0, v1, v2, v3, v4, u0', u1', u2', u3', u4', rfl, hbp9, hrx, hry, d0, d1, d2, d3, d4, d5, d6, d7, d8, d9⟩ := HPG.out j hlt2
      obtain ⟨k1, k2, k3, s4, a5, n5, m5, hcs⟩ := V.formS hrx
      simp only [List.cons.injEq, and_true] at hcs
      obtain ⟨rfl, rfl, rfl, rfl, rfl⟩ := hcs
      obtain ⟨l1, l2, l3, t4, b5, r5, z5, hcs⟩ := V.formS hry
      simp only [List.cons.injEq, and_true] at hcs
      obtain ⟨rfl, rfl, rfl, rfl, rfl⟩ := hcs
      have hkc : ∀ b o, b < WP.heap.size → b ≠ w.heap.size + 1 + 1 → wr.cell? ⟨b, o, none⟩ = WP.cell? ⟨b, o, none⟩ := fun b o h1 h2 => hkp.cell h1 h2
      have hbn : bp ≠ w.heap.size + 1 + 1 := by rintro rfl; rcases hbp9 with h | h <;> omega
      have hbp8 : bp < WP.heap.size := cell_lt d0
      have hfr : ∀ {d : D} {cs : List Value}, RepC (fun b => b < w.heap.size ∨ W0.heap.size ≤ b) WP d cs → Rd wr d cs := fun h => Rd.of (RepC.frame (S := fun b => b < WP.heap.size ∧ b ≠ w.heap.size + 1 + 1) (fun b hb => hkp.block b hb.1 hb.2) (RepC.mono (fun b h1 h2 => ⟨h1, by omega⟩) h))
      replace hrx := hfr hrx
      replace hry := hfr hry
      rw [← hkc _ _ hbp8 hbn] at d0 d1 d2 d3 d4 d5 d6 d7 d8 d9
      have hbw : Below w.heap.size w wr := hAP.trans (hkp.below (by omega) (fun k hk e => by omega))
      have hbq : bp < wr.heap.size := by omega
      have hs9 : w.heap.size + 1 + 1 < wr.heap.size := by omega
      clear hfr
      have i1 : (0 : Int) ≤ j := by omega
      have i2 : (j : Int) < ((kids.length / 2 : Nat) : Int) := by omega
      clear hkc
      have hkf := V.key_form (hkr _ (List.getElem_mem hlt1)) (hkeys j hlt1)
      have hkw1 := V.wfs_get hkw (2 * j) hlt1
      obtain ⟨kt, hkt⟩ : ∃ kt, keyV kids[2 * j] = V.mk 5 0 0 kt [] := by rcases hkf with ⟨-, kn, hxk⟩ | ⟨s4, hxk⟩ <;> rw [hxk] <;> exact ⟨_, rfl⟩
      have HKV := Lib.hid hkt
      clear hkt
      obtain ⟨WB, hWB⟩ : ∃ WB, WB = (wr.alloc (.cells #[.int .i64 k1, .int .i64 k2, .int .i64 k3, .string ⟨s4.toArray⟩, .slice a5 n5 m5, .int .i64 l1, .int .i64 l2, .int .i64 l3, .string ⟨t4.toArray⟩, .slice b5 r5 z5] 84)).alloc (.cells #[.int .i64 k1, .int .i64 k2, .int .i64 k3, .string ⟨s4.toArray⟩, .slice a5 n5 m5] 41) := ⟨_, rfl⟩
      have HWB := Lib.hid hWB
      have hzB : WB.heap.size = wr.heap.size + 2 := by rw [hWB]; simp
      have halB : Below wr.heap.size wr WB := by rw [hWB]; exact ((Below.refl _ _).alloc (Nat.le_refl _) _).alloc (by simp) _
      have ho1 : valBox WB (w.heap.size + 1 + 1) 8 0 0 [] (.slice av acc.length cv) := hbx.below halB (by omega)
      have hk0 : valBox WB (wr.heap.size + 1) k1 k2 k3 s4 (.slice a5 n5 m5) := by rw [hWB]; have := valBox.new (w := wr.alloc (.cells #[.int .i64 k1, .int .i64 k2, .int .i64 k3, .string ⟨s4.toArray⟩, .slice a5 n5 m5, .int .i64 l1, .int .i64 l2, .int .i64 l3, .string ⟨t4.toArray⟩, .slice b5 r5 z5] 84)) (k := k1) (n := k2) (e := k3) (s := s4) (v := .slice a5 n5 m5); simpa using this
      have hp1 : pairBox WB wr.heap.size [.int .i64 k1, .int .i64 k2, .int .i64 k3, .string ⟨s4.toArray⟩, .slice a5 n5 m5, .int .i64 l1, .int .i64 l2, .int .i64 l3, .string ⟨t4.toArray⟩, .slice b5 r5 z5] := by rw [hWB]; unfold pairBox; rw [Below.heap_alloc _ _ _ (by simp)]; exact heap_alloc_new _ _
      clear hWB
      obtain ⟨q0, q1, q2, q3, q4⟩ := hbx.cells
      go_upto_if 58 with fail
      rw [← HWB.out]
      clear q0 q1 q2 q3 q4
      go_cut [9] (fun s9 wx => s9 = .pointer (some ⟨wr.heap.size + 1, 0, none⟩) ∧ Below wr.heap.size wr wx ∧ wr.heap.size + 2 ≤ wx.heap.size ∧ valBox wx (w.heap.size + 1 + 1) 8 0 0 [] (.slice av acc.length cv) ∧ pairBox wx wr.heap.size [.int .i64 k1, .int .i64 k2, .int .i64 k3, .string ⟨s4.toArray⟩, .slice a5 n5 m5, .int .i64 l1, .int .i64 l2, .int .i64 l3, .string ⟨t4.toArray⟩, .slice b5 r5 z5] ∧ ∃ ea ec, valBox wx (wr.heap.size + 1) 5 0 0 kt (.slice ea 0 ec))
      case first =>
        rcases hkf with ⟨-, kn, hxk⟩ | ⟨s4', hxk⟩
        · rw [hxk] at hrx hkw1
          obtain ⟨k', n', e', s', kids', v1, hm, hcs, hk9⟩ := V.lay hrx
          simp only [V.mk.injEq] at hm
          obtain ⟨rfl, rfl, rfl, rfl, rfl⟩ := hm
          simp only [List.cons.injEq, and_true, Value.int.injEq, Value.string.injEq, true_and] at hcs
          obtain ⟨h1, h2, h3, h4, rfl⟩ := hcs
          subst h1; subst h2; subst h3
          have hkn : i64ok k2 := hkw1.2.1
          obtain rfl : kt = Lib.itoa k2 := by have := HKV.out; rw [hxk] at this; simp only [keyV] at this; simp [V.kind, V.num] at this; exact this.symm
          have HDT := Lib.hid (decText_impl k2 WB hkn (hT.below (below2 hbw halB (Nat.le_refl _))).2)
          obtain ⟨m0, m1, m2, m3, m4⟩ := hk0.cells
          obtain ⟨WK, hWK⟩ : ∃ f : World → World, f = fun W3 => ((((W3.setCell ⟨wr.heap.size + 1, 0, none⟩ (.int .i64 5)).setCell ⟨wr.heap.size + 1, 1, none⟩ (.int .i64 0)).setCell ⟨wr.heap.size + 1, 2, none⟩ (.int .i64 0)).setCell ⟨wr.heap.size + 1, 3, none⟩ (.string ⟨(Lib.itoa k2).toArray⟩)).setCell ⟨wr.heap.size + 1, 4, none⟩ (.slice none 0 0) := ⟨_, rfl⟩
          go_wp2_with (go_at_call 82; refine HDT.out.mono ?_; rintro e1 W3 ⟨rfl, hb3⟩; have hk3 := hk0.below hb3 (by omega); obtain ⟨m0, m1, m2, m3, m4⟩ := hk3.cells; have mf := hk3.free; have hz3 := hb3.size; have g9 : wr.heap.size + 1 < W3.heap.size := (by omega); have ho3 := ho1.below hb3 (by omega); have hp3 := pairBox.below hp1 hb3 (by omega))
          have hbS : Below wr.heap.size W3 (WK W3) := by rw [hWK]; refine Below.setCell ?_ (by simp) _; refine Below.setCell ?_ (by simp) _; refine Below.setCell ?_ (by simp) _; refine Below.setCell ?_ (by simp) _; refine Below.setCell ?_ (by simp) _; exact Below.refl _ _
          have hbS1 : Below (wr.heap.size + 1) W3 (WK W3) := by rw [hWK]; refine Below.setCell ?_ (by simp) _; refine Below.setCell ?_ (by simp) _; refine Below.setCell ?_ (by simp) _; refine Below.setCell ?_ (by simp) _; refine Below.setCell ?_ (by simp) _; exact Below.refl _ _
          have HWK := Lib.hid (congrFun hWK W3)
          rw [← HWK.out]
          have hzS := hbS.size
          go_meet
          exact ⟨rfl, (below2 halB hb3 (Nat.le_refl _)).trans hbS, by omega, ho3.below hbS hs9, pairBox.below hp3 hbS1 (by omega), _, _, by rw [hWK]; exact hk3.fill _ _ _ _ _⟩
        · rw [hxk] at hrx hkw1
          obtain ⟨k', n', e', s', kids', v1, hm, hcs, hk9⟩ := V.lay hrx
          simp only [V.mk.injEq] at hm
          obtain ⟨rfl, rfl, rfl, rfl, rfl⟩ := hm
          simp only [List.cons.injEq, and_true, Value.int.injEq, Value.string.injEq, true_and] at hcs
          obtain ⟨h1, h2, h3, h4, rfl⟩ := hcs
          subst h1; subst h2; subst h3
          obtain rfl : s4 = s4' := by simpa using h4
          obtain ⟨ea, ec, he⟩ := Rd.sl_form hk9
          simp only [V.ds, List.length_nil, Value.slice.injEq] at he
          obtain ⟨e1, e2, e3⟩ := he
          subst e2
          obtain rfl : kt = s4 := by have := HKV.out; rw [hxk] at this; simp only [keyV] at this; simp [V.kind, V.num] at this; exact this.symm
          obtain ⟨m0, m1, m2, m3, m4⟩ := hk0.cells
          go_wp2_with fail
          go_meet
          exact ⟨rfl, halB, by omega, ho1, hp1, _, _, hk0⟩
      case rest =>
        obtain ⟨rfl, halK, hzK, hoK, hpK, ea, ec, hkK⟩ := hcut
        clear ho1 hp1 halB hzB HWB hbx hk0 hkf hkw1 hrx
        obtain ⟨q0, q1, q2, q3, q4⟩ := hoK.cells
        obtain ⟨m0, m1, m2, m3, m4⟩ := hkK.cells
        have HFD := Lib.hid (find_any (.mk 8 0 0 [] acc) _ kt wc ((V.own (k := 8) (m := 0) (e := 0) (s := []) (hown.own (by decide))).rd.below halK) rfl (by simp only [V.kids]; omega))
        simp only [V.kids] at HFD
        obtain ⟨mf, hmf⟩ : ∃ mf, mfind acc kt 0 = mf := ⟨_, rfl⟩
        rw [hmf] at HFD
        by_cases hf : mf < 0
        · have HPUT := Lib.hid (show putV acc kids[2 * j] (V.plain kids[2 * j + 1]) = acc ++ [V.mk 5 0 0 kt [], V.plain kids[2 * j + 1]] by unfold putV; rw [HKV.out]; exact if_pos (show mfind acc kt 0 < 0 by rw [hmf]; exact hf))
          have HS := Lib.hid (show V.ds (acc ++ [V.mk 5 0 0 kt [], V.plain kids[2 * j + 1]]) = V.ds acc ++ [(V.mk 5 0 0 kt []).d, (V.plain kids[2 * j + 1]).d] by rw [V.ds_map, V.ds_map, List.map_append]; rfl)
          clear hmf
          have hn1 := V.nodes_get kids (2 * j + 1) hlt2
          have hb1 := V.bulk_getB hb (2 * j + 1) hlt2
          go_wp2_with (go_at_call 83; refine HFD.out.mono ?_; rintro e1 WF ⟨rfl, hbF⟩; go_wp2_with fail)
          have haF : Below wr.heap.size wr WF := below2 halK hbF (Nat.le_refl _)
          have hoF := hoK.below hbF (by omega)
          have hkF := hkK.below hbF (by omega)
          have hpF := pairBox.below hpK hbF (by omega)
          have hzF : wr.heap.size + 2 ≤ WF.heap.size := by have := hbF.size; omega
          have hownF := hown.below haF
          have HC := fun W (hW : Below WF.heap.size WF W) => Lib.hid (hA kids[2 * j + 1] _ (d - 1) W (Nat.le_trans hn1 hn) ((hry.below haF).below hW) (V.wfs_get hkw (2 * j + 1) hlt2) hb1 (hkr _ (List.getElem_mem hlt2)) (hT.below (below2 (hbw.trans (haF.mono (by have := hbw.size; omega))) hW (by have := hbw.size; omega))))
          have KW : Hid (∀ W, Below WF.heap.size WF W → (W.cell? ⟨w.heap.size + 1 + 1, 4, none⟩ = some (.slice av acc.length cv) ∧ W.frozen? ⟨w.heap.size + 1 + 1, 4, none⟩ = false) ∧ (W.cell? ⟨wr.heap.size + 1, 0, none⟩ = some (.int .i64 5) ∧ W.cell? ⟨wr.heap.size + 1, 1, none⟩ = some (.int .i64 0) ∧ W.cell? ⟨wr.heap.size + 1, 2, none⟩ = some (.int .i64 0) ∧ W.cell? ⟨wr.heap.size + 1, 3, none⟩ = some (.string ⟨kt.toArray⟩) ∧ W.cell? ⟨wr.heap.size + 1, 4, none⟩ = some (.slice ea 0 ec)) ∧ (W.cell? ⟨wr.heap.size, 5, none⟩ = some (.int .i64 l1) ∧ W.cell? ⟨wr.heap.size, 6, none⟩ = some (.int .i64 l2) ∧ W.cell? ⟨wr.heap.size, 7, none⟩ = some (.int .i64 l3) ∧ W.cell? ⟨wr.heap.size, 8, none⟩ = some (.string ⟨t4.toArray⟩) ∧ W.cell? ⟨wr.heap.size, 9, none⟩ = some (.slice b5 r5 z5))) := by
            intro W hW
            have b1 := hoF.below hW (by omega)
            have b3 := pairBox.below hpF hW (by omega)
            exact ⟨⟨b1.cells.2.2.2.2, b1.free 4⟩, (hkF.below hW (by omega)).cells, b3.cell 5 _ rfl, b3.cell 6 _ rfl, b3.cell 7 _ rfl, b3.cell 8 _ rfl, b3.cell 9 _ rfl⟩
          clear q0 q1 q2 q3 q4 m0 m1 m2 m3 m4 HFD hkF hpF hkK hpK hoK hn1 hb1 d0 d1 d2 d3 d4 d5 d6 d7 d8 d9
          have hE := Below.refl WF.heap.size WF
          obtain ⟨⟨p4, pf⟩, ⟨r0, r1, r2, r3, r4⟩, y5, y6, y7, y8, y9⟩ := KW.out _ hE
          go_region_law (first | (rw [if_pos (by rfl)]; go_simp; go_at_call 50; refine (HC _ (by first | exact hE | exact hE.drew)).out.mono ?_; rintro e1 w1 ⟨cs', rfl, hb1, hox⟩; obtain ⟨x0, x1, x2, x3, xa, xl, xc, rfl⟩ := V.form hox.rd; obtain ⟨⟨p4', pf'⟩, ⟨r0', r1', r2', r3', r4'⟩, y5', y6', y7', y8', y9'⟩ := KW.out _ (hE.drew.trans (hb1.mono (by simp))); have hz9 : w.heap.size + 1 + 1 < w1.heap.size := (by have h1 := hb1.size; simp only [World.drew] at h1; omega)) | (refine step_appD (ds' := [(V.mk 5 0 0 kt []).d, (V.plain kids[2 * j + 1]).d]) (news := [.int .i64 5, .int .i64 0, .int .i64 0, .string ⟨kt.toArray⟩, .slice ea 0 ec, .int .i64 x0, .int .i64 x1, .int .i64 x2, .string ⟨x3.toArray⟩, .slice xa xl xc]) tyVi rfl rfl B hownF (below2 hE.drew hb1 (Nat.le_refl _)) (by omega) (Owns.snoc (w1 := WF.drew) (Owns.of1 (V.own ⟨[], by simp, by simp, by simp [TreeC, V.ds]⟩)) hb1 hox (Nat.le_refl _)) (by intro d hd; simp at hd; rcases hd with rfl | rfl <;> exact V.width _) (by simp) (by simp [Value.oneCell']) rfl 2 rfl (by rw [V.ds_length]; simp; omega) (by decide) ?_; intro g cap w2 hown2 hbel2; have hbx2 := hoF.below hbel2 hsb; have p9 := hbx2.cells.2.2.2.2; have f9 := hbx2.free 4))
          all_goals
            rw [V.ds_length] at hown2 ⊢
            go_wp2
            go_roundw
            case rel => exact ⟨j + 1, _, acc ++ [V.mk 5 0 0 kt [], V.plain kids[2 * j + 1]], by omega, by go_num, by rw [HS.out]; exact hown2.setCell (p := ⟨w.heap.size + 1 + 1, 4, none⟩) hsb _, by rw [← HPM.out, V.plainM_step acc kids j hlt2, HPUT.out], by simp; omega, hbx2.set4 _, ((hkp.belowB haF (by omega)).belowB hbel2 (by omega)).setCell (.inl rfl) _⟩
            case measure => simp [intOf]; omega
        · have HPUT := Lib.hid (show putV acc kids[2 * j] (V.plain kids[2 * j + 1]) = acc by unfold putV; rw [HKV.out]; exact if_neg (show ¬ mfind acc kt 0 < 0 by rw [hmf]; exact hf))
          clear hmf
          go_wp2_with (go_at_call 83; refine HFD.out.mono ?_; rintro e1 WF ⟨rfl, hbF⟩)
          have haF : Below wr.heap.size wr WF := below2 halK hbF (Nat.le_refl _)
          have hoF := hoK.below hbF (by omega)
          have hownF := hown.below haF
          go_roundw
          case rel => exact ⟨j + 1, _, acc, by omega, by go_num, hownF, by rw [← HPM.out, V.plainM_step acc kids j hlt2, HPUT.out], by omega, hoF, hkp.belowB haF (by omega)⟩
          case measure => simp [intOf]; omega
    · obtain rfl : acc = tot := by rw [← hpm]; exact (V.plainM_end acc kids j (by omega)).symm
      have hbr := hres1.same (hkp.block _ hres1.lt (by omega))
      obtain ⟨c0, c1, c2, c3, c4⟩ := hbr.cells
      have f5 := hbr.free
      have hbw : Below w.heap.size w wr := hAP.trans (hkp.below (by omega) (fun k hk e => by omega))
      have hz1 : w.heap.size + 1 < wr.heap.size := hbr.lt
      have i1 : (0 : Int) ≤ j := by omega
      have i2 : ¬ (j : Int) < ((kids.length / 2 : Nat) : Int) := by omega
      obtain ⟨q0, q1, q2, q3, q4⟩ := hbx.cells
      have hs9 : w.heap.size + 1 + 1 < wr.heap.size := by omega
      clear hbx hkp hkids HPG hres1 hbox1
      go_wp2
      refine bodyPost_ret (v := .agg #[.int .i64 8, .int .i64 0, .int .i64 0, .string ⟨#[]⟩, .slice av acc.length cv]) ?_ rfl ⟨[.int .i64 8, .int .i64 0, .int .i64 0, .string ⟨#[]⟩, .slice av acc.length cv], rfl, ?_, ?_⟩
      · simp [results, Tryd.results50, go_sem, c0, c1, c2, c3, c4]
      · iterate 5 (refine Below.setCell ?_ (by simp) _)
        exact hbw
      · refine Own.mono (B := B) ?_ (by omega)
        iterate 5 (refine Own.setCell ?_ (by simp; omega) _)
        have := V.own (k := 8) (m := 0) (e := 0) (s := []) (hown.own (by decide))
        exact this
end Go.Proofs.YtkeieeogkeonfaaDoor

/- What JSON holds of a value: the program's Plain. -/
namespace Go.Proofs.YtkeieeogkeonfaaDoor
open Go.RowKit

theorem PlI_all : ∀ n, PlI n
  | 0 => fun x cs d w hn => absurd (V.nodes_pos x) (by omega)
  | m + 1 => by
    intro x cs d w hn h hwf hb hr hT
    obtain ⟨k, n, e, s, kids⟩ := x
    have hn' : V.nodess kids ≤ m := by simp only [V.nodes] at hn; omega
    simp only [V.bulk] at hb
    by_cases h6 : k = 6
    · subst h6; exact plain_bytes cs w h (by omega)
    by_cases h7 : k = 7
    · subst h7; exact plain_list (PlI_all m) cs d w hn' h hwf (by omega) hr hT
    by_cases h8 : k = 8
    · subst h8; exact plain_map (PlI_all m) cs d w hn' h hwf (by omega) hr hT
    by_cases h9 : k = 9
    · subst h9; exact plain_tag (PlI_all m) cs d w hn' h hwf (by omega) hr hT
    exact plain_leaf cs w h (V.self_leaf (V.right_at hr).2 h7 h8 h9) h6 h7 h8 h9

set_option maxHeartbeats 1000000 in
set_option maxRecDepth 10000 in
theorem implPlain_any (x : V) (cs : List Value) (w : World) (h : Rd w x.d cs) (hwf : x.wf) (hb : x.bulk ≤ 1048576) (hT : PTab w) :
    Calls Tryd.prog 18 #[.agg cs.toArray] w fun e w' => ∃ cs', e = .returned (.agg cs'.toArray) ∧ Below w.heap.size w w' ∧ Own w.heap.size w' x.plainTop.d cs' := by
  have h00 := h
  obtain ⟨k, n, e, s, kids, v1, rfl, rfl, hkids⟩ := V.lay h
  obtain ⟨a, c, rfl⟩ := Rd.sl_form hkids
  rw [V.ds_length] at hkids h h00 ⊢
  obtain ⟨x, hx⟩ : ∃ x, x = V.mk k n e s kids := ⟨_, rfl⟩
  rw [← hx] at h h00 hwf hb ⊢
  have HX := Lib.hid hx; clear hx hkids
  obtain ⟨W0, hW0⟩ : ∃ W0, W0 = (w.alloc (.cells #[.int .i64 k, .int .i64 n, .int .i64 e, .string ⟨s.toArray⟩, .slice a kids.length c] 41)).alloc (.cells #[.int .i64 0, .int .i64 0, .int .i64 0, .string ⟨#[]⟩, .slice none 0 0] 41) := ⟨_, rfl⟩
  have HW := Lib.hid hW0
  have hA0 : Below w.heap.size w W0 := by rw [hW0]; exact ((Below.refl _ _).alloc (Nat.le_refl _) _).alloc (by simp) _
  have hz : W0.heap.size = w.heap.size + 2 := by rw [hW0]; simp
  have hbx : valBox W0 w.heap.size k n e s (.slice a kids.length c) := by
    rw [hW0]; exact (valBox.new (w := w)).alloc _
  have hres : valBox W0 (w.heap.size + 1) 0 0 0 [] (.slice none 0 0) := by
    rw [hW0]
    have := valBox.new (w := w.alloc (.cells #[.int .i64 k, .int .i64 n, .int .i64 e, .string ⟨s.toArray⟩, .slice a kids.length c] 41)) (k := 0) (n := 0) (e := 0) (s := []) (v := .slice none 0 0)
    simpa using this
  have hB := Below.refl W0.heap.size W0
  have KB : Hid (∀ W, Below W0.heap.size W0 W → valBox W w.heap.size k n e s (.slice a kids.length c) ∧ valBox W (w.heap.size + 1) 0 0 0 [] (.slice none 0 0) ∧ Rd W x.d [.int .i64 k, .int .i64 n, .int .i64 e, .string ⟨s.toArray⟩, .slice a kids.length c]) := fun W hW => ⟨hbx.below hW (by omega), hres.below hW (by omega), h00.below (below2 hA0 hW (Nat.le_refl _))⟩
  clear hW0 h hbx hres
  have fin : ∀ (W : World) (R : V) (x0 x1 x2 : Int) (x3 : List UInt8) (xa : Option Addr) (xl xc : Nat), Below W0.heap.size W0 W → Own W0.heap.size W R.d [.int .i64 x0, .int .i64 x1, .int .i64 x2, .string ⟨x3.toArray⟩, .slice xa xl xc] → Below w.heap.size w (((((W.setCell ⟨w.heap.size + 1, 0, none⟩ (.int .i64 x0)).setCell ⟨w.heap.size + 1, 1, none⟩ (.int .i64 x1)).setCell ⟨w.heap.size + 1, 2, none⟩ (.int .i64 x2)).setCell ⟨w.heap.size + 1, 3, none⟩ (.string ⟨x3.toArray⟩)).setCell ⟨w.heap.size + 1, 4, none⟩ (.slice xa xl xc)) ∧ Own w.heap.size (((((W.setCell ⟨w.heap.size + 1, 0, none⟩ (.int .i64 x0)).setCell ⟨w.heap.size + 1, 1, none⟩ (.int .i64 x1)).setCell ⟨w.heap.size + 1, 2, none⟩ (.int .i64 x2)).setCell ⟨w.heap.size + 1, 3, none⟩ (.string ⟨x3.toArray⟩)).setCell ⟨w.heap.size + 1, 4, none⟩ (.slice xa xl xc)) R.d [.int .i64 x0, .int .i64 x1, .int .i64 x2, .string ⟨x3.toArray⟩, .slice xa xl xc] := by
    intro W R x0 x1 x2 x3 xa xl xc hW ho
    refine ⟨?_, ?_⟩
    · refine Below.setCell (Below.setCell (Below.setCell (Below.setCell (Below.setCell ?_ (by simp) _) (by simp) _) (by simp) _) (by simp) _) (by simp) _
      exact below2 hA0 hW (Nat.le_refl _)
    · refine Own.mono (B := W0.heap.size) ?_ (by omega)
      exact Own.setCell (Own.setCell (Own.setCell (Own.setCell (Own.setCell ho (by simp; omega) _) (by simp; omega) _) (by simp; omega) _) (by simp; omega) _) (by simp; omega) _
  have FIN := Lib.hid fin; clear fin
  obtain ⟨hbx, hres, hrd⟩ := KB.out _ hB
  obtain ⟨b0, b1, b2, b3, b4⟩ := hbx.cells
  have HO1 := Lib.hid (valueOk_impl x _ W0 hrd hwf (by omega) (hT.below hA0).1)
  go_enter Tryd.func18, Tryd.ntmps18
  go_wp2_with fail
  rw [← HW.out]
  cases hok : x.ok with
  | false =>
    have HR := Lib.hid (show x.plainTop = x by unfold V.plainTop; rw [hok]; rfl)
    rw [hok] at HO1
    have HC := fun W (hW : Below W0.heap.size W0 W) => Lib.hid (own_any x _ W (KB.out W hW).2.2 (by omega))
    clear hok
    go_wp2_with (first | (go_at_call 48; with_reducible refine HO1.out.mono ?_; rintro e1 w1 ⟨rfl, hb1⟩; obtain ⟨hbx1, hres1, -⟩ := KB.out _ hb1; obtain ⟨b0, b1, b2, b3, b4⟩ := hbx1.cells) | (go_at_call 49; refine (HC _ hb1).out.mono ?_; rintro e1 w2 ⟨cs', rfl, hb2, hox⟩; obtain ⟨x0, x1, x2, x3, xa, xl, xc, rfl⟩ := V.form hox.rd; have hbb := below2 hb1 hb2 (Nat.le_refl _); obtain ⟨-, hres2, -⟩ := KB.out _ hbb; obtain ⟨c0, c1, c2, c3, c4⟩ := hres2.cells; have f5 := hres2.free; have g5 := hres2.lt))
    obtain ⟨r1, r2⟩ := FIN.out _ _ _ _ _ _ _ _ _ hbb (hox.mono hb1.size)
    refine bodyPost_ret (v := .agg #[.int .i64 x0, .int .i64 x1, .int .i64 x2, .string ⟨x3.toArray⟩, .slice xa xl xc]) ?_ rfl ⟨[.int .i64 x0, .int .i64 x1, .int .i64 x2, .string ⟨x3.toArray⟩, .slice xa xl xc], rfl, r1, by rw [HR.out]; exact r2⟩
    simp [results, Tryd.results18, go_sem, c0, c1, c2, c3, c4]
  | true =>
    have hrt : V.rightBy pairsOk 12 x = true ∧ x.nodes ≤ 300 := by unfold V.ok at hok; simpa using hok
    rw [hok] at HO1
    have hps := V.plain_size x hwf
    have hpw := V.plain_wf x hwf (by omega)
    have hpb : x.plain.bulk ≤ 4294967295 := by omega
    have HP := fun W (hW : Below W0.heap.size W0 W) => Lib.hid (PlI_all x.nodes x _ 12 W (Nat.le_refl _) (KB.out W hW).2.2 hwf hb hrt.1 (hT.below (below2 hA0 hW (Nat.le_refl _))))
    have HO2 := fun cs' W (hW : Below W0.heap.size W0 W) (hr : Rd W x.plain.d cs') => Lib.hid (valueOk_impl x.plain cs' W hr hpw hpb (hT.below (below2 hA0 hW (Nat.le_refl _))).1)
    cases hok2 : x.plain.ok with
    | false =>
      have HR := Lib.hid (show x.plainTop = x by unfold V.plainTop; rw [hok, if_pos rfl, hok2]; rfl)
      rw [hok2] at HO2
      have HC := fun W (hW : Below W0.heap.size W0 W) => Lib.hid (own_any x _ W (KB.out W hW).2.2 (by omega))
      clear hok hok2 hps hpw hpb hrt
      go_wp2_with (first | (go_at_call 48; with_reducible refine HO1.out.mono ?_; rintro e1 w1 ⟨rfl, hb1⟩; obtain ⟨hbx1, hres1, -⟩ := KB.out _ hb1; obtain ⟨b0, b1, b2, b3, b4⟩ := hbx1.cells) | (go_at_call 50; refine (HP _ hb1).out.mono ?_; rintro e1 w2 ⟨cs', rfl, hb2, hox⟩; obtain ⟨x0, x1, x2, x3, xa, xl, xc, rfl⟩ := V.form hox.rd; have hbb := below2 hb1 hb2 (Nat.le_refl _); clear hbx1 hres1 b0 b1 b2 b3 b4) | (go_at_call 48; refine (HO2 _ _ (hbb.alloc hbb.size _) (hox.rd.below ((Below.refl _ _).alloc (Nat.le_refl _) _))).out.mono ?_; rintro e1 w3 ⟨rfl, hb3⟩; have hbc := below2 (hbb.alloc hbb.size _) hb3 (Nat.le_refl _); obtain ⟨hbx3, hres3, -⟩ := KB.out _ hbc; obtain ⟨d0, d1, d2, d3, d4⟩ := hbx3.cells) | (go_at_call 49; refine (HC _ hbc).out.mono ?_; rintro e1 w4 ⟨cs', rfl, hb4, hoy⟩; obtain ⟨y0, y1, y2, y3, ya, yl, yc, rfl⟩ := V.form hoy.rd; have hbd := below2 hbc hb4 (Nat.le_refl _); obtain ⟨-, hres2, -⟩ := KB.out _ hbd; obtain ⟨c0, c1, c2, c3, c4⟩ := hres2.cells; have f5 := hres2.free; have g5 := hres2.lt))
      obtain ⟨r1, r2⟩ := FIN.out _ _ _ _ _ _ _ _ _ hbd (hoy.mono hbc.size)
      refine bodyPost_ret (v := .agg #[.int .i64 y0, .int .i64 y1, .int .i64 y2, .string ⟨y3.toArray⟩, .slice ya yl yc]) ?_ rfl ⟨[.int .i64 y0, .int .i64 y1, .int .i64 y2, .string ⟨y3.toArray⟩, .slice ya yl yc], rfl, r1, by rw [HR.out]; exact r2⟩
      simp [results, Tryd.results18, go_sem, c0, c1, c2, c3, c4]
    | true =>
      have HR := Lib.hid (show x.plainTop = x.plain by unfold V.plainTop; rw [hok, if_pos rfl, hok2]; rfl)
      rw [hok2] at HO2
      clear hok hok2 hps hpw hpb hrt
      go_wp2_with (first | (go_at_call 48; with_reducible refine HO1.out.mono ?_; rintro e1 w1 ⟨rfl, hb1⟩; obtain ⟨hbx1, hres1, -⟩ := KB.out _ hb1; obtain ⟨b0, b1, b2, b3, b4⟩ := hbx1.cells) | (go_at_call 50; refine (HP _ hb1).out.mono ?_; rintro e1 w2 ⟨cs', rfl, hb2, hox⟩; obtain ⟨x0, x1, x2, x3, xa, xl, xc, rfl⟩ := V.form hox.rd; have hbb := below2 hb1 hb2 (Nat.le_refl _); clear hbx1 hres1 b0 b1 b2 b3 b4; have hz2 := hbb.size) | (go_at_call 48; refine (HO2 _ _ (hbb.alloc hbb.size _) (hox.rd.below ((Below.refl _ _).alloc (Nat.le_refl _) _))).out.mono ?_; rintro e1 w3 ⟨rfl, hb3⟩; have hbc := below2 (hbb.alloc hbb.size _) hb3 (Nat.le_refl _); obtain ⟨-, hres2, -⟩ := KB.out _ hbc; obtain ⟨c0, c1, c2, c3, c4⟩ := hres2.cells; have f5 := hres2.free; have g5 := hres2.lt; have hyb := (valBox.new (w := w2) (k := x0) (n := x1) (e := x2) (s := x3) (v := .slice xa xl xc)).below hb3 (by simp); obtain ⟨d0, d1, d2, d3, d4⟩ := hyb.cells))
      obtain ⟨r1, r2⟩ := FIN.out _ _ _ _ _ _ _ _ _ hbc (((hox.alloc _).below hb3).mono hb1.size)
      refine bodyPost_ret (v := .agg #[.int .i64 x0, .int .i64 x1, .int .i64 x2, .string ⟨x3.toArray⟩, .slice xa xl xc]) ?_ rfl ⟨[.int .i64 x0, .int .i64 x1, .int .i64 x2, .string ⟨x3.toArray⟩, .slice xa xl xc], rfl, r1, by rw [HR.out]; exact r2⟩
      simp [results, Tryd.results18, go_sem, c0, c1, c2, c3, c4]
end Go.Proofs.YtkeieeogkeonfaaDoor
