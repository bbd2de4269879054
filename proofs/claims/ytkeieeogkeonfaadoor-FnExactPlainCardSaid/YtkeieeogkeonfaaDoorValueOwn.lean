/- Values in new memory: the program's own and the reference's l02Copy. -/
import Derived.Test.YtkeieeogkeonfaaDoorValueTo
import Derived.Test.YtkeieeogkeonfaaDoorOwnSl
namespace Go.Proofs.YtkeieeogkeonfaaDoor
open Go.RowKit

theorem tyVi : ElemTy Tryd.prog 39 41 5 64 := ElemTy.mk' (z := .agg #[.int .i64 0, .int .i64 0, .int .i64 0, .string ⟨#[]⟩, .slice none 0 0]) Tryd.underlying39 (by kernel_rfl) rfl (by decide)
/-- make([]T, 0, n) -/
theorem run_mk0 {P : Program} {t e : TypeId} {size bytes : Nat} (T : ElemTy P t e size bytes) (n : Nat) (hn : n ≤ 4294967296) (hb : bytes ≤ 32768) :
    ∃ cs : Array Value, cs.size = n * size ∧ ∀ w : World, (Instr.makeSlice t (.int .i64 0) (.int .i64 (n : Nat))).run P w = .ok (.slice (some ⟨w.heap.size, 0, none⟩) 0 n) (w.alloc (.cells cs e)) := by
  obtain ⟨i, z, h1, h2, h3, h4, h5⟩ := T.info
  refine ⟨madeCells z.cells (n * i.size), ?_, fun w => ?_⟩
  · rw [size_madeCells, h3]
  · have := run_make (P := P) w t e i z T.under h1 h2 .i64 .i64 0 (n : Nat) (by omega) (by omega) (by
      rw [h4]; have := Nat.mul_le_mul hb hn; have h : ((bytes * n : Nat) : Int) ≤ ((32768 * 4294967296 : Nat) : Int) := by exact_mod_cast this
      rw [Int.natCast_mul] at h; exact Int.le_trans h (by decide)) (by omega)
    simpa using this
theorem V.cells_one {w : World} {x : V} {cs : List Value} (h : Rd w x.d cs) : ∀ u ∈ cs, u.oneCell' = true := by
  obtain ⟨k, n, e, s, a, l, c, rfl⟩ := V.form h
  intro u hu; simp at hu; rcases hu with rfl | rfl | rfl | rfl | rfl <;> rfl

theorem V.bulk_getB {ls : List V} {m : Nat} (h : ls.length + V.bulks ls ≤ m) (k : Nat) (hk : k < ls.length) : ls[k].bulk ≤ m := by
  have h1 := V.bulks_snoc ls k hk; have h2 := V.bulks_take ls (k + 1); omega
def CpA (n : Nat) : Prop := ∀ (x : V) (cs : List Value) (w : World), x.nodes ≤ n → Rd w x.d cs → x.bulk ≤ 4294967295 →
  Calls Tryd.prog 45 #[.agg cs.toArray] w fun e w' => ∃ cs', e = .returned (.agg cs'.toArray) ∧ Below w.heap.size w w' ∧ Own w.heap.size w' x.d cs'
def CpB (n : Nat) : Prop := ∀ (xs : List V) (v : Value) (w : World), V.nodess xs ≤ n → Rd w (.sl 5 (V.ds xs)) [v] → xs.length + V.bulks xs ≤ 4294967295 →
  Calls Tryd.prog 74 #[v] w fun e w' => ∃ v', e = .returned v' ∧ Below w.heap.size w w' ∧ Own w.heap.size w' (.sl 5 (V.ds xs)) [v']

theorem V.ds_take (xs : List V) (j : Nat) (h : j < xs.length) : V.ds (xs.take (j + 1)) = V.ds (xs.take j) ++ [xs[j].d] := by
  rw [V.ds_map, V.ds_map, take_map_snoc V.d xs j h]
theorem V.ds_length (xs : List V) : (V.ds xs).length = xs.length := by rw [V.ds_map, List.length_map]

set_option maxHeartbeats 1000000 in
set_option maxRecDepth 10000 in
theorem CpB_of {n : Nat} (hA : CpA n) : CpB n := by
  intro xs v w hn h hbk
  obtain ⟨a, c, rfl, hg⟩ := h.values
  have hl : xs.length ≤ 4294967295 := by omega
  go_enter Tryd.func74, Tryd.ntmps74
  go_wp2
  go_loopw [3, 4] (fun o i wr => ∃ (j : Nat), j ≤ xs.length ∧ i = .int .i64 j ∧ OwnSl w.heap.size wr 41 5 o (V.ds (xs.take j)) ∧ Below w.heap.size w wr) (fun _ i _ => xs.length - (intOf i).toNat)
  case atStart => exact ⟨0, Nat.zero_le _, rfl, OwnSl.made (cap := 0) (Nat.le_refl _) (by decide) rfl, (Below.refl _ _).alloc (Nat.le_refl _) _⟩
  case round =>
    obtain ⟨j, hj, rfl, hown, hbel⟩ := hrel
    obtain ⟨av, cv, rfl⟩ := hown.form
    have hdl : (V.ds (xs.take j)).length = j := by rw [V.ds_length, List.length_take]; omega
    rw [hdl] at hown ⊢
    by_cases hlt : j < xs.length
    · obtain ⟨_, _, b, o, rfl, hb, hcell⟩ := hg (by intro e; rw [e] at hlt; simp at hlt)
      obtain ⟨v0, v1, v2, v3, v4, hr, d0, d1, d2, d3, d4⟩ := hcell j hlt
      clear hcell hg
      obtain ⟨k1, k2, k3, s4, a5, n5, m5, hcs⟩ := V.form hr
      simp only [List.cons.injEq, and_true] at hcs
      obtain ⟨rfl, rfl, rfl, rfl, rfl⟩ := hcs
      have hbc := (bcell hbel).1
      rw [← hbc _ _ hb] at d0 d1 d2 d3 d4
      have i1 : (0 : Int) ≤ j := by omega
      have i2 : (j : Int) < xs.length := by omega
      have hn1 := V.nodes_get xs j hlt
      have hb1 := V.bulk_getB hbk j hlt
      have HC := Lib.hid (hA xs[j] _ wr (Nat.le_trans hn1 hn) (hr.below hbel) hb1)
      have HS := Lib.hid (V.ds_take xs j hlt)
      have hsz := hbel.size
      clear hbc hr hn1 hb1
      go_wp2_with (first | (go_at_call 45; refine HC.out.mono ?_; rintro e1 w1 ⟨cs', rfl, hb1, hox⟩; obtain ⟨x0, x1, x2, x3, xa, xl, xc, rfl⟩ := V.form hox.rd) | (at_builtin; refine wp_appD tyVi rfl rfl w.heap.size hown hb1 hsz (Owns.of1 hox) (by intro d hd; simp at hd; subst hd; exact V.width _) (by simp) (V.cells_one hox.rd) rfl 1 rfl (by rw [hdl]; simp; omega) (by decide) ?_))
      intro g cap w2 hown2 hbel2
      try rw [hdl] at hown2
      go_wp2
      go_roundw
      case rel => exact ⟨j + 1, by omega, by go_num, by rw [HS.out]; simpa using hown2, hbel.trans hbel2⟩
      case measure => simp [intOf]; omega
    · obtain rfl : j = xs.length := by omega
      rw [List.take_length] at hown
      go_wp2
      go_ret
      exact ⟨_, rfl, hbel, hown.own (by decide)⟩

set_option maxHeartbeats 1000000 in
set_option maxRecDepth 10000 in
theorem CpA_of {n : Nat} (hB : CpB n) : CpA (n + 1) := by
  intro x cs w hn h hlen
  obtain ⟨k, m, e, s, kids, v1, rfl, rfl, hkids⟩ := V.lay h
  have hnk : V.nodess kids ≤ n := by simp only [V.nodes] at hn; omega
  simp only [V.bulk] at hlen
  obtain ⟨va, vc, rfl⟩ := Rd.sl_form hkids
  rw [V.ds_length] at hkids ⊢
  have hA := (Below.refl w.heap.size w).alloc (Nat.le_refl _) (.cells #[.int .i64 k, .int .i64 m, .int .i64 e, .string ⟨s.toArray⟩, .slice va kids.length vc] 41)
  clear h
  have hkb : kids.length + V.bulks kids ≤ 4294967295 := by omega
  go_enter Tryd.func45, Tryd.ntmps45
  go_wp2_with (go_at_call 74; refine (hB _ _ _ hnk (((hkids.alloc _).alloc _).alloc _) hkb).mono ?_; rintro e1 w2 ⟨x2, rfl, hb2, hown2⟩; obtain ⟨a2, m2, n2, rfl⟩ := Rd.sl_any hown2.rd; obtain ⟨hc2, hf2⟩ := bcell hb2; have hz2 := hb2.size; simp at hz2; have g4 : w.heap.size < w2.heap.size := (by omega); have g5 : w.heap.size + 1 < w2.heap.size := (by omega); have g6 : w.heap.size + 1 + 1 < w2.heap.size := (by omega))
  refine bodyPost_ret (v := .agg #[.int .i64 k, .int .i64 m, .int .i64 e, .string ⟨s.toArray⟩, .slice a2 m2 n2]) ?_ rfl ⟨[.int .i64 k, .int .i64 m, .int .i64 e, .string ⟨s.toArray⟩, .slice a2 m2 n2], rfl, ?_, ?_⟩
  · simp [results, Tryd.results45, go_sem, hc2, g4, g5]
  · iterate 6 (refine Below.setCell ?_ (by simp; try omega) _)
    exact below2 ((hA.alloc (by simp; try omega) _).alloc (by simp; try omega) _) hb2 (Nat.le_refl _)
  · refine Own.mono (B := w.heap.size + 1 + 1 + 1) ?_ (by omega)
    iterate 6 (refine Own.setCell ?_ (by simp; try omega) _)
    exact V.own (hown2.mono (by simp; try omega))
theorem Cp_all : ∀ n, CpA n ∧ CpB n
  | 0 => by
    have h0 : CpA 0 := fun sh cs w hn => absurd (V.nodes_pos sh) (by omega)
    exact ⟨h0, CpB_of h0⟩
  | n + 1 => by
    have h1 := CpA_of (Cp_all n).2
    exact ⟨h1, CpB_of h1⟩
theorem l02Copy_any (x : V) (cs : List Value) (w : World) (h : Rd w x.d cs) (hs : x.bulk ≤ 4294967295) :
    Calls Tryd.prog 45 #[.agg cs.toArray] w fun e w' => ∃ cs', e = .returned (.agg cs'.toArray) ∧ Below w.heap.size w w' ∧ Own w.heap.size w' x.d cs' :=
  (Cp_all x.nodes).1 x cs w (Nat.le_refl _) h hs

def OwA (n : Nat) : Prop := ∀ (x : V) (cs : List Value) (w : World), x.nodes ≤ n → Rd w x.d cs → x.bulk ≤ 4294967295 →
  Calls Tryd.prog 49 #[.agg cs.toArray] w fun e w' => ∃ cs', e = .returned (.agg cs'.toArray) ∧ Below w.heap.size w w' ∧ Own w.heap.size w' x.d cs'

set_option maxHeartbeats 2000000 in
set_option maxRecDepth 10000 in
theorem OwA_of {n : Nat} (hA : OwA n) : OwA (n + 1) := by
  intro x cs w hn h hlen
  obtain ⟨k, m, e, s, kids, v1, rfl, rfl, hkids⟩ := V.lay h
  have hnk : V.nodess kids ≤ n := by simp only [V.nodes] at hn; omega
  simp only [V.bulk] at hlen
  have hkb : kids.length + V.bulks kids ≤ 4294967295 := by omega
  obtain ⟨a, c, rfl, hg⟩ := hkids.values
  by_cases hne : kids = []
  · subst hne
    clear h hkids hg hlen hkb hnk
    simp only [List.length_nil]
    go_enter Tryd.func49, Tryd.ntmps49
    go_wp2
    refine bodyPost_ret (v := .agg #[.int .i64 k, .int .i64 m, .int .i64 e, .string ⟨s.toArray⟩, .slice none 0 0]) ?_ rfl ⟨[.int .i64 k, .int .i64 m, .int .i64 e, .string ⟨s.toArray⟩, .slice none 0 0], rfl, ?_, ?_⟩
    · simp [results, Tryd.results49, go_sem]
    · exact ((Below.refl _ _).alloc (Nat.le_refl _) _).alloc (by simp) _
    · exact V.own ⟨[], by simp, by simp, by simp [TreeC, V.ds]⟩
  · have hpos : 0 < kids.length := List.length_pos_iff.2 hne
    obtain ⟨_, _, b, o, rfl, hb, hcell⟩ := hg hne
    obtain ⟨mcs, hmcs, hmk⟩ := run_mk0 tyVi kids.length (by omega) (by decide)
    have HMC := Lib.hid hmcs
    obtain ⟨B, hBd⟩ : ∃ B, B = w.heap.size + 2 := ⟨_, rfl⟩
    obtain ⟨W1, hW1⟩ : ∃ W1, W1 = (((w.alloc (.cells #[.int .i64 k, .int .i64 m, .int .i64 e, .string ⟨s.toArray⟩, .slice (some ⟨b, o, none⟩) kids.length c] 41)).alloc (.cells #[.int .i64 0, .int .i64 0, .int .i64 0, .string ⟨#[]⟩, .slice none 0 0] 41)).alloc (.cells mcs 41)) := ⟨_, rfl⟩
    have HW := Lib.hid hW1
    have hAw : Below w.heap.size w W1 := by rw [hW1]; exact (((Below.refl _ _).alloc (Nat.le_refl _) _).alloc (by simp) _).alloc (by simp <;> omega) _
    have hsz1 : W1.heap.size = B + 1 := by rw [hW1, hBd]; simp
    have hst : OwnSl B W1 41 5 (.slice (some ⟨w.heap.size + 1 + 1, 0, none⟩) 0 kids.length) (V.ds (kids.take 0)) := by
      rw [hW1]
      have := OwnSl.made (B := B) (w := (w.alloc (.cells #[.int .i64 k, .int .i64 m, .int .i64 e, .string ⟨s.toArray⟩, .slice (some ⟨b, o, none⟩) kids.length c] 41)).alloc (.cells #[.int .i64 0, .int .i64 0, .int .i64 0, .string ⟨#[]⟩, .slice none 0 0] 41)) (e := 41) (n := 5) (cs := mcs) (cap := kids.length) (by rw [hBd]; simp) (by unfold maxLen; omega) HMC.out
      simpa [V.ds] using this
    have HST := Lib.hid hst
    have KB : Hid (∀ W, Below B W1 W → (W.cell? ⟨w.heap.size, 0, none⟩ = some (.int .i64 k) ∧ W.cell? ⟨w.heap.size, 1, none⟩ = some (.int .i64 m) ∧ W.cell? ⟨w.heap.size, 2, none⟩ = some (.int .i64 e) ∧ W.cell? ⟨w.heap.size, 3, none⟩ = some (.string ⟨s.toArray⟩) ∧ W.cell? ⟨w.heap.size, 4, none⟩ = some (.slice (some ⟨b, o, none⟩) kids.length c)) ∧
        (∀ i, W.frozen? ⟨w.heap.size, i, none⟩ = false) ∧ (∀ i, W.frozen? ⟨w.heap.size + 1, i, none⟩ = false) ∧ (W.cell? ⟨w.heap.size + 1, 0, none⟩ = some (.int .i64 0) ∧ W.cell? ⟨w.heap.size + 1, 1, none⟩ = some (.int .i64 0) ∧ W.cell? ⟨w.heap.size + 1, 2, none⟩ = some (.int .i64 0) ∧ W.cell? ⟨w.heap.size + 1, 3, none⟩ = some (.string ⟨#[]⟩) ∧ W.cell? ⟨w.heap.size + 1, 4, none⟩ = some (.slice none 0 0))) := by
      intro W hb'
      have g1 : w.heap.size < B := by omega
      have g2 : w.heap.size + 1 < B := by omega
      have hc : ∀ b o, b < B → W.cell? ⟨b, o, none⟩ = W1.cell? ⟨b, o, none⟩ := fun b o h => hb'.cell (p := ⟨b, o, none⟩) h
      have hf : ∀ b o, b < B → W.frozen? ⟨b, o, none⟩ = W1.frozen? ⟨b, o, none⟩ := fun b o h => hb'.frozen (p := ⟨b, o, none⟩) h
      simp only [hc _ _ g1, hc _ _ g2, hf _ _ g1, hf _ _ g2]
      subst hW1; simp [go_sem]
    have hk0 : ((kids.length : Int) == 0) = false := by simp; omega
    have hB0 : w.heap.size + 1 < B := by omega
    have hB2 : B ≤ w.heap.size + 2 := by omega
    clear hW1 hmcs h hst hg hpos hne hBd
    have HCELL := Lib.hid hcell
    clear hcell
    go_enter Tryd.func49, Tryd.ntmps49
    go_wp2_with fail
    rw [← HW.out]
    go_loopw [3, 19] (fun v i wr => ∃ j : Nat, j ≤ kids.length ∧ i = .int .i64 j ∧ OwnSl B wr 41 5 v (V.ds (kids.take j)) ∧ Below B W1 wr) (fun _ i _ => kids.length - (intOf i).toNat)
    case atStart => exact ⟨0, Nat.zero_le _, rfl, HST.out, Below.refl _ _⟩
    case round =>
      obtain ⟨j, hj, rfl, hown, hbel⟩ := hrel
      obtain ⟨av, cv, rfl⟩ := hown.form
      have hdl : (V.ds (kids.take j)).length = j := by rw [V.ds_length, List.length_take]; omega
      rw [hdl] at hown ⊢
      obtain ⟨⟨p0, p1, p2, p3, p4⟩, f1, f2, ⟨q0, q1, q2, q3, q4⟩⟩ := KB.out _ hbel
      have hsz := hbel.size
      by_cases hlt : j < kids.length
      · obtain ⟨v0, v1, v2, v3, v4, hr, d0, d1, d2, d3, d4⟩ := HCELL.out j hlt
        obtain ⟨k1, k2, k3, s4, a5, n5, m5, hcs⟩ := V.form hr
        simp only [List.cons.injEq, and_true] at hcs
        obtain ⟨rfl, rfl, rfl, rfl, rfl⟩ := hcs
        have hbw : Below w.heap.size w wr := hAw.trans (hbel.mono (by omega))
        have hbc := (bcell hbw).1
        rw [← hbc _ _ hb] at d0 d1 d2 d3 d4
        have i1 : (0 : Int) ≤ j := by omega
        have i2 : (j : Int) < kids.length := by omega
        have hn1 := V.nodes_get kids j hlt
        have hb1 := V.bulk_getB hkb j hlt
        have hal : Below wr.heap.size wr (wr.alloc (.cells #[.int .i64 k1, .int .i64 k2, .int .i64 k3, .string ⟨s4.toArray⟩, .slice a5 n5 m5] 41)) := (Below.refl _ _).alloc (Nat.le_refl _) _
        have HC := Lib.hid (hA kids[j] _ _ (Nat.le_trans hn1 hnk) ((hr.below hbw).below hal) hb1)
        have HS := Lib.hid (V.ds_take kids j hlt)
        clear hbc hr hn1 hb1 p0 p1 p2 p3 p4 f1 f2 q0 q1 q2 q3 q4
        go_wp2_with (first | (go_at_call 49; refine HC.out.mono ?_; rintro e1 w1 ⟨cs', rfl, hb1, hox⟩; obtain ⟨x0, x1, x2, x3, xa, xl, xc, rfl⟩ := V.form hox.rd) | (at_builtin; refine wp_appD tyVi rfl rfl B hown (below2 hal hb1 (Nat.le_refl _)) (by omega) (Owns.of1 (hox.mono hal.size)) (by intro d hd; simp at hd; subst hd; exact V.width _) (by simp) (V.cells_one hox.rd) rfl 1 rfl (by rw [hdl]; simp; omega) (by decide) ?_))
        intro g cap w2 hown2 hbel2
        try rw [hdl] at hown2
        go_wp2
        go_roundw
        case rel => exact ⟨j + 1, by omega, by go_num, by rw [HS.out]; simpa using hown2, hbel.trans hbel2⟩
        case measure => simp [intOf]; omega
      · obtain rfl : j = kids.length := by omega
        rw [List.take_length] at hown
        have fz1 := f1 4
        have hz1 : w.heap.size + 1 < wr.heap.size := by omega
        have hz0 : w.heap.size < wr.heap.size := by omega
        go_wp2
        refine bodyPost_ret (v := .agg #[.int .i64 k, .int .i64 m, .int .i64 e, .string ⟨s.toArray⟩, .slice av kids.length cv]) ?_ rfl ⟨[.int .i64 k, .int .i64 m, .int .i64 e, .string ⟨s.toArray⟩, .slice av kids.length cv], rfl, ?_, ?_⟩
        · simp [results, Tryd.results49, go_sem, p0, p1, p2, p3, p4, q0, q1, q2, q3, q4]
        · iterate 6 (refine Below.setCell ?_ (by simp <;> omega) _)
          exact hAw.trans (hbel.mono (by omega))
        · refine Own.mono (B := B) ?_ (by omega)
          iterate 6 (refine Own.setCell ?_ (by simp <;> omega) _)
          exact V.own (hown.own (by decide))
theorem Ow_all : ∀ n, OwA n
  | 0 => fun x cs w hn => absurd (V.nodes_pos x) (by omega)
  | n + 1 => OwA_of (Ow_all n)
theorem own_any (x : V) (cs : List Value) (w : World) (h : Rd w x.d cs) (hs : x.bulk ≤ 4294967295) :
    Calls Tryd.prog 49 #[.agg cs.toArray] w fun e w' => ∃ cs', e = .returned (.agg cs'.toArray) ∧ Below w.heap.size w w' ∧ Own w.heap.size w' x.d cs' :=
  Ow_all x.nodes x cs w (Nat.le_refl _) h hs
end Go.Proofs.YtkeieeogkeonfaaDoor
