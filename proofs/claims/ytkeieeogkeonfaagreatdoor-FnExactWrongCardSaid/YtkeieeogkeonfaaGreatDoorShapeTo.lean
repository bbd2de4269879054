/- Contracts of the laws' own functions over shapes: copies. -/
import Derived.Test.YtkeieeogkeonfaaGreatDoorShapeSz
import Derived.Test.YtkeieeogkeonfaaGreatDoorTree
import Derived.OwnWalk
namespace Go.Proofs.YtkeieeogkeonfaaGreatDoor
open Go.RowKit

theorem tySs : ElemTy Tryz.prog 25 9 1 16 := ElemTy.mk' (z := .string ⟨#[]⟩) Tryz.underlying25 (by kernel_rfl) rfl (by decide)

set_option maxHeartbeats 400000 in
theorem toStringS_any (ls : List (List UInt8)) (v : Value) (w : World) (h : Rd w (dSs ls) [v]) (hlen : ls.length ≤ 1048576) :
    Calls Tryz.prog 19 #[v] w fun e w' => ∃ v', e = .returned v' ∧ Below w.heap.size w w' ∧ Own w.heap.size w' (dSs ls) [v'] := by
  obtain ⟨a, c, rfl, hg⟩ := h.strs
  obtain ⟨cs, hcs, hmk⟩ := run_mk tySs ls.length (by omega) (by decide)
  have HCS := Lib.hid hcs; clear hcs
  go_enter Tryz.func19, Tryz.ntmps19
  go_wp2
  go_loopw [4] (fun i wr => ∃ (k : Nat), k ≤ ls.length ∧ i = .int .i64 k ∧ Part w.heap.size wr w.heap.size 1 ls.length ((ls.take k).map dS) ∧ Below w.heap.size w wr) (fun i _ => ls.length - (intOf i).toNat)
  case atStart => exact ⟨0, Nat.zero_le _, rfl, Part.start HCS.out, (Below.refl _ _).alloc (Nat.le_refl _) _⟩
  case round =>
    obtain ⟨k, hk, rfl, hp, hbel⟩ := hrel
    by_cases hk2 : k < ls.length
    · obtain ⟨_, _, b, o, rfl, hb, hcell⟩ := hg (by intro e; rw [e] at hk2; simp at hk2)
      have hc := hcell k hk2
      obtain ⟨hbc, _⟩ := bcell hbel
      clear hcell
      obtain ⟨⟨z, hz⟩, hfr⟩ := hp.there k (by omega)
      have hp2 := hp.put (d := dS ls[k]) (Below.refl _ wr) (Own.one _) rfl (by simp; omega) hbel.size
      have HS := Lib.hid (take_map_snoc dS ls k hk2)
      go_wp2
      go_roundw
      case rel => exact ⟨k + 1, by omega, by go_num, by rw [HS.out]; simpa [Nat.min_eq_left hk, setCells] using hp2, hbel.setCell (Nat.le_refl _) _⟩
      case measure => simp [intOf] <;> omega
    · obtain rfl : k = ls.length := by omega
      rw [List.take_length] at hp
      have ho := Part.own (ds := ls.map dS) (n := 1) (c := ls.length) (by simpa using hp) (by decide) ⟨by simp, by unfold maxLen; omega⟩
      go_wp2
      go_ret
      exact ⟨_, rfl, hbel, by simpa [dSs] using ho⟩

theorem tyShs : ElemTy Tryz.prog 37 39 6 80 := ElemTy.mk' (z := .agg #[.int .i64 0, .int .i64 0, .int .i64 0, .slice none 0 0, .int .i64 0, .slice none 0 0]) Tryz.underlying37 (by kernel_rfl) rfl (by decide)

def ToA (n : Nat) : Prop := ∀ (sh : Sh) (cs : List Value) (w : World), sh.nodes ≤ n → Rd w sh.d cs → sh.bulk ≤ 1048576 →
  Calls Tryz.prog 8 #[.agg cs.toArray] w fun e w' => ∃ cs', e = .returned (.agg cs'.toArray) ∧ Below w.heap.size w w' ∧ Own w.heap.size w' sh.d cs'
def ToB (n : Nat) : Prop := ∀ (ls : List Sh) (v : Value) (w : World), Sh.nodess ls ≤ n → Rd w (.sl 6 (Sh.ds ls)) [v] → ls.length + Sh.bulks ls ≤ 1048576 →
  Calls Tryz.prog 20 #[v] w fun e w' => ∃ v', e = .returned v' ∧ Below w.heap.size w w' ∧ Own w.heap.size w' (.sl 6 (Sh.ds ls)) [v']

set_option maxHeartbeats 800000 in
theorem ToB_of {n : Nat} (hA : ToA n) : ToB n := by
  intro ls v w hn h hlen
  obtain ⟨a, c, rfl, hg⟩ := h.shapes
  obtain ⟨cs, hcs, hmk⟩ := run_mk tyShs ls.length (by omega) (by decide)
  have HCS := Lib.hid hcs; clear hcs
  have hl : ls.length ≤ 1048576 := by omega
  go_enter Tryz.func20, Tryz.ntmps20
  go_wp2
  go_loopw [4] (fun i wr => ∃ (k : Nat), k ≤ ls.length ∧ i = .int .i64 k ∧ Part w.heap.size wr w.heap.size 6 ls.length ((ls.take k).map Sh.d) ∧ Below w.heap.size w wr) (fun i _ => ls.length - (intOf i).toNat)
  case atStart => exact ⟨0, Nat.zero_le _, rfl, Part.start HCS.out, (Below.refl _ _).alloc (Nat.le_refl _) _⟩
  case round =>
    obtain ⟨k, hk, rfl, hp, hbel⟩ := hrel
    by_cases hk2 : k < ls.length
    · obtain ⟨_, _, b, o, rfl, hb, hcell⟩ := hg (by intro e; rw [e] at hk2; simp at hk2)
      obtain ⟨v0, v1, v2, v3, v4, v5, hr, c0, c1, c2, c3, c4, c5⟩ := hcell k hk2
      obtain ⟨hbc, _⟩ := bcell hbel
      have hr' := hr.below hbel
      have hnk := Nat.le_trans (Sh.nodes_get ls k hk2) hn
      have hbk : ls[k].bulk ≤ 1048576 := by have h1 := Sh.bulks_snoc ls k hk2; have h2 := Sh.bulks_take ls (k + 1); omega
      have HS := Lib.hid (take_map_snoc Sh.d ls k hk2)
      clear hcell
      go_wp2_with (go_at_call 8; refine (hA _ _ _ hnk hr' hbk).mono ?_; rintro e w1 ⟨cs', rfl, hb1, hown⟩; obtain ⟨x0, x1, x2, a1, n1, c1, x4, a2, n2, c2, rfl⟩ := Sh.form hown.rd; have hp1 := hp.below hb1; obtain ⟨⟨z0, hz0⟩, hf0⟩ := hp1.there (k * 6) (by omega); obtain ⟨⟨z1, hz1⟩, hf1⟩ := hp1.there (k * 6 + 1) (by omega); obtain ⟨⟨z2, hz2⟩, hf2⟩ := hp1.there (k * 6 + 2) (by omega); obtain ⟨⟨z3, hz3⟩, hf3⟩ := hp1.there (k * 6 + 3) (by omega); obtain ⟨⟨z4, hz4⟩, hf4⟩ := hp1.there (k * 6 + 4) (by omega); obtain ⟨⟨z5, hz5⟩, hf5⟩ := hp1.there (k * 6 + 5) (by omega))
      have hp2 := hp.put hb1 hown (Sh.width _) (by simp; omega) hbel.size
      have hb2 := below_setCells (g := w.heap.size) [.int .i64 x0, .int .i64 x1, .int .i64 x2, .slice a1 n1 c1, .int .i64 x4, .slice a2 n2 c2] (k * 6) (below2 hbel hb1 (Nat.le_refl _)) (Nat.le_refl _)
      rw [List.length_map, List.length_take, Nat.min_eq_left hk, Nat.mul_comm] at hp2
      go_roundw
      case rel => exact ⟨k + 1, by omega, by go_num, by rw [HS.out]; exact hp2, hb2⟩
      case measure => simp [intOf] <;> omega
    · obtain rfl : k = ls.length := by omega
      rw [List.take_length] at hp
      have ho := Part.own (ds := ls.map Sh.d) (n := 6) (c := ls.length) (by simpa using hp) (by decide) ⟨by simp, by unfold maxLen; omega⟩
      go_wp2
      go_ret
      exact ⟨_, rfl, hbel, by rw [Sh.ds_map]; simpa using ho⟩

theorem Sh.own {B : Nat} {w : World} {k l hi m : Int} {ks : List (List UInt8)} {kids : List Sh} {v1 v2 : Value} (h : Owns B w [dSs ks, .sl 6 (Sh.ds kids)] [v1, v2]) :
    Own B w (Sh.d (.mk k l hi ks m kids)) [.int .i64 k, .int .i64 l, .int .i64 hi, v1, .int .i64 m, v2] := by
  obtain ⟨fp, h1, h2, h3⟩ := h
  refine ⟨fp, h1, h2, ?_⟩
  simp only [TreeCs] at h3
  obtain ⟨f1, f2, c1, c2, rfl, hc, hl, ht1, g1, g2, e1, e2, rfl, rfl, hl2, ht2, rfl, rfl⟩ := h3
  have hw : c1.length = 1 := by simpa [dSs, D.width] using hl
  have hw2 : e1.length = 1 := by simpa [D.width] using hl2
  obtain ⟨x, rfl⟩ := List.length_eq_one_iff.1 hw
  obtain ⟨y, rfl⟩ := List.length_eq_one_iff.1 hw2
  simp only [List.append_nil, List.cons_append, List.nil_append, List.cons.injEq, and_true] at hc
  obtain ⟨rfl, rfl⟩ := hc
  simp only [Sh.d, TreeC, TreeCs, dI]
  exact ⟨[], f1 ++ g1, [_], _, by simp, rfl, rfl, ⟨rfl, rfl⟩, [], f1 ++ g1, [_], _, by simp, rfl, rfl, ⟨rfl, rfl⟩, [], f1 ++ g1, [_], _, by simp, rfl, rfl, ⟨rfl, rfl⟩,
    f1, g1, [_], _, rfl, rfl, by simp [dSs, D.width], ht1, [], g1, [_], _, by simp, rfl, rfl, ⟨rfl, rfl⟩, g1, [], [_], [], by simp, rfl, rfl, by simpa only [TreeC] using ht2, rfl, rfl⟩

set_option maxHeartbeats 800000 in
theorem ToA_of {n : Nat} (hB : ToB n) : ToA (n + 1) := by
  intro sh cs w hn h hlen
  obtain ⟨k, l, hi, ks, m, kids, v1, v2, rfl, rfl, hk, hkids⟩ := Sh.lay h
  have hnk : Sh.nodess kids ≤ n := by simp only [Sh.nodes] at hn; omega
  simp only [Sh.bulk] at hlen
  have hA := (Below.refl w.heap.size w).alloc (Nat.le_refl _) (.cells #[.int .i64 k, .int .i64 l, .int .i64 hi, v1, .int .i64 m, v2] 28)
  have hkl : ks.length ≤ 1048576 := by omega
  have hkb : kids.length + Sh.bulks kids ≤ 1048576 := by omega
  go_enter Tryz.func8, Tryz.ntmps8
  go_wp2_with (first | (go_at_call 19; refine (toStringS_any _ _ _ (((hk.alloc _).alloc _).alloc _) hkl).mono ?_; rintro e w1 ⟨x1, rfl, hb1, hown1⟩; obtain ⟨a1, m1, n1, rfl⟩ := Rd.sl_any hown1.rd; obtain ⟨hc1, hf1⟩ := bcell hb1; have hb0 := below2 (((hA.alloc (by simp; try omega) _).alloc (by simp; try omega) _)) hb1 (Nat.le_refl _); have hz1 := hb1.size; simp at hz1; have g1 : w.heap.size < w1.heap.size := (by omega); have g2 : w.heap.size + 1 < w1.heap.size := (by omega); have g3 : w.heap.size + 1 + 1 < w1.heap.size := (by omega)) | (go_at_call 20; refine (hB _ _ _ hnk (hkids.below ((hb0.setCell (by simp; try omega) _).setCell (by simp; try omega) _)) hkb).mono ?_; rintro e w2 ⟨x2, rfl, hb2, hown2⟩; obtain ⟨a2, m2, n2, rfl⟩ := Rd.sl_any hown2.rd; obtain ⟨hc2, hf2⟩ := bcell hb2; have hz2 := hb2.size; simp at hz2; have g4 : w.heap.size < w2.heap.size := (by omega); have g5 : w.heap.size + 1 < w2.heap.size := (by omega); have g6 : w.heap.size + 1 + 1 < w2.heap.size := (by omega)))
  refine bodyPost_ret (v := .agg #[.int .i64 k, .int .i64 l, .int .i64 hi, .slice a1 m1 n1, .int .i64 m, .slice a2 m2 n2]) ?_ rfl ⟨[.int .i64 k, .int .i64 l, .int .i64 hi, .slice a1 m1 n1, .int .i64 m, .slice a2 m2 n2], rfl, ?_, ?_⟩
  · simp [results, Tryz.results8, go_sem, hc1, hc2, g2]
  · iterate 7 (refine Below.setCell ?_ (by simp; try omega) _)
    exact below2 ((hb0.setCell (by simp; try omega) _).setCell (by simp; try omega) _) hb2 (Nat.le_refl _)
  · refine Own.mono (B := w.heap.size + 1 + 1 + 1) ?_ (by omega)
    iterate 7 (refine Own.setCell ?_ (by simp; try omega) _)
    exact Sh.own (Owns.snoc (Owns.of1 (((hown1.mono (by simp)).setCell (by simp) _).setCell (by simp) _)) hb2 hown2 (by simp; omega))

theorem To_all : ∀ n, ToA n ∧ ToB n
  | 0 => by
    have h0 : ToA 0 := fun sh cs w hn => absurd (Sh.nodes_pos sh) (by omega)
    exact ⟨h0, ToB_of h0⟩
  | n + 1 => by
    have h1 := ToA_of (To_all n).2
    exact ⟨h1, ToB_of h1⟩
theorem toShape_any (sh : Sh) (cs : List Value) (w : World) (h : Rd w sh.d cs) (hs : sh.bulk ≤ 1048576) :
    Calls Tryz.prog 8 #[.agg cs.toArray] w fun e w' => ∃ cs', e = .returned (.agg cs'.toArray) ∧ Below w.heap.size w w' ∧ Own w.heap.size w' sh.d cs' :=
  (To_all sh.nodes).1 sh cs w (Nat.le_refl _) h hs
end Go.Proofs.YtkeieeogkeonfaaGreatDoor
