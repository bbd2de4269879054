/- Contracts of the laws' own functions over values: copies. -/
import Derived.Test.YtkeieeogkeonfaaGreatDoorValueSz
import Derived.Test.YtkeieeogkeonfaaGreatDoorTree
import Derived.OwnWalk
namespace Go.Proofs.YtkeieeogkeonfaaGreatDoor
open Go.RowKit

theorem tyVs : ElemTy Tryz.prog 33 35 5 64 := ElemTy.mk' (z := .agg #[.int .i64 0, .int .i64 0, .int .i64 0, .string ⟨#[]⟩, .slice none 0 0]) Tryz.underlying33 (by kernel_rfl) rfl (by decide)

def VToA (n : Nat) : Prop := ∀ (sh : V) (cs : List Value) (w : World), sh.nodes ≤ n → Rd w sh.d cs → sh.bulk ≤ 1048576 →
  Calls Tryz.prog 7 #[.agg cs.toArray] w fun e w' => ∃ cs', e = .returned (.agg cs'.toArray) ∧ Below w.heap.size w w' ∧ Own w.heap.size w' sh.d cs'
def VToB (n : Nat) : Prop := ∀ (ls : List V) (v : Value) (w : World), V.nodess ls ≤ n → Rd w (.sl 5 (V.ds ls)) [v] → ls.length + V.bulks ls ≤ 1048576 →
  Calls Tryz.prog 18 #[v] w fun e w' => ∃ v', e = .returned v' ∧ Below w.heap.size w w' ∧ Own w.heap.size w' (.sl 5 (V.ds ls)) [v']

set_option maxHeartbeats 800000 in
theorem VToB_of {n : Nat} (hA : VToA n) : VToB n := by
  intro ls v w hn h hlen
  obtain ⟨a, c, rfl, hg⟩ := h.values
  obtain ⟨cs, hcs, hmk⟩ := run_mk tyVs ls.length (by omega) (by decide)
  have HCS := Lib.hid hcs; clear hcs
  have hl : ls.length ≤ 1048576 := by omega
  go_enter Tryz.func18, Tryz.ntmps18
  go_wp2
  go_loopw [4] (fun i wr => ∃ (k : Nat), k ≤ ls.length ∧ i = .int .i64 k ∧ Part w.heap.size wr w.heap.size 5 ls.length ((ls.take k).map V.d) ∧ Below w.heap.size w wr) (fun i _ => ls.length - (intOf i).toNat)
  case atStart => exact ⟨0, Nat.zero_le _, rfl, Part.start HCS.out, (Below.refl _ _).alloc (Nat.le_refl _) _⟩
  case round =>
    obtain ⟨k, hk, rfl, hp, hbel⟩ := hrel
    by_cases hk2 : k < ls.length
    · obtain ⟨_, _, b, o, rfl, hb, hcell⟩ := hg (by intro e; rw [e] at hk2; simp at hk2)
      obtain ⟨v0, v1, v2, v3, v4, hr, c0, c1, c2, c3, c4⟩ := hcell k hk2
      obtain ⟨hbc, _⟩ := bcell hbel
      have hr' := hr.below hbel
      have hnk := Nat.le_trans (V.nodes_get ls k hk2) hn
      have hbk : ls[k].bulk ≤ 1048576 := by have h1 := V.bulks_snoc ls k hk2; have h2 := V.bulks_take ls (k + 1); omega
      have HS := Lib.hid (take_map_snoc V.d ls k hk2)
      clear hcell
      go_wp2_with (go_at_call 7; refine (hA _ _ _ hnk hr' hbk).mono ?_; rintro e w1 ⟨cs', rfl, hb1, hown⟩; obtain ⟨x0, x1, x2, x3, a2, n2, c2, rfl⟩ := V.form hown.rd; have hp1 := hp.below hb1; obtain ⟨⟨z0, hz0⟩, hf0⟩ := hp1.there (k * 5) (by omega); obtain ⟨⟨z1, hz1⟩, hf1⟩ := hp1.there (k * 5 + 1) (by omega); obtain ⟨⟨z2, hz2⟩, hf2⟩ := hp1.there (k * 5 + 2) (by omega); obtain ⟨⟨z3, hz3⟩, hf3⟩ := hp1.there (k * 5 + 3) (by omega); obtain ⟨⟨z4, hz4⟩, hf4⟩ := hp1.there (k * 5 + 4) (by omega))
      have hp2 := hp.put hb1 hown (V.width _) (by simp; omega) hbel.size
      have hb2 := below_setCells (g := w.heap.size) [.int .i64 x0, .int .i64 x1, .int .i64 x2, .string ⟨x3.toArray⟩, .slice a2 n2 c2] (k * 5) (below2 hbel hb1 (Nat.le_refl _)) (Nat.le_refl _)
      rw [List.length_map, List.length_take, Nat.min_eq_left hk, Nat.mul_comm] at hp2
      go_roundw
      case rel => exact ⟨k + 1, by omega, by go_num, by rw [HS.out]; exact hp2, hb2⟩
      case measure => simp [intOf] <;> omega
    · obtain rfl : k = ls.length := by omega
      rw [List.take_length] at hp
      have ho := Part.own (ds := ls.map V.d) (n := 5) (c := ls.length) (by simpa using hp) (by decide) ⟨by simp, by unfold maxLen; omega⟩
      go_wp2
      go_ret
      exact ⟨_, rfl, hbel, by rw [V.ds_map]; simpa using ho⟩

theorem V.own {B : Nat} {w : World} {k m e : Int} {s : List UInt8} {kids : List V} {v1 : Value} (h : Own B w (.sl 5 (V.ds kids)) [v1]) :
    Own B w (V.d (.mk k m e s kids)) [.int .i64 k, .int .i64 m, .int .i64 e, .string ⟨s.toArray⟩, v1] := by
  obtain ⟨fp, h1, h2, h3⟩ := h
  refine ⟨fp, h1, h2, ?_⟩
  simp only [V.d, TreeC, TreeCs, dI, dS]
  exact ⟨[], fp, [_], _, by simp, rfl, rfl, ⟨rfl, rfl⟩, [], fp, [_], _, by simp, rfl, rfl, ⟨rfl, rfl⟩, [], fp, [_], _, by simp, rfl, rfl, ⟨rfl, rfl⟩,
    [], fp, [_], _, by simp, rfl, rfl, ⟨rfl, rfl⟩, fp, [], [_], [], by simp, rfl, rfl, by simpa only [TreeC] using h3, rfl, rfl⟩

set_option maxHeartbeats 800000 in
theorem VToA_of {n : Nat} (hB : VToB n) : VToA (n + 1) := by
  intro sh cs w hn h hlen
  obtain ⟨k, m, e, s, kids, v1, rfl, rfl, hkids⟩ := V.lay h
  have hnk : V.nodess kids ≤ n := by simp only [V.nodes] at hn; omega
  simp only [V.bulk] at hlen
  have hA := (Below.refl w.heap.size w).alloc (Nat.le_refl _) (.cells #[.int .i64 k, .int .i64 m, .int .i64 e, .string ⟨s.toArray⟩, v1] 24)
  have hkb : kids.length + V.bulks kids ≤ 1048576 := by omega
  go_enter Tryz.func7, Tryz.ntmps7
  go_wp2_with (go_at_call 18; refine (hB _ _ _ hnk (((hkids.alloc _).alloc _).alloc _) hkb).mono ?_; rintro e w2 ⟨x2, rfl, hb2, hown2⟩; obtain ⟨a2, m2, n2, rfl⟩ := Rd.sl_any hown2.rd; obtain ⟨hc2, hf2⟩ := bcell hb2; have hz2 := hb2.size; simp at hz2; have g4 : w.heap.size < w2.heap.size := (by omega); have g5 : w.heap.size + 1 < w2.heap.size := (by omega); have g6 : w.heap.size + 1 + 1 < w2.heap.size := (by omega))
  refine bodyPost_ret (v := .agg #[.int .i64 k, .int .i64 m, .int .i64 e, .string ⟨s.toArray⟩, .slice a2 m2 n2]) ?_ rfl ⟨[.int .i64 k, .int .i64 m, .int .i64 e, .string ⟨s.toArray⟩, .slice a2 m2 n2], rfl, ?_, ?_⟩
  · simp [results, Tryz.results7, go_sem, hc2, g4, g5]
  · iterate 6 (refine Below.setCell ?_ (by simp; try omega) _)
    exact below2 ((hA.alloc (by simp; try omega) _).alloc (by simp; try omega) _) hb2 (Nat.le_refl _)
  · refine Own.mono (B := w.heap.size + 1 + 1 + 1) ?_ (by omega)
    iterate 6 (refine Own.setCell ?_ (by simp; try omega) _)
    exact V.own (hown2.mono (by simp; try omega))

theorem VTo_all : ∀ n, VToA n ∧ VToB n
  | 0 => by
    have h0 : VToA 0 := fun sh cs w hn => absurd (V.nodes_pos sh) (by omega)
    exact ⟨h0, VToB_of h0⟩
  | n + 1 => by
    have h1 := VToA_of (VTo_all n).2
    exact ⟨h1, VToB_of h1⟩
theorem toValue_any (sh : V) (cs : List Value) (w : World) (h : Rd w sh.d cs) (hs : sh.bulk ≤ 1048576) :
    Calls Tryz.prog 7 #[.agg cs.toArray] w fun e w' => ∃ cs', e = .returned (.agg cs'.toArray) ∧ Below w.heap.size w w' ∧ Own w.heap.size w' sh.d cs' :=
  (VTo_all sh.nodes).1 sh cs w (Nat.le_refl _) h hs
end Go.Proofs.YtkeieeogkeonfaaGreatDoor
