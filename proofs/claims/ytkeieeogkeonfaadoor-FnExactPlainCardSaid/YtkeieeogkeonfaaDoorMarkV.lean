/- Marks laid into own values: the law's markValue and heldValue. -/
import Derived.Test.YtkeieeogkeonfaaDoorMarkS
import Derived.Test.YtkeieeogkeonfaaDoorMark2
import Derived.Test.YtkeieeogkeonfaaDoorValueDef
namespace Go.Proofs.YtkeieeogkeonfaaDoor
open Go.RowKit

theorem V.half_zero (k : Nat) (ls : List V) : V.half k ls 0 = ls := by simp [V.half, V.marks]
theorem V.half_all (k : Nat) (ls : List V) : V.half k ls ls.length = V.marks k ls := by simp [V.half]
theorem V.half_length (k : Nat) (ls : List V) (j : Nat) (h : j ≤ ls.length) : (V.half k ls j).length = ls.length := by simp [V.half, V.marks_length]; omega
theorem V.half_at (k : Nat) (ls : List V) (j : Nat) (h : j < ls.length) : (V.half k ls j)[j]'(by rw [V.half_length _ _ _ (by omega)]; exact h) = ls[j] := half_get h (by rw [V.marks_length, List.length_take]; omega)
theorem V.cnts_get : ∀ (vs : List V) i (h : i < vs.length), V.cnts (vs.take i) + V.cnt vs[i] ≤ V.cnts vs := fun vs i h => by
  have := V.cnts_take vs i h; have := V.cnts_le vs (i + 1); omega

def VMk (n : Nat) : Prop := ∀ (vs : List V) (v : Value) (k : Nat) (fp : List Nat) (w : World), V.nodess vs ≤ n → TreeC w (.sl 5 (V.ds vs)) fp [v] → fp.Nodup → vs.length + V.bulks vs ≤ 4294967295 → 0 < k → k + V.cnts vs ≤ 4611686018427387904 →
  Calls Tryd.prog 52 #[v, .int .i64 k] w fun e w' => e = .returned (.int .i64 ((k + V.cnts vs : Nat) : Int)) ∧ Keep (· ∈ fp) w w' ∧ TreeC w' (.sl 5 (V.ds (V.marks k vs))) fp [v]

set_option maxHeartbeats 400000 in
theorem markV_nil (v : Value) (k : Nat) (fp : List Nat) (w : World) (h : TreeC w (.sl 5 (V.ds [])) fp [v]) :
    Calls Tryd.prog 52 #[v, .int .i64 k] w fun e w' => e = .returned (.int .i64 ((k + V.cnts [] : Nat) : Int)) ∧ Keep (· ∈ fp) w w' ∧ TreeC w' (.sl 5 (V.ds (V.marks k []))) fp [v] := by
  have h0 := h
  obtain ⟨a, c, rfl, _⟩ := TreeC.row h
  have H0 := Lib.hid h0
  clear h h0
  go_enter Tryd.func52, Tryd.ntmps52
  go_wp2
  go_loopw [1, 5] (fun kk i wr => kk = .int .i64 k ∧ i = .int .i64 (0 : Int) ∧ wr = w) (fun _ _ _ => 0)
  case atStart => exact ⟨rfl, rfl, rfl⟩
  case round =>
    obtain ⟨rfl, rfl, rfl⟩ := hrel
    go_wp2
    go_ret
    exact ⟨rfl, Keep.refl _ _, H0.out⟩

set_option maxHeartbeats 2000000 in
set_option maxRecDepth 10000 in
theorem VMk_of {n : Nat} (hA : VMk n) : VMk (n + 1) := by
  intro vs v k fp w hnn h hn hl hk hk2
  by_cases hne : vs = []
  · subst hne
    exact markV_nil v k fp w h
  · obtain ⟨a, c, rfl, hg⟩ := TreeC.row h
    obtain ⟨g, fr, e, sz, rfl, rfl, hc1, hc2, hrow⟩ := hg (by rw [V.ds_map]; simpa using hne)
    have hvl : (V.ds vs).length = vs.length := by rw [V.ds_map, List.length_map]
    rw [hvl] at hc1 ⊢
    clear hg h
    have HC := Lib.hid (show vs.length ≤ c ∧ c ≤ maxLen from ⟨hc1, hc2⟩)
    clear hc1 hc2
    go_enter Tryd.func52, Tryd.ntmps52
    go_wp2
    go_loopw [1, 5] (fun kk i wr => ∃ j q : Nat, j ≤ vs.length ∧ q = k + V.cnts (vs.take j) ∧ kk = .int .i64 q ∧ i = .int .i64 j ∧ Row wr 5 g e sz fr (V.ds (V.half k vs j)) ∧ Keep (· ∈ g :: fr) w wr) (fun _ i _ => vs.length - (intOf i).toNat)
    case atStart => exact ⟨0, k, Nat.zero_le _, by simp [V.cnts], rfl, rfl, by rw [V.half_zero]; exact hrow, Keep.refl _ _⟩
    case round =>
      obtain ⟨j, q, hj, hq, rfl, rfl, hr, hkp⟩ := hrel
      have HQ := Lib.hid hq
      by_cases hlt : j < vs.length
      · have hqc := V.cnts_get vs j hlt
        have hq1 : 0 < q := by omega
        have hq2 : q + V.cnt vs[j] ≤ 4611686018427387904 := by omega
        have HQ2 := Lib.hid (show q + V.cnt vs[j] = k + V.cnts (vs.take (j + 1)) by rw [V.cnts_take vs j hlt]; omega)
        clear hq hqc
        have hjl : j < (V.half k vs j).length := by rw [V.half_length _ _ _ hj]; exact hlt
        obtain ⟨fi, kn, nn, en, sn, kids, u, hes, hnf, d0, d1, d2, hfr, hgl, hrest⟩ := RowV.round hr hn j hjl q
        have hes' : vs[j] = .mk kn nn en sn kids := by rw [← V.half_at k vs j hlt]; exact hes
        have hnj := V.nodes_get vs j hlt
        have hbj := V.bulks_snoc vs j hlt
        have hbt := V.bulks_take vs (j + 1)
        have hnk : V.nodess kids ≤ n := by rw [hes'] at hnj; simp only [V.nodes] at hnj; omega
        have hbk : kids.length + V.bulks kids ≤ 4294967295 := by rw [hes'] at hbj; simp only [V.bulk] at hbj; omega
        have hck : V.cnt vs[j] = 4 + V.cnts kids := by rw [hes']; rfl
        have hqk : q + 4 + V.cnts kids ≤ 4611686018427387904 := by omega
        have HQ3 := Lib.hid (show q + 4 + V.cnts kids = k + V.cnts (vs.take (j + 1)) by rw [← HQ2.out]; omega)
        have HSET := Lib.hid (show (V.half k vs j).set j (V.mark1 q ((V.half k vs j)[j]'hjl)) = V.half k vs (j + 1) by rw [V.half_at k vs j hlt, HQ.out]; exact V.half_set k vs j hlt)
        have HR := Lib.hid hrest
        have HMT := fun W => Lib.hid (markText_any (q + 3) W (by omega) (by omega))
        have f0 := hfr (j * 5)
        have f1 := hfr (j * 5 + 1)
        have f2 := hfr (j * 5 + 2)
        have i1 : (0 : Int) ≤ j := by omega
        have i2 : (j : Int) < vs.length := by omega
        have HHA := fun W h1 => Lib.hid (hA kids u (q + 4) fi W hnk h1 hnf hbk (by omega) hqk)
        have HKP := Lib.hid hkp
        clear hes hes' hnj hbj hbt hnk hbk hck hrest hr hfr hnf hA hrow hkp
        go_wp2_with (first | (go_at_call 71; refine (HMT _).out.mono ?_; rintro e1 w1 ⟨rfl, hb1⟩; obtain ⟨c3, f3, c4, htk, hfin⟩ := HR.out w1 hb1) | (go_at_call 52; refine (HHA _ htk).out.mono ?_; rintro e1 w2 ⟨rfl, hk2', ht2⟩; obtain ⟨hrow2, hkp2⟩ := hfin w2 hk2' ht2))
        go_roundw
        case rel => exact ⟨j + 1, q + 4 + V.cnts kids, by omega, HQ3.out, by go_num, by go_num, by rw [← HSET.out]; exact hrow2, HKP.out.trans hkp2⟩
        case measure => simp [intOf]; omega
      · obtain rfl : j = vs.length := by omega
        rw [V.half_all] at hr
        rw [List.take_length] at HQ
        clear hq
        go_wp2
        go_ret
        have hml : (V.ds (V.marks k vs)).length = vs.length := by rw [V.ds_map, List.length_map, V.marks_length]
        have := Row.tree (c := c) hr (by decide) (by rw [hml]; exact HC.out)
        rw [hml] at this
        exact ⟨by rw [← HQ.out]; rfl, hkp, this⟩
theorem VMk_all : ∀ n, VMk n
  | 0 => by
    intro vs v k fp w hnn h hn hl hk hk2
    have : vs = [] := by
      cases vs with
      | nil => rfl
      | cons x r => have := x.nodes_pos; simp only [V.nodess] at hnn; omega
    subst this
    exact markV_nil v k fp w h
  | n + 1 => VMk_of (VMk_all n)
def VHd (n : Nat) : Prop := ∀ (vs : List V) (v : Value) (k : Nat) (w : World), V.nodess vs ≤ n → Rd w (.sl 5 (V.ds (V.marks k vs))) [v] → vs.length + V.bulks vs ≤ 4294967295 → 0 < k → k + V.cnts vs ≤ 4611686018427387904 →
  Calls Tryd.prog 53 #[v, .int .i64 k] w fun e w' => e = .returned (.int .i64 ((k + V.cnts vs : Nat) : Int)) ∧ Below w.heap.size w w'
theorem V.marks_get : ∀ (k : Nat) (vs : List V) (j : Nat) (h : j < vs.length), (V.marks k vs)[j]'(by rw [V.marks_length]; exact h) = V.mark1 (k + V.cnts (vs.take j)) vs[j]
  | k, v :: vs, 0, _ => by simp [V.marks, V.cnts]
  | k, v :: vs, j + 1, h => by simp only [V.marks, List.getElem_cons_succ, List.take_succ_cons, V.cnts]; rw [V.marks_get (k + V.cnt v) vs j (by simpa using h), Nat.add_assoc]
set_option maxHeartbeats 2000000 in
set_option maxRecDepth 10000 in
theorem VHd_of {n : Nat} (hA : VHd n) : VHd (n + 1) := by
  intro vs v k w hnn h hl hk hk2
  obtain ⟨a, c, rfl, hg⟩ := h.values
  rw [V.marks_length]
  clear h
  go_enter Tryd.func53, Tryd.ntmps53
  go_wp2
  go_loopw [1, 5] (fun kk i wr => ∃ j q : Nat, j ≤ vs.length ∧ q = k + V.cnts (vs.take j) ∧ kk = .int .i64 q ∧ i = .int .i64 j ∧ Below w.heap.size w wr) (fun _ i _ => vs.length - (intOf i).toNat)
  case atStart => exact ⟨0, k, Nat.zero_le _, by simp [V.cnts], rfl, rfl, Below.refl _ _⟩
  case round =>
    obtain ⟨j, q, hj, hq, rfl, rfl, hbel⟩ := hrel
    have HQ := Lib.hid hq
    by_cases hlt : j < vs.length
    · have hqc := V.cnts_get vs j hlt
      have hq1 : 0 < q := by omega
      have hq2 : q + V.cnt vs[j] ≤ 4611686018427387904 := by omega
      have HQ2 := Lib.hid (show q + V.cnt vs[j] = k + V.cnts (vs.take (j + 1)) by rw [V.cnts_take vs j hlt]; omega)
      obtain ⟨_, _, b, o, rfl, hb, hcell⟩ := hg (by intro e; have := congrArg List.length e; simp [V.marks_length] at this; subst this; simp at hlt)
      obtain ⟨v0, v1, v2, v3, v4, hr, d0, d1, d2, d3, d4⟩ := hcell j (by rw [V.marks_length]; exact hlt)
      rw [V.marks_get k vs j hlt, ← hq] at hr
      obtain ⟨kn, nn, en, sn, kids, hes'⟩ : ∃ kn nn en sn kids, vs[j] = .mk kn nn en sn kids := by cases vs[j]; exact ⟨_, _, _, _, _, rfl⟩
      rw [hes'] at hr
      obtain ⟨k', n', e', s', kids', u, hm, hcs, hrk⟩ := V.lay hr
      simp only [V.mark1, V.mk.injEq] at hm
      obtain ⟨rfl, rfl, rfl, rfl, rfl⟩ := hm
      simp only [List.cons.injEq, and_true] at hcs
      obtain ⟨rfl, rfl, rfl, rfl, rfl⟩ := hcs
      have hnj := V.nodes_get vs j hlt
      have hbj := V.bulks_snoc vs j hlt
      have hbt := V.bulks_take vs (j + 1)
      have hnk : V.nodess kids ≤ n := by rw [hes'] at hnj; simp only [V.nodes] at hnj; omega
      have hbk : kids.length + V.bulks kids ≤ 4294967295 := by rw [hes'] at hbj; simp only [V.bulk] at hbj; omega
      have hck : V.cnt vs[j] = 4 + V.cnts kids := by rw [hes']; rfl
      have hqk : q + 4 + V.cnts kids ≤ 4611686018427387904 := by omega
      have HQ3 := Lib.hid (show q + 4 + V.cnts kids = k + V.cnts (vs.take (j + 1)) by rw [← HQ2.out]; omega)
      have hbc := (bcell hbel).1
      rw [← hbc _ _ hb] at d0 d1 d2 d3 d4
      have hb' : b < wr.heap.size := Nat.lt_of_lt_of_le hb hbel.size
      have hwr := Below.refl wr.heap.size wr
      have KB : Hid (∀ W, Below wr.heap.size wr W → W.cell? ⟨b, o + j * 5 + 3, none⟩ = some (.string ⟨(mt (q + 3)).toArray⟩) ∧ W.cell? ⟨b, o + j * 5 + 4, none⟩ = some v4) := fun W hW => by rw [(bcell hW).1 _ _ hb', (bcell hW).1 _ _ hb']; exact ⟨d3, d4⟩
      have i1 : (0 : Int) ≤ j := by omega
      have i2 : (j : Int) < vs.length := by omega
      have HMT := fun W => Lib.hid (show Calls Tryd.prog 71 #[.int .i64 ((q : Int) + 1 + 1 + 1)] W _ from markText_any (q + 3) W (by omega) (by omega))
      have HHA := fun W (hB : Below wr.heap.size wr W) => Lib.hid (hA kids v4 (q + 4) W hnk ((hrk.below hbel).below hB) hbk (by omega) hqk)
      clear hes' hnj hbj hbt hnk hbk hck hA hrk hcell hg hbc hq hqc HQ2
      go_wp2_with fail
      go_region_held3 (fun W => W.cell? ⟨b, o + j * 5 + 3, none⟩ = some (.string ⟨(mt (q + 3)).toArray⟩) ∧ W.cell? ⟨b, o + j * 5 + 4, none⟩ = some v4) (first | exact KB.out _ hwr | exact KB.out _ hwr.drew)
        ((go_at_call 71; with_reducible refine (HMT _).out.mono ?_; rintro e1 w1 ⟨rfl, hb1⟩; replace hwr := below2 (by first | exact hwr | exact hwr.drew) hb1 (Nat.le_refl _)))
      obtain ⟨p3, p4⟩ := KB.out _ hwr
      go_wp2_with (go_at_call 53; refine (HHA _ hwr).out.mono ?_; rintro e1 w2 ⟨rfl, hb2⟩)
      go_roundw
      case rel => exact ⟨j + 1, q + 4 + V.cnts kids, by omega, HQ3.out, by go_num, by go_num, below2 hbel (below2 hwr hb2 (Nat.le_refl _)) (Nat.le_refl _)⟩
      case measure => simp [intOf]; omega
    · obtain rfl : j = vs.length := by omega
      rw [List.take_length] at HQ
      clear hq
      go_wp2
      go_ret
      exact ⟨by rw [← HQ.out]; rfl, hbel⟩
theorem VHd_all : ∀ n, VHd n
  | 0 => by
    intro vs v k w hnn h hl hk hk2
    have : vs = [] := by
      cases vs with
      | nil => rfl
      | cons x r => have := x.nodes_pos; simp only [V.nodess] at hnn; omega
    subst this
    obtain ⟨a, c, rfl, _⟩ := h.values
    clear h
    rw [V.marks_length]
    go_enter Tryd.func53, Tryd.ntmps53
    go_wp2
    go_loopw [1, 5] (fun kk i wr => kk = .int .i64 k ∧ i = .int .i64 (0 : Int) ∧ wr = w) (fun _ _ _ => 0)
    case atStart => exact ⟨rfl, rfl, rfl⟩
    case round =>
      obtain ⟨rfl, rfl, rfl⟩ := hrel
      go_wp2
      go_ret
      exact ⟨rfl, Below.refl _ _⟩
  | n + 1 => VHd_of (VHd_all n)
/-- kids marked -/
def V.top (k : Nat) : V → V | .mk a b c s kids => .mk a b c s (V.marks k kids)

set_option maxHeartbeats 400000 in
theorem markValue_any (x : V) (cs : List Value) (k : Nat) (fp : List Nat) (w : World) (h : TreeC w x.d fp cs) (hn : fp.Nodup) (hbk : x.bulk ≤ 4294967295) (hk : 0 < k) (hk2 : k + V.cnts x.kids ≤ 4611686018427387904) :
    Calls Tryd.prog 20 #[.agg cs.toArray, .int .i64 k] w fun e w' => e = .returned (.int .i64 ((k + V.cnts x.kids : Nat) : Int)) ∧ Keep (· ∈ fp) w w' ∧ TreeC w' (x.top k).d fp cs := by
  obtain ⟨a, b, c, s, kids⟩ := x
  obtain ⟨v, rfl, ht⟩ := V.tree h
  obtain ⟨ad, cc, rfl, _⟩ := TreeC.row ht
  simp only [V.kids] at hk2 ⊢
  have hl : (V.ds kids).length = kids.length := by rw [V.ds_map, List.length_map]
  rw [hl] at ht ⊢
  have hal : Below w.heap.size w (w.alloc (.cells #[.int .i64 a, .int .i64 b, .int .i64 c, .string ⟨s.toArray⟩, .slice ad kids.length cc] 41)) := (Below.refl _ _).alloc (Nat.le_refl _) _
  have HM := Lib.hid (VMk_all (V.nodess kids) kids _ k fp _ (Nat.le_refl _) (ht.frame fun b hb => hal.block b (ht.lt b hb)) hn (by simp only [V.bulk] at hbk; omega) hk hk2)
  clear h ht
  go_enter Tryd.func20, Tryd.ntmps20
  go_wp2_with (go_at_call 52; refine HM.out.mono ?_; rintro e1 w2 ⟨rfl, hk2', ht2⟩)
  go_ret
  exact ⟨rfl, (Keep.of_below hal).trans hk2', V.tree_mk ht2⟩
set_option maxHeartbeats 400000 in
theorem heldValue_any (x : V) (cs : List Value) (k : Nat) (w : World) (h : Rd w (x.top k).d cs) (hbk : x.bulk ≤ 4294967295) (hk : 0 < k) (hk2 : k + V.cnts x.kids ≤ 4611686018427387904) :
    Calls Tryd.prog 21 #[.agg cs.toArray, .int .i64 k] w fun e w' => e = .returned (.int .i64 ((k + V.cnts x.kids : Nat) : Int)) ∧ Below w.heap.size w w' := by
  obtain ⟨a, b, c, s, kids⟩ := x
  obtain ⟨k', n', e', s', kids', v, hm, rfl, hrk⟩ := V.lay h
  simp only [V.top, V.mk.injEq] at hm
  obtain ⟨rfl, rfl, rfl, rfl, rfl⟩ := hm
  obtain ⟨ad, cc, rfl⟩ := Rd.sl_form hrk
  simp only [V.kids] at hk2 ⊢
  have hl : (V.ds (V.marks k kids)).length = kids.length := by rw [V.ds_map, List.length_map, V.marks_length]
  rw [hl] at hrk ⊢
  have hal : Below w.heap.size w (w.alloc (.cells #[.int .i64 a, .int .i64 b, .int .i64 c, .string ⟨s.toArray⟩, .slice ad kids.length cc] 41)) := (Below.refl _ _).alloc (Nat.le_refl _) _
  have HM := Lib.hid (VHd_all (V.nodess kids) kids _ k _ (Nat.le_refl _) (hrk.below hal) (by simp only [V.bulk] at hbk; omega) hk hk2)
  have hq : ¬ ((k + V.cnts kids : Nat) : Int) < 0 := by omega
  obtain ⟨q, hqq⟩ : ∃ q, q = k + V.cnts kids := ⟨_, rfl⟩
  rw [← hqq] at HM hq ⊢
  clear h hrk hqq
  go_enter Tryd.func21, Tryd.ntmps21
  go_wp2_with (go_at_call 53; refine HM.out.mono ?_; rintro e1 w2 ⟨rfl, hb2⟩)
  go_ret
  exact ⟨rfl, below2 hal hb2 (Nat.le_refl _)⟩
end Go.Proofs.YtkeieeogkeonfaaDoor
