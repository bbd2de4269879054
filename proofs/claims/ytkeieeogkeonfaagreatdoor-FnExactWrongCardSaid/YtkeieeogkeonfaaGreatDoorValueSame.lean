/- Contracts of the program's Same: comparison of values. -/
import Derived.Test.YtkeieeogkeonfaaGreatDoorValueEq
namespace Go.Proofs.YtkeieeogkeonfaaGreatDoor
open Go.RowKit

def VSmA (n : Nat) : Prop := ∀ (x y : V) (cs ds : List Value) (w : World), x.nodes ≤ n → Rd w x.d cs → Rd w y.d ds → x.bulk ≤ 4294967295 → y.bulk ≤ 4294967295 →
  Calls Tryz.prog 83 #[.agg cs.toArray, .agg ds.toArray] w fun e w' => e = .returned (.bool (decide (x = y))) ∧ Below w.heap.size w w'
def VSmB (n : Nat) : Prop := ∀ (x y : List V) (va vb : Value) (w : World), V.nodess x ≤ n → Rd w (.sl 5 (V.ds x)) [va] → Rd w (.sl 5 (V.ds y)) [vb] → x.length + V.bulks x ≤ 4294967295 → y.length + V.bulks y ≤ 4294967295 →
  Calls Tryz.prog 98 #[va, vb, .func (.func 83) #[] #[]] w fun e w' => e = .returned (.bool (decide (x = y))) ∧ Below w.heap.size w w'

set_option maxHeartbeats 800000 in
theorem VSmB_of {n : Nat} (hA : VSmA n) : VSmB n := by
  intro la lb va vb w hn h h2 hla hlb
  obtain ⟨a, c, rfl, hg⟩ := h.values
  obtain ⟨a', c', rfl, hg'⟩ := h2.values
  by_cases hlen : la.length = lb.length
  · have hlt : ((la.length : Int) != (lb.length : Int)) = false := by simp [hlen]
    have HL := Lib.hid hlen; clear hlen
    go_enter Tryz.func98, Tryz.ntmps98
    go_wp2
    go_loopw [17] (fun i wr => ∃ (k : Nat), k ≤ la.length ∧ i = .int .i64 k ∧ la.take k = lb.take k ∧ Below w.heap.size w wr) (fun i _ => la.length - (intOf i).toNat)
    case atStart => exact ⟨0, Nat.zero_le _, rfl, by simp, Below.refl _ _⟩
    case round =>
      obtain ⟨k, hk, rfl, htk, hbel⟩ := hrel
      have HT := Lib.hid htk; clear htk
      by_cases hk1 : k < la.length
      · have hk2 : k < lb.length := by have := HL.out; omega
        obtain ⟨_, _, b, o, rfl, hb, hcell⟩ := hg (by intro e; rw [e] at hk1; simp at hk1)
        obtain ⟨_, _, b', o', rfl, hb', hcell'⟩ := hg' (by intro e; rw [e] at hk2; simp at hk2)
        obtain ⟨v0, v1, v2, v3, v4, hr, c0, c1, c2, c3, c4⟩ := hcell k hk1
        obtain ⟨x0, x1, x2, x3, x4, hs, d0, d1, d2, d3, d4⟩ := hcell' k hk2
        obtain ⟨k1, k2, k3, s4, a6, n6, m6, hcs⟩ := V.form hr
        obtain ⟨j1, j2, j3, t4, b6, p6, q6, hds⟩ := V.form hs
        simp only [List.cons.injEq, and_true] at hcs hds
        obtain ⟨rfl, rfl, rfl, rfl, rfl⟩ := hcs
        obtain ⟨rfl, rfl, rfl, rfl, rfl⟩ := hds
        clear hcell hcell' hg hg'
        obtain ⟨hbc, _⟩ := bcell hbel
        have hsz := hbel.size
        have hi1 : (0 : Int) ≤ k := by omega
        have hi2 : (k : Int) < lb.length := by omega
        have hi3 : (k : Int) < la.length := by omega
        have hz1 : b < wr.heap.size := by omega
        have hz2 : b' < wr.heap.size := by omega
        have hnk := Nat.le_trans (V.nodes_get la k hk1) hn
        have hr' := hr.below hbel
        have hs' := hs.below hbel
        have hA2 := (hbel.alloc hsz (.cells #[.int .i64 k1, .int .i64 k2, .int .i64 k3, .string ⟨s4.toArray⟩, .slice a6 n6 m6] 35)).alloc (by simp; omega) (.cells #[.int .i64 j1, .int .i64 j2, .int .i64 j3, .string ⟨t4.toArray⟩, .slice b6 p6 q6] 35)
        by_cases he : la[k] = lb[k]
        · have hd := Lib.hid (decide_eq_true he)
          have HE := Lib.hid he
          clear he
          go_wp2_with (go_at_call 83; refine (hA _ _ _ _ _ hnk ((hr'.alloc _).alloc _) ((hs'.alloc _).alloc _) (V.bulk_get hla k hk1) (V.bulk_get hlb k hk2)).mono ?_; rw [hd.out]; rintro e w1 ⟨rfl, hb1⟩)
          go_roundw
          case rel => exact ⟨k + 1, by omega, by go_num, take_eq_snoc HT.out hk1 hk2 HE.out, below2 hA2 hb1 (Nat.le_refl _)⟩
          case measure => simp [intOf] <;> omega
        · have hd := Lib.hid (decide_eq_false he)
          have HE := Lib.hid (decide_eq_false (ne_of_get hk1 hk2 he))
          clear he
          go_wp2_with (go_at_call 83; refine (hA _ _ _ _ _ hnk ((hr'.alloc _).alloc _) ((hs'.alloc _).alloc _) (V.bulk_get hla k hk1) (V.bulk_get hlb k hk2)).mono ?_; rw [hd.out]; rintro e w1 ⟨rfl, hb1⟩)
          go_ret
          exact ⟨by rw [HE.out]; rfl, below2 hA2 hb1 (Nat.le_refl _)⟩
      · obtain rfl : k = la.length := by omega
        have he : la = lb := by have := HT.out; rw [List.take_length, HL.out, List.take_length] at this; exact this
        have H := Lib.hid (decide_eq_true he)
        clear he
        go_wp2
        go_ret
        exact ⟨by rw [H.out]; rfl, hbel⟩
  · have H := Lib.hid (decide_eq_false (show ¬ la = lb from fun e => hlen (by rw [e])))
    go_enter Tryz.func98, Tryz.ntmps98
    go_wp2
    go_ret
    exact ⟨by rw [H.out]; rfl, Below.refl _ _⟩

set_option maxHeartbeats 800000 in
theorem VSmA_of {n : Nat} (hB : VSmB n) : VSmA (n + 1) := by
  intro x y cs ds w hn h h2 hx hy
  obtain ⟨k, m, q, s, kids, v1, rfl, rfl, hkids⟩ := V.lay h
  obtain ⟨k', m', q', s', kids', v1', rfl, rfl, hkids'⟩ := V.lay h2
  have hnk : V.nodess kids ≤ n := by simp only [V.nodes] at hn; omega
  simp only [V.bulk] at hx hy
  have hA := ((Below.refl w.heap.size w).alloc (Nat.le_refl _) (.cells #[.int .i64 k, .int .i64 m, .int .i64 q, .string ⟨s.toArray⟩, v1] 35)).alloc (by simp) (.cells #[.int .i64 k', .int .i64 m', .int .i64 q', .string ⟨s'.toArray⟩, v1'] 35)
  by_cases e1 : k = k' ∧ m = m' ∧ q = q' ∧ s = s'
  · obtain ⟨rfl, rfl, rfl, rfl⟩ := e1
    go_enter Tryz.func83, Tryz.ntmps83
    go_wp2_with fail
    refine (hB _ _ _ _ _ hnk ((hkids.below hA)) (hkids'.below hA) (by omega) (by omega)).mono ?_
    by_cases e4 : kids = kids'
    · subst e4
      rw [decide_eq_true rfl]
      rintro e w2 ⟨rfl, hb2⟩
      go_wp2
      go_ret
      exact ⟨by simp, below2 hA hb2 (Nat.le_refl _)⟩
    · have H := Lib.hid (V.ne_mk (k := k) (m := m) (e := q) (s := s) (kids := kids) (k' := k) (m' := m) (e' := q) (s' := s) (kids' := kids') (by simp [e4]))
      rw [decide_eq_false e4]
      rintro e w2 ⟨rfl, hb2⟩
      clear e4
      go_wp2
      go_ret
      exact ⟨by rw [H.out]; rfl, below2 hA hb2 (Nat.le_refl _)⟩
  · have H := Lib.hid (V.ne_mk (k := k) (m := m) (e := q) (s := s) (kids := kids) (k' := k') (m' := m') (e' := q') (s' := s') (kids' := kids') (by rintro ⟨a, b, c, d, _⟩; exact e1 ⟨a, b, c, d⟩))
    have HA := Lib.hid hA
    by_cases c1 : k = k'
    · subst c1
      by_cases c2 : m = m'
      · subst c2
        by_cases c3 : q = q'
        · subst c3
          have c4 : (s == s') = false := by simpa using fun c => e1 ⟨rfl, rfl, rfl, c⟩
          clear e1
          go_enter Tryz.func83, Tryz.ntmps83
          go_wp2_with fail
          go_ret
          exact ⟨by rw [H.out]; rfl, HA.out⟩
        · clear e1
          have c4 : (q == q') = false := by simpa using c3
          go_enter Tryz.func83, Tryz.ntmps83
          go_wp2_with fail
          go_ret
          exact ⟨by rw [H.out]; rfl, HA.out⟩
      · clear e1
        have c4 : (m == m') = false := by simpa using c2
        go_enter Tryz.func83, Tryz.ntmps83
        go_wp2_with fail
        go_ret
        exact ⟨by rw [H.out]; rfl, HA.out⟩
    · clear e1
      have c4 : (k == k') = false := by simpa using c1
      go_enter Tryz.func83, Tryz.ntmps83
      go_wp2_with fail
      go_ret
      exact ⟨by rw [H.out]; rfl, HA.out⟩
theorem VSm_all : ∀ n, VSmA n
  | 0 => fun x y cs ds w hn => absurd x.nodes_pos (by omega)
  | n + 1 => VSmA_of (VSmB_of (VSm_all n))
theorem same_any (x y : V) (cs ds : List Value) (w : World) (h : Rd w x.d cs) (h2 : Rd w y.d ds) (hx : x.bulk ≤ 4294967295) (hy : y.bulk ≤ 4294967295) :
    Calls Tryz.prog 83 #[.agg cs.toArray, .agg ds.toArray] w fun e w' => e = .returned (.bool (decide (x = y))) ∧ Below w.heap.size w w' := VSm_all x.nodes x y cs ds w (Nat.le_refl _) h h2 hx hy
end Go.Proofs.YtkeieeogkeonfaaGreatDoor
