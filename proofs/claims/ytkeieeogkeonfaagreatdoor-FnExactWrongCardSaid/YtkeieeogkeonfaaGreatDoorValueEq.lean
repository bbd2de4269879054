/- Contracts of the laws' own functions over values: comparison. -/
import Derived.Test.YtkeieeogkeonfaaGreatDoorValueTo
import Derived.Deep.QuietTactic
import Derived.BigQuiet
import Derived.StillTailTactics
namespace Go.Proofs.YtkeieeogkeonfaaGreatDoor
open Go.RowKit

def VEqA (n : Nat) : Prop := ∀ (x y : V) (cs ds : List Value) (w : World), x.nodes ≤ n → Rd w x.d cs → Rd w y.d ds → x.bulk ≤ 1048576 → y.bulk ≤ 1048576 →
  Calls Tryz.prog 10 #[.agg cs.toArray, .agg ds.toArray] w fun e w' => e = .returned (.bool (decide (x = y))) ∧ Below w.heap.size w w'
def VEqB (n : Nat) : Prop := ∀ (x y : List V) (va vb : Value) (w : World), V.nodess x ≤ n → Rd w (.sl 5 (V.ds x)) [va] → Rd w (.sl 5 (V.ds y)) [vb] → x.length + V.bulks x ≤ 1048576 → y.length + V.bulks y ≤ 1048576 →
  Calls Tryz.prog 25 #[va, vb] w fun e w' => e = .returned (.bool (decide (x = y))) ∧ Below w.heap.size w w'

theorem V.bulk_get {ls : List V} {m : Nat} (h : ls.length + V.bulks ls ≤ m) (k : Nat) (hk : k < ls.length) : ls[k].bulk ≤ m := by
  have h1 := V.bulks_snoc ls k hk; have h2 := V.bulks_take ls (k + 1); omega

set_option maxHeartbeats 800000 in
set_option maxRecDepth 100000 in
theorem VEqB_of {n : Nat} (hA : VEqA n) : VEqB n := by
  intro la lb va vb w hn h h2 hla hlb
  obtain ⟨a, c, rfl, hg⟩ := h.values
  obtain ⟨a', c', rfl, hg'⟩ := h2.values
  by_cases hlen : la.length = lb.length
  · have hlt : ((la.length : Int) != (lb.length : Int)) = false := by simp [hlen]
    have HL := Lib.hid hlen; clear hlen
    go_enter Tryz.func25, Tryz.ntmps25
    go_wp2
    go_loopw [5] (fun i wr => ∃ (k : Nat), k ≤ la.length ∧ i = .int .i64 k ∧ la.take k = lb.take k ∧ Below w.heap.size w wr) (fun i _ => la.length - (intOf i).toNat)
    case atStart => exact ⟨0, Nat.zero_le _, rfl, by simp, Below.refl _ _⟩
    case round =>
      obtain ⟨k, hk, rfl, htk, hbel⟩ := hrel
      have HT := Lib.hid htk; clear htk
      by_cases hk1 : k < la.length
      · have hk2 : k < lb.length := by have := HL.out; omega
        obtain ⟨_, _, b, o, rfl, hb, hcell⟩ := hg (by intro e; rw [e] at hk1; simp at hk1)
        obtain ⟨_, _, b', o', rfl, hb', hcell'⟩ := hg' (by intro e; rw [e] at hk2; simp at hk2)
        obtain ⟨v0, v1, v2, v3, v4, hr, c0, c1, c2, c3, c4⟩ := hcell k hk1
        obtain ⟨x0, x1, x2, x3, x4, hs, d0, d1, d2, d3, d4⟩ := hcell' k hk2
        clear hcell hcell' hg hg'
        obtain ⟨hbc, _⟩ := bcell hbel
        have hi1 : (0 : Int) ≤ k := by omega
        have hi2 : (k : Int) < lb.length := by omega
        have hnk := Nat.le_trans (V.nodes_get la k hk1) hn
        have hr' := hr.below hbel
        have hs' := hs.below hbel
        by_cases he : la[k] = lb[k]
        · have hd := Lib.hid (decide_eq_true he)
          have HE := Lib.hid he
          clear he
          go_wp2_with fail
          go_still_tail 8, (by kernel_rfl)
          go_wp2_with (go_at_call 10; refine (hA _ _ _ _ _ hnk hr'.drew hs'.drew (V.bulk_get hla k hk1) (V.bulk_get hlb k hk2)).mono ?_; rw [hd.out]; rintro e w1 ⟨rfl, hb1⟩)
          go_roundw
          case rel => exact ⟨k + 1, by omega, by go_num, take_eq_snoc HT.out hk1 hk2 HE.out, below2 hbel.drew hb1 (Nat.le_refl _)⟩
          case measure => simp [intOf] <;> omega
        · have hd := Lib.hid (decide_eq_false he)
          have HE := Lib.hid (decide_eq_false (ne_of_get hk1 hk2 he))
          clear he
          go_wp2_with fail
          go_still_tail 8, (by kernel_rfl)
          go_wp2_with (go_at_call 10; refine (hA _ _ _ _ _ hnk hr'.drew hs'.drew (V.bulk_get hla k hk1) (V.bulk_get hlb k hk2)).mono ?_; rw [hd.out]; rintro e w1 ⟨rfl, hb1⟩)
          go_ret
          exact ⟨by rw [HE.out]; rfl, below2 hbel.drew hb1 (Nat.le_refl _)⟩
      · obtain rfl : k = la.length := by omega
        have he : la = lb := by have := HT.out; rw [List.take_length, HL.out, List.take_length] at this; exact this
        have H := Lib.hid (decide_eq_true he)
        clear he
        go_wp2
        go_ret
        exact ⟨by rw [H.out]; rfl, hbel⟩
  · have H := Lib.hid (decide_eq_false (show ¬ la = lb from fun e => hlen (by rw [e])))
    go_enter Tryz.func25, Tryz.ntmps25
    go_wp2
    go_ret
    exact ⟨by rw [H.out]; rfl, Below.refl _ _⟩

theorem V.ne_mk {k m e k' m' e' : Int} {s s' : List UInt8} {kids kids' : List V} (h : ¬ (k = k' ∧ m = m' ∧ e = e' ∧ s = s' ∧ kids = kids')) :
    decide (V.mk k m e s kids = V.mk k' m' e' s' kids') = false := decide_eq_false (by simpa using h)
set_option maxHeartbeats 800000 in
theorem VEqA_of {n : Nat} (hB : VEqB n) : VEqA (n + 1) := by
  intro x y cs ds w hn h h2 hx hy
  obtain ⟨k, m, e, s, kids, v1, rfl, rfl, hkids⟩ := V.lay h
  obtain ⟨k', m', e', s', kids', v1', rfl, rfl, hkids'⟩ := V.lay h2
  have hnk : V.nodess kids ≤ n := by simp only [V.nodes] at hn; omega
  simp only [V.bulk] at hx hy
  have hA := fun a b => ((Below.refl w.heap.size w).alloc (Nat.le_refl _) a).alloc (by simp) b
  by_cases e1 : k = k' ∧ m = m' ∧ e = e' ∧ s = s'
  · obtain ⟨rfl, rfl, rfl, rfl⟩ := e1
    go_enter Tryz.func10, Tryz.ntmps10
    go_wp2_with fail
    refine (hB _ _ _ _ _ hnk ((hkids.alloc _).alloc _) ((hkids'.alloc _).alloc _) (by omega) (by omega)).mono ?_
    by_cases e4 : kids = kids'
    · subst e4
      rw [decide_eq_true rfl]
      rintro e w2 ⟨rfl, hb2⟩
      go_wp2
      go_ret
      exact ⟨by simp, below2 (hA _ _) hb2 (Nat.le_refl _)⟩
    · have H := Lib.hid (V.ne_mk (k := k) (m := m) (e := e) (s := s) (kids := kids) (k' := k) (m' := m) (e' := e) (s' := s) (kids' := kids') (by simp [e4]))
      rw [decide_eq_false e4]
      rintro e w2 ⟨rfl, hb2⟩
      clear e4
      go_wp2
      go_ret
      exact ⟨by rw [H.out]; rfl, below2 (hA _ _) hb2 (Nat.le_refl _)⟩
  · have H := Lib.hid (V.ne_mk (k := k) (m := m) (e := e) (s := s) (kids := kids) (k' := k') (m' := m') (e' := e') (s' := s') (kids' := kids') (by simp only [not_and] at e1 ⊢; intro a b c d; exact absurd d (e1 a b c)))
    by_cases a1 : k = k'
    · subst a1
      by_cases a2 : m = m'
      · subst a2
        by_cases a3 : e = e'
        · subst a3
          have a4 : (s == s') = false := by simp only [true_and] at e1; simpa using e1
          clear e1
          go_enter Tryz.func10, Tryz.ntmps10
          go_wp2_with fail
          all_goals (go_ret; exact ⟨by rw [H.out]; rfl, hA _ _⟩)
        · have a4 : (e == e') = false := by simpa using a3
          clear e1 a3
          go_enter Tryz.func10, Tryz.ntmps10
          go_wp2_with fail
          all_goals (go_ret; exact ⟨by rw [H.out]; rfl, hA _ _⟩)
      · have a4 : (m == m') = false := by simpa using a2
        clear e1 a2
        go_enter Tryz.func10, Tryz.ntmps10
        go_wp2_with fail
        all_goals (go_ret; exact ⟨by rw [H.out]; rfl, hA _ _⟩)
    · have a4 : (k == k') = false := by simpa using a1
      clear e1 a1
      go_enter Tryz.func10, Tryz.ntmps10
      go_wp2_with fail
      all_goals (go_ret; exact ⟨by rw [H.out]; rfl, hA _ _⟩)

theorem VEq_all : ∀ n, VEqA n ∧ VEqB n
  | 0 => by
    have h0 : VEqA 0 := fun sh y cs ds w hn => absurd (V.nodes_pos sh) (by omega)
    exact ⟨h0, VEqB_of h0⟩
  | n + 1 => by
    have h1 := VEqA_of (VEq_all n).2
    exact ⟨h1, VEqB_of h1⟩
theorem eqValue_any (x y : V) (cs ds : List Value) (w : World) (h : Rd w x.d cs) (h2 : Rd w y.d ds) (hx : x.bulk ≤ 1048576) (hy : y.bulk ≤ 1048576) :
    Calls Tryz.prog 10 #[.agg cs.toArray, .agg ds.toArray] w fun e w' => e = .returned (.bool (decide (x = y))) ∧ Below w.heap.size w w' :=
  (VEq_all x.nodes).1 x y cs ds w (Nat.le_refl _) h h2 hx hy
end Go.Proofs.YtkeieeogkeonfaaGreatDoor
