/- Contracts of the laws' own functions over shapes: comparison. -/
import Derived.Test.YtkeieeogkeonfaaGreatDoorShapeTo
import Derived.Deep.QuietTactic
import Derived.BigQuiet
import Derived.StillTailTactics
namespace Go.Proofs.YtkeieeogkeonfaaGreatDoor
open Go.RowKit

set_option maxHeartbeats 400000 in
theorem eqStringS_any (la lb : List (List UInt8)) (va vb : Value) (w : World) (h : Rd w (dSs la) [va]) (h2 : Rd w (dSs lb) [vb]) (hla : la.length ≤ 9223372036854775807) (hlb : lb.length ≤ 9223372036854775807) :
    Calls Tryz.prog 26 #[va, vb] w fun e w' => e = .returned (.bool (decide (la = lb))) ∧ Below w.heap.size w w' := by
  obtain ⟨a, c, rfl, hg⟩ := h.strs
  obtain ⟨a', c', rfl, hg'⟩ := h2.strs
  by_cases hlen : la.length = lb.length
  · go_enter Tryz.func26, Tryz.ntmps26
    go_wp2
    go_loopw [5] (fun i wr => ∃ (k : Nat), k ≤ lb.length ∧ i = .int .i64 k ∧ la.take k = lb.take k ∧ Below w.heap.size w wr) (fun i _ => lb.length - (intOf i).toNat)
    case atStart => exact ⟨0, Nat.zero_le _, rfl, by simp, Below.refl _ _⟩
    case round =>
      obtain ⟨k, hk, rfl, htk, hbel⟩ := hrel
      have HT := Lib.hid htk; clear htk
      by_cases hk2 : k < lb.length
      · have hk1 : k < la.length := by omega
        obtain ⟨_, _, b, o, rfl, hb, hcell⟩ := hg (by intro e; rw [e] at hk1; simp at hk1)
        obtain ⟨_, _, b', o', rfl, hb', hcell'⟩ := hg' (by intro e; rw [e] at hk2; simp at hk2)
        have hc := hcell k hk1
        have hc' := hcell' k hk2
        clear hcell hcell' hg hg'
        obtain ⟨hbc, _⟩ := bcell hbel
        have hi1 : (0 : Int) ≤ k := by omega
        have hi2 : (k : Int) < lb.length := by omega
        go_wp2
        go_quiet (fail)
        go_wp2
        · have hne : (!la[k] == lb[k]) = true := by assumption
          have hne' : ¬ la = lb := ne_of_get hk1 hk2 (by simpa using hne)
          go_ret
          exact ⟨by rw [decide_eq_false hne']; rfl, below_drewN hbel _⟩
        · have heq : (!la[k] == lb[k]) = false := by assumption
          go_roundw
          case rel => exact ⟨k + 1, by omega, by go_num, take_eq_snoc HT.out hk1 hk2 (by simpa using heq), below_drewN hbel _⟩
          case measure => simp [intOf] <;> omega
      · obtain rfl : k = lb.length := by omega
        have he : la = lb := by have := HT.out; rw [List.take_length, ← hlen, List.take_length] at this; exact this
        have H := Lib.hid (decide_eq_true he)
        clear he
        go_wp2
        go_ret
        exact ⟨by rw [H.out]; rfl, hbel⟩
  · have H := Lib.hid (decide_eq_false (show ¬ la = lb from fun e => hlen (by rw [e])))
    go_enter Tryz.func26, Tryz.ntmps26
    go_wp2
    go_ret
    exact ⟨by rw [H.out]; rfl, Below.refl _ _⟩

def EqA (n : Nat) : Prop := ∀ (x y : Sh) (cs ds : List Value) (w : World), x.nodes ≤ n → Rd w x.d cs → Rd w y.d ds → x.bulk ≤ 1048576 → y.bulk ≤ 1048576 →
  Calls Tryz.prog 11 #[.agg cs.toArray, .agg ds.toArray] w fun e w' => e = .returned (.bool (decide (x = y))) ∧ Below w.heap.size w w'
def EqB (n : Nat) : Prop := ∀ (x y : List Sh) (va vb : Value) (w : World), Sh.nodess x ≤ n → Rd w (.sl 6 (Sh.ds x)) [va] → Rd w (.sl 6 (Sh.ds y)) [vb] → x.length + Sh.bulks x ≤ 1048576 → y.length + Sh.bulks y ≤ 1048576 →
  Calls Tryz.prog 27 #[va, vb] w fun e w' => e = .returned (.bool (decide (x = y))) ∧ Below w.heap.size w w'

theorem Sh.bulk_get {ls : List Sh} {m : Nat} (h : ls.length + Sh.bulks ls ≤ m) (k : Nat) (hk : k < ls.length) : ls[k].bulk ≤ m := by
  have h1 := Sh.bulks_snoc ls k hk; have h2 := Sh.bulks_take ls (k + 1); omega

set_option maxHeartbeats 800000 in
set_option maxRecDepth 100000 in
theorem EqB_of {n : Nat} (hA : EqA n) : EqB n := by
  intro la lb va vb w hn h h2 hla hlb
  obtain ⟨a, c, rfl, hg⟩ := h.shapes
  obtain ⟨a', c', rfl, hg'⟩ := h2.shapes
  by_cases hlen : la.length = lb.length
  · have hlt : ((la.length : Int) != (lb.length : Int)) = false := by simp [hlen]
    have HL := Lib.hid hlen; clear hlen
    go_enter Tryz.func27, Tryz.ntmps27
    go_wp2
    go_loopw [5] (fun i wr => ∃ (k : Nat), k ≤ la.length ∧ i = .int .i64 k ∧ la.take k = lb.take k ∧ Below w.heap.size w wr) (fun i _ => la.length - (intOf i).toNat)
    case atStart => exact ⟨0, Nat.zero_le _, rfl, by simp, Below.refl _ _⟩
    case round =>
      obtain ⟨k, hk, rfl, htk, hbel⟩ := hrel
      have HT := Lib.hid htk; clear htk
      by_cases hk1 : k < la.length
      · have hk2 : k < lb.length := by have := HL.out; omega
        obtain ⟨_, _, b, o, rfl, hb, hcell⟩ := hg (by intro e; rw [e] at hk1; simp at hk1)
        obtain ⟨_, _, b', o', rfl, hb', hcell'⟩ := hg' (by intro e; rw [e] at hk2; simp at hk2)
        obtain ⟨v0, v1, v2, v3, v4, v5, hr, c0, c1, c2, c3, c4, c5⟩ := hcell k hk1
        obtain ⟨x0, x1, x2, x3, x4, x5, hs, d0, d1, d2, d3, d4, d5⟩ := hcell' k hk2
        clear hcell hcell' hg hg'
        obtain ⟨hbc, _⟩ := bcell hbel
        have hi1 : (0 : Int) ≤ k := by omega
        have hi2 : (k : Int) < lb.length := by omega
        have hnk := Nat.le_trans (Sh.nodes_get la k hk1) hn
        have hr' := hr.below hbel
        have hs' := hs.below hbel
        by_cases he : la[k] = lb[k]
        · have hd := Lib.hid (decide_eq_true he)
          have HE := Lib.hid he
          clear he
          go_wp2_with fail
          go_still_tail 8, (by kernel_rfl)
          go_wp2_with (go_at_call 11; refine (hA _ _ _ _ _ hnk hr'.drew hs'.drew (Sh.bulk_get hla k hk1) (Sh.bulk_get hlb k hk2)).mono ?_; rw [hd.out]; rintro e w1 ⟨rfl, hb1⟩)
          go_roundw
          case rel => exact ⟨k + 1, by omega, by go_num, take_eq_snoc HT.out hk1 hk2 HE.out, below2 hbel.drew hb1 (Nat.le_refl _)⟩
          case measure => simp [intOf] <;> omega
        · have hd := Lib.hid (decide_eq_false he)
          have HE := Lib.hid (decide_eq_false (ne_of_get hk1 hk2 he))
          clear he
          go_wp2_with fail
          go_still_tail 8, (by kernel_rfl)
          go_wp2_with (go_at_call 11; refine (hA _ _ _ _ _ hnk hr'.drew hs'.drew (Sh.bulk_get hla k hk1) (Sh.bulk_get hlb k hk2)).mono ?_; rw [hd.out]; rintro e w1 ⟨rfl, hb1⟩)
          go_ret
          exact ⟨by rw [HE.out]; rfl, below2 hbel.drew hb1 (Nat.le_refl _)⟩
      · obtain rfl : k = la.length := by omega
        have he : la = lb := by have := HT.out; rw [List.take_length, HL.out, List.take_length] at this; exact this
        have H := Lib.hid (decide_eq_true he)
        clear he
        go_wp2
        go_ret
        exact ⟨by rw [H.out]; rfl, hbel⟩
  · have H := Lib.hid (decide_eq_false (show ¬ la = lb from fun e => hlen (by rw [e])))
    go_enter Tryz.func27, Tryz.ntmps27
    go_wp2
    go_ret
    exact ⟨by rw [H.out]; rfl, Below.refl _ _⟩

theorem Sh.ne_mk {k l hi m k' l' hi' m' : Int} {ks ks' : List (List UInt8)} {kids kids' : List Sh} (h : ¬ (k = k' ∧ l = l' ∧ hi = hi' ∧ ks = ks' ∧ m = m' ∧ kids = kids')) :
    decide (Sh.mk k l hi ks m kids = Sh.mk k' l' hi' ks' m' kids') = false := decide_eq_false (by simpa using h)
set_option maxHeartbeats 800000 in
theorem EqA_of {n : Nat} (hB : EqB n) : EqA (n + 1) := by
  intro x y cs ds w hn h h2 hx hy
  obtain ⟨k, l, hi, ks, m, kids, v1, v2, rfl, rfl, hk, hkids⟩ := Sh.lay h
  obtain ⟨k', l', hi', ks', m', kids', v1', v2', rfl, rfl, hk', hkids'⟩ := Sh.lay h2
  have hnk : Sh.nodess kids ≤ n := by simp only [Sh.nodes] at hn; omega
  simp only [Sh.bulk] at hx hy
  have hA := ((Below.refl w.heap.size w).alloc (Nat.le_refl _) (.cells #[.int .i64 k, .int .i64 l, .int .i64 hi, v1, .int .i64 m, v2] 39)).alloc (by simp) (.cells #[.int .i64 k', .int .i64 l', .int .i64 hi', v1', .int .i64 m', v2'] 39)
  by_cases e1 : k = k' ∧ l = l' ∧ hi = hi'
  · obtain ⟨rfl, rfl, rfl⟩ := e1
    go_enter Tryz.func11, Tryz.ntmps11
    go_wp2_with fail
    refine (eqStringS_any ks ks' _ _ _ ((hk.alloc _).alloc _) ((hk'.alloc _).alloc _) (by omega) (by omega)).mono ?_
    by_cases e2 : ks = ks'
    · subst e2
      rw [decide_eq_true rfl]
      rintro e w1 ⟨rfl, hb1⟩
      have hb0 := below2 hA hb1 (Nat.le_refl _)
      obtain ⟨hc1, hf1⟩ := bcell hb1
      have hz1 := hb1.size
      simp at hz1
      have g1 : w.heap.size < w1.heap.size := by omega
      have g2 : w.heap.size + 1 < w1.heap.size := by omega
      by_cases e3 : m = m'
      · subst e3
        go_wp2_with fail
        refine (hB _ _ _ _ _ hnk ((hkids.below hb0)) (hkids'.below hb0) (by omega) (by omega)).mono ?_
        by_cases e4 : kids = kids'
        · subst e4
          rw [decide_eq_true rfl]
          rintro e w2 ⟨rfl, hb2⟩
          go_wp2
          go_ret
          exact ⟨by simp, below2 hb0 hb2 (Nat.le_refl _)⟩
        · have H := Lib.hid (Sh.ne_mk (k := k) (l := l) (hi := hi) (ks := ks) (m := m) (kids := kids) (k' := k) (l' := l) (hi' := hi) (ks' := ks) (m' := m) (kids' := kids') (by simp [e4]))
          rw [decide_eq_false e4]
          rintro e w2 ⟨rfl, hb2⟩
          clear e4
          go_wp2
          go_ret
          exact ⟨by rw [H.out]; rfl, below2 hb0 hb2 (Nat.le_refl _)⟩
      · have H := Lib.hid (Sh.ne_mk (k := k) (l := l) (hi := hi) (ks := ks) (m := m) (kids := kids) (k' := k) (l' := l) (hi' := hi) (ks' := ks) (m' := m') (kids' := kids') (by simp [e3]))
        go_wp2_with fail
        go_ret
        exact ⟨by rw [H.out]; rfl, hb0⟩
    · have H := Lib.hid (Sh.ne_mk (k := k) (l := l) (hi := hi) (ks := ks) (m := m) (kids := kids) (k' := k) (l' := l) (hi' := hi) (ks' := ks') (m' := m') (kids' := kids') (by simp [e2]))
      rw [decide_eq_false e2]
      rintro e w1 ⟨rfl, hb1⟩
      have hb0 := below2 hA hb1 (Nat.le_refl _)
      clear e2
      go_wp2_with fail
      go_ret
      exact ⟨by rw [H.out]; rfl, hb0⟩
  · have H := Lib.hid (Sh.ne_mk (k := k) (l := l) (hi := hi) (ks := ks) (m := m) (kids := kids) (k' := k') (l' := l') (hi' := hi') (ks' := ks') (m' := m') (kids' := kids') (by simp only [not_and] at e1 ⊢; intro a b c; exact absurd c (e1 a b)))
    go_enter Tryz.func11, Tryz.ntmps11
    go_wp2_with fail
    all_goals
      go_ret
      exact ⟨by rw [H.out]; rfl, hA⟩

theorem Eq_all : ∀ n, EqA n ∧ EqB n
  | 0 => by
    have h0 : EqA 0 := fun sh y cs ds w hn => absurd (Sh.nodes_pos sh) (by omega)
    exact ⟨h0, EqB_of h0⟩
  | n + 1 => by
    have h1 := EqA_of (Eq_all n).2
    exact ⟨h1, EqB_of h1⟩
theorem eqShape_any (x y : Sh) (cs ds : List Value) (w : World) (h : Rd w x.d cs) (h2 : Rd w y.d ds) (hx : x.bulk ≤ 1048576) (hy : y.bulk ≤ 1048576) :
    Calls Tryz.prog 11 #[.agg cs.toArray, .agg ds.toArray] w fun e w' => e = .returned (.bool (decide (x = y))) ∧ Below w.heap.size w w' :=
  (Eq_all x.nodes).1 x y cs ds w (Nat.le_refl _) h h2 hx hy
end Go.Proofs.YtkeieeogkeonfaaGreatDoor
