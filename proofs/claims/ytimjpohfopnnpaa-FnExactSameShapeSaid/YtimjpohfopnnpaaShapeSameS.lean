/- Contract of the reference's SameShape. -/
import Derived.Test.YtimjpohfopnnpaaShapeSame
namespace Go.Proofs.Ytimjpohfopnnpaa
open Go.RowKit

def SsA (n : Nat) : Prop := ∀ (x y : Sh) (cs ds : List Value) (w : World), x.nodes ≤ n → Rd w x.d cs → Rd w y.d ds → x.bulk ≤ 1048576 → y.bulk ≤ 1048576 →
  Calls Try.prog 11 #[.agg cs.toArray, .agg ds.toArray] w fun e w' => e = .returned (.bool (decide (x = y))) ∧ Below w.heap.size w w'

set_option maxHeartbeats 2000000 in
theorem SsA_of {n : Nat} (hA : SsA n) : SsA (n + 1) := by
  intro x y cs ds w hn h h2 hx hy
  obtain ⟨k, l, hi, ks, m, kids, v1, v2, rfl, rfl, hk, hkids⟩ := Sh.lay h
  obtain ⟨k', l', hi', ks', m', kids', v1', v2', rfl, rfl, hk', hkids'⟩ := Sh.lay h2
  have hnk : Sh.nodess kids ≤ n := by simp only [Sh.nodes] at hn; omega
  simp only [Sh.bulk] at hx hy
  obtain ⟨a1, c1, rfl, hg1⟩ := hk.strs
  obtain ⟨a1', c1', rfl, hg1'⟩ := hk'.strs
  obtain ⟨a2, c2, rfl, hg2⟩ := hkids.shapes
  obtain ⟨a2', c2', rfl, hg2'⟩ := hkids'.shapes
  by_cases e1 : k = k' ∧ l = l' ∧ hi = hi' ∧ m = m' ∧ ks.length = ks'.length ∧ kids.length = kids'.length
  · obtain ⟨rfl, rfl, rfl, rfl, e5, e6⟩ := e1
    have t5 : ((ks.length : Int) != (ks'.length : Int)) = false := by simp [e5]
    have t6 : ((kids.length : Int) != (kids'.length : Int)) = false := by simp [e6]
    have E5 := Lib.hid e5; have E6 := Lib.hid e6; clear e5 e6
    obtain ⟨W0, hW0⟩ : ∃ W0, W0 = ((w.alloc (.cells #[.int .i64 k, .int .i64 l, .int .i64 hi, .slice a1 ks.length c1, .int .i64 m, .slice a2 kids.length c2] 37)).alloc (.cells #[.int .i64 k, .int .i64 l, .int .i64 hi, .slice a1' ks'.length c1', .int .i64 m, .slice a2' kids'.length c2'] 37)) := ⟨_, rfl⟩
    have HW := Lib.hid hW0
    have hA2 : Below w.heap.size w W0 := by rw [hW0]; exact ((Below.refl _ _).alloc (Nat.le_refl _) _).alloc (by simp) _
    have f3 : W0.cell? ⟨w.heap.size, 3, none⟩ = some (.slice a1 ks.length c1) := by rw [hW0]; simp
    have f5 : W0.cell? ⟨w.heap.size, 5, none⟩ = some (.slice a2 kids.length c2) := by rw [hW0]; simp
    have f3' : W0.cell? ⟨w.heap.size + 1, 3, none⟩ = some (.slice a1' ks'.length c1') := by rw [hW0]; simp
    have f5' : W0.cell? ⟨w.heap.size + 1, 5, none⟩ = some (.slice a2' kids'.length c2') := by rw [hW0]; simp
    have z1 : w.heap.size < W0.heap.size := by rw [hW0]; simp; omega
    have z2 : w.heap.size + 1 < W0.heap.size := by rw [hW0]; simp
    clear hW0
    go_enter Try.func11, Try.ntmps11
    go_wp2_with fail
    rw [← HW.out]
    go_loopw [5] (fun i wr => ∃ (j : Nat), j ≤ ks.length ∧ i = .int .i64 j ∧ ks.take j = ks'.take j ∧ Below W0.heap.size W0 wr) (fun i _ => ks.length - (intOf i).toNat)
    case atStart => exact ⟨0, Nat.zero_le _, rfl, by simp, Below.refl _ _⟩
    case round =>
      obtain ⟨j, hj, rfl, htk, hbel⟩ := hrel
      have HT := Lib.hid htk; clear htk
      obtain ⟨hb0, _⟩ := bcell hbel
      by_cases hk1 : j < ks.length
      · have hk2 : j < ks'.length := by have := E5.out; omega
        obtain ⟨_, _, b, o, rfl, hb, hcell⟩ := hg1 (by intro e; rw [e] at hk1; simp at hk1)
        obtain ⟨_, _, b', o', rfl, hb', hcell'⟩ := hg1' (by intro e; rw [e] at hk2; simp at hk2)
        have hbelw := below2 hA2 hbel (Nat.le_refl _)
        obtain ⟨hbc, _⟩ := bcell hbelw
        have hc := hcell j hk1
        have hc' := hcell' j hk2
        clear hcell hcell' hg1 hg1' hg2 hg2'
        have hi1 : (0 : Int) ≤ j := by omega
        have hi2 : (j : Int) < ks'.length := by omega
        have hi3 : (j : Int) < ks.length := by omega
        go_wp2_with fail
        go_quiet (fail)
        go_wp2
        · have hne : (!ks[j] == ks'[j]) = true := by assumption
          have hne' : ¬ ks = ks' := ne_of_get hk1 hk2 (by simpa using hne)
          have H := Sh.ne_mk (k := k) (l := l) (hi := hi) (ks := ks) (m := m) (kids := kids) (k' := k) (l' := l) (hi' := hi) (ks' := ks') (m' := m) (kids' := kids') (by simp [hne'])
          go_ret
          exact ⟨by rw [H]; rfl, below_drewN hbelw _⟩
        · have heq : (!ks[j] == ks'[j]) = false := by assumption
          go_roundw
          case rel => exact ⟨j + 1, by omega, by go_num, take_eq_snoc HT.out hk1 hk2 (by simpa using heq), below_drewN hbel _⟩
          case measure => simp [intOf] <;> omega
      · obtain rfl : j = ks.length := by omega
        have he : ks = ks' := by have := HT.out; rw [List.take_length, E5.out, List.take_length] at this; exact this
        subst he
        have hbelw := below2 hA2 hbel (Nat.le_refl _)
        clear hg1 hg1'
        obtain ⟨w1, rfl⟩ : ∃ w1 : World, w1 = wr := ⟨_, rfl⟩
        go_wp2_with fail
        go_loopw [6] (fun i wr => ∃ (j : Nat), j ≤ kids.length ∧ i = .int .i64 j ∧ kids.take j = kids'.take j ∧ Below W0.heap.size W0 wr) (fun i _ => kids.length - (intOf i).toNat)
        case atStart => exact ⟨0, Nat.zero_le _, rfl, by simp, hbel⟩
        case round =>
          obtain ⟨j, hj, rfl, htk, hbel2⟩ := hrel
          have HT := Lib.hid htk; clear htk
          obtain ⟨hb02, _⟩ := bcell hbel2
          have hbelw2 := below2 hA2 hbel2 (Nat.le_refl _)
          by_cases hk1 : j < kids.length
          · have hk2 : j < kids'.length := by have := E6.out; omega
            obtain ⟨_, _, b, o, rfl, hb, hcell⟩ := hg2 (by intro e; rw [e] at hk1; simp at hk1)
            obtain ⟨_, _, b', o', rfl, hb', hcell'⟩ := hg2' (by intro e; rw [e] at hk2; simp at hk2)
            obtain ⟨v0, v1, v2, v3, v4, v5, hr, c0, c1, c2, c3, c4, c5⟩ := hcell j hk1
            obtain ⟨x0, x1, x2, x3, x4, x5, hs, d0, d1, d2, d3, d4, d5⟩ := hcell' j hk2
            obtain ⟨hbc2, _⟩ := bcell hbelw2
            clear hcell hcell' hg2 hg2' hb0
            have hi1 : (0 : Int) ≤ j := by omega
            have hi2 : (j : Int) < kids'.length := by omega
            have hi3 : (j : Int) < kids.length := by omega
            have hnk2 := Nat.le_trans (Sh.nodes_get kids j hk1) hnk
            have hr' := hr.below hbelw2
            have hs' := hs.below hbelw2
            have hq1 := Sh.bulk_get (m := 1048576) (ls := kids) (by omega) j hk1
            have hq2 := Sh.bulk_get (m := 1048576) (ls := kids') (by omega) j hk2
            by_cases he : kids[j] = kids'[j]
            · have hd := Lib.hid (decide_eq_true he)
              have HE := Lib.hid he
              clear he
              go_wp2_with fail
              go_still_tail 10, (by kernel_rfl)
              go_wp2_with (go_at_call 11; refine (hA _ _ _ _ _ hnk2 hr'.drew hs'.drew hq1 hq2).mono ?_; rw [hd.out]; rintro e w1 ⟨rfl, hb1⟩)
              go_roundw
              case rel => exact ⟨j + 1, by omega, by go_num, take_eq_snoc HT.out hk1 hk2 HE.out, below2 hbel2.drew hb1 (Nat.le_refl _)⟩
              case measure => simp [intOf] <;> omega
            · have hd := Lib.hid (decide_eq_false he)
              have HE := Lib.hid (Sh.ne_mk (k := k) (l := l) (hi := hi) (ks := ks) (m := m) (kids := kids) (k' := k) (l' := l) (hi' := hi) (ks' := ks) (m' := m) (kids' := kids') (by simp [ne_of_get hk1 hk2 he]))
              clear he
              go_wp2_with fail
              go_still_tail 10, (by kernel_rfl)
              go_wp2_with (go_at_call 11; refine (hA _ _ _ _ _ hnk2 hr'.drew hs'.drew hq1 hq2).mono ?_; rw [hd.out]; rintro e w1 ⟨rfl, hb1⟩)
              go_ret
              exact ⟨by rw [HE.out]; rfl, below2 hbelw2.drew hb1 (Nat.le_refl _)⟩
          · obtain rfl : j = kids.length := by omega
            have he : kids = kids' := by have := HT.out; rw [List.take_length, E6.out, List.take_length] at this; exact this
            clear hb0 hg2 hg2'
            subst he
            go_wp2_with fail
            go_ret
            exact ⟨by simp, hbelw2⟩
  · have H := Lib.hid (Sh.ne_mk (k := k) (l := l) (hi := hi) (ks := ks) (m := m) (kids := kids) (k' := k') (l' := l') (hi' := hi') (ks' := ks') (m' := m') (kids' := kids') (fun e => e1 ⟨e.1, e.2.1, e.2.2.1, e.2.2.2.2.1, by rw [e.2.2.2.1], by rw [e.2.2.2.2.2]⟩))
    go_enter Try.func11, Try.ntmps11
    go_wp2_with fail
    all_goals
      go_ret
      exact ⟨by rw [H.out]; rfl, ((Below.refl _ _).alloc (Nat.le_refl _) _).alloc (by simp) _⟩

theorem Ss_all : ∀ n, SsA n
  | 0 => fun sh y cs ds w hn => absurd (Sh.nodes_pos sh) (by omega)
  | n + 1 => SsA_of (Ss_all n)
theorem Sm_all : ∀ n, SmA n ∧ SmB n
  | 0 => by
    have h0 : SmA 0 := fun sh y cs ds w hn => absurd (Sh.nodes_pos sh) (by omega)
    exact ⟨h0, SmB_of h0⟩
  | n + 1 => by
    have h1 := SmA_of (Sm_all n).2
    exact ⟨h1, SmB_of h1⟩
theorem sameShape_impl (x y : Sh) (cs ds : List Value) (w : World) (h : Rd w x.d cs) (h2 : Rd w y.d ds) (hx : x.bulk ≤ 1048576) (hy : y.bulk ≤ 1048576) :
    Calls Try.prog 13 #[.agg cs.toArray, .agg ds.toArray] w fun e w' => e = .returned (.bool (decide (x = y))) ∧ Below w.heap.size w w' :=
  (Sm_all x.nodes).1 x y cs ds w (Nat.le_refl _) h h2 hx hy
theorem sameShape_spec (x y : Sh) (cs ds : List Value) (w : World) (h : Rd w x.d cs) (h2 : Rd w y.d ds) (hx : x.bulk ≤ 1048576) (hy : y.bulk ≤ 1048576) :
    Calls Try.prog 11 #[.agg cs.toArray, .agg ds.toArray] w fun e w' => e = .returned (.bool (decide (x = y))) ∧ Below w.heap.size w w' :=
  Ss_all x.nodes x y cs ds w (Nat.le_refl _) h h2 hx hy
end Go.Proofs.Ytimjpohfopnnpaa
