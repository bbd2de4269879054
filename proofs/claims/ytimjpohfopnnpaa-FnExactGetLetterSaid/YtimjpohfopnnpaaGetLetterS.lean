/- Contract of the GetLetter of the reference. -/
import Derived.Test.YtimjpohfopnnpaaDecHead
namespace Go.Proofs.Ytimjpohfopnnpaa
open Go.RowKit

def lR : Option (Nat × Nat × List UInt8) → Value
  | some (f, v, b) => .tuple #[.agg #[.int .i64 (f : Nat), .int .i64 (v : Nat), .string ⟨b.toArray⟩], .bool true]
  | none => .tuple #[.agg #[.int .i64 0, .int .i64 0, .string ⟨#[]⟩], .bool false]

theorem letOf1 {l : List UInt8} (h : getFr l 0 = none) : letOf l = none := by unfold letOf; rw [h]
theorem letOf2 {l c : List UInt8} {e : Nat} (h : getFr l 0 = some (c, e)) (h2 : getAt c 0 = none) : letOf l = none := by unfold letOf; rw [h]; simp only; rw [h2]
theorem letOf3 {l c : List UInt8} {e m f a : Nat} (h : getFr l 0 = some (c, e)) (h2 : getAt c 0 = some (m, f, a)) (h3 : getAt c (a : Nat) = none) : letOf l = none := by unfold letOf; rw [h]; simp only; rw [h2]; simp only; rw [h3]
theorem letOf4 {l c : List UInt8} {e m f a m' v x : Nat} (h : getFr l 0 = some (c, e)) (h2 : getAt c 0 = some (m, f, a)) (h3 : getAt c (a : Nat) = some (m', v, x)) :
    letOf l = if f < 7 ∧ v ≤ 40 ∧ letter (f : Nat) (v : Nat) (c.drop x) = l then some (f, v, c.drop x) else none := by unfold letOf; rw [h]; simp only; rw [h2]; simp only; rw [h3]
theorem i64ok_nat {n : Nat} (h : n ≤ 9223372036854775807) : i64ok (n : Nat) := ⟨by omega, by omega⟩
theorem getAt_neg (l : List UInt8) : getAt l (-1) = none := by unfold getAt; rw [if_pos (by decide)]

theorem box3 {w : World} {t : TypeId} {v0 v1 v2 : Value} : ∀ W, Below (w.alloc (.cells #[v0, v1, v2] t)).heap.size (w.alloc (.cells #[v0, v1, v2] t)) W →
    w.heap.size < W.heap.size ∧ W.cell? ⟨w.heap.size, 0, none⟩ = some v0 ∧ W.cell? ⟨w.heap.size, 1, none⟩ = some v1 ∧ W.cell? ⟨w.heap.size, 2, none⟩ = some v2 ∧
    W.frozen? ⟨w.heap.size, 0, none⟩ = false ∧ W.frozen? ⟨w.heap.size, 1, none⟩ = false ∧ W.frozen? ⟨w.heap.size, 2, none⟩ = false := by
  intro W hb
  have hz : w.heap.size < (w.alloc (.cells #[v0, v1, v2] t)).heap.size := by simp
  obtain ⟨hc, hf⟩ := bcell hb
  refine ⟨Nat.lt_of_lt_of_le hz hb.size, ?_, ?_, ?_, ?_, ?_, ?_⟩
  · rw [hc _ _ hz]; simp
  · rw [hc _ _ hz]; simp
  · rw [hc _ _ hz]; simp
  · rw [hf _ _ hz]; simp
  · rw [hf _ _ hz]; simp
  · rw [hf _ _ hz]; simp

set_option maxHeartbeats 3200000 in
theorem getLetter_spec (l : List UInt8) (w : World) (hl : l.length ≤ 9223372036854775000) :
    Calls Try.prog 15 #[.string ⟨l.toArray⟩] w fun e w' => e = .returned (lR (letOf l)) ∧ Below w.heap.size w w' := by
  have hA := (Below.refl w.heap.size w).alloc (Nat.le_refl _) (.cells #[.int .i64 0, .int .i64 0, .string ⟨#[]⟩] 26)
  have KB := Lib.hid (box3 (w := w) (t := 26) (v0 := .int .i64 0) (v1 := .int .i64 0) (v2 := .string ⟨#[]⟩))
  cases h1 : getFr l 0 with
  | none =>
    have HR := Lib.hid (letOf1 h1)
    rw [HR.out]
    have hne : ((-1 : Int) != (l.length : Int)) = true := by simp <;> omega
    go_enter Try.func15, Try.ntmps15
    go_wp2_with fail
    refine (getFrame_spec l 0 _ ⟨by decide, by decide⟩ hl).mono ?_
    rw [h1]; simp only [fC, fX]; rintro e w1 ⟨rfl, hb1⟩
    clear h1
    go_wp2_with fail
    refine (getHead_spec [] 0 _ ⟨by decide, by decide⟩ (by decide)).mono ?_
    rw [show getAt [] 0 = none from rfl]; simp only [hM, hN, hX]; rintro e w2 ⟨rfl, hb2⟩
    go_wp2_with fail
    refine (getHead_spec [] (-1) _ ⟨by decide, by decide⟩ (by decide)).mono ?_
    rw [getAt_neg]; simp only [hM, hN, hX]; rintro e w3 ⟨rfl, hb3⟩
    have hB := below2 (below2 hb1 hb2 (Nat.le_refl _)) hb3 (Nat.le_refl _)
    obtain ⟨z, c0, c1, c2, f0, f1, f2⟩ := KB.out _ hB
    go_wp2
    refine bodyPost_ret (v := lR none) (by simp [lR, results, Try.results15, go_sem, c0, c1, c2]) rfl ⟨rfl, ?_⟩
    exact (((below2 hA hB (Nat.le_refl _)).setCell (Nat.le_refl _) _).setCell (Nat.le_refl _) _).setCell (Nat.le_refl _) _
  | some r =>
    obtain ⟨c, e⟩ := r
    obtain ⟨hc1, hc2⟩ := getFr_some h1
    have hcl : c.length ≤ 9223372036854775000 := by omega
    cases h2 : getAt c 0 with
    | none =>
      have HR := Lib.hid (letOf2 h1 h2)
      rw [HR.out]
      go_enter Try.func15, Try.ntmps15
      go_wp2_with fail
      refine (getFrame_spec l 0 _ ⟨by decide, by decide⟩ hl).mono ?_
      rw [h1]; simp only [fC, fX]; rintro e w1 ⟨rfl, hb1⟩
      clear h1
      go_wp2_with fail
      refine (getHead_spec c 0 _ ⟨by decide, by decide⟩ hcl).mono ?_
      rw [h2]; simp only [hM, hN, hX]; rintro e w2 ⟨rfl, hb2⟩
      clear h2
      go_wp2_with fail
      refine (getHead_spec c (-1) _ ⟨by decide, by decide⟩ hcl).mono ?_
      rw [getAt_neg]; simp only [hM, hN, hX]; rintro e w3 ⟨rfl, hb3⟩
      have hB := below2 (below2 hb1 hb2 (Nat.le_refl _)) hb3 (Nat.le_refl _)
      obtain ⟨z, c0, c1, c2, f0, f1, f2⟩ := KB.out _ hB
      go_wp2
      all_goals
        refine bodyPost_ret (v := lR none) (by simp [lR, results, Try.results15, go_sem, c0, c1, c2]) rfl ⟨rfl, ?_⟩
        exact (((below2 hA hB (Nat.le_refl _)).setCell (Nat.le_refl _) _).setCell (Nat.le_refl _) _).setCell (Nat.le_refl _) _
    | some r =>
      obtain ⟨m, f, a⟩ := r
      obtain ⟨j, hj, hja, hac, _, hf64, _⟩ := getAt_some h2
      have hai : i64ok (a : Nat) := i64ok_nat (by omega)
      have qa : (0 : Int) ≤ a := by omega
      have qf : (0 : Int) ≤ f := by omega
      have qf2 : (f : Int) ≤ 18446744073709551615 := by omega
      clear hj
      cases h3 : getAt c (a : Nat) with
      | none =>
        have HR := Lib.hid (letOf3 h1 h2 h3)
        rw [HR.out]
        go_enter Try.func15, Try.ntmps15
        go_wp2_with fail
        refine (getFrame_spec l 0 _ ⟨by decide, by decide⟩ hl).mono ?_
        rw [h1]; simp only [fC, fX]; rintro e w1 ⟨rfl, hb1⟩
        clear h1
        go_wp2_with fail
        refine (getHead_spec c 0 _ ⟨by decide, by decide⟩ hcl).mono ?_
        rw [h2]; simp only [hM, hN, hX]; rintro e w2 ⟨rfl, hb2⟩
        clear h2
        go_wp2_with fail
        refine (getHead_spec c a _ hai hcl).mono ?_
        rw [h3]; simp only [hM, hN, hX]; rintro e w3 ⟨rfl, hb3⟩
        clear h3
        have hB := below2 (below2 hb1 hb2 (Nat.le_refl _)) hb3 (Nat.le_refl _)
        obtain ⟨z, c0, c1, c2, f0, f1, f2⟩ := KB.out _ hB
        go_wp2
        all_goals
          refine bodyPost_ret (v := lR none) (by simp [lR, results, Try.results15, go_sem, c0, c1, c2]) rfl ⟨rfl, ?_⟩
          exact (((below2 hA hB (Nat.le_refl _)).setCell (Nat.le_refl _) _).setCell (Nat.le_refl _) _).setCell (Nat.le_refl _) _
      | some r =>
        obtain ⟨m', v, x⟩ := r
        obtain ⟨j', hj', hjx, hxc, _, hv64, _⟩ := getAt_some h3
        clear hj'
        have H4 := Lib.hid (letOf4 h1 h2 h3)
        have HEnd := Lib.hid (fun (b : List UInt8) (hb : letter (f : Nat) (v : Nat) b = l) => letter_end h1 hb)
        have qx : (0 : Int) ≤ x := by omega
        have qxc : (x : Int) ≤ c.length := by omega
        have qv : (0 : Int) ≤ v := by omega
        have qv2 : (v : Int) ≤ 18446744073709551615 := by omega
        by_cases hok : e = l.length ∧ f < 7 ∧ v ≤ 40
        · obtain ⟨he, hf7, hv40⟩ := hok
          have hel : ((e : Int) != (l.length : Int)) = false := by simp [he]
          have hdl : (c.drop x).length ≤ 9223372036854775807 := by rw [List.length_drop]; omega
          have HD := Lib.hid hdl
          clear hdl he
          go_enter Try.func15, Try.ntmps15
          go_wp2_with fail
          refine (getFrame_spec l 0 _ ⟨by decide, by decide⟩ hl).mono ?_
          rw [h1]; simp only [fC, fX]; rintro e w1 ⟨rfl, hb1⟩
          clear h1
          go_wp2_with fail
          refine (getHead_spec c 0 _ ⟨by decide, by decide⟩ hcl).mono ?_
          rw [h2]; simp only [hM, hN, hX]; rintro e w2 ⟨rfl, hb2⟩
          clear h2
          go_wp2_with fail
          refine (getHead_spec c a _ hai hcl).mono ?_
          rw [h3]; simp only [hM, hN, hX]; rintro e w3 ⟨rfl, hb3⟩
          clear h3
          have hB := below2 (below2 hb1 hb2 (Nat.le_refl _)) hb3 (Nat.le_refl _)
          obtain ⟨z, c0, c1, c2, f0, f1, f2⟩ := KB.out _ hB
          go_wp2_with fail
          have K2 := box3 (w := w3) (t := 26) (v0 := .int .i64 (f : Nat)) (v1 := .int .i64 (v : Nat)) (v2 := .string ⟨(c.drop x).toArray⟩)
          refine (putLetter_spec f v (c.drop x) _ HD.out).mono ?_
          rintro e w4 ⟨rfl, hb4⟩
          obtain ⟨y, d0, d1, d2, _, _, _⟩ := K2 _ hb4
          clear K2 c0 c1 c2 f0 f1 f2
          have hB4 := below2a hB hb4 (Nat.le_refl _)
          obtain ⟨z', c0, c1, c2, f0, f1, f2⟩ := KB.out _ hB4
          have hz3 : w.heap.size < w3.heap.size := z
          by_cases hL : letter (f : Nat) (v : Nat) (c.drop x) = l
          · have HS := Lib.hid (show letOf l = some (f, v, c.drop x) by rw [H4.out, if_pos ⟨hf7, hv40, hL⟩])
            rw [hL]
            clear hL
            go_wp2
            refine bodyPost_ret (v := lR (some (f, v, c.drop x))) (by simp [lR, results, Try.results15, go_sem, c0, c1, c2]) rfl ⟨by rw [HS.out], ?_⟩
            exact (((below2 hA hB4 (Nat.le_refl _)).setCell (Nat.le_refl _) _).setCell (Nat.le_refl _) _).setCell (Nat.le_refl _) _
          · have HN := Lib.hid (show letOf l = none by rw [H4.out, if_neg (fun e => hL e.2.2)])
            have hne : (!letter (f : Nat) (v : Nat) (c.drop x) == l) = true := by simpa using hL
            clear hL
            go_wp2
            refine bodyPost_ret (v := lR none) (by simp [lR, results, Try.results15, go_sem, c0, c1, c2]) rfl ⟨by rw [HN.out], ?_⟩
            exact (((below2 hA hB4 (Nat.le_refl _)).setCell (Nat.le_refl _) _).setCell (Nat.le_refl _) _).setCell (Nat.le_refl _) _
        · have HN := Lib.hid (show letOf l = none by rw [H4.out, if_neg (fun e => hok ⟨HEnd.out _ e.2.2, e.1, e.2.1⟩)])
          rw [HN.out]
          go_enter Try.func15, Try.ntmps15
          go_wp2_with fail
          refine (getFrame_spec l 0 _ ⟨by decide, by decide⟩ hl).mono ?_
          rw [h1]; simp only [fC, fX]; rintro e w1 ⟨rfl, hb1⟩
          clear h1
          go_wp2_with fail
          refine (getHead_spec c 0 _ ⟨by decide, by decide⟩ hcl).mono ?_
          rw [h2]; simp only [hM, hN, hX]; rintro e w2 ⟨rfl, hb2⟩
          clear h2
          go_wp2_with fail
          refine (getHead_spec c a _ hai hcl).mono ?_
          rw [h3]; simp only [hM, hN, hX]; rintro e w3 ⟨rfl, hb3⟩
          clear h3
          have hB := below2 (below2 hb1 hb2 (Nat.le_refl _)) hb3 (Nat.le_refl _)
          obtain ⟨z, c0, c1, c2, f0, f1, f2⟩ := KB.out _ hB
          go_wp2_with fail
          all_goals
            refine bodyPost_ret (v := lR none) (by simp [lR, results, Try.results15, go_sem, c0, c1, c2]) rfl ⟨rfl, ?_⟩
            exact (((below2 hA hB (Nat.le_refl _)).setCell (Nat.le_refl _) _).setCell (Nat.le_refl _) _).setCell (Nat.le_refl _) _
end Go.Proofs.Ytimjpohfopnnpaa
