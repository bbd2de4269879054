/- Contract of the program's GetLetter. -/
import Derived.Test.YtimjpohfopnnpaaGetLetterS
namespace Go.Proofs.Ytimjpohfopnnpaa
open Go.RowKit

theorem heap_at_setCell {w : World} {b o : Nat} {cur : Array Value} {e : TypeId} {fr : Nat × Nat} (h : w.heap[b]? = some (.cells cur e fr)) (v : Value) : (w.setCell ⟨b, o, none⟩ v).heap[b]? = some (.cells (cur.setIfInBounds o v) e fr) := by
  simp [World.setCell, Array.getElem?_modify, h]
theorem Dec.setAt {w : World} {b : Nat} {s : List UInt8} {a : Int} {lo : Bool} {cnt : Int} {bad : Bool} (h : Dec w b s a lo cnt bad) (x : Int) : Dec (w.setCell ⟨b, 1, none⟩ (.int .i64 x)) b s x lo cnt bad := by
  unfold Dec at h ⊢; rw [heap_at_setCell h]; rfl
theorem Dec.setBad {w : World} {b : Nat} {s : List UInt8} {a : Int} {lo : Bool} {cnt : Int} {bad : Bool} (h : Dec w b s a lo cnt bad) : Dec (w.setCell ⟨b, 4, none⟩ (.bool true)) b s a lo cnt true := by
  unfold Dec at h ⊢; rw [heap_at_setCell h]; rfl
theorem Dec.new (w : World) (s : List UInt8) : Dec (w.alloc (.cells #[.string ⟨s.toArray⟩, .int .i64 0, .bool false, .int .i64 0, .bool false] 63)) w.heap.size s 0 false 0 false := by
  show (w.heap.push _)[w.heap.size]? = _; simp

set_option maxHeartbeats 3200000 in
theorem getLetter_impl (l : List UInt8) (w : World) (hl : l.length ≤ 9223372036854775000) :
    Calls Try.prog 16 #[.string ⟨l.toArray⟩] w fun e w' => e = .returned (lR (letOf l)) ∧ Below w.heap.size w w' := by
  have hA := (Below.refl w.heap.size w).alloc (Nat.le_refl _) (.cells #[.int .i64 0, .int .i64 0, .string ⟨#[]⟩] 26)
  have KB := Lib.hid (box3 (w := w) (t := 26) (v0 := .int .i64 0) (v1 := .int .i64 0) (v2 := .string ⟨#[]⟩))
  cases h1 : getFr l 0 with
  | none =>
    have HR := Lib.hid (letOf1 h1)
    rw [HR.out]
    go_enter Try.func16, Try.ntmps16
    go_wp2_with fail
    refine (getFrame_impl l 0 _ ⟨by decide, by decide⟩ hl).mono ?_
    rw [h1]; simp only [fC, fX]; rintro e w1 ⟨rfl, hb1⟩
    clear h1
    obtain ⟨z, c0, c1, c2, f0, f1, f2⟩ := KB.out _ hb1
    go_wp2
    refine bodyPost_ret (v := lR none) (by simp [lR, results, Try.results16, go_sem, c0, c1, c2]) rfl ⟨rfl, ?_⟩
    exact (((below2 hA hb1 (Nat.le_refl _)).setCell (Nat.le_refl _) _).setCell (Nat.le_refl _) _).setCell (Nat.le_refl _) _
  | some r =>
    obtain ⟨c, e⟩ := r
    obtain ⟨hc1, hc2⟩ := getFr_some h1
    have hcl : c.length ≤ 9223372036854775000 := by omega
    have qe : decide ((e : Int) < 0) = false := by simp
    cases h2 : getAt c 0 with
    | none =>
      have HR := Lib.hid (letOf2 h1 h2)
      rw [HR.out]
      go_enter Try.func16, Try.ntmps16
      go_wp2_with fail
      refine (getFrame_impl l 0 _ ⟨by decide, by decide⟩ hl).mono ?_
      rw [h1]; simp only [fC, fX]; rintro e w1 ⟨rfl, hb1⟩
      clear h1
      have hD1 := Dec.new w1 c
      have hE1 := hb1.alloc hb1.size (.cells #[.string ⟨c.toArray⟩, .int .i64 0, .bool false, .int .i64 0, .bool false] 63)
      go_wp2_with fail
      refine (decHead_no _ c 0 0 false _ hD1 ⟨by decide, by decide⟩ hcl (.inr h2)).mono ?_
      rintro e w2 ⟨rfl, u2, hb2, hw2⟩
      have hD2 : Dec w2 w1.heap.size c 0 false 0 true := by rw [hw2]; exact (hD1.at hb2).setBad
      have hE2 : Below (w.alloc (.cells #[.int .i64 0, .int .i64 0, .string ⟨#[]⟩] 26)).heap.size (w.alloc (.cells #[.int .i64 0, .int .i64 0, .string ⟨#[]⟩] 26)) w2 := by rw [hw2]; exact (below2 hE1 hb2 (Nat.le_refl _)).setCell hb1.size _
      clear hw2
      go_wp2_with fail
      refine (decHead_no _ c 0 0 true _ hD2 ⟨by decide, by decide⟩ hcl (.inl rfl)).mono ?_
      rintro e w3 ⟨rfl, u3, hb3, hw3⟩
      have hD3 : Dec w3 w1.heap.size c 0 false 0 true := by rw [hw3]; exact (hD2.at hb3).setBad
      have hE3 : Below (w.alloc (.cells #[.int .i64 0, .int .i64 0, .string ⟨#[]⟩] 26)).heap.size (w.alloc (.cells #[.int .i64 0, .int .i64 0, .string ⟨#[]⟩] 26)) w3 := by rw [hw3]; exact (below2 hE2 hb3 (Nat.le_refl _)).setCell hb1.size _
      clear hw3 hb2 hb3 hD1 hD2 hE1 hE2
      obtain ⟨z, c0, c1, c2, f0, f1, f2⟩ := KB.out _ hE3
      obtain ⟨g0, g1, g2, g3, g4, _, _, _, gb⟩ := hD3.cells
      go_wp2
      all_goals
        refine bodyPost_ret (v := lR none) (by simp [lR, results, Try.results16, go_sem, c0, c1, c2]) rfl ⟨rfl, ?_⟩
        exact (((below2 hA hE3 (Nat.le_refl _)).setCell (Nat.le_refl _) _).setCell (Nat.le_refl _) _).setCell (Nat.le_refl _) _
    | some r =>
      obtain ⟨m, f, a⟩ := r
      obtain ⟨j, hj, hja, hac, _, hf64, _⟩ := getAt_some h2
      have hai : i64ok (a : Nat) := i64ok_nat (by omega)
      have qa : (0 : Int) ≤ a := by omega
      have qf : (0 : Int) ≤ f := by omega
      have qf2 : (f : Int) ≤ 18446744073709551615 := by omega
      clear hj
      cases h3 : getAt c (a : Nat) with
      | none =>
        have HR := Lib.hid (letOf3 h1 h2 h3)
        rw [HR.out]
        go_enter Try.func16, Try.ntmps16
        go_wp2_with fail
        refine (getFrame_impl l 0 _ ⟨by decide, by decide⟩ hl).mono ?_
        rw [h1]; simp only [fC, fX]; rintro e w1 ⟨rfl, hb1⟩
        clear h1
        have hD1 := Dec.new w1 c
        have hE1 := hb1.alloc hb1.size (.cells #[.string ⟨c.toArray⟩, .int .i64 0, .bool false, .int .i64 0, .bool false] 63)
        go_wp2_with fail
        refine (decHead_yes _ c 0 0 m f a _ hD1 ⟨by decide, by decide⟩ hcl h2).mono ?_
        rintro e w2 ⟨rfl, u2, hb2, hw2⟩
        have hD2 : Dec w2 w1.heap.size c (a : Nat) false 0 false := by rw [hw2]; exact (hD1.at hb2).setAt _
        have hE2 : Below (w.alloc (.cells #[.int .i64 0, .int .i64 0, .string ⟨#[]⟩] 26)).heap.size (w.alloc (.cells #[.int .i64 0, .int .i64 0, .string ⟨#[]⟩] 26)) w2 := by rw [hw2]; exact (below2 hE1 hb2 (Nat.le_refl _)).setCell hb1.size _
        clear hw2
        go_wp2_with fail
        refine (decHead_no _ c a 0 false _ hD2 hai hcl (.inr h3)).mono ?_
        rintro e w3 ⟨rfl, u3, hb3, hw3⟩
        have hD3 : Dec w3 w1.heap.size c (a : Nat) false 0 true := by rw [hw3]; exact (hD2.at hb3).setBad
        have hE3 : Below (w.alloc (.cells #[.int .i64 0, .int .i64 0, .string ⟨#[]⟩] 26)).heap.size (w.alloc (.cells #[.int .i64 0, .int .i64 0, .string ⟨#[]⟩] 26)) w3 := by rw [hw3]; exact (below2 hE2 hb3 (Nat.le_refl _)).setCell hb1.size _
        clear hw3 hb2 hb3 hD1 hD2 hE1 hE2
        obtain ⟨z, c0, c1, c2, f0, f1, f2⟩ := KB.out _ hE3
        obtain ⟨g0, g1, g2, g3, g4, _, _, _, gb⟩ := hD3.cells
        go_wp2
        all_goals
          refine bodyPost_ret (v := lR none) (by simp [lR, results, Try.results16, go_sem, c0, c1, c2]) rfl ⟨rfl, ?_⟩
          exact (((below2 hA hE3 (Nat.le_refl _)).setCell (Nat.le_refl _) _).setCell (Nat.le_refl _) _).setCell (Nat.le_refl _) _
      | some r =>
        obtain ⟨m', v, x⟩ := r
        obtain ⟨j', hj', hjx, hxc, _, hv64, _⟩ := getAt_some h3
        clear hj'
        have H4 := Lib.hid (letOf4 h1 h2 h3)
        have qx : (0 : Int) ≤ x := by omega
        have qxc : (x : Int) ≤ c.length := by omega
        have qv : (0 : Int) ≤ v := by omega
        have qv2 : (v : Int) ≤ 18446744073709551615 := by omega
        by_cases hok : f < 7 ∧ v ≤ 40
        · obtain ⟨hf7, hv40⟩ := hok
          have HD := Lib.hid (show (c.drop x).length ≤ 9223372036854775807 by rw [List.length_drop]; omega)
          go_enter Try.func16, Try.ntmps16
          go_wp2_with fail
          refine (getFrame_impl l 0 _ ⟨by decide, by decide⟩ hl).mono ?_
          rw [h1]; simp only [fC, fX]; rintro e w1 ⟨rfl, hb1⟩
          clear h1
          have hD1 := Dec.new w1 c
          have hE1 := hb1.alloc hb1.size (.cells #[.string ⟨c.toArray⟩, .int .i64 0, .bool false, .int .i64 0, .bool false] 63)
          go_wp2_with fail
          refine (decHead_yes _ c 0 0 m f a _ hD1 ⟨by decide, by decide⟩ hcl h2).mono ?_
          rintro e w2 ⟨rfl, u2, hb2, hw2⟩
          have hD2 : Dec w2 w1.heap.size c (a : Nat) false 0 false := by rw [hw2]; exact (hD1.at hb2).setAt _
          have hE2 : Below (w.alloc (.cells #[.int .i64 0, .int .i64 0, .string ⟨#[]⟩] 26)).heap.size (w.alloc (.cells #[.int .i64 0, .int .i64 0, .string ⟨#[]⟩] 26)) w2 := by rw [hw2]; exact (below2 hE1 hb2 (Nat.le_refl _)).setCell hb1.size _
          clear hw2
          go_wp2_with fail
          refine (decHead_yes _ c a 0 m' v x _ hD2 hai hcl h3).mono ?_
          rintro e w3 ⟨rfl, u3, hb3, hw3⟩
          have hD3 : Dec w3 w1.heap.size c (x : Nat) false 0 false := by rw [hw3]; exact (hD2.at hb3).setAt _
          have hE3 : Below (w.alloc (.cells #[.int .i64 0, .int .i64 0, .string ⟨#[]⟩] 26)).heap.size (w.alloc (.cells #[.int .i64 0, .int .i64 0, .string ⟨#[]⟩] 26)) w3 := by rw [hw3]; exact (below2 hE2 hb3 (Nat.le_refl _)).setCell hb1.size _
          clear hw3 hb2 hb3 hD1 hD2 hE1 hE2
          obtain ⟨z, c0, c1, c2, f0, f1, f2⟩ := KB.out _ hE3
          obtain ⟨g0, g1, g2, g3, g4, _, _, _, gb⟩ := hD3.cells
          clear h2 h3
          go_wp2_with fail
          have K2 := box3 (w := w3) (t := 26) (v0 := .int .i64 (f : Nat)) (v1 := .int .i64 (v : Nat)) (v2 := .string ⟨(c.drop x).toArray⟩)
          refine (putLetter_impl f v (c.drop x) _ HD.out).mono ?_
          rintro e w4 ⟨rfl, hb4⟩
          obtain ⟨y, d0, d1, d2, _, _, _⟩ := K2 _ hb4
          clear K2 c0 c1 c2 f0 f1 f2 g0 g1 g2 g3 g4
          have hB4 := below2a hE3 hb4 (Nat.le_refl _)
          obtain ⟨z', c0, c1, c2, f0, f1, f2⟩ := KB.out _ hB4
          by_cases hL : letter (f : Nat) (v : Nat) (c.drop x) = l
          · have HS := Lib.hid (show letOf l = some (f, v, c.drop x) by rw [H4.out, if_pos ⟨hf7, hv40, hL⟩])
            rw [hL]
            clear hL
            go_wp2
            refine bodyPost_ret (v := lR (some (f, v, c.drop x))) (by simp [lR, results, Try.results16, go_sem, c0, c1, c2]) rfl ⟨by rw [HS.out], ?_⟩
            exact (((below2 hA hB4 (Nat.le_refl _)).setCell (Nat.le_refl _) _).setCell (Nat.le_refl _) _).setCell (Nat.le_refl _) _
          · have HN := Lib.hid (show letOf l = none by rw [H4.out, if_neg (fun e => hL e.2.2)])
            have hne : (!letter (f : Nat) (v : Nat) (c.drop x) == l) = true := by simpa using hL
            clear hL
            go_wp2
            refine bodyPost_ret (v := lR none) (by simp [lR, results, Try.results16, go_sem, c0, c1, c2]) rfl ⟨by rw [HN.out], ?_⟩
            exact (((below2 hA hB4 (Nat.le_refl _)).setCell (Nat.le_refl _) _).setCell (Nat.le_refl _) _).setCell (Nat.le_refl _) _
        · have HN := Lib.hid (show letOf l = none by rw [H4.out, if_neg (fun e => hok ⟨e.1, e.2.1⟩)])
          rw [HN.out]
          go_enter Try.func16, Try.ntmps16
          go_wp2_with fail
          refine (getFrame_impl l 0 _ ⟨by decide, by decide⟩ hl).mono ?_
          rw [h1]; simp only [fC, fX]; rintro e w1 ⟨rfl, hb1⟩
          clear h1
          have hD1 := Dec.new w1 c
          have hE1 := hb1.alloc hb1.size (.cells #[.string ⟨c.toArray⟩, .int .i64 0, .bool false, .int .i64 0, .bool false] 63)
          go_wp2_with fail
          refine (decHead_yes _ c 0 0 m f a _ hD1 ⟨by decide, by decide⟩ hcl h2).mono ?_
          rintro e w2 ⟨rfl, u2, hb2, hw2⟩
          have hD2 : Dec w2 w1.heap.size c (a : Nat) false 0 false := by rw [hw2]; exact (hD1.at hb2).setAt _
          have hE2 : Below (w.alloc (.cells #[.int .i64 0, .int .i64 0, .string ⟨#[]⟩] 26)).heap.size (w.alloc (.cells #[.int .i64 0, .int .i64 0, .string ⟨#[]⟩] 26)) w2 := by rw [hw2]; exact (below2 hE1 hb2 (Nat.le_refl _)).setCell hb1.size _
          clear hw2
          go_wp2_with fail
          refine (decHead_yes _ c a 0 m' v x _ hD2 hai hcl h3).mono ?_
          rintro e w3 ⟨rfl, u3, hb3, hw3⟩
          have hD3 : Dec w3 w1.heap.size c (x : Nat) false 0 false := by rw [hw3]; exact (hD2.at hb3).setAt _
          have hE3 : Below (w.alloc (.cells #[.int .i64 0, .int .i64 0, .string ⟨#[]⟩] 26)).heap.size (w.alloc (.cells #[.int .i64 0, .int .i64 0, .string ⟨#[]⟩] 26)) w3 := by rw [hw3]; exact (below2 hE2 hb3 (Nat.le_refl _)).setCell hb1.size _
          clear hw3 hb2 hb3 hD1 hD2 hE1 hE2
          obtain ⟨z, c0, c1, c2, f0, f1, f2⟩ := KB.out _ hE3
          obtain ⟨g0, g1, g2, g3, g4, _, _, _, gb⟩ := hD3.cells
          clear h2 h3
          go_wp2
          all_goals
            refine bodyPost_ret (v := lR none) (by simp [lR, results, Try.results16, go_sem, c0, c1, c2]) rfl ⟨rfl, ?_⟩
            exact (((below2 hA hE3 (Nat.le_refl _)).setCell (Nat.le_refl _) _).setCell (Nat.le_refl _) _).setCell (Nat.le_refl _) _
end Go.Proofs.Ytimjpohfopnnpaa
