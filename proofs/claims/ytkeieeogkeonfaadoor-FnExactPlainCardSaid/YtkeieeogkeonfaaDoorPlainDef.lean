/- What JSON holds of a value. No program in sight. -/
import Derived.Test.YtkeieeogkeonfaaDoorValueDef
import Derived.Lib.ItoaLen
namespace Go.Proofs.YtkeieeogkeonfaaDoor
open Go.RowKit

def hexTab : List UInt8 := [48, 49, 50, 51, 52, 53, 54, 55, 56, 57, 97, 98, 99, 100, 101, 102]
def hexd (k : Nat) : UInt8 := hexTab.getD k 0
def hexL : List UInt8 → List UInt8
  | [] => []
  | b :: l => hexd (b.toNat / 16) :: hexd (b.toNat % 16) :: hexL l
theorem hexL_length : ∀ l, (hexL l).length = 2 * l.length
  | [] => rfl
  | b :: l => by simp only [hexL, List.length_cons, hexL_length l]; omega
theorem hexL_append : ∀ a b : List UInt8, hexL (a ++ b) = hexL a ++ hexL b
  | [], b => rfl
  | x :: a, b => by simp only [List.cons_append, hexL, hexL_append a b]
theorem hexL_take (l : List UInt8) (j : Nat) (h : j < l.length) : hexL (l.take (j + 1)) = hexL (l.take j) ++ [hexd (l[j].toNat / 16), hexd (l[j].toNat % 16)] := by
  rw [List.take_succ_eq_append_getElem h, hexL_append]; rfl
/-- the place of the first pair of this key -/
def mfind : List V → List UInt8 → Nat → Int
  | x :: _ :: r, s, i => if x.kind = 5 ∧ x.text = s then (i : Nat) else mfind r s (i + 2)
  | _, _, _ => -1
def keyV (x : V) : V := if x.kind = 3 then .mk 5 0 0 (Lib.itoa x.num) [] else x
def putV (acc : List V) (x y : V) : List V := if mfind acc (keyV x).text 0 < 0 then acc ++ [keyV x, y] else acc
mutual
def V.plain : V → V
  | .mk k n e s kids => if k = 6 then .mk 5 0 0 (hexL s) [] else if k = 9 then V.plainHd (.mk k n e s kids) kids else if k = 7 then .mk 7 0 0 [] (V.plains kids) else if k = 8 then .mk 8 0 0 [] (V.plainM [] kids) else .mk k n e s kids
def V.plainHd (d : V) : List V → V
  | [] => d
  | v :: _ => V.plain v
def V.plains : List V → List V
  | [] => []
  | v :: vs => V.plain v :: V.plains vs
def V.plainM (acc : List V) : List V → List V
  | [] => acc
  | [_] => acc
  | x :: y :: r => V.plainM (putV acc x (V.plain y)) r
end
end Go.Proofs.YtkeieeogkeonfaaDoor

/- What JSON holds of a right value: sizes and steps. No program in sight. -/
namespace Go.Proofs.YtkeieeogkeonfaaDoor
open Go.RowKit
open Go.Lib (validD)

/-- what is known of a right value, by its kind -/
theorem V.right_at {d k n e : Int} {s : List UInt8} {kids : List V} (h : V.rightBy pairsOk d (.mk k n e s kids) = true) :
    (∀ y ∈ kids, V.rightBy pairsOk (d - 1) y = true) ∧ V.self (.mk k n e s kids) = true := by
  simp only [V.rightBy, Bool.and_eq_true] at h
  refine ⟨fun y hy => ?_, h.2.2⟩
  have := h.1
  rw [V.rightsBy_all, List.all_eq_true] at this
  exact this y hy
theorem V.self_leaf {k n e : Int} {s : List UInt8} {kids : List V} (h : V.self (.mk k n e s kids) = true) (h7 : k ≠ 7) (h8 : k ≠ 8) (h9 : k ≠ 9) : kids = [] := by
  simp only [V.self, V.selfBy] at h
  by_cases h0 : k = 0 ∨ k = 1 ∨ k = 2
  · rw [if_pos h0] at h; simp only [Bool.and_eq_true, decide_eq_true_eq] at h; exact h.2.2.2
  rw [if_neg h0] at h
  by_cases h3 : k = 3
  · rw [if_pos h3] at h; simp only [Bool.and_eq_true, decide_eq_true_eq] at h; exact h.2.2
  rw [if_neg h3] at h
  by_cases h4 : k = 4
  · rw [if_pos h4] at h; simp only [Bool.and_eq_true, decide_eq_true_eq] at h; exact h.2.2
  rw [if_neg h4] at h
  by_cases h5 : k = 5
  · rw [if_pos h5] at h; simp only [Bool.and_eq_true, decide_eq_true_eq] at h; exact h.2.2.2.2
  rw [if_neg h5] at h
  by_cases h6 : k = 6
  · rw [if_pos h6] at h; simp only [Bool.and_eq_true, decide_eq_true_eq] at h; exact h.2.2.2
  rw [if_neg h6, if_neg h7, if_neg h8, if_neg h9] at h; cases h
theorem V.self_nine {n e : Int} {s : List UInt8} {kids : List V} (h : V.self (.mk 9 n e s kids) = true) : kids.length = 1 := by
  simp only [V.self, V.selfBy] at h; simp at h; exact h.2.2.2
theorem V.self_seven {n e : Int} {s : List UInt8} {kids : List V} (h : V.self (.mk 7 n e s kids) = true) : n = 0 ∧ e = 0 ∧ s = [] := by
  simp only [V.self, V.selfBy] at h; simp at h; exact h
theorem V.self_eight {n e : Int} {s : List UInt8} {kids : List V} (h : V.self (.mk 8 n e s kids) = true) : n = 0 ∧ e = 0 ∧ s = [] ∧ kids.length % 2 = 0 ∧ ∀ j (h : 2 * j < kids.length), isKeyK kids[2 * j].kind = true := by
  simp only [V.self, V.selfBy] at h; simp at h
  obtain ⟨h1, h2, h3, h4⟩ := h
  unfold pairsOk uniq at h4
  simp only [Bool.and_eq_true, decide_eq_true_eq, List.all_eq_true] at h4
  refine ⟨h1, h2, h3, h4.2.1, fun j hj => ?_⟩
  have := h4.1.1 ((odds kids)[j]'(by rw [odds_length]; omega)) (List.getElem_mem _)
  rw [odds_get kids j hj] at this; exact this
/-- a key of a right map is a plain one -/
theorem V.key_form {d : Int} {x : V} (h : V.rightBy pairsOk d x = true) (hk : isKeyK x.kind = true) : (x.kind = 3 ∧ ∃ n, x = .mk 3 n 0 [] []) ∨ (∃ s, x = .mk 5 0 0 s []) := by
  obtain ⟨k, n, e, s, kids⟩ := x
  simp only [V.rightBy, Bool.and_eq_true, V.selfBy] at h
  simp only [V.kind, isKeyK, Bool.or_eq_true] at hk
  rcases hk with hk | hk <;> obtain rfl := of_decide_eq_true hk
  · have := h.2.2; simp at this; right; exact ⟨s, by simp [this]⟩
  · have := h.2.2; simp at this; left; exact ⟨rfl, n, by simp [this]⟩
theorem V.plainM_step (acc kids : List V) (j : Nat) (h : 2 * j + 1 < kids.length) : V.plainM acc (kids.drop (2 * j)) = V.plainM (putV acc kids[2 * j] (V.plain kids[2 * j + 1])) (kids.drop (2 * (j + 1))) := by
  rw [List.drop_eq_getElem_cons (show 2 * j < kids.length by omega), List.drop_eq_getElem_cons (show 2 * j + 1 < kids.length from h), V.plainM, show 2 * (j + 1) = 2 * j + 1 + 1 by omega]
theorem V.plainM_end (acc kids : List V) (j : Nat) (h : ¬ 2 * j + 1 < kids.length) : V.plainM acc (kids.drop (2 * j)) = acc := by
  have hl : (kids.drop (2 * j)).length ≤ 1 := by rw [List.length_drop]; omega
  match kids.drop (2 * j), hl with
  | [], _ => rfl
  | [_], _ => rfl
theorem putV_length (acc : List V) (x y : V) : (putV acc x y).length ≤ acc.length + 2 := by unfold putV; split <;> simp
theorem V.plains_length : ∀ xs : List V, (V.plains xs).length = xs.length
  | [] => rfl
  | x :: xs => by simp [V.plains, V.plains_length xs]
theorem V.plains_append : ∀ (xs : List V) (y : V), V.plains (xs ++ [y]) = V.plains xs ++ [V.plain y]
  | [], y => rfl
  | x :: xs, y => by simp [V.plains, V.plains_append xs y]
theorem V.plains_take (xs : List V) (j : Nat) (h : j < xs.length) : V.plains (xs.take (j + 1)) = V.plains (xs.take j) ++ [V.plain xs[j]] := by
  rw [List.take_succ_eq_append_getElem h, V.plains_append]
theorem V.bulks_append : ∀ xs ys : List V, V.bulks (xs ++ ys) = V.bulks xs + V.bulks ys
  | [], ys => by simp [V.bulks]
  | x :: xs, ys => by simp only [List.cons_append, V.bulks, V.bulks_append xs ys]; omega
theorem V.wfs_append : ∀ {xs ys : List V}, V.wfs xs → V.wfs ys → V.wfs (xs ++ ys)
  | [], ys, _, h => h
  | x :: xs, ys, h, k => ⟨h.1, V.wfs_append h.2 k⟩
theorem V.nodess_append : ∀ xs ys : List V, V.nodess (xs ++ ys) = V.nodess xs + V.nodess ys
  | [], ys => by simp [V.nodess]
  | x :: xs, ys => by simp only [List.cons_append, V.nodess, V.nodess_append xs ys]; omega
theorem keyV_bulk (x : V) (h : x.wf) : (keyV x).bulk ≤ x.bulk + 21 := by
  unfold keyV; split
  · obtain ⟨k, n, e, s, kids⟩ := x
    have := Lib.itoa_length_le n h.2.1.1 h.2.1.2
    simp only [V.bulk, V.num, List.length_nil, V.bulks]; omega
  · omega
theorem keyV_nodes (x : V) : (keyV x).nodes ≤ x.nodes := by
  unfold keyV; split
  · have := x.nodes_pos; simp only [V.nodes, V.nodess]; omega
  · omega
mutual
theorem V.plain_size : ∀ x : V, x.wf → (V.plain x).bulk ≤ 2 * x.bulk + 21 * x.nodes ∧ (V.plain x).nodes ≤ x.nodes
  | .mk k n e s kids, hw => by
    have hk := hw.2.2.2.2.2
    by_cases h6 : k = 6
    · simp only [V.plain, if_pos h6, V.bulk, V.nodes, hexL_length, List.length_nil, V.bulks, V.nodess]; omega
    by_cases h9 : k = 9
    · simp only [V.plain, if_neg h6, if_pos h9]
      match kids, hk with
      | [], hk => simp only [V.plainHd]; omega
      | y :: r, hk => have := V.plain_size y hk.1; simp only [V.plainHd, V.bulk, V.nodes, V.bulks, V.nodess, List.length_cons]; omega
    by_cases h7 : k = 7
    · have := V.plains_size kids hk
      simp only [V.plain, if_neg h6, if_neg h9, if_pos h7, V.bulk, V.nodes, V.plains_length, List.length_nil]; omega
    by_cases h8 : k = 8
    · have := V.plainM_size [] kids hk
      simp only [V.plain, if_neg h6, if_neg h9, if_neg h7, if_pos h8, V.bulk, V.nodes, List.length_nil, V.bulks, V.nodess] at this ⊢; omega
    · simp only [V.plain, if_neg h6, if_neg h9, if_neg h7, if_neg h8]; omega
theorem V.plains_size : ∀ xs : List V, V.wfs xs → V.bulks (V.plains xs) ≤ 2 * V.bulks xs + 21 * V.nodess xs ∧ V.nodess (V.plains xs) ≤ V.nodess xs
  | [], _ => by simp [V.plains, V.bulks, V.nodess]
  | x :: xs, h => by have := V.plain_size x h.1; have := V.plains_size xs h.2; simp only [V.plains, V.bulks, V.nodess]; omega
theorem V.plainM_size : ∀ (acc xs : List V), V.wfs xs → V.bulks (V.plainM acc xs) ≤ V.bulks acc + 2 * V.bulks xs + 21 * V.nodess xs ∧ V.nodess (V.plainM acc xs) ≤ V.nodess acc + V.nodess xs ∧ (V.plainM acc xs).length ≤ acc.length + xs.length
  | acc, [], _ => by simp [V.plainM, V.bulks, V.nodess]
  | acc, [x], _ => by simp only [V.plainM, V.bulks, V.nodess, List.length_cons, List.length_nil]; omega
  | acc, x :: y :: r, h => by
    have h1 := V.plain_size y h.2.1
    have h2 := V.plainM_size (putV acc x (V.plain y)) r h.2.2
    have h3 := keyV_bulk x h.1
    have h4 := keyV_nodes x
    have h5 := x.nodes_pos
    have h6 : V.bulks (putV acc x (V.plain y)) ≤ V.bulks acc + (keyV x).bulk + (V.plain y).bulk := by
      unfold putV; split
      · simp only [V.bulks_append, V.bulks]; omega
      · omega
    have h7 : V.nodess (putV acc x (V.plain y)) ≤ V.nodess acc + (keyV x).nodes + (V.plain y).nodes := by
      unfold putV; split
      · simp only [V.nodess_append, V.nodess]; omega
      · omega
    have h8 := putV_length acc x (V.plain y)
    simp only [V.plainM, V.bulks, V.nodess, List.length_cons]
    omega
end

theorem keyV_wf (x : V) (h : x.wf) : (keyV x).wf := by
  unfold keyV; split
  · obtain ⟨k, n, e, s, kids⟩ := x
    have := Lib.itoa_length_le n h.2.1.1 h.2.1.2
    refine ⟨⟨by decide, by decide⟩, ⟨by decide, by decide⟩, ⟨by decide, by decide⟩, ?_, by simp, trivial⟩
    unfold strok; simp only [V.num]; omega
  · exact h
theorem putV_wf {acc : List V} {x y : V} (ha : V.wfs acc) (hx : x.wf) (hy : y.wf) : V.wfs (putV acc x y) := by
  unfold putV; split
  · exact V.wfs_append ha ⟨keyV_wf x hx, hy, trivial⟩
  · exact ha
mutual
theorem V.plain_wf : ∀ x : V, x.wf → x.bulk ≤ 4294967295 → (V.plain x).wf
  | .mk k n e s kids, hw, hb => by
    have hk := hw.2.2.2.2.2
    simp only [V.bulk] at hb
    by_cases h6 : k = 6
    · simp only [V.plain, if_pos h6]
      refine ⟨⟨by decide, by decide⟩, ⟨by decide, by decide⟩, ⟨by decide, by decide⟩, ?_, by simp, trivial⟩
      unfold strok; rw [hexL_length]; omega
    by_cases h9 : k = 9
    · simp only [V.plain, if_neg h6, if_pos h9]
      match kids, hk, hb with
      | [], hk, _ => exact hw
      | y :: r, hk, hb => exact V.plain_wf y hk.1 (by simp only [V.bulks, List.length_cons] at hb; omega)
    by_cases h7 : k = 7
    · simp only [V.plain, if_neg h6, if_neg h9, if_pos h7]
      exact ⟨⟨by decide, by decide⟩, ⟨by decide, by decide⟩, ⟨by decide, by decide⟩, by simp [strok], by rw [V.plains_length]; omega, V.plains_wf kids hk (by omega)⟩
    by_cases h8 : k = 8
    · simp only [V.plain, if_neg h6, if_neg h9, if_neg h7, if_pos h8]
      have := (V.plainM_size [] kids hk).2.2
      simp only [List.length_nil] at this
      exact ⟨⟨by decide, by decide⟩, ⟨by decide, by decide⟩, ⟨by decide, by decide⟩, by simp [strok], by omega, V.plainM_wf [] kids trivial hk (by omega)⟩
    · simp only [V.plain, if_neg h6, if_neg h9, if_neg h7, if_neg h8]; exact hw
theorem V.plains_wf : ∀ xs : List V, V.wfs xs → V.bulks xs ≤ 4294967295 → V.wfs (V.plains xs)
  | [], _, _ => trivial
  | x :: xs, h, hb => by simp only [V.bulks] at hb; exact ⟨V.plain_wf x h.1 (by omega), V.plains_wf xs h.2 (by omega)⟩
theorem V.plainM_wf : ∀ (acc xs : List V), V.wfs acc → V.wfs xs → V.bulks xs ≤ 4294967295 → V.wfs (V.plainM acc xs)
  | acc, [], ha, _, _ => ha
  | acc, [x], ha, _, _ => ha
  | acc, x :: y :: r, ha, h, hb => by
    simp only [V.bulks] at hb
    exact V.plainM_wf _ r (putV_wf ha h.1 (V.plain_wf y h.2.1 (by omega))) h.2.2 (by omega)
end
end Go.Proofs.YtkeieeogkeonfaaDoor

/- What JSON holds of any value. No program in sight. -/
namespace Go.Proofs.YtkeieeogkeonfaaDoor
open Go.RowKit
def V.plainTop (x : V) : V := if x.ok = true then (if x.plain.ok = true then x.plain else x) else x
end Go.Proofs.YtkeieeogkeonfaaDoor

/- How big what JSON holds of a value is. No program in sight. -/
namespace Go.Proofs.YtkeieeogkeonfaaDoor
open Go.RowKit
theorem V.self_text {q : List V → Bool} {k n e : Int} {s : List UInt8} {kids : List V} (h : V.selfBy q (.mk k n e s kids) = true) : s.length ≤ 2000 := by
  simp only [V.selfBy] at h
  by_cases h0 : k = 0 ∨ k = 1 ∨ k = 2
  · rw [if_pos h0] at h; simp only [Bool.and_eq_true, decide_eq_true_eq] at h; simp [h.2.2.1]
  rw [if_neg h0] at h
  by_cases h3 : k = 3
  · rw [if_pos h3] at h; simp only [Bool.and_eq_true, decide_eq_true_eq] at h; simp [h.2.1]
  rw [if_neg h3] at h
  by_cases h4 : k = 4
  · rw [if_pos h4] at h; simp only [Bool.and_eq_true, decide_eq_true_eq] at h; simp [h.2.1]
  rw [if_neg h4] at h
  by_cases h5 : k = 5
  · rw [if_pos h5] at h; simp only [Bool.and_eq_true, decide_eq_true_eq] at h; exact h.2.2.2.1
  rw [if_neg h5] at h
  by_cases h6 : k = 6
  · rw [if_pos h6] at h; simp only [Bool.and_eq_true, decide_eq_true_eq] at h; exact h.2.2.1
  rw [if_neg h6] at h
  by_cases h7 : k = 7
  · rw [if_pos h7] at h; simp only [Bool.and_eq_true, decide_eq_true_eq] at h; simp [h.2.2]
  rw [if_neg h7] at h
  by_cases h8 : k = 8
  · rw [if_pos h8] at h; simp only [Bool.and_eq_true, decide_eq_true_eq] at h; simp [h.2.2.1]
  rw [if_neg h8] at h
  by_cases h9 : k = 9
  · rw [if_pos h9] at h; simp only [Bool.and_eq_true, decide_eq_true_eq] at h; simp [h.2.2.1]
  rw [if_neg h9] at h; cases h
mutual
theorem V.right_bulk (q : List V → Bool) : ∀ (d : Int) (x : V), V.rightBy q d x = true → x.bulk + 1 ≤ 2001 * x.nodes
  | d, .mk k n e s kids, h => by
    simp only [V.rightBy, Bool.and_eq_true] at h
    have h1 := V.rights_bulk q (d - 1) kids h.1
    have h2 := V.self_text h.2.2
    simp only [V.bulk, V.nodes]; omega
theorem V.rights_bulk (q : List V → Bool) : ∀ (d : Int) (xs : List V), V.rightsBy q d xs = true → V.bulks xs + xs.length ≤ 2001 * V.nodess xs
  | _, [], _ => by simp [V.bulks]
  | d, x :: xs, h => by
    simp only [V.rightsBy, Bool.and_eq_true] at h
    have h1 := V.right_bulk q d x h.1
    have h2 := V.rights_bulk q d xs h.2
    simp only [V.bulks, V.nodess, List.length_cons]; omega
end
theorem V.ok_bulk {x : V} (h : x.ok = true) : x.bulk ≤ 1048576 := by
  unfold V.ok at h
  simp only [Bool.and_eq_true, decide_eq_true_eq] at h
  have := V.right_bulk _ _ _ h.1; omega
theorem V.plainTop_bulk {x : V} (h : x.bulk ≤ 1048576) : x.plainTop.bulk ≤ 1048576 := by
  unfold V.plainTop
  split
  · split
    · exact V.ok_bulk (by assumption)
    · exact h
  · exact h
end Go.Proofs.YtkeieeogkeonfaaDoor
