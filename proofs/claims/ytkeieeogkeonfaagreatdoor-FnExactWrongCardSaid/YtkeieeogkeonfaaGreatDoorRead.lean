/- From the claim's own reading of an argument to the reading that the walks use. No program in sight. -/
import Derived.Test.YtkeieeogkeonfaaGreatDoorData
import Derived.ProofKit
namespace Go.Proofs.YtkeieeogkeonfaaGreatDoor
open Go.RowKit

theorem RepCs.append {S : Nat → Prop} {w : World} : ∀ {ds es : List D} {c1 c2 : List Value}, RepCs S w ds c1 → RepCs S w es c2 → RepCs S w (ds ++ es) (c1 ++ c2)
  | [], es, c1, c2, h, k => by simp only [RepCs] at h; subst h; exact k
  | d :: ds, es, c1, c2, h, k => by
    simp only [RepCs] at h; obtain ⟨e1, e2, rfl, hl, h1, h2⟩ := h
    simp only [List.cons_append, RepCs]
    exact ⟨e1, e2 ++ c2, by simp, hl, h1, RepCs.append h2 k⟩
theorem RepCs.one {S : Nat → Prop} {w : World} {d : D} {c : List Value} (h : RepC S w d c) : RepCs S w [d] c := by
  simp only [RepCs]; exact ⟨c, [], by simp, h.len, h, rfl⟩

section
variable {H : Type} {enc : TypeId × Value → H} {P : Program} {w : World} {base : Nat} {spare : Nat → Bool} {held : Bool}

/-- a slice, its elements' reading given -/
theorem trod_sl {α : Type} {t e : TypeId} {n0 : Nat} {f : α → D} {ok : α → Prop} (ht : P.underlying t = some (.slice e)) (hc : P.cellsOf e = n0) (hn : 0 < n0) (hw : ∀ x, D.width (f x) = n0)
    {fuel : Nat} (helem : ∀ n cs y, n < fuel → DataW.trod enc P w base spare held n e cs = some y → ∃ x : α, Rd w (f x) cs ∧ ok x)
    {cs : List Value} {y : DataW H × List MemPlace} (h : DataW.trod enc P w base spare held fuel t cs = some y) :
    ∃ (xs : List α) (v : Value), cs = [v] ∧ Rd w (.sl n0 (xs.map f)) [v] ∧ (∀ x ∈ xs, ok x) ∧ xs.length ≤ maxLen := by
  rcases DataW.trod_slice ht h with ⟨rfl, _⟩ | ⟨a, len, cap, elems, rest, n, hfu, rfl, _, _, hl, hm, hlen, hel, _, _⟩
  · exact ⟨[], _, rfl, by simp [Rd, RepC], by simp, by simp⟩
  · have key : ∀ k, k ≤ len → ∃ (xs : List α) (flat : List Value), xs.length = k ∧ flat.length = n0 * k ∧ RepCs (· < w.heap.size) w (xs.map f) flat ∧ (∀ x ∈ xs, ok x) ∧ ∀ (j : Nat) u, flat[j]? = some u → w.cell? (a.add j) = some u := by
      intro k
      induction k with
      | zero => intro _; exact ⟨[], [], rfl, rfl, by simp [RepCs], by simp, by simp⟩
      | succ k ih =>
        intro hk
        obtain ⟨xs, flat, h1, h2, h3, h4, h5⟩ := ih (by omega)
        have hek := hel k (by omega)
        rw [List.getElem?_eq_getElem (by omega)] at hek
        cases hcs : w.cells? base (a.add (k * P.cellsOf e)) (P.cellsOf e) with
        | none => rw [hcs] at hek; simp at hek
        | some cs' =>
          rw [hcs, Option.bind_some] at hek
          obtain ⟨x, hx1, hx2⟩ := helem n _ _ (by omega) hek
          obtain ⟨_, hcl, hcc⟩ := World.cells?_some hcs
          refine ⟨xs ++ [x], flat ++ cs', by simp [h1], by rw [List.length_append, h2, hcl, hc, Nat.mul_succ], ?_, ?_, ?_⟩
          · rw [List.map_append]; exact RepCs.append h3 (RepCs.one hx1)
          · intro z hz; rcases List.mem_append.1 hz with hz | hz
            · exact h4 z hz
            · simp at hz; subst hz; exact hx2
          · intro j u hj
            by_cases hjl : j < flat.length
            · rw [List.getElem?_append_left hjl] at hj; exact h5 j u hj
            · rw [List.getElem?_append_right (by omega)] at hj
              have hjn : j - flat.length < cs'.length := by
                rcases Nat.lt_or_ge (j - flat.length) cs'.length with h | h
                · exact h
                · simp [List.getElem?_eq_none h] at hj
              have := hcc (j - flat.length) (by omega)
              rw [Addr.add_add, hc, h2, Nat.mul_comm k n0, show n0 * k + (j - n0 * k) = j by omega] at this
              rw [this, ← h2]; exact hj
    obtain ⟨xs, flat, h1, h2, h3, h4, h5⟩ := key len (Nat.le_refl _)
    refine ⟨xs, _, rfl, ?_, h4, by omega⟩
    simp only [Rd, RepC]
    refine ⟨some a, cap, by simp [h1], fun hne => ?_⟩
    have hpos : 0 < len := by
      rcases Nat.eq_zero_or_pos len with h0 | h0
      · exfalso; apply hne; rw [List.map_eq_nil_iff, ← List.length_eq_zero_iff]; omega
      · exact h0
    have hfl : 0 < flat.length := by rw [h2]; exact Nat.mul_pos hn hpos
    have hc0 := h5 0 flat[0] (by simp)
    have hsp : a.spot = none := by
      have := World.cell?_spot hc0
      simpa [Addr.add] using this
    obtain ⟨b, o, s⟩ := a
    simp only at hsp
    subst hsp
    have hb : b < w.heap.size := by
      rw [add_plain] at hc0
      by_cases hlt : b < w.heap.size
      · exact hlt
      · simp [World.cell?, Array.getElem?_eq_none (Nat.not_lt.1 hlt)] at hc0
    refine ⟨hn, by simpa [h1] using hl, hm, b, o, flat, rfl, hb, fun j u hj => ?_, ?_, h3⟩
    · have := h5 j u hj; rwa [add_plain] at this
    · intro x hx; rw [List.mem_map] at hx; obtain ⟨z, _, rfl⟩ := hx; exact hw z

theorem trod_i64 {t : TypeId} (ht : P.underlying t = some (.int .i64)) {fuel : Nat} {cs : List Value} {y : DataW H × List MemPlace} (h : DataW.trod enc P w base spare held fuel t cs = some y) : ∃ n, cs = [.int .i64 n] ∧ i64ok n := by
  obtain ⟨n, h1, _, h2⟩ := DataW.trod_int ht h; exact ⟨n, h1, i64ok_wf h2⟩
theorem trod_str {t : TypeId} (ht : P.underlying t = some .string) {fuel : Nat} {cs : List Value} {y : DataW H × List MemPlace} (h : DataW.trod enc P w base spare held fuel t cs = some y) : ∃ l : List UInt8, cs = [.string ⟨l.toArray⟩] ∧ strok l := by
  obtain ⟨s, h1, _, h2⟩ := DataW.trod_string ht h
  exact ⟨s.data.toList, by simpa using h1, h2⟩
theorem trod_strs {t e : TypeId} (ht : P.underlying t = some (.slice e)) (he : P.underlying e = some .string) (hc : P.cellsOf e = 1)
    {fuel : Nat} {cs : List Value} {y : DataW H × List MemPlace} (h : DataW.trod enc P w base spare held fuel t cs = some y) : ∃ (ls : List (List UInt8)) (v : Value), cs = [v] ∧ Rd w (dSs ls) [v] ∧ (∀ s ∈ ls, strok s) ∧ ls.length ≤ maxLen :=
  trod_sl (f := dS) (ok := strok) ht hc (by decide) (fun _ => rfl) (fun n cs y _ h => by
    obtain ⟨l, rfl, hl⟩ := trod_str he h; exact ⟨l, by simp [Rd, dS, RepC], hl⟩) h
end
end Go.Proofs.YtkeieeogkeonfaaGreatDoor
