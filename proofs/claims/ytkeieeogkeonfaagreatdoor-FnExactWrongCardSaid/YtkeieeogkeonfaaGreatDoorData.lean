/- The program's data: values and shapes; their sizes. No program in sight. -/
import Derived.Test.YtkeieeogkeonfaaGreatDoorRep
namespace Go.Proofs.YtkeieeogkeonfaaGreatDoor
open Go.RowKit

inductive V where
  | mk (kind n e : Int) (s : List UInt8) (kids : List V)
inductive Sh where
  | mk (kind low high : Int) (keys : List (List UInt8)) (must : Int) (kids : List Sh)

mutual
def V.d : V → D
  | .mk k n e s kids => .agg [dI k, dI n, dI e, dS s, .sl 5 (V.ds kids)]
def V.ds : List V → List D
  | [] => []
  | v :: vs => V.d v :: V.ds vs
end
mutual
def Sh.d : Sh → D
  | .mk k l h ks m kids => .agg [dI k, dI l, dI h, dSs ks, dI m, .sl 6 (Sh.ds kids)]
def Sh.ds : List Sh → List D
  | [] => []
  | v :: vs => Sh.d v :: Sh.ds vs
end
theorem V.ds_map : ∀ vs : List V, V.ds vs = vs.map V.d
  | [] => rfl
  | v :: vs => by simp [V.ds, V.ds_map vs]
theorem Sh.ds_map : ∀ vs : List Sh, Sh.ds vs = vs.map Sh.d
  | [] => rfl
  | v :: vs => by simp [Sh.ds, Sh.ds_map vs]
theorem V.width (v : V) : D.width (V.d v) = 5 := by cases v; simp [V.d, D.width, D.widths, dI, dS]
theorem Sh.width (v : Sh) : D.width (Sh.d v) = 6 := by cases v; simp [Sh.d, D.width, D.widths, dI, dSs]

mutual
def V.bulk : V → Nat
  | .mk _ _ _ s kids => s.length + (kids.length + V.bulks kids)
def V.bulks : List V → Nat
  | [] => 0
  | v :: vs => V.bulk v + V.bulks vs
end
def ssBulk : List (List UInt8) → Nat
  | [] => 0
  | l :: ls => l.length + ssBulk ls
mutual
def Sh.bulk : Sh → Nat
  | .mk _ _ _ ks _ kids => (ks.length + ssBulk ks) + (kids.length + Sh.bulks kids)
def Sh.bulks : List Sh → Nat
  | [] => 0
  | v :: vs => Sh.bulk v + Sh.bulks vs
end
mutual
def V.nodes : V → Nat
  | .mk _ _ _ _ kids => 1 + V.nodess kids
def V.nodess : List V → Nat
  | [] => 0
  | v :: vs => V.nodes v + V.nodess vs
end
mutual
def Sh.nodes : Sh → Nat
  | .mk _ _ _ _ _ kids => 1 + Sh.nodess kids
def Sh.nodess : List Sh → Nat
  | [] => 0
  | v :: vs => Sh.nodes v + Sh.nodess vs
end
theorem Sh.nodes_get : ∀ (vs : List Sh) i (h : i < vs.length), Sh.nodes vs[i] ≤ Sh.nodess vs
  | v :: vs, 0, _ => by simp [Sh.nodess]
  | v :: vs, i + 1, hi => by have := Sh.nodes_get vs i (by simpa using hi); simp only [Sh.nodess, List.getElem_cons_succ]; omega
theorem V.nodes_get : ∀ (vs : List V) i (h : i < vs.length), V.nodes vs[i] ≤ V.nodess vs
  | v :: vs, 0, _ => by simp [V.nodess]
  | v :: vs, i + 1, hi => by have := V.nodes_get vs i (by simpa using hi); simp only [V.nodess, List.getElem_cons_succ]; omega
theorem Sh.nodes_pos : ∀ v : Sh, 1 ≤ Sh.nodes v
  | .mk .. => by simp [Sh.nodes]
theorem V.nodes_pos : ∀ v : V, 1 ≤ V.nodes v
  | .mk .. => by simp [V.nodes]
theorem Sh.bulks_snoc : ∀ (ls : List Sh) (k : Nat) (h : k < ls.length), Sh.bulks (ls.take (k + 1)) = Sh.bulks (ls.take k) + Sh.bulk ls[k]
  | l :: ls, 0, _ => by simp [Sh.bulks]
  | l :: ls, k + 1, h => by simp only [List.take_succ_cons, Sh.bulks, List.getElem_cons_succ]; rw [Sh.bulks_snoc ls k (by simpa using h)]; omega
theorem V.bulks_snoc : ∀ (ls : List V) (k : Nat) (h : k < ls.length), V.bulks (ls.take (k + 1)) = V.bulks (ls.take k) + V.bulk ls[k]
  | l :: ls, 0, _ => by simp [V.bulks]
  | l :: ls, k + 1, h => by simp only [List.take_succ_cons, V.bulks, List.getElem_cons_succ]; rw [V.bulks_snoc ls k (by simpa using h)]; omega
theorem ssBulk_snoc : ∀ (ls : List (List UInt8)) (k : Nat) (h : k < ls.length), ssBulk (ls.take (k + 1)) = ssBulk (ls.take k) + ls[k].length
  | l :: ls, 0, _ => by simp [ssBulk]
  | l :: ls, k + 1, h => by simp only [List.take_succ_cons, ssBulk, List.getElem_cons_succ]; rw [ssBulk_snoc ls k (by simpa using h)]; omega
theorem Sh.bulks_take : ∀ (ls : List Sh) (k : Nat), Sh.bulks (ls.take k) ≤ Sh.bulks ls
  | [], k => by simp [Sh.bulks]
  | l :: ls, 0 => by simp [Sh.bulks]
  | l :: ls, k + 1 => by have := Sh.bulks_take ls k; simp only [List.take_succ_cons, Sh.bulks]; omega
theorem V.bulks_take : ∀ (ls : List V) (k : Nat), V.bulks (ls.take k) ≤ V.bulks ls
  | [], k => by simp [V.bulks]
  | l :: ls, 0 => by simp [V.bulks]
  | l :: ls, k + 1 => by have := V.bulks_take ls k; simp only [List.take_succ_cons, V.bulks]; omega
theorem ssBulk_take : ∀ (ls : List (List UInt8)) (k : Nat), ssBulk (ls.take k) ≤ ssBulk ls
  | [], k => by simp [ssBulk]
  | l :: ls, 0 => by simp [ssBulk]
  | l :: ls, k + 1 => by have := ssBulk_take ls k; simp only [List.take_succ_cons, ssBulk]; omega
theorem take_map_snoc {α : Type} (f : α → D) (ls : List α) (k : Nat) (h : k < ls.length) : (ls.take (k + 1)).map f = (ls.take k).map f ++ [f ls[k]] := by
  rw [List.take_succ_eq_append_getElem h, List.map_append]; rfl
mutual
def V.wf : V → Prop
  | .mk k n e s kids => i64ok k ∧ i64ok n ∧ i64ok e ∧ strok s ∧ kids.length ≤ 9223372036854775807 ∧ V.wfs kids
def V.wfs : List V → Prop
  | [] => True
  | v :: vs => V.wf v ∧ V.wfs vs
end
mutual
def Sh.wf : Sh → Prop
  | .mk k l h ks m kids => i64ok k ∧ i64ok l ∧ i64ok h ∧ (ks.length ≤ 9223372036854775807 ∧ ∀ s ∈ ks, strok s) ∧ i64ok m ∧ kids.length ≤ 9223372036854775807 ∧ Sh.wfs kids
def Sh.wfs : List Sh → Prop
  | [] => True
  | v :: vs => Sh.wf v ∧ Sh.wfs vs
end
theorem Sh.wfs_get : ∀ {vs : List Sh}, Sh.wfs vs → ∀ i (h : i < vs.length), Sh.wf vs[i]
  | v :: vs, h, 0, _ => h.1
  | v :: vs, h, i + 1, hi => by simpa using Sh.wfs_get h.2 i (by simpa using hi)
theorem V.wfs_get : ∀ {vs : List V}, V.wfs vs → ∀ i (h : i < vs.length), V.wf vs[i]
  | v :: vs, h, 0, _ => h.1
  | v :: vs, h, i + 1, hi => by simpa using V.wfs_get h.2 i (by simpa using hi)

/-- what is left of a purse of n when t is taken; -1 if that is too much -/
def take' (t : Nat) (left : Int) : Int := if left < t then -1 else left - t
theorem take'_lt {t : Nat} {left : Int} : take' t left < 0 ↔ left < t ∨ left < 0 := by
  unfold take'; split <;> omega
theorem take'_no {t : Nat} {left : Int} (h : left < t) : take' t left = -1 := by unfold take'; rw [if_pos h]
theorem take'_yes {t : Nat} {left : Int} (h : (t : Int) ≤ left) : take' t left = left - t := by unfold take'; rw [if_neg (by omega)]
theorem take'_add {a b : Nat} {left : Int} (h : ¬ left < a) : take' b (left - a) = take' (a + b) left := by
  unfold take'; split <;> split <;> omega

/-- one level of a shape that is read as data -/
theorem Sh.lay {w : World} {sh : Sh} {cs : List Value} (h : Rd w sh.d cs) : ∃ k l hi ks m kids v1 v2, sh = .mk k l hi ks m kids ∧ cs = [.int .i64 k, .int .i64 l, .int .i64 hi, v1, .int .i64 m, v2] ∧
    Rd w (dSs ks) [v1] ∧ Rd w (.sl 6 (Sh.ds kids)) [v2] := by
  obtain ⟨k, l, hi, ks, m, kids⟩ := sh
  simp only [Rd, Sh.d, RepC, RepCs, dI, dSs, D.width] at h
  obtain ⟨c1, r1, rfl, _, rfl, c2, r2, rfl, _, rfl, c3, r3, rfl, _, rfl, c4, r4, rfl, _, ⟨a4, n4, rfl, h4⟩, c5, r5, rfl, _, rfl, c6, r6, rfl, _, ⟨a6, n6, rfl, h6⟩, rfl⟩ := h
  refine ⟨k, l, hi, ks, m, kids, _, _, rfl, rfl, ?_, ?_⟩
  · simp only [Rd, dSs, RepC]; exact ⟨a4, n4, rfl, h4⟩
  · simp only [Rd, RepC]; exact ⟨a6, n6, rfl, h6⟩
theorem V.lay {w : World} {v : V} {cs : List Value} (h : Rd w v.d cs) : ∃ k n e s kids v1, v = .mk k n e s kids ∧ cs = [.int .i64 k, .int .i64 n, .int .i64 e, .string ⟨s.toArray⟩, v1] ∧ Rd w (.sl 5 (V.ds kids)) [v1] := by
  obtain ⟨k, n, e, s, kids⟩ := v
  simp only [Rd, V.d, RepC, RepCs, dI, dS, D.width] at h
  obtain ⟨c1, r1, rfl, _, rfl, c2, r2, rfl, _, rfl, c3, r3, rfl, _, rfl, c4, r4, rfl, _, rfl, c5, r5, rfl, _, ⟨a5, n5, rfl, h5⟩, rfl⟩ := h
  refine ⟨k, n, e, s, kids, _, rfl, rfl, ?_⟩
  simp only [Rd, RepC]; exact ⟨a5, n5, rfl, h5⟩

/-- a slice of strings, read: its shape and its cells -/
theorem Rd.strs {w : World} {ls : List (List UInt8)} {v : Value} (h : Rd w (dSs ls) [v]) :
    ∃ a c, v = .slice a ls.length c ∧ (ls ≠ [] → ls.length ≤ c ∧ c ≤ maxLen ∧ ∃ b o, a = some ⟨b, o, none⟩ ∧ b < w.heap.size ∧ ∀ i (hi : i < ls.length), w.cell? ⟨b, o + i, none⟩ = some (.string ⟨ls[i].toArray⟩)) := by
  obtain ⟨a, c, hv, h⟩ := Rd.slice h
  rw [List.length_map] at hv
  refine ⟨a, c, hv, fun hne => ?_⟩
  obtain ⟨_, h1, h2, b, o, ha, hb, hg⟩ := h (by simpa using hne)
  refine ⟨by simpa using h1, h2, b, o, ha, hb, fun i hi => ?_⟩
  obtain ⟨cs, _, hr, hc⟩ := hg i (by simpa using hi)
  simp only [List.getElem_map, dS, Rd, RepC] at hr
  subst hr
  have := hc 0 _ rfl
  simpa using this
/-- a slice of shapes, read -/
theorem Rd.shapes {w : World} {ls : List Sh} {v : Value} (h : Rd w (.sl 6 (Sh.ds ls)) [v]) :
    ∃ a c, v = .slice a ls.length c ∧ (ls ≠ [] → ls.length ≤ c ∧ c ≤ maxLen ∧ ∃ b o, a = some ⟨b, o, none⟩ ∧ b < w.heap.size ∧ ∀ i (hi : i < ls.length), ∃ v0 v1 v2 v3 v4 v5, Rd w ls[i].d [v0, v1, v2, v3, v4, v5] ∧
      w.cell? ⟨b, o + i * 6, none⟩ = some v0 ∧ w.cell? ⟨b, o + i * 6 + 1, none⟩ = some v1 ∧ w.cell? ⟨b, o + i * 6 + 2, none⟩ = some v2 ∧ w.cell? ⟨b, o + i * 6 + 3, none⟩ = some v3 ∧ w.cell? ⟨b, o + i * 6 + 4, none⟩ = some v4 ∧ w.cell? ⟨b, o + i * 6 + 5, none⟩ = some v5) := by
  rw [Sh.ds_map] at h
  obtain ⟨a, c, hv, h⟩ := Rd.slice h
  rw [List.length_map] at hv
  refine ⟨a, c, hv, fun hne => ?_⟩
  obtain ⟨_, h1, h2, b, o, ha, hb, hg⟩ := h (by simpa using hne)
  refine ⟨by simpa using h1, h2, b, o, ha, hb, fun i hi => ?_⟩
  obtain ⟨cs, hl, hr, hc⟩ := hg i (by simpa using hi)
  rw [List.getElem_map] at hr
  match cs, hl with
  | [v0, v1, v2, v3, v4, v5], _ =>
    rw [Nat.mul_comm 6 i] at hc
    exact ⟨v0, v1, v2, v3, v4, v5, hr, hc 0 _ rfl, hc 1 _ rfl, hc 2 _ rfl, hc 3 _ rfl, hc 4 _ rfl, hc 5 _ rfl⟩
/-- a slice of values, read -/
theorem Rd.values {w : World} {ls : List V} {v : Value} (h : Rd w (.sl 5 (V.ds ls)) [v]) :
    ∃ a c, v = .slice a ls.length c ∧ (ls ≠ [] → ls.length ≤ c ∧ c ≤ maxLen ∧ ∃ b o, a = some ⟨b, o, none⟩ ∧ b < w.heap.size ∧ ∀ i (hi : i < ls.length), ∃ v0 v1 v2 v3 v4, Rd w ls[i].d [v0, v1, v2, v3, v4] ∧
      w.cell? ⟨b, o + i * 5, none⟩ = some v0 ∧ w.cell? ⟨b, o + i * 5 + 1, none⟩ = some v1 ∧ w.cell? ⟨b, o + i * 5 + 2, none⟩ = some v2 ∧ w.cell? ⟨b, o + i * 5 + 3, none⟩ = some v3 ∧ w.cell? ⟨b, o + i * 5 + 4, none⟩ = some v4) := by
  rw [V.ds_map] at h
  obtain ⟨a, c, hv, h⟩ := Rd.slice h
  rw [List.length_map] at hv
  refine ⟨a, c, hv, fun hne => ?_⟩
  obtain ⟨_, h1, h2, b, o, ha, hb, hg⟩ := h (by simpa using hne)
  refine ⟨by simpa using h1, h2, b, o, ha, hb, fun i hi => ?_⟩
  obtain ⟨cs, hl, hr, hc⟩ := hg i (by simpa using hi)
  rw [List.getElem_map] at hr
  match cs, hl with
  | [v0, v1, v2, v3, v4], _ =>
    rw [Nat.mul_comm 5 i] at hc
    exact ⟨v0, v1, v2, v3, v4, hr, hc 0 _ rfl, hc 1 _ rfl, hc 2 _ rfl, hc 3 _ rfl, hc 4 _ rfl⟩
/-- a slice's value is a slice -/
theorem Rd.sl_form {w : World} {n : Nat} {es : List D} {v : Value} (h : Rd w (.sl n es) [v]) : ∃ a c, v = .slice a es.length c := by
  obtain ⟨a, c, h, _⟩ := Rd.slice h; exact ⟨a, c, h⟩
theorem Rd.sl_any {w : World} {n : Nat} {es : List D} {v : Value} (h : Rd w (.sl n es) [v]) : ∃ a l c, v = .slice a l c := by
  obtain ⟨a, c, h, _⟩ := Rd.slice h; exact ⟨a, _, c, h⟩
theorem Sh.form {w : World} {sh : Sh} {cs : List Value} (h : Rd w sh.d cs) : ∃ k l hi a1 n1 c1 m a2 n2 c2, cs = [.int .i64 k, .int .i64 l, .int .i64 hi, .slice a1 n1 c1, .int .i64 m, .slice a2 n2 c2] := by
  obtain ⟨k, l, hi, ks, m, kids, v1, v2, rfl, rfl, h1, h2⟩ := Sh.lay h
  obtain ⟨a1, c1, rfl⟩ := Rd.sl_form h1
  obtain ⟨a2, c2, rfl⟩ := Rd.sl_form h2
  exact ⟨k, l, hi, a1, _, c1, m, a2, _, c2, rfl⟩
theorem V.form {w : World} {v : V} {cs : List Value} (h : Rd w v.d cs) : ∃ k n e s a1 n1 c1, cs = [.int .i64 k, .int .i64 n, .int .i64 e, .string ⟨(s : List UInt8).toArray⟩, .slice a1 n1 c1] := by
  obtain ⟨k, n, e, s, kids, v1, rfl, rfl, h1⟩ := V.lay h
  obtain ⟨a1, c1, rfl⟩ := Rd.sl_form h1
  exact ⟨k, n, e, s, a1, _, c1, rfl⟩

mutual
def Sh.same : Sh → Sh → Bool
  | .mk k l h ks m kids, .mk k' l' h' ks' m' kids' => decide (k = k') && (decide (l = l') && (decide (h = h') && (decide (ks = ks') && (decide (m = m') && Sh.sames kids kids'))))
def Sh.sames : List Sh → List Sh → Bool
  | [], [] => true
  | a :: as, b :: bs => Sh.same a b && Sh.sames as bs
  | _, _ => false
end
mutual
def V.same : V → V → Bool
  | .mk k n e s kids, .mk k' n' e' s' kids' => decide (k = k') && (decide (n = n') && (decide (e = e') && (decide (s = s') && V.sames kids kids')))
def V.sames : List V → List V → Bool
  | [], [] => true
  | a :: as, b :: bs => V.same a b && V.sames as bs
  | _, _ => false
end
mutual
theorem Sh.same_iff : ∀ a b : Sh, Sh.same a b = true ↔ a = b
  | .mk k l h ks m kids, .mk k' l' h' ks' m' kids' => by simp [Sh.same, Sh.sames_iff kids kids']
theorem Sh.sames_iff : ∀ a b : List Sh, Sh.sames a b = true ↔ a = b
  | [], [] => by simp [Sh.sames]
  | a :: as, b :: bs => by simp [Sh.sames, Sh.same_iff a b, Sh.sames_iff as bs]
  | [], b :: bs => by simp [Sh.sames]
  | a :: as, [] => by simp [Sh.sames]
end
mutual
theorem V.same_iff : ∀ a b : V, V.same a b = true ↔ a = b
  | .mk k l h ks kids, .mk k' l' h' ks' kids' => by simp [V.same, V.sames_iff kids kids']
theorem V.sames_iff : ∀ a b : List V, V.sames a b = true ↔ a = b
  | [], [] => by simp [V.sames]
  | a :: as, b :: bs => by simp [V.sames, V.same_iff a b, V.sames_iff as bs]
  | [], b :: bs => by simp [V.sames]
  | a :: as, [] => by simp [V.sames]
end
instance : DecidableEq Sh := fun a b => decidable_of_iff _ (Sh.same_iff a b)
instance : DecidableEq V := fun a b => decidable_of_iff _ (V.same_iff a b)
/-- a prefix that agrees, one longer -/
theorem take_eq_snoc {α : Type} {a b : List α} {k : Nat} (h : a.take k = b.take k) (ha : k < a.length) (hb : k < b.length) (e : a[k] = b[k]) : a.take (k + 1) = b.take (k + 1) := by
  rw [List.take_succ_eq_append_getElem ha, List.take_succ_eq_append_getElem hb, h, e]
theorem ne_of_get {α : Type} {a b : List α} {k : Nat} (ha : k < a.length) (hb : k < b.length) (e : a[k] ≠ b[k]) : a ≠ b := by
  intro h; subst h; exact e rfl
end Go.Proofs.YtkeieeogkeonfaaGreatDoor
