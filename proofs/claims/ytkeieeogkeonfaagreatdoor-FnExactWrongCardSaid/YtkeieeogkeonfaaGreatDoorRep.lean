/- How a value in memory represents data: reading (RepC, Rd) and trees of own blocks (TreeC). No program in sight. -/
import Derived.Test.YtkeieeogkeonfaaGreatDoorOwn
namespace Go.Proofs.YtkeieeogkeonfaaGreatDoor
open Go.RowKit

/-- data: a value of one cell; a struct; a slice of elements of n cells each -/
inductive D where
  | one (v : Value)
  | agg (fs : List D)
  | sl (n : Nat) (es : List D)

mutual
/-- how many cells the data takes -/
def D.width : D → Nat
  | .one _ => 1
  | .agg fs => D.widths fs
  | .sl _ _ => 1
def D.widths : List D → Nat
  | [] => 0
  | d :: ds => D.width d + D.widths ds
end

mutual
/-- the cells 'cs' represent the data in world w; every block that is read meets S -/
def RepC (S : Nat → Prop) (w : World) : D → List Value → Prop
  | .one v, cs => cs = [v]
  | .agg fs, cs => RepCs S w fs cs
  | .sl n es, cs => ∃ a c, cs = [.slice a es.length c] ∧ (es ≠ [] → 0 < n ∧ es.length ≤ c ∧ c ≤ maxLen ∧ ∃ b o xs, a = some ⟨b, o, none⟩ ∧ S b ∧
      (∀ j u, xs[j]? = some u → w.cell? ⟨b, o + j, none⟩ = some u) ∧ (∀ e ∈ es, D.width e = n) ∧ RepCs S w es xs)
def RepCs (S : Nat → Prop) (w : World) : List D → List Value → Prop
  | [], cs => cs = []
  | d :: ds, cs => ∃ c1 c2, cs = c1 ++ c2 ∧ c1.length = D.width d ∧ RepC S w d c1 ∧ RepCs S w ds c2
end

mutual
theorem RepC.len {S : Nat → Prop} {w : World} : ∀ {d : D} {cs : List Value}, RepC S w d cs → cs.length = D.width d
  | .one v, cs, h => by simp only [RepC] at h; subst h; rfl
  | .agg fs, cs, h => by simp only [RepC] at h; simp only [D.width]; exact RepCs.len h
  | .sl n es, cs, h => by simp only [RepC] at h; obtain ⟨a, c, rfl, _⟩ := h; rfl
theorem RepCs.len {S : Nat → Prop} {w : World} : ∀ {ds : List D} {cs : List Value}, RepCs S w ds cs → cs.length = D.widths ds
  | [], cs, h => by simp only [RepCs] at h; subst h; rfl
  | d :: ds, cs, h => by
    simp only [RepCs] at h; obtain ⟨c1, c2, rfl, h1, _, h2⟩ := h
    simp only [D.widths, List.length_append, h1, RepCs.len h2]
end

/-- blocks alone matter -/
def SameOn (S : Nat → Prop) (w w' : World) : Prop := ∀ b, S b → w'.heap[b]? = w.heap[b]?
theorem SameOn.cell {S : Nat → Prop} {w w' : World} (h : SameOn S w w') {b o : Nat} (hb : S b) : w'.cell? ⟨b, o, none⟩ = w.cell? ⟨b, o, none⟩ :=
  World.cell?_of_block (a := ⟨b, o, none⟩) (h b hb)

mutual
theorem RepC.frame {S : Nat → Prop} {w w' : World} (hs : SameOn S w w') : ∀ {d : D} {cs : List Value}, RepC S w d cs → RepC S w' d cs
  | .one v, cs, h => by simp only [RepC] at h ⊢; exact h
  | .agg fs, cs, h => by simp only [RepC] at h ⊢; exact RepCs.frame hs h
  | .sl n es, cs, h => by
    simp only [RepC] at h ⊢; obtain ⟨a, c, hc, h⟩ := h
    refine ⟨a, c, hc, fun hne => ?_⟩
    obtain ⟨hn, h1, h2, b, o, xs, ha, hb, hx, hw, hr⟩ := h hne
    exact ⟨hn, h1, h2, b, o, xs, ha, hb, fun j u hj => by rw [hs.cell hb]; exact hx j u hj, hw, RepCs.frame hs hr⟩
theorem RepCs.frame {S : Nat → Prop} {w w' : World} (hs : SameOn S w w') : ∀ {ds : List D} {cs : List Value}, RepCs S w ds cs → RepCs S w' ds cs
  | [], cs, h => by simp only [RepCs] at h ⊢; exact h
  | d :: ds, cs, h => by
    simp only [RepCs] at h ⊢; obtain ⟨c1, c2, hc, h1, h2, h3⟩ := h
    exact ⟨c1, c2, hc, h1, RepC.frame hs h2, RepCs.frame hs h3⟩
end
mutual
theorem RepC.mono {S T : Nat → Prop} {w : World} (hs : ∀ b, b < w.heap.size → S b → T b) : ∀ {d : D} {cs : List Value}, RepC S w d cs → RepC T w d cs
  | .one v, cs, h => by simp only [RepC] at h ⊢; exact h
  | .agg fs, cs, h => by simp only [RepC] at h ⊢; exact RepCs.mono hs h
  | .sl n es, cs, h => by
    simp only [RepC] at h ⊢; obtain ⟨a, c, hc, h⟩ := h
    refine ⟨a, c, hc, fun hne => ?_⟩
    obtain ⟨hn, h1, h2, b, o, xs, ha, hb, hx, hw, hr⟩ := h hne
    refine ⟨hn, h1, h2, b, o, xs, ha, hs b ?_ hb, hx, hw, RepCs.mono hs hr⟩
    have hl := RepCs.len hr
    match es, hne, hw, hl with
    | e :: es, _, hw, hl =>
      simp only [D.widths, hw e (by simp)] at hl
      have := hx 0 (xs[0]'(by omega)) (by simp)
      by_cases hlt : b < w.heap.size
      · exact hlt
      · simp [World.cell?, Array.getElem?_eq_none (Nat.not_lt.1 hlt)] at this
theorem RepCs.mono {S T : Nat → Prop} {w : World} (hs : ∀ b, b < w.heap.size → S b → T b) : ∀ {ds : List D} {cs : List Value}, RepCs S w ds cs → RepCs T w ds cs
  | [], cs, h => by simp only [RepCs] at h ⊢; exact h
  | d :: ds, cs, h => by
    simp only [RepCs] at h ⊢; obtain ⟨c1, c2, hc, h1, h2, h3⟩ := h
    exact ⟨c1, c2, hc, h1, RepC.mono hs h2, RepCs.mono hs h3⟩
end

/-- element i of a row of elements of n cells -/
theorem RepCs.get {S : Nat → Prop} {w : World} {n : Nat} : ∀ {ds : List D} {cs : List Value}, RepCs S w ds cs → (∀ e ∈ ds, D.width e = n) → ∀ i (hi : i < ds.length),
    ∃ c, c.length = n ∧ RepC S w ds[i] c ∧ ∀ j, j < n → cs[n * i + j]? = c[j]?
  | [], cs, h, hw, i, hi => by simp at hi
  | d :: ds, cs, h, hw, i, hi => by
    simp only [RepCs] at h; obtain ⟨c1, c2, rfl, h1, h2, h3⟩ := h
    have hd := hw d (by simp)
    match i with
    | 0 => exact ⟨c1, by omega, h2, fun j hj => by simp; rw [List.getElem?_append_left (by omega)]⟩
    | i + 1 =>
      obtain ⟨c, hc1, hc2, hc3⟩ := RepCs.get h3 (fun e he => hw e (by simp [he])) i (by simpa using hi)
      refine ⟨c, hc1, by simpa using hc2, fun j hj => ?_⟩
      rw [← hc3 j hj, List.getElem?_append_right (by rw [h1, hd, Nat.mul_succ]; omega)]
      congr 1; rw [h1, hd, Nat.mul_succ]; omega

/-- read as data, below the heap's end -/
def Rd (w : World) (d : D) (cs : List Value) : Prop := RepC (· < w.heap.size) w d cs
theorem Rd.of {S : Nat → Prop} {w : World} {d : D} {cs : List Value} (h : RepC S w d cs) : Rd w d cs := RepC.mono (fun _ hb _ => hb) h
theorem Rd.below {w w' : World} {d : D} {cs : List Value} (h : Rd w d cs) (hb : Below w.heap.size w w') : Rd w' d cs :=
  Rd.of (RepC.frame (fun b hlt => hb.block b hlt) h)
theorem Rd.alloc {w : World} {d : D} {cs : List Value} (h : Rd w d cs) (o : Obj) : Rd (w.alloc o) d cs := h.below ((Below.refl _ _).alloc (Nat.le_refl _) o)
theorem Rd.drew {w : World} {d : D} {cs : List Value} (h : Rd w d cs) : Rd w.drew d cs := h.below ((Below.refl _ _).drew)

/-- what a slice that reads as data is -/
theorem Rd.slice {w : World} {n : Nat} {es : List D} {v : Value} (h : Rd w (.sl n es) [v]) :
    ∃ a c, v = .slice a es.length c ∧ (es ≠ [] → 0 < n ∧ es.length ≤ c ∧ c ≤ maxLen ∧ ∃ b o, a = some ⟨b, o, none⟩ ∧ b < w.heap.size ∧
      ∀ i (hi : i < es.length), ∃ cs, cs.length = n ∧ Rd w es[i] cs ∧ ∀ j u, cs[j]? = some u → w.cell? ⟨b, o + (n * i + j), none⟩ = some u) := by
  simp only [Rd, RepC] at h
  obtain ⟨a, c, hv, h⟩ := h
  simp only [List.cons.injEq, and_true] at hv
  refine ⟨a, c, hv, fun hne => ?_⟩
  obtain ⟨hn, h1, h2, b, o, xs, ha, hb, hx, hw, hr⟩ := h hne
  refine ⟨hn, h1, h2, b, o, ha, hb, fun i hi => ?_⟩
  obtain ⟨cs, hc1, hc2, hc3⟩ := hr.get hw i hi
  refine ⟨cs, hc1, hc2, fun j u hj => hx _ _ ?_⟩
  have : j < cs.length := by
    rcases Nat.lt_or_ge j cs.length with h | h
    · exact h
    · simp [List.getElem?_eq_none h] at hj
  rw [hc3 j (by omega)]; exact hj

/-- data of integers, strings, bools -/
def dI (n : Int) : D := .one (.int .i64 n)
def dS (l : List UInt8) : D := .one (.string ⟨l.toArray⟩)
def dB (b : Bool) : D := .one (.bool b)
def dSs (ls : List (List UInt8)) : D := .sl 1 (ls.map dS)
def dIs (ns : List Int) : D := .sl 1 (ns.map dI)
end Go.Proofs.YtkeieeogkeonfaaGreatDoor
