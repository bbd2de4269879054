/- Trees of own blocks: every slice lies at the head of a block of its own. No program in sight. -/
import Derived.Test.YtkeieeogkeonfaaGreatDoorRep
namespace Go.Proofs.YtkeieeogkeonfaaGreatDoor
open Go.RowKit

mutual
/-- the cells 'cs' are the data, and its blocks, one a slice that is not empty, are 'fp' -/
def TreeC (w : World) : D → List Nat → List Value → Prop
  | .one v, fp, cs => fp = [] ∧ cs = [v]
  | .agg fs, fp, cs => TreeCs w fs fp cs
  | .sl n es, fp, cs => ∃ a c, cs = [.slice a es.length c] ∧ ((es = [] ∧ fp = []) ∨
      ∃ b fr cur e, a = some ⟨b, 0, none⟩ ∧ fp = b :: fr ∧ w.heap[b]? = some (.cells cur e (0, 0)) ∧ 0 < n ∧ es.length ≤ c ∧ c ≤ maxLen ∧ (∀ e ∈ es, D.width e = n) ∧ TreeCs w es fr (cur.toList.take (n * es.length)))
def TreeCs (w : World) : List D → List Nat → List Value → Prop
  | [], fp, cs => fp = [] ∧ cs = []
  | d :: ds, fp, cs => ∃ f1 f2 c1 c2, fp = f1 ++ f2 ∧ cs = c1 ++ c2 ∧ c1.length = D.width d ∧ TreeC w d f1 c1 ∧ TreeCs w ds f2 c2
end

theorem heap_lt {w : World} {b : Nat} {o : Obj} (h : w.heap[b]? = some o) : b < w.heap.size := by
  by_cases hlt : b < w.heap.size
  · exact hlt
  · simp [Array.getElem?_eq_none (Nat.not_lt.1 hlt)] at h
theorem cell_of_block {w : World} {b : Nat} {cur : Array Value} {e : TypeId} {fr : Nat × Nat} (h : w.heap[b]? = some (.cells cur e fr)) (j : Nat) : w.cell? ⟨b, j, none⟩ = cur[j]? := by
  simp [World.cell?, h]

mutual
theorem TreeC.lt {w : World} : ∀ {d : D} {fp : List Nat} {cs : List Value}, TreeC w d fp cs → ∀ b ∈ fp, b < w.heap.size
  | .one v, fp, cs, h => by simp only [TreeC] at h; obtain ⟨rfl, _⟩ := h; simp
  | .agg fs, fp, cs, h => by simp only [TreeC] at h; exact TreeCs.lt h
  | .sl n es, fp, cs, h => by
    simp only [TreeC] at h
    obtain ⟨a, c, _, ⟨_, rfl⟩ | ⟨b, fr, cur, e, _, rfl, hb, _, _, _, _, ht⟩⟩ := h
    · simp
    · intro x hx; rcases List.mem_cons.1 hx with rfl | hx
      · exact heap_lt hb
      · exact TreeCs.lt ht x hx
theorem TreeCs.lt {w : World} : ∀ {ds : List D} {fp : List Nat} {cs : List Value}, TreeCs w ds fp cs → ∀ b ∈ fp, b < w.heap.size
  | [], fp, cs, h => by simp only [TreeCs] at h; obtain ⟨rfl, _⟩ := h; simp
  | d :: ds, fp, cs, h => by
    simp only [TreeCs] at h; obtain ⟨f1, f2, c1, c2, rfl, _, _, h1, h2⟩ := h
    intro x hx; rcases List.mem_append.1 hx with hx | hx
    · exact TreeC.lt h1 x hx
    · exact TreeCs.lt h2 x hx
end
mutual
theorem TreeC.frame {w w' : World} : ∀ {d : D} {fp : List Nat} {cs : List Value}, TreeC w d fp cs → SameOn (· ∈ fp) w w' → TreeC w' d fp cs
  | .one v, fp, cs, h, _ => by simp only [TreeC] at h ⊢; exact h
  | .agg fs, fp, cs, h, hs => by simp only [TreeC] at h ⊢; exact TreeCs.frame h hs
  | .sl n es, fp, cs, h, hs => by
    simp only [TreeC] at h ⊢
    obtain ⟨a, c, hc, h | ⟨b, fr, cur, e, ha, rfl, hb, hn, h1, h2, hw, ht⟩⟩ := h
    · exact ⟨a, c, hc, .inl h⟩
    · exact ⟨a, c, hc, .inr ⟨b, fr, cur, e, ha, rfl, by rw [hs b (by simp)]; exact hb, hn, h1, h2, hw, TreeCs.frame ht fun x hx => hs x (by simp [hx])⟩⟩
theorem TreeCs.frame {w w' : World} : ∀ {ds : List D} {fp : List Nat} {cs : List Value}, TreeCs w ds fp cs → SameOn (· ∈ fp) w w' → TreeCs w' ds fp cs
  | [], fp, cs, h, _ => by simp only [TreeCs] at h ⊢; exact h
  | d :: ds, fp, cs, h, hs => by
    simp only [TreeCs] at h ⊢; obtain ⟨f1, f2, c1, c2, rfl, hc, hl, h1, h2⟩ := h
    exact ⟨f1, f2, c1, c2, rfl, hc, hl, TreeC.frame h1 fun x hx => hs x (by simp [hx]), TreeCs.frame h2 fun x hx => hs x (by simp [hx])⟩
end
mutual
theorem TreeC.rep {w : World} : ∀ {d : D} {fp : List Nat} {cs : List Value}, TreeC w d fp cs → RepC (· ∈ fp) w d cs
  | .one v, fp, cs, h => by simp only [TreeC] at h; simp only [RepC]; exact h.2
  | .agg fs, fp, cs, h => by simp only [TreeC] at h; simp only [RepC]; exact TreeCs.rep h
  | .sl n es, fp, cs, h => by
    simp only [TreeC] at h; simp only [RepC]
    obtain ⟨a, c, hc, h | ⟨b, fr, cur, e, ha, rfl, hb, hn, h1, h2, hw, ht⟩⟩ := h
    · exact ⟨a, c, hc, fun hne => absurd h.1 hne⟩
    · refine ⟨a, c, hc, fun _ => ⟨hn, h1, h2, b, 0, _, ha, by simp, fun j u hj => ?_, hw, RepCs.mono (fun x _ hx => by simp [hx]) (TreeCs.rep ht)⟩⟩
      rw [Nat.zero_add, cell_of_block hb]
      rw [List.getElem?_take] at hj
      split at hj
      · simpa using hj
      · cases hj
theorem TreeCs.rep {w : World} : ∀ {ds : List D} {fp : List Nat} {cs : List Value}, TreeCs w ds fp cs → RepCs (· ∈ fp) w ds cs
  | [], fp, cs, h => by simp only [TreeCs] at h; simp only [RepCs]; exact h.2
  | d :: ds, fp, cs, h => by
    simp only [TreeCs] at h; simp only [RepCs]; obtain ⟨f1, f2, c1, c2, rfl, hc, hl, h1, h2⟩ := h
    exact ⟨c1, c2, hc, hl, RepC.mono (fun x _ hx => by simp [hx]) (TreeC.rep h1), RepCs.mono (fun x _ hx => by simp [hx]) (TreeCs.rep h2)⟩
end

/-- own data: a tree of blocks from B on -/
def Own (B : Nat) (w : World) (d : D) (cs : List Value) : Prop := ∃ fp, fp.Nodup ∧ (∀ b ∈ fp, B ≤ b) ∧ TreeC w d fp cs
def Owns (B : Nat) (w : World) (ds : List D) (cs : List Value) : Prop := ∃ fp, fp.Nodup ∧ (∀ b ∈ fp, B ≤ b) ∧ TreeCs w ds fp cs
theorem Own.rd {B : Nat} {w : World} {d : D} {cs : List Value} (h : Own B w d cs) : Rd w d cs := by obtain ⟨fp, _, _, h⟩ := h; exact Rd.of h.rep
theorem Own.mono {B B' : Nat} {w : World} {d : D} {cs : List Value} (h : Own B w d cs) (hB : B' ≤ B) : Own B' w d cs := by
  obtain ⟨fp, h1, h2, h⟩ := h; exact ⟨fp, h1, fun b hb => Nat.le_trans hB (h2 b hb), h⟩
theorem Owns.mono {B B' : Nat} {w : World} {d : List D} {cs : List Value} (h : Owns B w d cs) (hB : B' ≤ B) : Owns B' w d cs := by
  obtain ⟨fp, h1, h2, h⟩ := h; exact ⟨fp, h1, fun b hb => Nat.le_trans hB (h2 b hb), h⟩
theorem Own.below {B : Nat} {w w' : World} {d : D} {cs : List Value} (h : Own B w d cs) (hb : Below w.heap.size w w') : Own B w' d cs := by
  obtain ⟨fp, h1, h2, h⟩ := h; exact ⟨fp, h1, h2, h.frame fun b hx => hb.block b (h.lt b hx)⟩
theorem Owns.below {B : Nat} {w w' : World} {d : List D} {cs : List Value} (h : Owns B w d cs) (hb : Below w.heap.size w w') : Owns B w' d cs := by
  obtain ⟨fp, h1, h2, h⟩ := h; exact ⟨fp, h1, h2, h.frame fun b hx => hb.block b (h.lt b hx)⟩
theorem Own.setCell {B : Nat} {w : World} {d : D} {cs : List Value} (h : Own B w d cs) {p : Addr} (hp : p.block < B) (v : Value) : Own B (w.setCell p v) d cs := by
  obtain ⟨fp, h1, h2, h⟩ := h; exact ⟨fp, h1, h2, h.frame fun b hx => Below.heap_setCell _ _ _ _ (by have := h2 b hx; omega)⟩
theorem Owns.setCell {B : Nat} {w : World} {d : List D} {cs : List Value} (h : Owns B w d cs) {p : Addr} (hp : p.block < B) (v : Value) : Owns B (w.setCell p v) d cs := by
  obtain ⟨fp, h1, h2, h⟩ := h; exact ⟨fp, h1, h2, h.frame fun b hx => Below.heap_setCell _ _ _ _ (by have := h2 b hx; omega)⟩
theorem Own.drew {B : Nat} {w : World} {d : D} {cs : List Value} (h : Own B w d cs) : Own B w.drew d cs := h.below (Below.refl _ _).drew
theorem Own.alloc {B : Nat} {w : World} {d : D} {cs : List Value} (h : Own B w d cs) (o : Obj) : Own B (w.alloc o) d cs := h.below ((Below.refl _ _).alloc (Nat.le_refl _) o)
theorem Owns.alloc {B : Nat} {w : World} {d : List D} {cs : List Value} (h : Owns B w d cs) (o : Obj) : Owns B (w.alloc o) d cs := h.below ((Below.refl _ _).alloc (Nat.le_refl _) o)
theorem Own.one {B : Nat} {w : World} (v : Value) : Own B w (.one v) [v] := ⟨[], by simp, by simp, by simp [TreeC]⟩
theorem Owns.nil {B : Nat} {w : World} : Owns B w [] [] := ⟨[], by simp, by simp, by simp [TreeCs]⟩
theorem Own.agg {B : Nat} {w : World} {ds : List D} {cs : List Value} (h : Owns B w ds cs) : Own B w (.agg ds) cs := by
  obtain ⟨fp, h1, h2, h⟩ := h; exact ⟨fp, h1, h2, by simpa only [TreeC] using h⟩

theorem TreeC.len {w : World} {d : D} {fp : List Nat} {cs : List Value} (h : TreeC w d fp cs) : cs.length = D.width d := h.rep.len
theorem TreeCs.len {w : World} {d : List D} {fp : List Nat} {cs : List Value} (h : TreeCs w d fp cs) : cs.length = D.widths d := h.rep.len

theorem TreeCs.append {w : World} : ∀ {ds es : List D} {f1 f2 : List Nat} {c1 c2 : List Value}, TreeCs w ds f1 c1 → TreeCs w es f2 c2 → TreeCs w (ds ++ es) (f1 ++ f2) (c1 ++ c2)
  | [], es, f1, f2, c1, c2, h, k => by simp only [TreeCs] at h; obtain ⟨rfl, rfl⟩ := h; exact k
  | d :: ds, es, f1, f2, c1, c2, h, k => by
    simp only [TreeCs] at h; obtain ⟨g1, g2, e1, e2, rfl, rfl, hl, h1, h2⟩ := h
    simp only [List.cons_append, TreeCs]
    exact ⟨g1, g2 ++ f2, e1, e2 ++ c2, by simp, by simp, hl, h1, TreeCs.append h2 k⟩
theorem TreeCs.one {w : World} {d : D} {fp : List Nat} {cs : List Value} (h : TreeC w d fp cs) : TreeCs w [d] fp cs := by
  simp only [TreeCs]; exact ⟨fp, [], cs, [], by simp, by simp, h.len, h, rfl, rfl⟩

theorem Owns.of1 {B : Nat} {w : World} {d : D} {c : List Value} (h : Own B w d c) : Owns B w [d] c := by
  obtain ⟨fp, h1, h2, h⟩ := h; exact ⟨fp, h1, h2, TreeCs.one h⟩
/-- one part more, made later -/
theorem Owns.snoc {B : Nat} {w1 w2 : World} {ds : List D} {d : D} {cs c : List Value} (h : Owns B w1 ds cs) (hb : Below w1.heap.size w1 w2) (k : Own w1.heap.size w2 d c) (hB : B ≤ w1.heap.size) : Owns B w2 (ds ++ [d]) (cs ++ c) := by
  obtain ⟨f1, n1, b1, t1⟩ := h
  obtain ⟨f2, n2, b2, t2⟩ := k
  refine ⟨f1 ++ f2, ?_, ?_, TreeCs.append (t1.frame fun b hx => hb.block b (t1.lt b hx)) (TreeCs.one t2)⟩
  · rw [List.nodup_append]
    refine ⟨n1, n2, fun a ha b hb' => ?_⟩
    have := t1.lt a ha; have := b2 b hb'; omega
  · intro b hx; rcases List.mem_append.1 hx with hx | hx
    · exact b1 b hx
    · exact Nat.le_trans hB (b2 b hx)
theorem Owns.snocOne {B : Nat} {w : World} {ds : List D} {cs : List Value} (h : Owns B w ds cs) (v : Value) : Owns B w (ds ++ [.one v]) (cs ++ [v]) := by
  obtain ⟨f1, n1, b1, t1⟩ := h
  refine ⟨f1, n1, b1, ?_⟩
  have := TreeCs.append t1 (TreeCs.one (w := w) (d := .one v) (fp := []) (cs := [v]) (by simp [TreeC]))
  simpa using this

/-- a row of 'len' elements of n cells in block g of which the first are 'ds', own from B on, in other blocks -/
def Part (B : Nat) (w : World) (g n len : Nat) (ds : List D) : Prop :=
  ∃ cur e fp, w.heap[g]? = some (.cells cur e (0, 0)) ∧ cur.size = n * len ∧ B ≤ g ∧ fp.Nodup ∧ (∀ b ∈ fp, B ≤ b ∧ b ≠ g) ∧ (∀ e ∈ ds, D.width e = n) ∧ TreeCs w ds fp (cur.toList.take (n * ds.length))
theorem Part.below {B : Nat} {w w' : World} {g n len : Nat} {ds : List D} (h : Part B w g n len ds) (hb : Below w.heap.size w w') : Part B w' g n len ds := by
  obtain ⟨cur, e, fp, h1, h2, h3, h4, h5, h6, h7⟩ := h
  exact ⟨cur, e, fp, by rw [hb.block g (heap_lt h1)]; exact h1, h2, h3, h4, h5, h6, h7.frame fun b hx => hb.block b (h7.lt b hx)⟩
/-- the whole row is own data -/
theorem Part.own {B : Nat} {w : World} {g n : Nat} {ds : List D} {c : Nat} (h : Part B w g n ds.length ds) (hn : 0 < n) (hc : ds.length ≤ c ∧ c ≤ maxLen) : Own B w (.sl n ds) [.slice (some ⟨g, 0, none⟩) ds.length c] := by
  obtain ⟨cur, e, fp, h1, h2, h3, h4, h5, h6, h7⟩ := h
  by_cases hne : ds = []
  · subst hne; exact ⟨[], by simp, by simp, by simp [TreeC]⟩
  · refine ⟨g :: fp, ?_, ?_, ?_⟩
    · rw [List.nodup_cons]; exact ⟨fun hg => (h5 g hg).2 rfl, h4⟩
    · intro b hb; rcases List.mem_cons.1 hb with rfl | hb
      · exact h3
      · exact (h5 b hb).1
    · simp only [TreeC]; exact ⟨_, c, rfl, .inr ⟨g, fp, cur, e, rfl, rfl, h1, hn, hc.1, hc.2, h6, h7⟩⟩

/-- make([]T, n) -/
theorem run_mk {P : Program} {t e : TypeId} {size bytes : Nat} (T : ElemTy P t e size bytes) (n : Nat) (hn : n ≤ 4294967296) (hb : bytes ≤ 32768) :
    ∃ cs : Array Value, cs.size = size * n ∧ ∀ w : World, (Instr.makeSlice t (.int .i64 (n : Nat)) (.int .i64 (n : Nat))).run P w = .ok (.slice (some ⟨w.heap.size, 0, none⟩) n n) (w.alloc (.cells cs e)) := by
  obtain ⟨i, z, h1, h2, h3, h4, h5⟩ := T.info
  refine ⟨madeCells z.cells (n * i.size), ?_, fun w => ?_⟩
  · rw [size_madeCells, h3, Nat.mul_comm]
  · have := run_make (P := P) w t e i z T.under h1 h2 .i64 .i64 (n : Nat) (n : Nat) (by omega) (by omega) (by
      rw [h4]; have := Nat.mul_le_mul hb hn; have h : ((bytes * n : Nat) : Int) ≤ ((32768 * 4294967296 : Nat) : Int) := by exact_mod_cast this
      rw [Int.natCast_mul] at h; exact Int.le_trans h (by decide)) (by omega)
    simpa using this
theorem heap_alloc_new (w : World) (o : Obj) : (w.alloc o).heap[w.heap.size]? = some o := by show (w.heap.push o)[w.heap.size]? = _; simp
theorem Part.start {w : World} {cs : Array Value} {e : TypeId} {n len : Nat} (h : cs.size = n * len) : Part w.heap.size (w.alloc (.cells cs e)) w.heap.size n len [] :=
  ⟨cs, e, [], heap_alloc_new _ _, h, Nat.le_refl _, by simp, by simp, by simp, by simp [TreeCs]⟩

/-- some cells stored one behind the other -/
def setCells (w : World) (g : Nat) : Nat → List Value → World
  | _, [] => w
  | o, v :: vs => setCells (w.setCell ⟨g, o, none⟩ v) g (o + 1) vs
def setL (l : List Value) : Nat → List Value → List Value
  | _, [] => l
  | o, v :: vs => setL (l.set o v) (o + 1) vs
theorem setL_length : ∀ (c l : List Value) (o : Nat), (setL l o c).length = l.length
  | [], _, _ => rfl
  | v :: vs, l, o => by simp [setL, setL_length vs]
theorem setL_take : ∀ (c l : List Value) (o : Nat), o + c.length ≤ l.length → (setL l o c).take (o + c.length) = l.take o ++ c
  | [], l, o, _ => by simp [setL]
  | v :: vs, l, o, h => by
    simp only [List.length_cons] at h
    have := setL_take vs (l.set o v) (o + 1) (by simp; omega)
    simp only [setL, List.length_cons]
    rw [show o + (vs.length + 1) = o + 1 + vs.length by omega, this, List.take_succ_eq_append_getElem (by simp; omega)]
    simp [List.take_set_of_le]
theorem heap_setCell_at {w : World} {g o : Nat} {cur : Array Value} {e : TypeId} {fr : Nat × Nat} (h : w.heap[g]? = some (.cells cur e fr)) (v : Value) : (w.setCell ⟨g, o, none⟩ v).heap[g]? = some (.cells (cur.setIfInBounds o v) e fr) := by
  simp [World.setCell, Array.getElem?_modify, h]
theorem heap_setCells : ∀ (c : List Value) (w : World) (g o : Nat) (l : List Value) (e : TypeId) (fr : Nat × Nat), w.heap[g]? = some (.cells l.toArray e fr) → (setCells w g o c).heap[g]? = some (.cells (setL l o c).toArray e fr)
  | [], w, g, o, l, e, fr, h => h
  | v :: vs, w, g, o, l, e, fr, h => by
    simp only [setCells, setL]
    have := heap_setCell_at (o := o) h v
    rw [List.setIfInBounds_toArray] at this
    exact heap_setCells vs _ g (o + 1) _ e fr this
theorem same_setCells : ∀ (c : List Value) (w : World) (g o b : Nat), b ≠ g → (setCells w g o c).heap[b]? = w.heap[b]?
  | [], _, _, _, _, _ => rfl
  | v :: vs, w, g, o, b, h => by
    simp only [setCells]; rw [same_setCells vs _ g (o + 1) b h, Below.heap_setCell _ _ _ _ (by simpa using h)]
theorem below_setCells {B : Nat} {a : World} : ∀ (c : List Value) {w : World} {g : Nat} (o : Nat), Below B a w → B ≤ g → Below B a (setCells w g o c)
  | [], _, _, _, h, _ => h
  | v :: vs, w, g, o, h, hg => by simp only [setCells]; exact below_setCells vs (o + 1) (h.setCell hg v) hg
theorem size_setCells : ∀ (c : List Value) (w : World) (g o : Nat), (setCells w g o c).heap.size = w.heap.size
  | [], _, _, _ => rfl
  | v :: vs, w, g, o => by simp only [setCells]; rw [size_setCells vs]; simp [World.setCell]

theorem Part.there {B : Nat} {w : World} {g n len : Nat} {ds : List D} (h : Part B w g n len ds) (j : Nat) (hj : j < n * len) : (∃ v, w.cell? ⟨g, j, none⟩ = some v) ∧ w.frozen? ⟨g, j, none⟩ = false := by
  obtain ⟨cur, e, fp, h1, h2, _⟩ := h
  refine ⟨⟨cur[j]'(by omega), by rw [cell_of_block h1]; simp⟩, ?_⟩
  simp [World.frozen?, h1]
/-- the next element is laid into the row: own data that was made since -/
theorem Part.put {B : Nat} {w w1 : World} {g n len : Nat} {ds : List D} {d : D} {c : List Value} (h : Part B w g n len ds) (hb : Below w.heap.size w w1) (k : Own w.heap.size w1 d c) (hd : D.width d = n) (hlt : ds.length < len) (hB : B ≤ w.heap.size) :
    Part B (setCells w1 g (n * ds.length) c) g n len (ds ++ [d]) := by
  obtain ⟨cur, e, fp, h1, h2, h3, h4, h5, h6, h7⟩ := h
  obtain ⟨f2, n2, b2, t2⟩ := k
  have hg := heap_lt h1
  have hcl : c.length = n := by rw [t2.len, hd]
  have h1' : w1.heap[g]? = some (.cells cur.toList.toArray e (0, 0)) := by rw [hb.block g hg]; simpa using h1
  have hlen : n * ds.length + n ≤ cur.toList.length := by
    simp only [Array.length_toList, h2, ← Nat.mul_succ]; exact Nat.mul_le_mul_left n hlt
  refine ⟨(setL cur.toList (n * ds.length) c).toArray, e, fp ++ f2, heap_setCells c w1 g _ _ e _ h1', by simp [setL_length, h2], h3, ?_, ?_, ?_, ?_⟩
  · rw [List.nodup_append]
    refine ⟨h4, n2, fun a ha b hb' => ?_⟩
    have := h7.lt a ha; have := b2 b hb'; omega
  · intro b hx; rcases List.mem_append.1 hx with hx | hx
    · exact h5 b hx
    · have := b2 b hx; exact ⟨Nat.le_trans hB this, by omega⟩
  · intro x hx; rcases List.mem_append.1 hx with hx | hx
    · exact h6 x hx
    · simp at hx; subst hx; exact hd
  · have e1 : (setL cur.toList (n * ds.length) c).toArray.toList.take (n * (ds ++ [d]).length) = cur.toList.take (n * ds.length) ++ c := by
      simp only [List.length_append, List.length_singleton, Nat.mul_succ]
      have := setL_take c cur.toList (n * ds.length) (by omega)
      rw [hcl] at this; exact this
    rw [e1]
    refine TreeCs.append (h7.frame fun b hx => ?_) (TreeCs.one (t2.frame fun b hx => ?_))
    · rw [same_setCells _ _ _ _ _ (h5 b hx).2, hb.block b (h7.lt b hx)]
    · rw [same_setCells _ _ _ _ _ (by have := b2 b hx; omega)]
end Go.Proofs.YtkeieeogkeonfaaGreatDoor
