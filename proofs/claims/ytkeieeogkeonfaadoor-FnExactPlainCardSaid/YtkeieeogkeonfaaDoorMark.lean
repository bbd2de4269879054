/- Marks laid into own data: what stands in every cell of a tree of own blocks behind it. No program in sight. -/
import Derived.Test.YtkeieeogkeonfaaDoorData
import Derived.Test.YtkeieeogkeonfaaDoorTree
import Derived.Test.YtkeieeogkeonfaaDoorKeep
import Derived.Lib.ItoaNum
namespace Go.Proofs.YtkeieeogkeonfaaDoor
open Go.RowKit

/-- the k-th mark as a text -/
def mt (k : Nat) : List UInt8 := 109 :: Lib.decDigits k
mutual
def V.cnt : V → Nat
  | .mk _ _ _ _ kids => 4 + V.cnts kids
def V.cnts : List V → Nat
  | [] => 0
  | v :: vs => V.cnt v + V.cnts vs
end
mutual
def V.mark1 : Nat → V → V
  | k, .mk _ _ _ _ kids => .mk (k : Nat) ((k + 1 : Nat) : Int) ((k + 2 : Nat) : Int) (mt (k + 3)) (V.marks (k + 4) kids)
def V.marks : Nat → List V → List V
  | _, [] => []
  | k, v :: vs => V.mark1 k v :: V.marks (k + V.cnt v) vs
end
def mtS : Nat → List (List UInt8) → List (List UInt8)
  | _, [] => []
  | k, _ :: ls => mt k :: mtS (k + 1) ls
mutual
def Sh.cnt : Sh → Nat
  | .mk _ _ _ ks _ kids => 3 + (ks.length + (1 + Sh.cnts kids))
def Sh.cnts : List Sh → Nat
  | [] => 0
  | v :: vs => Sh.cnt v + Sh.cnts vs
end
mutual
def Sh.mark1 : Nat → Sh → Sh
  | k, .mk _ _ _ ks _ kids => .mk (k : Nat) ((k + 1 : Nat) : Int) ((k + 2 : Nat) : Int) (mtS (k + 3) ks) ((k + 3 + ks.length : Nat) : Int) (Sh.marks (k + 3 + ks.length + 1) kids)
def Sh.marks : Nat → List Sh → List Sh
  | _, [] => []
  | k, v :: vs => Sh.mark1 k v :: Sh.marks (k + Sh.cnt v) vs
end
theorem V.marks_length : ∀ (k : Nat) (vs : List V), (V.marks k vs).length = vs.length
  | _, [] => rfl
  | k, v :: vs => by simp [V.marks, V.marks_length _ vs]
theorem Sh.marks_length : ∀ (k : Nat) (vs : List Sh), (Sh.marks k vs).length = vs.length
  | _, [] => rfl
  | k, v :: vs => by simp [Sh.marks, Sh.marks_length _ vs]
theorem mtS_length : ∀ (k : Nat) (vs : List (List UInt8)), (mtS k vs).length = vs.length
  | _, [] => rfl
  | k, v :: vs => by simp [mtS, mtS_length _ vs]
theorem V.cnts_snoc (v : V) : ∀ vs : List V, V.cnts (vs ++ [v]) = V.cnts vs + V.cnt v
  | [] => by simp [V.cnts]
  | u :: vs => by simp only [List.cons_append, V.cnts, V.cnts_snoc v vs]; omega
theorem Sh.cnts_snoc (v : Sh) : ∀ vs : List Sh, Sh.cnts (vs ++ [v]) = Sh.cnts vs + Sh.cnt v
  | [] => by simp [Sh.cnts]
  | u :: vs => by simp only [List.cons_append, Sh.cnts, Sh.cnts_snoc v vs]; omega
theorem V.marks_snoc (v : V) : ∀ (k : Nat) (vs : List V), V.marks k (vs ++ [v]) = V.marks k vs ++ [V.mark1 (k + V.cnts vs) v]
  | k, [] => by simp [V.marks, V.cnts]
  | k, u :: vs => by simp only [List.cons_append, V.marks, V.marks_snoc v (k + V.cnt u) vs, V.cnts, Nat.add_assoc]
theorem Sh.marks_snoc (v : Sh) : ∀ (k : Nat) (vs : List Sh), Sh.marks k (vs ++ [v]) = Sh.marks k vs ++ [Sh.mark1 (k + Sh.cnts vs) v]
  | k, [] => by simp [Sh.marks, Sh.cnts]
  | k, u :: vs => by simp only [List.cons_append, Sh.marks, Sh.marks_snoc v (k + Sh.cnt u) vs, Sh.cnts, Nat.add_assoc]
theorem mtS_get : ∀ (k : Nat) (ls : List (List UInt8)) (j : Nat) (h : j < ls.length), (mtS k ls)[j]'(by rw [mtS_length]; exact h) = mt (k + j)
  | k, l :: ls, 0, _ => rfl
  | k, l :: ls, j + 1, h => by simp only [mtS, List.getElem_cons_succ]; rw [mtS_get (k + 1) ls j (by simpa using h)]; congr 1; omega
theorem V.cnts_take (vs : List V) (j : Nat) (h : j < vs.length) : V.cnts (vs.take (j + 1)) = V.cnts (vs.take j) + V.cnt vs[j] := by
  rw [List.take_succ_eq_append_getElem h, V.cnts_snoc]
theorem Sh.cnts_take (vs : List Sh) (j : Nat) (h : j < vs.length) : Sh.cnts (vs.take (j + 1)) = Sh.cnts (vs.take j) + Sh.cnt vs[j] := by
  rw [List.take_succ_eq_append_getElem h, Sh.cnts_snoc]
theorem V.cnts_le : ∀ (vs : List V) (j : Nat), V.cnts (vs.take j) ≤ V.cnts vs
  | [], j => by simp
  | v :: vs, 0 => by simp [V.cnts]
  | v :: vs, j + 1 => by have := V.cnts_le vs j; simp only [List.take_succ_cons, V.cnts]; omega
theorem Sh.cnts_le : ∀ (vs : List Sh) (j : Nat), Sh.cnts (vs.take j) ≤ Sh.cnts vs
  | [], j => by simp
  | v :: vs, 0 => by simp [Sh.cnts]
  | v :: vs, j + 1 => by have := Sh.cnts_le vs j; simp only [List.take_succ_cons, Sh.cnts]; omega
/-- marked so far -/
def V.half (k : Nat) (vs : List V) (j : Nat) : List V := V.marks k (vs.take j) ++ vs.drop j
def Sh.half (k : Nat) (vs : List Sh) (j : Nat) : List Sh := Sh.marks k (vs.take j) ++ vs.drop j
def halfS (k : Nat) (vs : List (List UInt8)) (j : Nat) : List (List UInt8) := mtS k (vs.take j) ++ vs.drop j
theorem mtS_snoc (v : List UInt8) : ∀ (k : Nat) (vs : List (List UInt8)), mtS k (vs ++ [v]) = mtS k vs ++ [mt (k + vs.length)]
  | k, [] => by simp [mtS]
  | k, u :: vs => by simp only [List.cons_append, mtS, mtS_snoc v (k + 1) vs, List.length_cons]; rw [show k + 1 + vs.length = k + (vs.length + 1) by omega]
theorem half_set {α : Type} {a : List α} {vs : List α} {j : Nat} (h : j < vs.length) (ha : a.length = j) (x : α) : (a ++ vs.drop j).set j x = (a ++ [x]) ++ vs.drop (j + 1) := by
  rw [List.set_append_right _ _ (by omega), ha, Nat.sub_self, List.drop_eq_getElem_cons h, List.set_cons_zero]; simp
theorem half_get {α : Type} {a : List α} {vs : List α} {j : Nat} (h : j < vs.length) (ha : a.length = j) : (a ++ vs.drop j)[j]'(by simp; omega) = vs[j] := by
  rw [List.getElem_append_right (by omega)]; simp [ha]
theorem V.half_set (k : Nat) (vs : List V) (j : Nat) (h : j < vs.length) : (V.half k vs j).set j (V.mark1 (k + V.cnts (vs.take j)) vs[j]) = V.half k vs (j + 1) := by
  unfold V.half
  rw [Go.Proofs.YtkeieeogkeonfaaDoor.half_set h (by rw [V.marks_length, List.length_take]; omega), ← V.marks_snoc, ← List.take_succ_eq_append_getElem h]
theorem Sh.half_set (k : Nat) (vs : List Sh) (j : Nat) (h : j < vs.length) : (Sh.half k vs j).set j (Sh.mark1 (k + Sh.cnts (vs.take j)) vs[j]) = Sh.half k vs (j + 1) := by
  unfold Sh.half
  rw [Go.Proofs.YtkeieeogkeonfaaDoor.half_set h (by rw [Sh.marks_length, List.length_take]; omega), ← Sh.marks_snoc, ← List.take_succ_eq_append_getElem h]
theorem halfS_set (k : Nat) (vs : List (List UInt8)) (j : Nat) (h : j < vs.length) : (halfS k vs j).set j (mt (k + j)) = halfS k vs (j + 1) := by
  unfold halfS
  rw [Go.Proofs.YtkeieeogkeonfaaDoor.half_set h (by rw [mtS_length, List.length_take]; omega), List.take_succ_eq_append_getElem h, mtS_snoc, List.length_take, Nat.min_eq_left (by omega)]

/-- one element laid open; what is put in its place -/
theorem TreeCs.at {w : World} {n : Nat} : ∀ {ds : List D} {fp : List Nat} {cs : List Value}, TreeCs w ds fp cs → (∀ e ∈ ds, D.width e = n) → fp.Nodup → ∀ i (hi : i < ds.length),
    ∃ fi ci, fi.Nodup ∧ (∀ b ∈ fi, b ∈ fp) ∧ TreeC w ds[i] fi ci ∧ ci.length = n ∧ (cs.drop (n * i)).take n = ci ∧
      ∀ (w' : World) (d' : D) (ci' : List Value), D.width d' = n → (∀ b ∈ fp, b ∉ fi → w'.heap[b]? = w.heap[b]?) → TreeC w' d' fi ci' → TreeCs w' (ds.set i d') fp (cs.take (n * i) ++ (ci' ++ cs.drop (n * i + n)))
  | [], fp, cs, h, hw, hn, i, hi => by simp at hi
  | d :: ds, fp, cs, h, hw, hn, i, hi => by
    simp only [TreeCs] at h; obtain ⟨f1, f2, c1, c2, rfl, rfl, h1, h2, h3⟩ := h
    have hd := hw d (by simp)
    rw [hd] at h1
    rw [List.nodup_append] at hn
    obtain ⟨n1, n2, n3⟩ := hn
    match i with
    | 0 =>
      refine ⟨f1, c1, n1, fun b hb => by simp [hb], h2, h1, by simp [← h1], fun w' d' ci' hd' hs ht => ?_⟩
      simp only [Nat.mul_zero, List.take_zero, List.nil_append, List.set_cons_zero, Nat.zero_add, TreeCs]
      refine ⟨f1, f2, ci', c2, rfl, by rw [← h1]; simp, by rw [ht.len], ht, h3.frame fun b hb => hs b (by simp [hb]) fun hb1 => n3 b hb1 b hb rfl⟩
    | i + 1 =>
      obtain ⟨fi, ci, k1, k2, k3, k4, k5, k6⟩ := TreeCs.at h3 (fun e he => hw e (by simp [he])) n2 i (by simpa using hi)
      have e1 : n * (i + 1) = c1.length + n * i := by rw [h1, Nat.mul_succ]; omega
      refine ⟨fi, ci, k1, fun b hb => by simp [k2 b hb], by simpa using k3, k4, ?_, fun w' d' ci' hd' hs ht => ?_⟩
      · rw [e1, List.drop_length_add_append]; exact k5
      · have := k6 w' d' ci' hd' (fun b hb hb' => hs b (by simp [hb]) hb') ht
        simp only [List.set_cons_succ, TreeCs]
        refine ⟨f1, f2, c1, _, rfl, ?_, by rw [h1, hd], h2.frame fun b hb => hs b (by simp [hb]) fun hb2 => n3 b hb b (k2 b hb2) rfl, this⟩
        rw [e1, List.take_length_add_append, List.append_assoc, Nat.add_assoc, List.drop_length_add_append]

/-- block g is of sz cells that may be written -/
def Blk (w : World) (g : Nat) (e : TypeId) (sz : Nat) : Prop := ∃ cur, w.heap[g]? = some (.cells cur e (0, 0)) ∧ cur.size = sz
theorem Blk.lt {w : World} {g sz : Nat} {e : TypeId} (h : Blk w g e sz) : g < w.heap.size := by obtain ⟨cur, h, _⟩ := h; exact heap_lt h
theorem Blk.free {w : World} {g sz : Nat} {e : TypeId} (h : Blk w g e sz) (o : Nat) : w.frozen? ⟨g, o, none⟩ = false := by obtain ⟨cur, h, _⟩ := h; simp [World.frozen?, h]
theorem Blk.same {w w' : World} {g sz : Nat} {e : TypeId} (h : Blk w g e sz) (hs : w'.heap[g]? = w.heap[g]?) : Blk w' g e sz := by obtain ⟨cur, h, h2⟩ := h; exact ⟨cur, by rw [hs]; exact h, h2⟩
theorem Blk.below {w w' : World} {g sz : Nat} {e : TypeId} (h : Blk w g e sz) (hb : Below w.heap.size w w') : Blk w' g e sz := h.same (hb.block g h.lt)
theorem Blk.keep {S : Nat → Prop} {w w' : World} {g sz : Nat} {e : TypeId} (h : Blk w g e sz) (hk : Keep S w w') (hg : ¬ S g) : Blk w' g e sz := h.same (hk.block g h.lt hg)
theorem Blk.setCell {w : World} {g sz : Nat} {e : TypeId} (h : Blk w g e sz) (o : Nat) (v : Value) : Blk (w.setCell ⟨g, o, none⟩ v) g e sz := by
  obtain ⟨cur, h, h2⟩ := h; exact ⟨_, heap_setCell_at h v, by simpa using h2⟩
theorem Blk.there {w : World} {g sz : Nat} {e : TypeId} (h : Blk w g e sz) (o : Nat) (ho : o < sz) : ∃ v, w.cell? ⟨g, o, none⟩ = some v := by
  obtain ⟨cur, h, h2⟩ := h; exact ⟨cur[o]'(by omega), by rw [cell_of_block h]; simp⟩
theorem Keep.same {S : Nat → Prop} {w w' : World} (h : Keep S w w') {T : Nat → Prop} (hT : ∀ b, T b → b < w.heap.size ∧ ¬ S b) : SameOn T w w' := fun b hb => h.block b (hT b hb).1 (hT b hb).2
/-- own data of n cells each in block g, over the blocks fr -/
def Row (w : World) (n g : Nat) (e : TypeId) (sz : Nat) (fr : List Nat) (ds : List D) : Prop :=
  ∃ cur, w.heap[g]? = some (.cells cur e (0, 0)) ∧ cur.size = sz ∧ n * ds.length ≤ sz ∧ (∀ d ∈ ds, D.width d = n) ∧ TreeCs w ds fr (cur.toList.take (n * ds.length))
theorem Row.blk {w : World} {n g sz : Nat} {e : TypeId} {fr : List Nat} {ds : List D} (h : Row w n g e sz fr ds) : Blk w g e sz := by obtain ⟨cur, h, h2, _⟩ := h; exact ⟨cur, h, h2⟩
theorem list_put (l c : List Value) (j n m : Nat) (hl : c.length = n) (h : n * j + n ≤ n * m) (hm : n * m ≤ l.length) (l' : List Value) (hl' : l'.length = l.length) (h1 : ∀ i, i < n → l'[j * n + i]? = c[i]?) (h2 : ∀ o, o < j * n ∨ j * n + n ≤ o → l'[o]? = l[o]?) :
    l'.take (n * m) = (l.take (n * m)).take (n * j) ++ (c ++ (l.take (n * m)).drop (n * j + n)) := by
  have hjn : j * n = n * j := Nat.mul_comm j n
  rw [hjn] at h1 h2
  apply List.ext_getElem?
  intro o
  by_cases ho : o < n * m
  · rw [List.getElem?_take, if_pos ho]
    by_cases ha : o < n * j
    · rw [List.getElem?_append_left (by simp only [List.length_take]; omega), List.getElem?_take, if_pos ha, List.getElem?_take, if_pos ho, h2 o (.inl ha)]
    · rw [List.getElem?_append_right (by simp only [List.length_take]; omega)]
      have hlen : ((l.take (n * m)).take (n * j)).length = n * j := by simp only [List.length_take]; omega
      rw [hlen]
      by_cases hb : o < n * j + n
      · rw [List.getElem?_append_left (by omega), ← h1 (o - n * j) (by omega)]; congr 1; omega
      · rw [List.getElem?_append_right (by omega), List.getElem?_drop, List.getElem?_take, h2 o (.inr (by omega)), hl]
        rw [if_pos (by omega)]; congr 1; omega
  · rw [List.getElem?_eq_none (by simp only [List.length_take]; omega), List.getElem?_eq_none]
    simp only [List.length_append, List.length_take, List.length_drop]; omega
/-- one element laid open; what is put in its place -/
theorem Row.at {w : World} {n g sz : Nat} {e : TypeId} {fr : List Nat} {ds : List D} (h : Row w n g e sz fr ds) (hn : (g :: fr).Nodup) (j : Nat) (hj : j < ds.length) : ∃ fi ci, fi.Nodup ∧ (∀ b ∈ fi, b ∈ fr) ∧ g ∉ fi ∧ TreeC w ds[j] fi ci ∧ ci.length = n ∧ j * n + n ≤ sz ∧
    (∀ i u, i < n → ci[i]? = some u → w.cell? ⟨g, j * n + i, none⟩ = some u) ∧
    ∀ w' d' ci', D.width d' = n → Blk w' g e sz → (∀ i, i < n → w'.cell? ⟨g, j * n + i, none⟩ = ci'[i]?) → (∀ o, o < j * n ∨ j * n + n ≤ o → w'.cell? ⟨g, o, none⟩ = w.cell? ⟨g, o, none⟩) → (∀ b ∈ fr, b ∉ fi → w'.heap[b]? = w.heap[b]?) → TreeC w' d' fi ci' →
      Row w' n g e sz fr (ds.set j d') := by
  obtain ⟨cur, h1, h2, h3, h4, h5⟩ := h
  rw [List.nodup_cons] at hn
  obtain ⟨fi, ci, k1, k2, k3, k4, k5, k6⟩ := TreeCs.at h5 h4 hn.2 j hj
  have hm : n * j + n ≤ n * ds.length := by rw [← Nat.mul_succ]; exact Nat.mul_le_mul_left n hj
  refine ⟨fi, ci, k1, k2, fun hb => hn.1 (k2 g hb), k3, k4, by rw [Nat.mul_comm j n]; omega, fun i u hi hu => ?_, fun w' d' ci' hd hbk hc1 hc2 hs ht => ?_⟩
  · rw [cell_of_block h1, ← hu, ← k5, List.getElem?_take, if_pos hi, List.getElem?_drop, List.getElem?_take, if_pos (by omega), Nat.mul_comm j n]; simp
  · obtain ⟨cur', g1, g2⟩ := hbk
    have := k6 w' d' ci' hd hs ht
    refine ⟨cur', g1, g2, by simpa using h3, ?_, ?_⟩
    · intro x hx
      rcases List.mem_or_eq_of_mem_set hx with hx | rfl
      · exact h4 x hx
      · exact hd
    · rw [List.length_set, list_put cur.toList ci' j n ds.length (by rw [ht.len, hd]) hm (by simpa [h2] using h3) cur'.toList (by simp [h2, g2]) ?_ ?_]
      · exact this
      · intro i hi
        have := hc1 i hi
        rw [cell_of_block g1] at this
        simpa using this
      · intro o ho
        have := hc2 o ho
        rw [cell_of_block g1, cell_of_block h1] at this
        simpa using this
/-- an own slice laid open -/
theorem TreeC.row {w : World} {n : Nat} {es : List D} {fp : List Nat} {v : Value} (h : TreeC w (.sl n es) fp [v]) : ∃ a c, v = .slice a es.length c ∧ (es ≠ [] → ∃ g fr e sz, a = some ⟨g, 0, none⟩ ∧ fp = g :: fr ∧ es.length ≤ c ∧ c ≤ maxLen ∧ Row w n g e sz fr es) := by
  simp only [TreeC] at h
  obtain ⟨a, c, hv, h⟩ := h
  simp only [List.cons.injEq, and_true] at hv
  refine ⟨a, c, hv, fun hne => ?_⟩
  rcases h with h | ⟨b, fr, cur, e, ha, hf, hb, hn, h1, h2, hw, ht⟩
  · exact absurd h.1 hne
  · refine ⟨b, fr, e, cur.size, ha, hf, h1, h2, cur, hb, rfl, ?_, hw, ht⟩
    have := ht.len
    have hwd : D.widths es = n * es.length := by
      clear ht h1 hb this hne hv
      induction es with
      | nil => simp [D.widths]
      | cons x xs ih => simp only [D.widths, hw x (by simp), ih (fun e he => hw e (by simp [he])), List.length_cons, Nat.mul_succ]; omega
    rw [hwd, List.length_take] at this
    simp at this; omega
theorem Row.tree {w : World} {n g sz : Nat} {e : TypeId} {fr : List Nat} {es : List D} {c : Nat} (h : Row w n g e sz fr es) (hn : 0 < n) (hc : es.length ≤ c ∧ c ≤ maxLen) : TreeC w (.sl n es) (g :: fr) [.slice (some ⟨g, 0, none⟩) es.length c] := by
  obtain ⟨cur, h1, h2, h3, h4, h5⟩ := h
  simp only [TreeC]
  exact ⟨_, c, rfl, .inr ⟨g, fr, cur, e, rfl, rfl, h1, hn, hc.1, hc.2, h4, h5⟩⟩
theorem TreeC.nil {w : World} {n : Nat} {a : Option Addr} {c : Nat} : TreeC w (.sl n []) [] [.slice a 0 c] := by simp only [TreeC]; exact ⟨a, c, rfl, .inl (by simp)⟩
theorem V.width_ds (es : List V) : ∀ d ∈ V.ds es, D.width d = 5 := by rw [V.ds_map]; intro d hd; rw [List.mem_map] at hd; obtain ⟨v, _, rfl⟩ := hd; exact V.width v
theorem Sh.width_ds (es : List Sh) : ∀ d ∈ Sh.ds es, D.width d = 6 := by rw [Sh.ds_map]; intro d hd; rw [List.mem_map] at hd; obtain ⟨v, _, rfl⟩ := hd; exact Sh.width v
theorem V.ds_set (es : List V) (j : Nat) (v : V) : (V.ds es).set j v.d = V.ds (es.set j v) := by rw [V.ds_map, V.ds_map, List.map_set]
theorem Sh.ds_set (es : List Sh) (j : Nat) (v : Sh) : (Sh.ds es).set j v.d = Sh.ds (es.set j v) := by rw [Sh.ds_map, Sh.ds_map, List.map_set]
theorem V.tree {w : World} {k n e : Int} {s : List UInt8} {kids : List V} {fp : List Nat} {cs : List Value} (h : TreeC w (V.d (.mk k n e s kids)) fp cs) : ∃ v, cs = [.int .i64 k, .int .i64 n, .int .i64 e, .string ⟨s.toArray⟩, v] ∧ TreeC w (.sl 5 (V.ds kids)) fp [v] := by
  simp only [V.d, TreeC, TreeCs, dI, dS, D.width] at h
  obtain ⟨f1, r1, c1, d1, rfl, rfl, _, ⟨rfl, rfl⟩, f2, r2, c2, d2, rfl, rfl, _, ⟨rfl, rfl⟩, f3, r3, c3, d3, rfl, rfl, _, ⟨rfl, rfl⟩, f4, r4, c4, d4, rfl, rfl, _, ⟨rfl, rfl⟩, f5, r5, c5, d5, rfl, rfl, _, ⟨a, c, rfl, h5⟩, rfl, rfl⟩ := h
  refine ⟨_, rfl, ?_⟩
  simp only [TreeC, List.nil_append, List.append_nil]
  exact ⟨a, c, rfl, h5⟩
theorem V.tree_mk {w : World} {k n e : Int} {s : List UInt8} {kids : List V} {fp : List Nat} {v : Value} (h : TreeC w (.sl 5 (V.ds kids)) fp [v]) : TreeC w (V.d (.mk k n e s kids)) fp [.int .i64 k, .int .i64 n, .int .i64 e, .string ⟨s.toArray⟩, v] := by
  simp only [V.d, TreeC, TreeCs, dI, dS, D.width]
  exact ⟨[], fp, [_], _, rfl, rfl, rfl, ⟨rfl, rfl⟩, [], fp, [_], _, rfl, rfl, rfl, ⟨rfl, rfl⟩, [], fp, [_], _, rfl, rfl, rfl, ⟨rfl, rfl⟩, [], fp, [_], _, rfl, rfl, rfl, ⟨rfl, rfl⟩, fp, [], [_], [], by simp, rfl, rfl, by simpa only [TreeC] using h, rfl, rfl⟩
theorem Sh.tree {w : World} {k l h : Int} {ks : List (List UInt8)} {m : Int} {kids : List Sh} {fp : List Nat} {cs : List Value} (h0 : TreeC w (Sh.d (.mk k l h ks m kids)) fp cs) :
    ∃ v u f1 f2, fp = f1 ++ f2 ∧ cs = [.int .i64 k, .int .i64 l, .int .i64 h, v, .int .i64 m, u] ∧ TreeC w (dSs ks) f1 [v] ∧ TreeC w (.sl 6 (Sh.ds kids)) f2 [u] := by
  simp only [Sh.d, TreeC, TreeCs, dI, dSs, D.width] at h0
  obtain ⟨f1, r1, c1, d1, rfl, rfl, _, ⟨rfl, rfl⟩, f2, r2, c2, d2, rfl, rfl, _, ⟨rfl, rfl⟩, f3, r3, c3, d3, rfl, rfl, _, ⟨rfl, rfl⟩, f4, r4, c4, d4, rfl, rfl, _, ⟨a4, n4, rfl, h4⟩, f5, r5, c5, d5, rfl, rfl, _, ⟨rfl, rfl⟩, f6, r6, c6, d6, rfl, rfl, _, ⟨a6, n6, rfl, h6⟩, rfl, rfl⟩ := h0
  refine ⟨_, _, f4, f6, by simp, rfl, ?_, ?_⟩
  · simp only [dSs, TreeC]; exact ⟨a4, n4, rfl, h4⟩
  · simp only [TreeC]; exact ⟨a6, n6, rfl, h6⟩
theorem Sh.tree_mk {w : World} {k l h : Int} {ks : List (List UInt8)} {m : Int} {kids : List Sh} {f1 f2 : List Nat} {v u : Value} (h1 : TreeC w (dSs ks) f1 [v]) (h2 : TreeC w (.sl 6 (Sh.ds kids)) f2 [u]) :
    TreeC w (Sh.d (.mk k l h ks m kids)) (f1 ++ f2) [.int .i64 k, .int .i64 l, .int .i64 h, v, .int .i64 m, u] := by
  simp only [Sh.d, TreeC, TreeCs, dI, dSs, D.width]
  exact ⟨[], _, [_], _, rfl, rfl, rfl, ⟨rfl, rfl⟩, [], _, [_], _, rfl, rfl, rfl, ⟨rfl, rfl⟩, [], _, [_], _, rfl, rfl, rfl, ⟨rfl, rfl⟩, f1, f2, [_], _, rfl, rfl, rfl, by simpa only [dSs, TreeC] using h1, [], f2, [_], _, rfl, rfl, rfl, ⟨rfl, rfl⟩, f2, [], [_], [], by simp, rfl, rfl, by simpa only [TreeC] using h2, rfl, rfl⟩

end Go.Proofs.YtkeieeogkeonfaaDoor
