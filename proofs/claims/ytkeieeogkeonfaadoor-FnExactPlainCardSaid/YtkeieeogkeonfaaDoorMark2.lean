/- One element of an own row marked: values and shapes. No program in sight. -/
import Derived.Test.YtkeieeogkeonfaaDoorMark
namespace Go.Proofs.YtkeieeogkeonfaaDoor
open Go.RowKit

def setA (w : World) (g o : Nat) (q : Nat) : World := ((w.setCell ⟨g, o, none⟩ (.int .i64 (q : Int))).setCell ⟨g, o + 1, none⟩ (.int .i64 ((q : Int) + 1))).setCell ⟨g, o + 2, none⟩ (.int .i64 ((q : Int) + 1 + 1))
theorem setA_block {w : World} {g o q b : Nat} (h : b ≠ g) : (setA w g o q).heap[b]? = w.heap[b]? := by
  unfold setA; rw [Below.heap_setCell _ _ _ _ (by simpa using h), Below.heap_setCell _ _ _ _ (by simpa using h), Below.heap_setCell _ _ _ _ (by simpa using h)]
theorem setA_size {w : World} {g o q : Nat} : (setA w g o q).heap.size = w.heap.size := by simp [setA, World.setCell]
theorem setA_cell {w : World} {g o q p : Nat} (h0 : ∃ v, w.cell? ⟨g, o, none⟩ = some v) (h1 : ∃ v, w.cell? ⟨g, o + 1, none⟩ = some v) (h2 : ∃ v, w.cell? ⟨g, o + 2, none⟩ = some v) :
    (setA w g o q).cell? ⟨g, p, none⟩ = if p = o + 2 then some (.int .i64 ((q + 2 : Nat) : Int)) else if p = o + 1 then some (.int .i64 ((q + 1 : Nat) : Int)) else if p = o then some (.int .i64 (q : Nat)) else w.cell? ⟨g, p, none⟩ := by
  obtain ⟨v0, h0⟩ := h0; obtain ⟨v1, h1⟩ := h1; obtain ⟨v2, h2⟩ := h2
  unfold setA
  rw [show ((q + 2 : Nat) : Int) = (q : Int) + 1 + 1 from rfl, show ((q + 1 : Nat) : Int) = (q : Int) + 1 from rfl]
  by_cases e2 : p = o + 2
  · subst e2; simp [go_sem, h0, h1, h2]
  by_cases e1 : p = o + 1
  · subst e1; simp [go_sem, h0, h1, h2]
  by_cases e0 : p = o
  · subst e0; simp [go_sem, h0, h1, h2]
  · simp [go_sem, e0, e1, e2]
theorem setA_keep {S : Nat → Prop} {w : World} {g o q : Nat} (h : S g) : Keep S w (setA w g o q) := (((Keep.refl S w).setCell (p := ⟨g, o, none⟩) (.inl h) _).setCell (p := ⟨g, o + 1, none⟩) (.inl h) _).setCell (p := ⟨g, o + 2, none⟩) (.inl h) _

/-- one value of a row is marked: four cells written, then its kids -/
theorem RowV.round {w : World} {g sz : Nat} {e : TypeId} {fr : List Nat} {es : List V} (h : Row w 5 g e sz fr (V.ds es)) (hn : (g :: fr).Nodup) (j : Nat) (hj : j < es.length) (q : Nat) : ∃ fi kn nn en sn kids v, es[j] = .mk kn nn en sn kids ∧ fi.Nodup ∧
    w.cell? ⟨g, j * 5, none⟩ = some (.int .i64 kn) ∧ w.cell? ⟨g, j * 5 + 1, none⟩ = some (.int .i64 nn) ∧ w.cell? ⟨g, j * 5 + 2, none⟩ = some (.int .i64 en) ∧ (∀ o, w.frozen? ⟨g, o, none⟩ = false) ∧ g < w.heap.size ∧
    ∀ w1, Below (setA w g (j * 5) q).heap.size (setA w g (j * 5) q) w1 → w1.cell? ⟨g, j * 5 + 3, none⟩ = some (.string ⟨sn.toArray⟩) ∧ w1.frozen? ⟨g, j * 5 + 3, none⟩ = false ∧ w1.cell? ⟨g, j * 5 + 4, none⟩ = some v ∧
      TreeC (w1.setCell ⟨g, j * 5 + 3, none⟩ (.string ⟨(mt (q + 3)).toArray⟩)) (.sl 5 (V.ds kids)) fi [v] ∧
      ∀ wD, Keep (· ∈ fi) (w1.setCell ⟨g, j * 5 + 3, none⟩ (.string ⟨(mt (q + 3)).toArray⟩)) wD → TreeC wD (.sl 5 (V.ds (V.marks (q + 4) kids))) fi [v] →
        Row wD 5 g e sz fr (V.ds (es.set j (V.mark1 q es[j]))) ∧ Keep (· ∈ g :: fr) w wD := by
  obtain ⟨kn, nn, en, sn, kids, hes⟩ : ∃ kn nn en sn kids, es[j] = .mk kn nn en sn kids := by cases es[j]; exact ⟨_, _, _, _, _, rfl⟩
  have hblk := h.blk
  have hj' : j < (V.ds es).length := by rw [V.ds_map, List.length_map]; exact hj
  obtain ⟨fi, ci, k1, k2, hgf, ht, hci, hsz, hcell, hput⟩ := h.at hn j hj'
  have hd : (V.ds es)[j] = es[j].d := by simp [V.ds_map]
  rw [hd, hes] at ht
  obtain ⟨v, rfl, htk⟩ := V.tree ht
  clear ht
  have ht := htk
  have hg := hblk.lt
  have hfl : ∀ b ∈ fi, b < w.heap.size := ht.lt
  have hgr : g ∉ fr := (List.nodup_cons.1 hn).1
  have c0 := hcell 0 _ (by decide) rfl
  have c1 := hcell 1 _ (by decide) rfl
  have c2 := hcell 2 _ (by decide) rfl
  have c3 := hcell 3 _ (by decide) rfl
  have c4 := hcell 4 _ (by decide) rfl
  rw [Nat.add_zero] at c0
  have hlt : ∀ b ∈ fr, b < w.heap.size := by obtain ⟨_, _, _, _, _, hts⟩ := h; exact hts.lt
  refine ⟨fi, kn, nn, en, sn, kids, v, hes, k1, c0, c1, c2, hblk.free, hg, fun w1 hB => ?_⟩
  have hAg : g < (setA w g (j * 5) q).heap.size := by rw [setA_size]; exact hg
  have hbA : Blk (setA w g (j * 5) q) g e sz := ((hblk.setCell _ _).setCell _ _).setCell _ _
  have hb1 : Blk w1 g e sz := hbA.below hB
  have hA := @setA_cell w g (j * 5) q
  have h1c : ∀ p, w1.cell? ⟨g, p, none⟩ = (setA w g (j * 5) q).cell? ⟨g, p, none⟩ := fun p => (bcell hB).1 _ _ hAg
  have e3 : w1.cell? ⟨g, j * 5 + 3, none⟩ = some (.string ⟨sn.toArray⟩) := by rw [h1c, hA ⟨_, c0⟩ ⟨_, c1⟩ ⟨_, c2⟩, if_neg (by omega), if_neg (by omega), if_neg (by omega), c3]
  have e4 : w1.cell? ⟨g, j * 5 + 4, none⟩ = some v := by rw [h1c, hA ⟨_, c0⟩ ⟨_, c1⟩ ⟨_, c2⟩, if_neg (by omega), if_neg (by omega), if_neg (by omega), c4]
  have hC : ∀ b, b < w.heap.size → b ≠ g → (w1.setCell ⟨g, j * 5 + 3, none⟩ (.string ⟨(mt (q + 3)).toArray⟩)).heap[b]? = w.heap[b]? := by
    intro b hb hbg
    rw [Below.heap_setCell _ _ _ _ (by simpa using hbg), hB.block b (by rw [setA_size]; exact hb), setA_block hbg]
  refine ⟨e3, hb1.free _, e4, ht.frame fun b hb => hC b (hfl b hb) (fun e => hgf (e ▸ hb)), fun wD hK hT => ?_⟩
  have hKg : Keep (· ∈ g :: fr) w wD :=
    (((setA_keep (S := (· ∈ g :: fr)) (by simp)).then hB).setCell (.inl (by simp)) _).trans (hK.mono fun b _ hb => by simp [k2 b hb])
  refine ⟨?_, hKg⟩
  have hz1 := hB.size
  rw [setA_size] at hz1
  have hgC : g < (w1.setCell ⟨g, j * 5 + 3, none⟩ (.string ⟨(mt (q + 3)).toArray⟩)).heap.size := by simp [World.setCell]; omega
  have hDc : ∀ p, wD.cell? ⟨g, p, none⟩ = (w1.setCell ⟨g, j * 5 + 3, none⟩ (.string ⟨(mt (q + 3)).toArray⟩)).cell? ⟨g, p, none⟩ := fun p => hK.cell hgC hgf
  have hCc : ∀ p, p ≠ j * 5 + 3 → (w1.setCell ⟨g, j * 5 + 3, none⟩ (.string ⟨(mt (q + 3)).toArray⟩)).cell? ⟨g, p, none⟩ = w1.cell? ⟨g, p, none⟩ := by
    intro p hp; simp [go_sem, hp]
  rw [← V.ds_set]
  refine hput wD _ [.int .i64 (q : Nat), .int .i64 ((q + 1 : Nat) : Int), .int .i64 ((q + 2 : Nat) : Int), .string ⟨(mt (q + 3)).toArray⟩, v] (V.width _) ((hb1.setCell _ _).keep hK hgf) ?_ ?_ ?_ (by rw [hes]; exact V.tree_mk hT)
  · intro i hi
    rw [hDc]
    match i, hi with
    | 0, _ => rw [hCc _ (by omega), h1c, hA ⟨_, c0⟩ ⟨_, c1⟩ ⟨_, c2⟩, if_neg (by omega), if_neg (by omega), if_pos (by omega)]; rfl
    | 1, _ => rw [hCc _ (by omega), h1c, hA ⟨_, c0⟩ ⟨_, c1⟩ ⟨_, c2⟩, if_neg (by omega), if_pos (by omega)]; rfl
    | 2, _ => rw [hCc _ (by omega), h1c, hA ⟨_, c0⟩ ⟨_, c1⟩ ⟨_, c2⟩, if_pos (by omega)]; rfl
    | 3, _ => simp [go_sem, e3]
    | 4, _ => rw [hCc _ (by omega), e4]; rfl
  · intro o ho
    rw [hDc, hCc _ (by omega), h1c, hA ⟨_, c0⟩ ⟨_, c1⟩ ⟨_, c2⟩, if_neg (by omega), if_neg (by omega), if_neg (by omega)]
  · intro b hb hbi
    have hne : b ≠ g := fun e => hgr (e ▸ hb)
    rw [hK.block b (by simp [World.setCell]; have := hlt b hb; omega) hbi, hC b (hlt b hb) hne]

/-- one shape of a row is marked: three cells written, its keys, one cell more, its kids -/
theorem RowSh.round {w : World} {g sz : Nat} {e : TypeId} {fr : List Nat} {es : List Sh} (h : Row w 6 g e sz fr (Sh.ds es)) (hn : (g :: fr).Nodup) (j : Nat) (hj : j < es.length) (q : Nat) : ∃ f1 f2 kn ln hi ks mn kids v u, es[j] = .mk kn ln hi ks mn kids ∧ f1.Nodup ∧ f2.Nodup ∧
    w.cell? ⟨g, j * 6, none⟩ = some (.int .i64 kn) ∧ w.cell? ⟨g, j * 6 + 1, none⟩ = some (.int .i64 ln) ∧ w.cell? ⟨g, j * 6 + 2, none⟩ = some (.int .i64 hi) ∧ (∀ o, w.frozen? ⟨g, o, none⟩ = false) ∧ g < w.heap.size ∧
    w.cell? ⟨g, j * 6 + 3, none⟩ = some v ∧ TreeC (setA w g (j * 6) q) (dSs ks) f1 [v] ∧
    ∀ w1, Keep (· ∈ f1) (setA w g (j * 6) q) w1 → TreeC w1 (dSs (mtS (q + 3) ks)) f1 [v] → w1.cell? ⟨g, j * 6 + 4, none⟩ = some (.int .i64 mn) ∧ w1.frozen? ⟨g, j * 6 + 4, none⟩ = false ∧ w1.cell? ⟨g, j * 6 + 5, none⟩ = some u ∧
      TreeC (w1.setCell ⟨g, j * 6 + 4, none⟩ (.int .i64 ((q + 3 + ks.length : Nat) : Int))) (.sl 6 (Sh.ds kids)) f2 [u] ∧
      ∀ wD, Keep (· ∈ f2) (w1.setCell ⟨g, j * 6 + 4, none⟩ (.int .i64 ((q + 3 + ks.length : Nat) : Int))) wD → TreeC wD (.sl 6 (Sh.ds (Sh.marks (q + 3 + ks.length + 1) kids))) f2 [u] →
        Row wD 6 g e sz fr (Sh.ds (es.set j (Sh.mark1 q es[j]))) ∧ Keep (· ∈ g :: fr) w wD := by
  obtain ⟨kn, ln, hi, ks, mn, kids, hes⟩ : ∃ kn ln hi ks mn kids, es[j] = .mk kn ln hi ks mn kids := by cases es[j]; exact ⟨_, _, _, _, _, _, rfl⟩
  have hblk := h.blk
  have hj' : j < (Sh.ds es).length := by rw [Sh.ds_map, List.length_map]; exact hj
  obtain ⟨fi, ci, k1, k2, hgf, ht, hci, hsz, hcell, hput⟩ := h.at hn j hj'
  have hd : (Sh.ds es)[j] = es[j].d := by simp [Sh.ds_map]
  rw [hd, hes] at ht
  obtain ⟨v, u, f1, f2, rfl, rfl, ht1, ht2⟩ := Sh.tree ht
  rw [List.nodup_append] at k1
  obtain ⟨n1, n2, n3⟩ := k1
  have hg1 : g ∉ f1 := fun hb => hgf (by simp [hb])
  have hg2 : g ∉ f2 := fun hb => hgf (by simp [hb])
  have hg := hblk.lt
  have hl1 : ∀ b ∈ f1, b < w.heap.size := ht1.lt
  have hl2 : ∀ b ∈ f2, b < w.heap.size := ht2.lt
  have hgr : g ∉ fr := (List.nodup_cons.1 hn).1
  have c0 := hcell 0 _ (by decide) rfl
  have c1 := hcell 1 _ (by decide) rfl
  have c2 := hcell 2 _ (by decide) rfl
  have c3 := hcell 3 _ (by decide) rfl
  have c4 := hcell 4 _ (by decide) rfl
  have c5 := hcell 5 _ (by decide) rfl
  rw [Nat.add_zero] at c0
  have hlt : ∀ b ∈ fr, b < w.heap.size := by obtain ⟨_, _, _, _, _, hts⟩ := h; exact hts.lt
  have hA := @setA_cell w g (j * 6) q
  have hAg : g < (setA w g (j * 6) q).heap.size := by rw [setA_size]; exact hg
  refine ⟨f1, f2, kn, ln, hi, ks, mn, kids, v, u, hes, n1, n2, c0, c1, c2, hblk.free, hg, c3, ht1.frame fun b hb => setA_block (fun e => hg1 (e ▸ hb)), fun w1 hB hT1 => ?_⟩
  have hbA : Blk (setA w g (j * 6) q) g e sz := ((hblk.setCell _ _).setCell _ _).setCell _ _
  have hb1 : Blk w1 g e sz := hbA.keep hB hg1
  have h1c : ∀ p, w1.cell? ⟨g, p, none⟩ = (setA w g (j * 6) q).cell? ⟨g, p, none⟩ := fun p => hB.cell hAg hg1
  have e4 : w1.cell? ⟨g, j * 6 + 4, none⟩ = some (.int .i64 mn) := by rw [h1c, hA ⟨_, c0⟩ ⟨_, c1⟩ ⟨_, c2⟩, if_neg (by omega), if_neg (by omega), if_neg (by omega), c4]
  have e5 : w1.cell? ⟨g, j * 6 + 5, none⟩ = some u := by rw [h1c, hA ⟨_, c0⟩ ⟨_, c1⟩ ⟨_, c2⟩, if_neg (by omega), if_neg (by omega), if_neg (by omega), c5]
  have hC : ∀ b, b < w.heap.size → b ≠ g → b ∉ f1 → (w1.setCell ⟨g, j * 6 + 4, none⟩ (.int .i64 ((q + 3 + ks.length : Nat) : Int))).heap[b]? = w.heap[b]? := by
    intro b hb hbg hb1
    rw [Below.heap_setCell _ _ _ _ (by simpa using hbg), hB.block b (by rw [setA_size]; exact hb) hb1, setA_block hbg]
  refine ⟨e4, hb1.free _, e5, ht2.frame fun b hb => hC b (hl2 b hb) (fun e => hg2 (e ▸ hb)) (fun hb1 => n3 b hb1 b hb rfl), fun wD hK hT => ?_⟩
  have hKg : Keep (· ∈ g :: fr) w wD :=
    (((setA_keep (S := (· ∈ g :: fr)) (by simp)).trans (hB.mono fun b _ hb => by simp [k2 b (by simp [hb])])).setCell (.inl (by simp)) _).trans (hK.mono fun b _ hb => by simp [k2 b (by simp [hb])])
  refine ⟨?_, hKg⟩
  have hz1 := hB.size
  rw [setA_size] at hz1
  have hgC : g < (w1.setCell ⟨g, j * 6 + 4, none⟩ (.int .i64 ((q + 3 + ks.length : Nat) : Int))).heap.size := by simp [World.setCell]; omega
  have hDc : ∀ p, wD.cell? ⟨g, p, none⟩ = (w1.setCell ⟨g, j * 6 + 4, none⟩ (.int .i64 ((q + 3 + ks.length : Nat) : Int))).cell? ⟨g, p, none⟩ := fun p => hK.cell hgC hg2
  have hCc : ∀ p, p ≠ j * 6 + 4 → (w1.setCell ⟨g, j * 6 + 4, none⟩ (.int .i64 ((q + 3 + ks.length : Nat) : Int))).cell? ⟨g, p, none⟩ = w1.cell? ⟨g, p, none⟩ := by
    intro p hp; simp [go_sem, hp]
  rw [← Sh.ds_set]
  have hT1' : TreeC wD (dSs (mtS (q + 3) ks)) f1 [v] := hT1.frame fun b hb => by
    have hne : b ≠ g := fun e => hg1 (e ▸ hb)
    rw [hK.block b (by simp [World.setCell]; exact hT1.lt b hb) (fun hb2 => n3 b hb b hb2 rfl), Below.heap_setCell _ _ _ _ (by simpa using hne)]
  refine hput wD _ [.int .i64 (q : Nat), .int .i64 ((q + 1 : Nat) : Int), .int .i64 ((q + 2 : Nat) : Int), v, .int .i64 ((q + 3 + ks.length : Nat) : Int), u] (Sh.width _) ((hb1.setCell _ _).keep hK hg2) ?_ ?_ ?_ (by rw [hes]; exact Sh.tree_mk hT1' hT)
  · intro i hi
    rw [hDc]
    match i, hi with
    | 0, _ => rw [hCc _ (by omega), h1c, hA ⟨_, c0⟩ ⟨_, c1⟩ ⟨_, c2⟩, if_neg (by omega), if_neg (by omega), if_pos (by omega)]; rfl
    | 1, _ => rw [hCc _ (by omega), h1c, hA ⟨_, c0⟩ ⟨_, c1⟩ ⟨_, c2⟩, if_neg (by omega), if_pos (by omega)]; rfl
    | 2, _ => rw [hCc _ (by omega), h1c, hA ⟨_, c0⟩ ⟨_, c1⟩ ⟨_, c2⟩, if_pos (by omega)]; rfl
    | 3, _ => rw [hCc _ (by omega), h1c, hA ⟨_, c0⟩ ⟨_, c1⟩ ⟨_, c2⟩, if_neg (by omega), if_neg (by omega), if_neg (by omega), c3]; rfl
    | 4, _ => simp [go_sem, e4]
    | 5, _ => rw [hCc _ (by omega), e5]; rfl
  · intro o ho
    rw [hDc, hCc _ (by omega), h1c, hA ⟨_, c0⟩ ⟨_, c1⟩ ⟨_, c2⟩, if_neg (by omega), if_neg (by omega), if_neg (by omega)]
  · intro b hb hbi
    have hne : b ≠ g := fun e => hgr (e ▸ hb)
    have hb1' : b ∉ f1 := fun h => hbi (by simp [h])
    have hb2' : b ∉ f2 := fun h => hbi (by simp [h])
    rw [hK.block b (by simp [World.setCell]; have := hlt b hb; omega) hb2', hC b (hlt b hb) hne hb1']
end Go.Proofs.YtkeieeogkeonfaaDoor
