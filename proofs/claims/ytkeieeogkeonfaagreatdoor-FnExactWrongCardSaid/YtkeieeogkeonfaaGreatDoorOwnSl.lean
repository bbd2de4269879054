/- Slices of the call's own whose elements are own data; how they grow. No program in sight. -/
import Derived.Test.YtkeieeogkeonfaaGreatDoorTree
import Derived.Test.YtkeieeogkeonfaaGreatDoorOwn
import Derived.Deep.AppendLies
namespace Go.Proofs.YtkeieeogkeonfaaGreatDoor
open Go.RowKit

/-- a slice of the call's own, from block B on, of elements of n cells that are own data, in other blocks -/
def OwnSl (B : Nat) (w : World) (e : TypeId) (n : Nat) (v : Value) (ds : List D) : Prop :=
  ∃ xs fp, w.ownsRow B e n v ds.length xs ∧ (∀ d ∈ ds, D.width d = n) ∧ TreeCs w ds fp xs ∧ fp.Nodup ∧ (∀ b ∈ fp, B ≤ b) ∧ (∀ g, v.ownBlock = some g → g ∉ fp)
theorem OwnSl.nil {B : Nat} {w : World} {e : TypeId} {n : Nat} : OwnSl B w e n (.slice none 0 0) [] :=
  ⟨[], [], ⟨by simp, .inl ⟨rfl, rfl⟩⟩, by simp, by simp [TreeCs], by simp, by simp, by simp⟩
theorem OwnSl.made {B : Nat} {w : World} {e : TypeId} {n : Nat} {cs : Array Value} {cap : Nat} (hB : B ≤ w.heap.size) (hm : cap ≤ maxLen) (hs : cs.size = cap * n) : OwnSl B (w.alloc (.cells cs e)) e n (.slice (some ⟨w.heap.size, 0, none⟩) 0 cap) [] :=
  ⟨[], [], World.ownsRow_made w cs cap hB hm hs, by simp, by simp [TreeCs], by simp, by simp, by simp⟩
theorem OwnSl.form {B : Nat} {w : World} {e : TypeId} {n : Nat} {v : Value} {ds : List D} (h : OwnSl B w e n v ds) : ∃ a c, v = .slice a ds.length c := by
  obtain ⟨xs, fp, hr, _⟩ := h
  rcases hr.2 with ⟨rfl, h2⟩ | ⟨g, cap, cur, rfl, _⟩
  · rw [h2]; exact ⟨none, 0, rfl⟩
  · exact ⟨_, _, rfl⟩
theorem OwnSl.below {B : Nat} {w w' : World} {e : TypeId} {n : Nat} {v : Value} {ds : List D} (h : OwnSl B w e n v ds) (hb : Below w.heap.size w w') : OwnSl B w' e n v ds := by
  obtain ⟨xs, fp, ⟨h1, h2⟩, hw, ht, k1, k2, k3⟩ := h
  refine ⟨xs, fp, ⟨h1, ?_⟩, hw, ht.frame fun b hx => hb.block b (ht.lt b hx), k1, k2, k3⟩
  rcases h2 with h2 | ⟨g, cap, cur, hv, hg, hh, r⟩
  · exact .inl h2
  · exact .inr ⟨g, cap, cur, hv, hg, by rw [hb.block g (heap_lt hh)]; exact hh, r⟩
theorem OwnSl.alloc {B : Nat} {w : World} {e : TypeId} {n : Nat} {v : Value} {ds : List D} (h : OwnSl B w e n v ds) (o : Obj) : OwnSl B (w.alloc o) e n v ds := h.below ((Below.refl _ _).alloc (Nat.le_refl _) o)
theorem OwnSl.setCell {B : Nat} {w : World} {e : TypeId} {n : Nat} {v : Value} {ds : List D} (h : OwnSl B w e n v ds) {p : Addr} (hp : p.block < B) (u : Value) : OwnSl B (w.setCell p u) e n v ds := by
  obtain ⟨xs, fp, hr, hw, ht, k1, k2, k3⟩ := h
  exact ⟨xs, fp, ownsRow_setCell_below hr hp u, hw, ht.frame fun b hx => Below.heap_setCell _ _ _ _ (by have := k2 b hx; omega), k1, k2, k3⟩
theorem OwnSl.own {B : Nat} {w : World} {e : TypeId} {n : Nat} {v : Value} {ds : List D} (h : OwnSl B w e n v ds) (hn : 0 < n) : Own B w (.sl n ds) [v] := by
  obtain ⟨xs, fp, ⟨h1, h2⟩, hw, ht, k1, k2, k3⟩ := h
  by_cases hne : ds = []
  · subst hne
    rcases h2 with ⟨rfl, _⟩ | ⟨g, cap, cur, rfl, _⟩
    · exact ⟨[], by simp, by simp, by simp [TreeC]⟩
    · exact ⟨[], by simp, by simp, by simp [TreeC]⟩
  · rcases h2 with ⟨_, h2⟩ | ⟨g, cap, cur, rfl, hg, hh, hc1, hc2, hsz, htk⟩
    · exact absurd (List.length_eq_zero_iff.1 h2) hne
    · refine ⟨g :: fp, ?_, ?_, ?_⟩
      · rw [List.nodup_cons]; exact ⟨k3 g rfl, k1⟩
      · intro b hb; rcases List.mem_cons.1 hb with rfl | hb
        · exact hg
        · exact k2 b hb
      · simp only [TreeC]
        refine ⟨_, cap, rfl, .inr ⟨g, fp, cur, e, rfl, rfl, hh, hn, hc1, hc2, hw, ?_⟩⟩
        rw [Nat.mul_comm, htk]; exact ht
theorem OwnSl.mono {B B' : Nat} {w : World} {e : TypeId} {n : Nat} {v : Value} {ds : List D} (h : OwnSl B w e n v ds) (hB : B' ≤ B) : OwnSl B' w e n v ds := by
  obtain ⟨xs, fp, ⟨h1, h2⟩, hw, ht, k1, k2, k3⟩ := h
  refine ⟨xs, fp, ⟨h1, ?_⟩, hw, ht, k1, fun b hb => Nat.le_trans hB (k2 b hb), k3⟩
  rcases h2 with h2 | ⟨g, cap, cur, hv, hg, r⟩
  · exact .inl h2
  · exact .inr ⟨g, cap, cur, hv, Nat.le_trans hB hg, r⟩

theorem lit_cells {w : World} {news : List Value} {e : TypeId} : ∀ j u, news[j]? = some u → (w.alloc (.cells news.toArray e)).cell? ((⟨w.heap.size, 0, none⟩ : Addr).add j) = some u := by
  intro j u hj
  rw [add_plain, cell_of_block (heap_alloc_new w _)]; simpa using hj
/-- what an append to such a slice leaves -/
theorem OwnSl.grow {B : Nat} {w0 w1 w' : World} {e : TypeId} {n : Nat} {v : Value} {ds ds' : List D} {news xs : List Value} {fp f2 : List Nat} {g cap : Nat} (hB : B ≤ w0.heap.size) (hr0 : w0.ownsRow B e n v ds.length xs) (hw : ∀ d ∈ ds, D.width d = n) (ht : TreeCs w0 ds fp xs) (k1 : fp.Nodup) (k2 : ∀ b ∈ fp, B ≤ b) (k3 : ∀ g, v.ownBlock = some g → g ∉ fp)
    (hb : Below w0.heap.size w0 w1) (n2 : f2.Nodup) (b2 : ∀ b ∈ f2, w0.heap.size ≤ b) (t2 : TreeCs w1 ds' f2 news) (hw' : ∀ d ∈ ds', D.width d = n)
    (hrow : w'.ownsRow B e n (.slice (some ⟨g, 0, none⟩) (ds.length + ds'.length) cap) (ds.length + ds'.length) (xs ++ news)) (hgr : (w1.alloc (.cells news.toArray e)).grownBy w' v.ownBlock) (hg : v.ownBlock = some g ∨ g = (w1.alloc (.cells news.toArray e)).heap.size) :
    OwnSl B w' e n (.slice (some ⟨g, 0, none⟩) (ds.length + ds'.length) cap) (ds ++ ds') ∧ Below B w0 w' := by
  have hal : Below w1.heap.size w1 (w1.alloc (.cells news.toArray e)) := (Below.refl _ _).alloc (Nat.le_refl _) _
  have hb2 := below2 hb hal (Nat.le_refl _)
  have hbl : ∀ k, v.ownBlock = some k → B ≤ k ∧ k < w0.heap.size := hr0.lt
  have hsz := hb.size
  have hsz2 : (w1.alloc (.cells news.toArray e)).heap.size = w1.heap.size + 1 := by simp
  have hfr : ∀ b, b < (w1.alloc (.cells news.toArray e)).heap.size → v.ownBlock ≠ some b → w'.heap[b]? = (w1.alloc (.cells news.toArray e)).heap[b]? := fun b h1 h2 => hgr.block b h1 (fun h => h2 h.symm)
  refine ⟨⟨xs ++ news, fp ++ f2, by rw [List.length_append]; exact hrow, ?_, TreeCs.append (ht.frame fun b hx => ?_) (t2.frame fun b hx => ?_), ?_, ?_, ?_⟩, ?_⟩
  · intro d hd; rcases List.mem_append.1 hd with h | h
    · exact hw d h
    · exact hw' d h
  · have := ht.lt b hx
    rw [hfr b (by omega) (fun h => k3 b h hx), hb2.block b this]
  · have := t2.lt b hx
    rw [hfr b (by omega) (fun h => by have := (hbl b h).2; have := b2 b hx; omega), hal.block b this]
  · rw [List.nodup_append]
    refine ⟨k1, n2, fun a ha b hb' => ?_⟩
    have := ht.lt a ha; have := b2 b hb'; omega
  · intro b hx; rcases List.mem_append.1 hx with h | h
    · exact k2 b h
    · exact Nat.le_trans hB (b2 b h)
  · intro g' hg'
    obtain rfl : g = g' := by simpa [Value.ownBlock] using hg'
    intro hm
    rcases List.mem_append.1 hm with h | h
    · rcases hg with hg | hg
      · exact k3 g hg h
      · have := ht.lt g h; omega
    · rcases hg with hg | hg
      · have := (hbl g hg).2; have := b2 g h; omega
      · have := t2.lt g h; omega
  · exact (hb2.mono hB).grown hgr (by omega) (fun k hk => (hbl k hk).1)

/-- append of own data, made since, to such a slice: in a plain region -/
theorem wp_appD {P : Program} {ops : Array Oper} {rest : List Oper} {o : Oper} {a : Act} {Q : Exit → Act → World → Prop} {t e : TypeId} {n bytes : Nat} {s x : Operand} {v : Value} {ds ds' : List D} {news : List Value} {w0 w1 : World}
    (T : ElemTy P t e n bytes) (hgd : o.guard = none) (ho : o.op = .call { callee := .builtin .append, args := #[s, x], argTypes := #[t, t] })
    (B : Nat) (hown : OwnSl B w0 e n v ds) (hb : Below w0.heap.size w0 w1) (hB : B ≤ w0.heap.size) (k : Owns w0.heap.size w1 ds' news) (hw' : ∀ d ∈ ds', D.width d = n) (hne : 0 < ds'.length) (h1 : ∀ u ∈ news, u.oneCell' = true)
    (hs : a.eval s = v) (c : Nat) (hx : a.eval x = .slice (some ⟨w1.heap.size, 0, none⟩) ds'.length c) (h63 : ds.length + ds'.length ≤ 4294967296) (hby : bytes ≤ 32768)
    (h : ∀ g cap w', OwnSl B w' e n (.slice (some ⟨g, 0, none⟩) (ds.length + ds'.length) cap) (ds ++ ds') → Below B w0 w' → wpList P ops Q rest (a.put o.dst (.slice (some ⟨g, 0, none⟩) (ds.length + ds'.length) cap)) w') : wpList P ops Q (o :: rest) a (w1.alloc (.cells news.toArray e)) := by
  obtain ⟨xs, fp, hr, hw, ht, k1, k2, k3⟩ := hown
  obtain ⟨f2, n2, b2, t2⟩ := k
  obtain ⟨i, z, g1, g2, g3, g4, g5⟩ := T.info
  have hwd : ∀ ds : List D, (∀ d ∈ ds, D.width d = n) → D.widths ds = ds.length * n := by
    intro ds h; induction ds with
    | nil => simp [D.widths]
    | cons x r ih => simp only [D.widths, h x (by simp), ih (fun d hd => h d (by simp [hd])), List.length_cons, Nat.succ_mul]; omega
  have hr' : (w1.alloc (.cells news.toArray e)).ownsRow B e n v ds.length xs := by
    have hb2 := below2 hb ((Below.refl w1.heap.size w1).alloc (Nat.le_refl _) (.cells news.toArray e)) (Nat.le_refl _)
    refine ⟨hr.1, ?_⟩
    rcases hr.2 with h2 | ⟨g, cap, cur, hv, hg, hh, r⟩
    · exact .inl h2
    · exact .inr ⟨g, cap, cur, hv, hg, by rw [hb2.block g (heap_lt hh)]; exact hh, r⟩
  have hsz := hb.size
  refine wpList_append_lies _ hgd s x t ho B e i z n bytes T.under g1 g2 g3 g4 g5 T.pos v ds.length xs hs hr' ⟨w1.heap.size, 0, none⟩ ds'.length c news hx (by rw [t2.len, hwd ds' hw']) lit_cells h1 hne (by unfold maxLen; omega)
    (Nat.le_trans (Nat.mul_le_mul h63 hby) (by decide)) (by simp; omega) _ rfl ?_
  intro g cap w' q1 q2 q3 _
  obtain ⟨r1, r2⟩ := OwnSl.grow hB hr hw ht k1 k2 k3 hb n2 b2 t2 hw' q1 q2 q3
  exact h g cap w' r1 r2
/-- the same inside a region that draws its order -/
theorem step_appD {P : Program} {ops : Array Oper} {o : Oper} {a : Act} {K : Act → World → Prop} {Q : Exit → Act → World → Prop} {E : Prop} {t e : TypeId} {n bytes : Nat} {s x : Operand} {v : Value} {ds ds' : List D} {news : List Value} {w0 w1 : World}
    (T : ElemTy P t e n bytes) (hgd : o.guard = none) (ho : o.op = .call { callee := .builtin .append, args := #[s, x], argTypes := #[t, t] })
    (B : Nat) (hown : OwnSl B w0 e n v ds) (hb : Below w0.heap.size w0 w1) (hB : B ≤ w0.heap.size) (k : Owns w0.heap.size w1 ds' news) (hw' : ∀ d ∈ ds', D.width d = n) (hne : 0 < ds'.length) (h1 : ∀ u ∈ news, u.oneCell' = true)
    (hs : a.eval s = v) (c : Nat) (hx : a.eval x = .slice (some ⟨w1.heap.size, 0, none⟩) ds'.length c) (h63 : ds.length + ds'.length ≤ 4294967296) (hby : bytes ≤ 32768)
    (h : ∀ g cap w', OwnSl B w' e n (.slice (some ⟨g, 0, none⟩) (ds.length + ds'.length) cap) (ds ++ ds') → Below B w0 w' → K (a.put o.dst (.slice (some ⟨g, 0, none⟩) (ds.length + ds'.length) cap)) w') :
    if Region.wanted o (yielded ops a.tmps) = true then Oper.wp P o a (w1.alloc (.cells news.toArray e)) K Q else E := by
  obtain ⟨xs, fp, hr, hw, ht, k1, k2, k3⟩ := hown
  obtain ⟨f2, n2, b2, t2⟩ := k
  obtain ⟨i, z, g1, g2, g3, g4, g5⟩ := T.info
  have hwd : ∀ ds : List D, (∀ d ∈ ds, D.width d = n) → D.widths ds = ds.length * n := by
    intro ds h; induction ds with
    | nil => simp [D.widths]
    | cons x r ih => simp only [D.widths, h x (by simp), ih (fun d hd => h d (by simp [hd])), List.length_cons, Nat.succ_mul]; omega
  have hr' : (w1.alloc (.cells news.toArray e)).ownsRow B e n v ds.length xs := by
    have hb2 := below2 hb ((Below.refl w1.heap.size w1).alloc (Nat.le_refl _) (.cells news.toArray e)) (Nat.le_refl _)
    refine ⟨hr.1, ?_⟩
    rcases hr.2 with h2 | ⟨g, cap, cur, hv, hg, hh, r⟩
    · exact .inl h2
    · exact .inr ⟨g, cap, cur, hv, hg, by rw [hb2.block g (heap_lt hh)]; exact hh, r⟩
  have hsz := hb.size
  refine step_append_lies _ hgd s x t ho B e i z n bytes T.under g1 g2 g3 g4 g5 T.pos v ds.length xs hs hr' ⟨w1.heap.size, 0, none⟩ ds'.length c news hx (by rw [t2.len, hwd ds' hw']) lit_cells h1 hne (by unfold maxLen; omega)
    (Nat.le_trans (Nat.mul_le_mul h63 hby) (by decide)) (by simp; omega) _ rfl ?_
  intro g cap w' q1 q2 q3 _
  obtain ⟨r1, r2⟩ := OwnSl.grow hB hr hw ht k1 k2 k3 hb n2 b2 t2 hw' q1 q2 q3
  exact h g cap w' r1 r2
end Go.Proofs.YtkeieeogkeonfaaGreatDoor
