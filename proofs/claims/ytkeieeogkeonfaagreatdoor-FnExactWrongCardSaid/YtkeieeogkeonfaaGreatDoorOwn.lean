/- Laws for rows of memory that a call makes itself, in a shape that takes few arguments. -/
import Derived.Test.YtkeieeogkeonfaaGreatDoorBase
import Derived.WalkSpells
import Derived.WalkLawsBesides
import Derived.Lib.Hide
namespace Go.Proofs.YtkeieeogkeonfaaGreatDoor
open Go.RowKit

structure ElemTy (P : Program) (t e : TypeId) (size bytes : Nat) : Prop where
  under : P.underlying t = some (.slice e)
  info : ∃ i z, P.info? e = some i ∧ i.zero = some z ∧ i.size = size ∧ i.bytes = bytes ∧ z.cells.size = size
  pos : 0 < size

theorem ElemTy.mk' {P : Program} {t e : TypeId} {size bytes : Nat} {z : Value} (h : P.underlying t = some (.slice e))
    (hi : (P.info? e).map (fun i => (i.zero, i.size, i.bytes)) = some (some z, size, bytes)) (hz : z.cells.size = size) (hp : 0 < size) : ElemTy P t e size bytes := by
  obtain ⟨i, h1, h2, h3, h4⟩ := info_parts hi
  exact ⟨h, ⟨i, z, h1, h2, h3, h4, hz⟩, hp⟩

/-- a slice value of bytes of the call's own, from block B on -/
def OwnB (w : World) (B u8 : Nat) (v : Value) (l : List UInt8) : Prop := w.ownsRow B u8 1 v l.length (l.map fun b => .int .u8 (b.toNat : Nat))

theorem below_of_grown {B : Nat} {a w w' : World} {v : Value} {e size n : Nat} {xs : List Value} (h : Below B a w) (hown : w.ownsRow B e size v n xs) (hg : w.grownBy w' v.ownBlock) (hB : B ≤ w.heap.size) : Below B a w' :=
  h.grown hg hB fun k hk => (hown.lt k hk).1

theorem wp_app {P : Program} {ops : Array Oper} {rest : List Oper} {o : Oper} {a : Act} {w : World} {Q : Exit → Act → World → Prop} {t e : TypeId} {size bytes : Nat} {s x : Operand} {v : Value} {n : Nat} {xs : List Value}
    (T : ElemTy P t e size bytes) (hgd : o.guard = none) (ho : o.op = .call { callee := .builtin .append, args := #[s, x], argTypes := #[t, t] })
    (B : Nat) (hown : w.ownsRow B e size v n xs) (hs : a.eval s = v) (ad : Addr) (m c : Nat) (news : List Value) (hx : a.eval x = .slice (some ad) m c)
    (hl : news.length = m * size) (hnews : ∀ j u, news[j]? = some u → w.cell? (ad.add j) = some u) (h1 : ∀ u ∈ news, u.oneCell' = true)
    (h63 : n + m ≤ 4294967296) (hby : bytes ≤ 32768) (hB : B ≤ w.heap.size)
    (h : ∀ v' w', w'.ownsRow B e size v' (n + m) (xs ++ news) → w.grownBy w' v.ownBlock → (v' = .slice none 0 0 ↔ v = .slice none 0 0 ∧ m = 0) → wpList P ops Q rest (a.put o.dst v') w') : wpList P ops Q (o :: rest) a w := by
  obtain ⟨i, z, h1', h2, h3, h4, h5⟩ := T.info
  exact wpList_append_own w hgd s x t ho B e i z size bytes T.under h1' h2 h3 h4 h5 T.pos v n xs hs hown ad m c news hx hl hnews h1 (by unfold maxLen; omega)
    (Nat.le_trans (Nat.mul_le_mul h63 hby) (by decide)) hB h

theorem bytes_one (l : List UInt8) : ∀ u ∈ l.map (fun b => Value.int .u8 ((b.toNat : Nat) : Int)), u.oneCell' = true := by
  intro u hu; rw [List.mem_map] at hu; obtain ⟨b, _, rfl⟩ := hu; rfl

/-- append of bytes to bytes of the call's own -/
theorem wp_appB {P : Program} {ops : Array Oper} {rest : List Oper} {o : Oper} {a : Act} {w : World} {Q : Exit → Act → World → Prop} {t u8 : TypeId} {s x : Operand} {v : Value} {l r : List UInt8}
    (T : ElemTy P t u8 1 1) (hgd : o.guard = none) (ho : o.op = .call { callee := .builtin .append, args := #[s, x], argTypes := #[t, t] })
    (B : Nat) (hown : OwnB w B u8 v l) (hs : a.eval s = v) (ad : Addr) (c : Nat) (hx : a.eval x = .slice (some ad) r.length c)
    (hnews : ∀ j u, (r.map fun b => Value.int .u8 ((b.toNat : Nat) : Int))[j]? = some u → w.cell? (ad.add j) = some u)
    (h63 : l.length + r.length ≤ 4294967296) (hB : B ≤ w.heap.size)
    (h : ∀ v' w', OwnB w' B u8 v' (l ++ r) → w.grownBy w' v.ownBlock → (v' = .slice none 0 0 → v = .slice none 0 0) → wpList P ops Q rest (a.put o.dst v') w') : wpList P ops Q (o :: rest) a w := by
  refine wp_app T hgd ho B hown hs ad r.length c _ hx (by simp) hnews (bytes_one r) h63 (by decide) hB ?_
  intro v' w' h1 h2 h3
  refine h v' w' ?_ h2 (fun e => (h3.1 e).1)
  unfold OwnB
  rw [List.length_append, List.map_append]; exact h1

theorem OwnB.start {w : World} {u8 : Nat} : OwnB (w.alloc (.cells #[] u8)) w.heap.size u8 (.slice (some ⟨w.heap.size, 0, none⟩) 0 0) [] :=
  World.ownsRow_made (e := u8) (size := 1) w #[] 0 (Nat.le_refl _) (by decide) rfl
theorem OwnB.one {w : World} {u8 : Nat} (b : UInt8) {B : Nat} (hB : B ≤ w.heap.size) : OwnB (w.alloc (.cells #[.int .u8 (b.toNat : Nat)] u8)) B u8 (.slice (some ⟨w.heap.size, 0, none⟩) 1 1) [b] :=
  World.ownsRow_lit (e := u8) (size := 1) w #[.int .u8 (b.toNat : Nat)] 1 hB (by decide) rfl
theorem cell_of_block' {w : World} {b : Nat} {cur : Array Value} {e : TypeId} {fr : Nat × Nat} (h : w.heap[b]? = some (.cells cur e fr)) (j : Nat) : w.cell? ⟨b, j, none⟩ = cur[j]? := by
  simp [World.cell?, h]
theorem OwnB.alloc {w : World} {B u8 : Nat} {v : Value} {l : List UInt8} (h : OwnB w B u8 v l) (o : Obj) : OwnB (w.alloc o) B u8 v l := World.ownsRow.alloc h o
theorem OwnB.below {a w w' : World} {B u8 : Nat} {v : Value} {l : List UInt8} (h : OwnB w B u8 v l) (hb : Below B a w) (hg : w.grownBy w' v.ownBlock) (hB : B ≤ w.heap.size) : Below B a w' := below_of_grown hb h hg hB

theorem OwnB.cells {w : World} {B u8 : Nat} {v : Value} {l : List UInt8} (h : OwnB w B u8 v l) (g : Nat) (hg : v.ownBlock = some g) :
    ∀ j u, (l.map fun b => Value.int .u8 ((b.toNat : Nat) : Int))[j]? = some u → w.cell? ((⟨g, 0, none⟩ : Addr).add j) = some u := World.ownsRow.cells h hg
/-- what an own slice of bytes looks like, if it is not nil -/
theorem OwnB.form {w : World} {B u8 : Nat} {v : Value} {l : List UInt8} (h : OwnB w B u8 v l) : (v = .slice none 0 0 ∧ l = []) ∨ ∃ g c, v = .slice (some ⟨g, 0, none⟩) l.length c ∧ B ≤ g := by
  obtain ⟨_, h | ⟨g, cap, cur, h1, h2, _⟩⟩ := h
  · exact .inl ⟨h.1, List.length_eq_zero_iff.1 h.2⟩
  · exact .inr ⟨g, cap, h1, h2⟩
theorem OwnB.form' {w : World} {B u8 : Nat} {v : Value} {l : List UInt8} (h : OwnB w B u8 v l) (hn : v ≠ .slice none 0 0) : ∃ g c, v = .slice (some ⟨g, 0, none⟩) l.length c ∧ B ≤ g :=
  h.form.resolve_left fun e => hn e.1
theorem add_plain (b o j : Nat) : (⟨b, o, none⟩ : Addr).add j = ⟨b, o + j, none⟩ := by unfold Addr.add; split <;> simp_all

/-- 'string(b)' of own bytes -/
theorem OwnB.str {P : Program} {w : World} {B u8 : Nat} {v : Value} {l : List UInt8} (h : OwnB w B u8 v l) (src : TypeId) (hs : P.underlying src = some (.slice u8)) (he : P.underlying u8 = some (.int .u8)) :
    ∀ dst, P.underlying dst = some .string → (convert src dst v).run P w = .ok (.string ⟨l.toArray⟩) w := by
  intro dst hd
  rcases h.form with ⟨rfl, rfl⟩ | ⟨g, c, rfl, _⟩
  · rw [run_convert_bytes_nil w src u8 hs he 0 0 dst hd]; rfl
  · have hc := h.cells g rfl
    have := run_convert_bytes_arg (P := P) w src u8 hs he g 0 l.length c (l.map fun b => (b.toNat : Int)) (by simp) (fun i hi => by
      have := hc i (.int .u8 (l[i].toNat : Nat)) (by simp [hi])
      rw [add_plain] at this; rw [this]; simp [hi]) dst hd
    rw [this]; unfold strOfNums; simp [List.map_map, Function.comp_def]
theorem keep3 {w0 W w1 : World} {c0 c1 c2 : Value} (h : W.cell? ⟨w0.heap.size, 0, none⟩ = some c0 ∧ W.cell? ⟨w0.heap.size, 1, none⟩ = some c1 ∧ W.cell? ⟨w0.heap.size, 2, none⟩ = some c2 ∧ Below w0.heap.size w0 W ∧ w0.heap.size < W.heap.size)
    (hb : Below W.heap.size W w1) : w1.cell? ⟨w0.heap.size, 0, none⟩ = some c0 ∧ w1.cell? ⟨w0.heap.size, 1, none⟩ = some c1 ∧ w1.cell? ⟨w0.heap.size, 2, none⟩ = some c2 ∧ Below w0.heap.size w0 w1 ∧ w0.heap.size < w1.heap.size := by
  obtain ⟨h1, h2, h3, h4, h5⟩ := h
  have := (bcell hb).1
  exact ⟨by rw [this _ _ h5]; exact h1, by rw [this _ _ h5]; exact h2, by rw [this _ _ h5]; exact h3, below2 h4 hb (Nat.le_refl _), Nat.lt_of_lt_of_le h5 hb.size⟩
/-- the byte in a cell -/
def cb : Option Value → UInt8
  | some (.int _ n) => byteOf n.toNat
  | _ => 0
def isB : Option Value → Bool
  | some (.int .u8 _) => true
  | _ => false
theorem cb_some (k : IntKind) (n : Int) : cb (some (.int k n)) = byteOf n.toNat := rfl
attribute [go_sem] cb_some
theorem isB_some (n : Int) : isB (some (.int .u8 n)) = true := rfl
attribute [go_sem] isB_some
/-- 'string([]byte{x})' -/
theorem conv1 {P : Program} {src dst u8 : TypeId} (hs : P.underlying src = some (.slice u8)) (he : P.underlying u8 = some (.int .u8)) (hd : P.underlying dst = some .string) (b c : Nat) (w : World)
    (h : isB (w.cell? ⟨b, 0, none⟩) = true) : (convert src dst (.slice (some ⟨b, 0, none⟩) 1 c)).run P w = .ok (.string ⟨[cb (w.cell? ⟨b, 0, none⟩)].toArray⟩) w := by
  match hc : w.cell? ⟨b, 0, none⟩, h with
  | some (.int .u8 n), _ =>
    have := run_convert_bytes_arg (P := P) w src u8 hs he b 0 1 c [n] rfl (fun i hi => by
      obtain rfl : i = 0 := by omega
      simpa using hc) dst hd
    rw [this]
    have : byteOf n.toNat = UInt8.ofNat n.toNat := by apply UInt8.toNat_inj.1; simp [byteOf]
    simp [cb, this, strOfNums]
theorem isB_byte {v : Option Value} (h : isB v = true) : ∃ n, v = some (.int .u8 n) := by
  match v, h with
  | some (.int .u8 n), _ => exact ⟨n, rfl⟩
theorem cb_ofNat (n : Int) : UInt8.ofNat n.toNat = byteOf n.toNat := by apply UInt8.toNat_inj.1; simp [byteOf]
theorem convs {P : Program} {src dst u8 : TypeId} (hs : P.underlying src = some (.slice u8)) (he : P.underlying u8 = some (.int .u8)) (hd : P.underlying dst = some .string) (b c : Nat) (w : World) (ns : List Int)
    (h : ∀ i (hi : i < ns.length), w.cell? ⟨b, i, none⟩ = some (.int .u8 ns[i])) : (convert src dst (.slice (some ⟨b, 0, none⟩) ns.length c)).run P w = .ok (.string ⟨(ns.map fun n => byteOf n.toNat).toArray⟩) w := by
  have := run_convert_bytes_arg (P := P) w src u8 hs he b 0 ns.length c ns rfl (fun i hi => by rw [List.getD_eq_getElem?_getD, List.getElem?_eq_getElem hi, Nat.zero_add]; exact h i hi) dst hd
  rw [this]; simp [strOfNums, cb_ofNat]
theorem conv2 {P : Program} {src dst u8 : TypeId} (hs : P.underlying src = some (.slice u8)) (he : P.underlying u8 = some (.int .u8)) (hd : P.underlying dst = some .string) (b c : Nat) (w : World)
    (h : isB (w.cell? ⟨b, 0, none⟩) = true) (h1 : isB (w.cell? ⟨b, 1, none⟩) = true) : (convert src dst (.slice (some ⟨b, 0, none⟩) 2 c)).run P w = .ok (.string ⟨[cb (w.cell? ⟨b, 0, none⟩), cb (w.cell? ⟨b, 1, none⟩)].toArray⟩) w := by
  obtain ⟨n, e⟩ := isB_byte h; obtain ⟨n1, e1⟩ := isB_byte h1
  have := convs hs he hd b c w [n, n1] (by intro i hi; match i, hi with | 0, _ => exact e | 1, _ => exact e1)
  rw [e, e1]; exact this
theorem conv3 {P : Program} {src dst u8 : TypeId} (hs : P.underlying src = some (.slice u8)) (he : P.underlying u8 = some (.int .u8)) (hd : P.underlying dst = some .string) (b c : Nat) (w : World)
    (h : isB (w.cell? ⟨b, 0, none⟩) = true) (h1 : isB (w.cell? ⟨b, 1, none⟩) = true) (h2 : isB (w.cell? ⟨b, 2, none⟩) = true) : (convert src dst (.slice (some ⟨b, 0, none⟩) 3 c)).run P w = .ok (.string ⟨[cb (w.cell? ⟨b, 0, none⟩), cb (w.cell? ⟨b, 1, none⟩), cb (w.cell? ⟨b, 2, none⟩)].toArray⟩) w := by
  obtain ⟨n, e⟩ := isB_byte h; obtain ⟨n1, e1⟩ := isB_byte h1; obtain ⟨n2, e2⟩ := isB_byte h2
  have := convs hs he hd b c w [n, n1, n2] (by intro i hi; match i, hi with | 0, _ => exact e | 1, _ => exact e1 | 2, _ => exact e2)
  rw [e, e1, e2]; exact this
theorem conv4 {P : Program} {src dst u8 : TypeId} (hs : P.underlying src = some (.slice u8)) (he : P.underlying u8 = some (.int .u8)) (hd : P.underlying dst = some .string) (b c : Nat) (w : World)
    (h : isB (w.cell? ⟨b, 0, none⟩) = true) (h1 : isB (w.cell? ⟨b, 1, none⟩) = true) (h2 : isB (w.cell? ⟨b, 2, none⟩) = true) (h3 : isB (w.cell? ⟨b, 3, none⟩) = true) : (convert src dst (.slice (some ⟨b, 0, none⟩) 4 c)).run P w = .ok (.string ⟨[cb (w.cell? ⟨b, 0, none⟩), cb (w.cell? ⟨b, 1, none⟩), cb (w.cell? ⟨b, 2, none⟩), cb (w.cell? ⟨b, 3, none⟩)].toArray⟩) w := by
  obtain ⟨n, e⟩ := isB_byte h; obtain ⟨n1, e1⟩ := isB_byte h1; obtain ⟨n2, e2⟩ := isB_byte h2; obtain ⟨n3, e3⟩ := isB_byte h3
  have := convs hs he hd b c w [n, n1, n2, n3] (by intro i hi; match i, hi with | 0, _ => exact e | 1, _ => exact e1 | 2, _ => exact e2 | 3, _ => exact e3)
  rw [e, e1, e2, e3]; exact this
/-- a slice value of one-cell elements of the call's own, from block B on -/
def OwnR (w : World) (B e : Nat) (v : Value) (xs : List Value) : Prop := w.ownsRow B e 1 v xs.length xs
theorem wp_appR {P : Program} {ops : Array Oper} {rest : List Oper} {o : Oper} {a : Act} {w : World} {Q : Exit → Act → World → Prop} {t e : TypeId} {bytes : Nat} {s x : Operand} {v : Value} {xs ys : List Value}
    (T : ElemTy P t e 1 bytes) (hgd : o.guard = none) (ho : o.op = .call { callee := .builtin .append, args := #[s, x], argTypes := #[t, t] })
    (B : Nat) (hown : OwnR w B e v xs) (hs : a.eval s = v) (ad : Addr) (c : Nat) (hx : a.eval x = .slice (some ad) ys.length c)
    (hnews : ∀ j u, ys[j]? = some u → w.cell? (ad.add j) = some u) (h1 : ∀ u ∈ ys, u.oneCell' = true)
    (h63 : xs.length + ys.length ≤ 4294967296) (hby : bytes ≤ 32768) (hB : B ≤ w.heap.size)
    (h : ∀ v' w', OwnR w' B e v' (xs ++ ys) → w.grownBy w' v.ownBlock → (v' = .slice none 0 0 → v = .slice none 0 0) → wpList P ops Q rest (a.put o.dst v') w') : wpList P ops Q (o :: rest) a w := by
  refine wp_app T hgd ho B hown hs ad ys.length c _ hx (by simp) hnews h1 h63 hby hB ?_
  intro v' w' h1 h2 h3
  refine h v' w' ?_ h2 (fun e => (h3.1 e).1)
  unfold OwnR
  rw [List.length_append]; exact h1
theorem OwnR.form {w : World} {B e : Nat} {v : Value} {xs : List Value} (h : OwnR w B e v xs) : (v = .slice none 0 0 ∧ xs = []) ∨ ∃ g c, v = .slice (some ⟨g, 0, none⟩) xs.length c ∧ B ≤ g := by
  obtain ⟨_, h | ⟨g, cap, cur, h1, h2, _⟩⟩ := h
  · exact .inl ⟨h.1, List.length_eq_zero_iff.1 h.2⟩
  · exact .inr ⟨g, cap, h1, h2⟩
theorem OwnR.any {w : World} {B e : Nat} {v : Value} {xs : List Value} (h : OwnR w B e v xs) : ∃ a c, v = .slice a xs.length c := by
  rcases h.form with ⟨rfl, rfl⟩ | ⟨g, c, rfl, _⟩
  · exact ⟨_, _, rfl⟩
  · exact ⟨_, _, rfl⟩
theorem OwnR.nil {w : World} {B e : Nat} : OwnR w B e (.slice none 0 0) [] := ⟨rfl, .inl ⟨rfl, rfl⟩⟩
theorem OwnR.start {w : World} {e : Nat} : OwnR (w.alloc (.cells #[] e)) w.heap.size e (.slice (some ⟨w.heap.size, 0, none⟩) 0 0) [] :=
  World.ownsRow_made (e := e) (size := 1) w #[] 0 (Nat.le_refl _) (by decide) rfl
theorem OwnR.alloc {w : World} {B e : Nat} {v : Value} {xs : List Value} (h : OwnR w B e v xs) (o : Obj) : OwnR (w.alloc o) B e v xs := World.ownsRow.alloc h o
theorem OwnR.grown {a w w' : World} {B e : Nat} {v : Value} {xs : List Value} (h : OwnR w B e v xs) (hb : Below B a w) (hg : w.grownBy w' v.ownBlock) (hB : B ≤ w.heap.size) : Below B a w' := below_of_grown hb h hg hB
theorem OwnR.cells {w : World} {B e : Nat} {v : Value} {xs : List Value} (h : OwnR w B e v xs) (g : Nat) (hg : v.ownBlock = some g) :
    ∀ j u, xs[j]? = some u → w.cell? ((⟨g, 0, none⟩ : Addr).add j) = some u := World.ownsRow.cells h hg
theorem OwnR.below {w w' : World} {B e : Nat} {v : Value} {xs : List Value} (h : OwnR w B e v xs) (hb : Below w.heap.size w w') : OwnR w' B e v xs := by
  obtain ⟨h1, h | ⟨g, cap, cur, h2, h3, h4, h5⟩⟩ := h
  · exact ⟨h1, .inl h⟩
  · exact ⟨h1, .inr ⟨g, cap, cur, h2, h3, by rw [hb.block g (by
      by_cases hlt : g < w.heap.size
      · exact hlt
      · simp [Array.getElem?_eq_none (Nat.not_lt.1 hlt)] at h4)]; exact h4, h5⟩⟩
end Go.Proofs.YtkeieeogkeonfaaGreatDoor
