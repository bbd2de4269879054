/- Worlds in which some blocks alone may have been written; reading of data that lies in named blocks. No program in sight. -/
import Derived.Test.YtkeieeogkeonfaaGreatDoorData
import Derived.OneCell
namespace Go.Proofs.YtkeieeogkeonfaaGreatDoor
open Go.RowKit

/-- w' is w with new blocks and writes to blocks that meet S -/
structure Keep (S : Nat → Prop) (w w' : World) : Prop where
  os : w'.os = w.os
  tape : w'.tape = w.tape
  output : w'.output = w.output
  size : w.heap.size ≤ w'.heap.size
  block : ∀ k, k < w.heap.size → ¬ S k → w'.heap[k]? = w.heap[k]?
theorem Keep.refl (S : Nat → Prop) (w : World) : Keep S w w := ⟨rfl, rfl, rfl, Nat.le_refl _, fun _ _ _ => rfl⟩
theorem Keep.trans {S : Nat → Prop} {a b c : World} (h : Keep S a b) (k : Keep S b c) : Keep S a c :=
  ⟨k.os.trans h.os, k.tape.trans h.tape, k.output.trans h.output, Nat.le_trans h.size k.size, fun i hi hs => (k.block i (Nat.lt_of_lt_of_le hi h.size) hs).trans (h.block i hi hs)⟩
theorem Keep.mono {S T : Nat → Prop} {a b : World} (h : Keep S a b) (hs : ∀ k, k < a.heap.size → S k → T k) : Keep T a b := ⟨h.os, h.tape, h.output, h.size, fun k hk ht => h.block k hk fun hS => ht (hs k hk hS)⟩
/-- what is written was made since -/
theorem Keep.thin {S T : Nat → Prop} {a b c : World} (h : Keep S a b) (k : Keep T b c) (hs : ∀ k, k < a.heap.size → T k → S k) : Keep S a c :=
  ⟨k.os.trans h.os, k.tape.trans h.tape, k.output.trans h.output, Nat.le_trans h.size k.size, fun i hi hn => (k.block i (Nat.lt_of_lt_of_le hi h.size) fun ht => hn (hs i hi ht)).trans (h.block i hi hn)⟩
theorem Keep.of_below {S : Nat → Prop} {w w' : World} (h : Below w.heap.size w w') : Keep S w w' := ⟨h.os, h.tape, h.output, h.size, fun k hk _ => h.block k hk⟩
theorem Keep.below {S : Nat → Prop} {w w' : World} {B : Nat} (h : Keep S w w') (hB : B ≤ w.heap.size) (hs : ∀ k, k < B → ¬ S k) : Below B w w' := ⟨h.os, h.tape, h.output, h.size, fun k hk => h.block k (Nat.lt_of_lt_of_le hk hB) (hs k hk)⟩
theorem Keep.then {S : Nat → Prop} {a b c : World} (h : Keep S a b) (k : Below b.heap.size b c) : Keep S a c := h.trans (Keep.of_below k)
theorem Keep.alloc {S : Nat → Prop} {a w : World} (h : Keep S a w) (o : Obj) : Keep S a (w.alloc o) := h.then ((Below.refl _ _).alloc (Nat.le_refl _) o)
theorem Keep.drew {S : Nat → Prop} {a w : World} (h : Keep S a w) : Keep S a w.drew := ⟨h.os, h.tape, h.output, h.size, h.block⟩
theorem Keep.drewN {S : Nat → Prop} {a w : World} (h : Keep S a w) : ∀ n, Keep S a (w.drewN n)
  | 0 => h
  | n + 1 => (h.drewN n).drew
theorem Keep.setCell {S : Nat → Prop} {a w : World} (h : Keep S a w) {p : Addr} (hp : S p.block ∨ a.heap.size ≤ p.block) (u : Value) : Keep S a (w.setCell p u) :=
  ⟨h.os, h.tape, h.output, by simpa [World.setCell] using h.size, fun k hk hs => (Below.heap_setCell w p u k (by
    rintro rfl
    rcases hp with hp | hp
    · exact hs hp
    · omega)).trans (h.block k hk hs)⟩
theorem Keep.cell {S : Nat → Prop} {w w' : World} (h : Keep S w w') {b o : Nat} (hb : b < w.heap.size) (hs : ¬ S b) : w'.cell? ⟨b, o, none⟩ = w.cell? ⟨b, o, none⟩ := World.cell?_of_block (a := ⟨b, o, none⟩) (h.block b hb hs)
theorem Keep.frozen {S : Nat → Prop} {w w' : World} (h : Keep S w w') {b o : Nat} (hb : b < w.heap.size) (hs : ¬ S b) : w'.frozen? ⟨b, o, none⟩ = w.frozen? ⟨b, o, none⟩ := World.frozen?_of_block (a := ⟨b, o, none⟩) (h.block b hb hs)

/-- read as data that lies below block N -/
def RdN (N : Nat) (w : World) (d : D) (cs : List Value) : Prop := RepC (· < N) w d cs
theorem RdN.rd {N : Nat} {w : World} {d : D} {cs : List Value} (h : RdN N w d cs) : Rd w d cs := Rd.of h
theorem Rd.rdN {w : World} {d : D} {cs : List Value} (h : Rd w d cs) : RdN w.heap.size w d cs := h
theorem RdN.below {N : Nat} {w w' : World} {d : D} {cs : List Value} (h : RdN N w d cs) (hb : Below N w w') : RdN N w' d cs := RepC.frame (fun b hlt => hb.block b hlt) h
theorem RdN.keep {N : Nat} {S : Nat → Prop} {w w' : World} {d : D} {cs : List Value} (h : RdN N w d cs) (hk : Keep S w w') (hN : N ≤ w.heap.size) (hs : ∀ k, k < N → ¬ S k) : RdN N w' d cs := h.below (hk.below hN hs)
theorem RdN.mono {N M : Nat} {w : World} {d : D} {cs : List Value} (h : RdN N w d cs) (hM : N ≤ M) : RdN M w d cs := RepC.mono (fun _ _ hb => Nat.lt_of_lt_of_le hb hM) h

/-- one level of a shape -/
theorem Sh.layS {S : Nat → Prop} {w : World} {sh : Sh} {cs : List Value} (h : RepC S w sh.d cs) : ∃ k l hi ks m kids v1 v2, sh = .mk k l hi ks m kids ∧ cs = [.int .i64 k, .int .i64 l, .int .i64 hi, v1, .int .i64 m, v2] ∧
    RepC S w (dSs ks) [v1] ∧ RepC S w (.sl 6 (Sh.ds kids)) [v2] := by
  obtain ⟨k, l, hi, ks, m, kids⟩ := sh
  simp only [Sh.d, RepC, RepCs, dI, dSs, D.width] at h
  obtain ⟨c1, r1, rfl, _, rfl, c2, r2, rfl, _, rfl, c3, r3, rfl, _, rfl, c4, r4, rfl, _, ⟨a4, n4, rfl, h4⟩, c5, r5, rfl, _, rfl, c6, r6, rfl, _, ⟨a6, n6, rfl, h6⟩, rfl⟩ := h
  refine ⟨k, l, hi, ks, m, kids, _, _, rfl, rfl, ?_, ?_⟩
  · simp only [dSs, RepC]; exact ⟨a4, n4, rfl, h4⟩
  · simp only [RepC]; exact ⟨a6, n6, rfl, h6⟩
/-- one level of a value -/
theorem V.layS {S : Nat → Prop} {w : World} {v : V} {cs : List Value} (h : RepC S w v.d cs) : ∃ k n e s kids v1, v = .mk k n e s kids ∧ cs = [.int .i64 k, .int .i64 n, .int .i64 e, .string ⟨s.toArray⟩, v1] ∧ RepC S w (.sl 5 (V.ds kids)) [v1] := by
  obtain ⟨k, n, e, s, kids⟩ := v
  simp only [V.d, RepC, RepCs, dI, dS, D.width] at h
  obtain ⟨c1, r1, rfl, _, rfl, c2, r2, rfl, _, rfl, c3, r3, rfl, _, rfl, c4, r4, rfl, _, rfl, c5, r5, rfl, _, ⟨a5, n5, rfl, h5⟩, rfl⟩ := h
  refine ⟨k, n, e, s, kids, _, rfl, rfl, ?_⟩
  simp only [RepC]; exact ⟨a5, n5, rfl, h5⟩
/-- a slice -/
theorem RepC.slice {S : Nat → Prop} {w : World} {n : Nat} {es : List D} {v : Value} (h : RepC S w (.sl n es) [v]) :
    ∃ a c, v = .slice a es.length c ∧ (es ≠ [] → 0 < n ∧ es.length ≤ c ∧ c ≤ maxLen ∧ ∃ b o, a = some ⟨b, o, none⟩ ∧ S b ∧
      ∀ i (hi : i < es.length), ∃ cs, cs.length = n ∧ RepC S w es[i] cs ∧ ∀ j u, cs[j]? = some u → w.cell? ⟨b, o + (n * i + j), none⟩ = some u) := by
  simp only [RepC] at h
  obtain ⟨a, c, hv, h⟩ := h
  simp only [List.cons.injEq, and_true] at hv
  refine ⟨a, c, hv, fun hne => ?_⟩
  obtain ⟨hn, h1, h2, b, o, xs, ha, hb, hx, hw, hr⟩ := h hne
  refine ⟨hn, h1, h2, b, o, ha, hb, fun i hi => ?_⟩
  obtain ⟨cs, hc1, hc2, hc3⟩ := hr.get hw i hi
  refine ⟨cs, hc1, hc2, fun j u hj => hx _ _ ?_⟩
  have : j < cs.length := by
    rcases Nat.lt_or_ge j cs.length with h | h
    · exact h
    · simp [List.getElem?_eq_none h] at hj
  rw [hc3 j (by omega)]; exact hj
/-- a slice of shapes -/
theorem RepC.shapes {S : Nat → Prop} {w : World} {ls : List Sh} {v : Value} (h : RepC S w (.sl 6 (Sh.ds ls)) [v]) :
    ∃ a c, v = .slice a ls.length c ∧ (ls ≠ [] → ls.length ≤ c ∧ c ≤ maxLen ∧ ∃ b o, a = some ⟨b, o, none⟩ ∧ S b ∧ ∀ i (hi : i < ls.length), ∃ v0 v1 v2 v3 v4 v5, RepC S w ls[i].d [v0, v1, v2, v3, v4, v5] ∧
      w.cell? ⟨b, o + i * 6, none⟩ = some v0 ∧ w.cell? ⟨b, o + i * 6 + 1, none⟩ = some v1 ∧ w.cell? ⟨b, o + i * 6 + 2, none⟩ = some v2 ∧ w.cell? ⟨b, o + i * 6 + 3, none⟩ = some v3 ∧ w.cell? ⟨b, o + i * 6 + 4, none⟩ = some v4 ∧ w.cell? ⟨b, o + i * 6 + 5, none⟩ = some v5) := by
  rw [Sh.ds_map] at h
  obtain ⟨a, c, hv, h⟩ := RepC.slice h
  rw [List.length_map] at hv
  refine ⟨a, c, hv, fun hne => ?_⟩
  obtain ⟨_, h1, h2, b, o, ha, hb, hg⟩ := h (by simpa using hne)
  refine ⟨by simpa using h1, h2, b, o, ha, hb, fun i hi => ?_⟩
  obtain ⟨cs, hl, hr, hc⟩ := hg i (by simpa using hi)
  rw [List.getElem_map] at hr
  match cs, hl with
  | [v0, v1, v2, v3, v4, v5], _ =>
    rw [Nat.mul_comm 6 i] at hc
    exact ⟨v0, v1, v2, v3, v4, v5, hr, hc 0 _ rfl, hc 1 _ rfl, hc 2 _ rfl, hc 3 _ rfl, hc 4 _ rfl, hc 5 _ rfl⟩
/-- a slice of values -/
theorem RepC.values {S : Nat → Prop} {w : World} {ls : List V} {v : Value} (h : RepC S w (.sl 5 (V.ds ls)) [v]) :
    ∃ a c, v = .slice a ls.length c ∧ (ls ≠ [] → ls.length ≤ c ∧ c ≤ maxLen ∧ ∃ b o, a = some ⟨b, o, none⟩ ∧ S b ∧ ∀ i (hi : i < ls.length), ∃ v0 v1 v2 v3 v4, RepC S w ls[i].d [v0, v1, v2, v3, v4] ∧
      w.cell? ⟨b, o + i * 5, none⟩ = some v0 ∧ w.cell? ⟨b, o + i * 5 + 1, none⟩ = some v1 ∧ w.cell? ⟨b, o + i * 5 + 2, none⟩ = some v2 ∧ w.cell? ⟨b, o + i * 5 + 3, none⟩ = some v3 ∧ w.cell? ⟨b, o + i * 5 + 4, none⟩ = some v4) := by
  rw [V.ds_map] at h
  obtain ⟨a, c, hv, h⟩ := RepC.slice h
  rw [List.length_map] at hv
  refine ⟨a, c, hv, fun hne => ?_⟩
  obtain ⟨_, h1, h2, b, o, ha, hb, hg⟩ := h (by simpa using hne)
  refine ⟨by simpa using h1, h2, b, o, ha, hb, fun i hi => ?_⟩
  obtain ⟨cs, hl, hr, hc⟩ := hg i (by simpa using hi)
  rw [List.getElem_map] at hr
  match cs, hl with
  | [v0, v1, v2, v3, v4], _ =>
    rw [Nat.mul_comm 5 i] at hc
    exact ⟨v0, v1, v2, v3, v4, hr, hc 0 _ rfl, hc 1 _ rfl, hc 2 _ rfl, hc 3 _ rfl, hc 4 _ rfl⟩
theorem Sh.formS {S : Nat → Prop} {w : World} {sh : Sh} {cs : List Value} (h : RepC S w sh.d cs) : ∃ k l hi a1 n1 c1 m a2 n2 c2, cs = [.int .i64 k, .int .i64 l, .int .i64 hi, .slice a1 n1 c1, .int .i64 m, .slice a2 n2 c2] := Sh.form (Rd.of h)
theorem V.formS {S : Nat → Prop} {w : World} {v : V} {cs : List Value} (h : RepC S w v.d cs) : ∃ k n e s a1 n1 c1, cs = [.int .i64 k, .int .i64 n, .int .i64 e, .string ⟨(s : List UInt8).toArray⟩, .slice a1 n1 c1] := V.form (Rd.of h)
end Go.Proofs.YtkeieeogkeonfaaGreatDoor
