/- Slices of the call's own whose elements are read as data that lies elsewhere. No program in sight. -/
import Derived.Test.YtkeieeogkeonfaaGreatDoorOwnSl
import Derived.Test.YtkeieeogkeonfaaGreatDoorData
import Derived.Test.YtkeieeogkeonfaaGreatDoorSub
import Derived.Test.YtkeieeogkeonfaaGreatDoorValueDef
import Derived.Test.YtkeieeogkeonfaaGreatDoorKeep
import Derived.Deep.RegionHeld3
namespace Go.Proofs.YtkeieeogkeonfaaGreatDoor
open Go.RowKit

/-- a slice of the call's own, from block B on, of elements of n cells that read as data below block N -/
def RdSl (N B : Nat) (w : World) (e : TypeId) (n : Nat) (v : Value) (ds : List D) : Prop :=
  N ≤ B ∧ ∃ xs, w.ownsRow B e n v ds.length xs ∧ (∀ d ∈ ds, D.width d = n) ∧ RepCs (· < N) w ds xs
theorem RepCs.joinR {S : Nat → Prop} {w : World} : ∀ {ds es : List D} {c1 c2 : List Value}, RepCs S w ds c1 → RepCs S w es c2 → RepCs S w (ds ++ es) (c1 ++ c2)
  | [], es, c1, c2, h, k => by simp only [RepCs] at h; subst h; exact k
  | d :: ds, es, c1, c2, h, k => by
    simp only [RepCs] at h; obtain ⟨e1, e2, rfl, hl, h1, h2⟩ := h
    simp only [List.cons_append, RepCs]
    exact ⟨e1, e2 ++ c2, by simp, hl, h1, RepCs.joinR h2 k⟩
theorem RdSl.made {N B : Nat} {w : World} {e : TypeId} {n : Nat} {cs : Array Value} {cap : Nat} (hNB : N ≤ B) (hB : B ≤ w.heap.size) (hm : cap ≤ maxLen) (hs : cs.size = cap * n) : RdSl N B (w.alloc (.cells cs e)) e n (.slice (some ⟨w.heap.size, 0, none⟩) 0 cap) [] :=
  ⟨hNB, [], World.ownsRow_made w cs cap hB hm hs, by simp, by simp [RepCs]⟩
theorem RdSl.form {N B : Nat} {w : World} {e : TypeId} {n : Nat} {v : Value} {ds : List D} (h : RdSl N B w e n v ds) : ∃ a c, v = .slice a ds.length c := by
  obtain ⟨_, xs, hr, _⟩ := h
  rcases hr.2 with ⟨rfl, h2⟩ | ⟨g, cap, cur, rfl, _⟩
  · rw [h2]; exact ⟨none, 0, rfl⟩
  · exact ⟨_, _, rfl⟩
theorem RdSl.rd {N B : Nat} {w : World} {e : TypeId} {n : Nat} {v : Value} {ds : List D} (h : RdSl N B w e n v ds) (hn : 0 < n) : RepC (fun b => b < N ∨ B ≤ b) w (.sl n ds) [v] := by
  obtain ⟨_, xs, ⟨h1, h2⟩, hw, hr⟩ := h
  by_cases hne : ds = []
  · subst hne
    rcases h2 with ⟨rfl, _⟩ | ⟨g, cap, cur, rfl, _⟩
    · simp only [RepC]; exact ⟨none, 0, rfl, fun h => absurd rfl h⟩
    · simp only [RepC]; exact ⟨_, cap, rfl, fun h => absurd rfl h⟩
  · rcases h2 with ⟨_, h2⟩ | ⟨g, cap, cur, rfl, hg, hh, hc1, hc2, hsz, htk⟩
    · exact absurd (List.length_eq_zero_iff.1 h2) hne
    · simp only [RepC]
      refine ⟨_, cap, rfl, fun _ => ⟨hn, hc1, hc2, g, 0, xs, rfl, .inr hg, fun j u hj => ?_, hw, (Go.Proofs.YtkeieeogkeonfaaGreatDoor.RepCs.mono (fun b _ hb => .inl hb) hr)⟩⟩
      rw [Nat.zero_add, cell_of_block hh]
      rw [← htk, List.getElem?_take] at hj
      split at hj
      · simpa using hj
      · cases hj
theorem RepCs.drew {S : Nat → Prop} {w : World} {ds : List D} {cs : List Value} (h : RepCs S w ds cs) : RepCs S w.drew ds cs := Go.Proofs.YtkeieeogkeonfaaGreatDoor.RepCs.frame (w := w) (w' := w.drew) (fun _ _ => rfl) h
theorem RdSl.drew {N B : Nat} {w : World} {e : TypeId} {n : Nat} {v : Value} {ds : List D} (h : RdSl N B w e n v ds) : RdSl N B w.drew e n v ds := by
  obtain ⟨hn, xs, h1, hw, hr⟩ := h
  exact ⟨hn, xs, h1, hw, RepCs.drew hr⟩
theorem step_appR2 {P : Program} {ops : Array Oper} {o : Oper} {a : Act} {K : Act → World → Prop} {Q : Exit → Act → World → Prop} {E : Prop} {t e : TypeId} {n bytes : Nat} {s x : Operand} {v : Value} {ds ds' : List D} {news : List Value} {w1 : World}
    (T : ElemTy P t e n bytes) (hgd : o.guard = none) (ho : o.op = .call { callee := .builtin .append, args := #[s, x], argTypes := #[t, t] })
    (N B : Nat) (hown : RdSl N B w1 e n v ds) (hB : B ≤ w1.heap.size) (k : RepCs (· < N) w1 ds' news) (hw' : ∀ d ∈ ds', D.width d = n) (hne : 0 < ds'.length) (h1 : ∀ u ∈ news, u.oneCell' = true)
    (hs : a.eval s = v) (c : Nat) (hx : a.eval x = .slice (some ⟨w1.heap.size, 0, none⟩) ds'.length c) (h63 : ds.length + ds'.length ≤ 4294967296) (hby : bytes ≤ 32768)
    (h : ∀ g cap w', RdSl N B w' e n (.slice (some ⟨g, 0, none⟩) (ds.length + ds'.length) cap) (ds ++ ds') → Below B w1 w' → K (a.put o.dst (.slice (some ⟨g, 0, none⟩) (ds.length + ds'.length) cap)) w') :
    if Region.wanted o (yielded ops a.tmps) = true then Oper.wp P o a (w1.alloc (.cells news.toArray e)) K Q else E := by
  obtain ⟨hNB, xs, hr, hw, ht⟩ := hown
  obtain ⟨i, z, g1, g2, g3, g4, g5⟩ := T.info
  have hwd : ∀ ds : List D, (∀ d ∈ ds, D.width d = n) → D.widths ds = ds.length * n := by
    intro ds h; induction ds with
    | nil => simp [D.widths]
    | cons x r ih => simp only [D.widths, h x (by simp), ih (fun d hd => h d (by simp [hd])), List.length_cons, Nat.succ_mul]; omega
  have hal : Below w1.heap.size w1 (w1.alloc (.cells news.toArray e)) := (Below.refl _ _).alloc (Nat.le_refl _) _
  have hr' : (w1.alloc (.cells news.toArray e)).ownsRow B e n v ds.length xs := by
    refine ⟨hr.1, ?_⟩
    rcases hr.2 with h2 | ⟨g, cap, cur, hv, hg, hh, r⟩
    · exact .inl h2
    · exact .inr ⟨g, cap, cur, hv, hg, by rw [hal.block g (heap_lt hh)]; exact hh, r⟩
  refine step_append_lies _ hgd s x t ho B e i z n bytes T.under g1 g2 g3 g4 g5 T.pos v ds.length xs hs hr' ⟨w1.heap.size, 0, none⟩ ds'.length c news hx (by rw [k.len, hwd ds' hw']) lit_cells h1 hne (by unfold maxLen; omega)
    (Nat.le_trans (Nat.mul_le_mul h63 hby) (by decide)) (by simp; omega) _ rfl ?_
  intro g cap w' q1 q2 q3 _
  have hb : Below B w1 w' := (hal.mono hB).grown q2 (by simp; omega) (fun k hk => (hr.lt k hk).1)
  refine h g cap w' ⟨hNB, xs ++ news, by rw [List.length_append]; exact q1, ?_, RepCs.joinR (Go.Proofs.YtkeieeogkeonfaaGreatDoor.RepCs.frame (fun b hlt => hb.block b (Nat.lt_of_lt_of_le hlt hNB)) ht) (Go.Proofs.YtkeieeogkeonfaaGreatDoor.RepCs.frame (fun b hlt => hb.block b (Nat.lt_of_lt_of_le hlt hNB)) k)⟩ hb
  intro d hd; rcases List.mem_append.1 hd with h | h
  · exact hw d h
  · exact hw' d h
/-- the pairs of a map -/
def pairsD : List V → List D
  | x :: y :: r => .agg [x.d, y.d] :: pairsD r
  | _ => []
theorem pairsD_length : ∀ xs : List V, (pairsD xs).length = xs.length / 2
  | [] => rfl
  | [_] => by simp [pairsD]
  | x :: y :: r => by simp only [pairsD, List.length_cons, pairsD_length r]; omega
theorem pairsD_take : ∀ (xs : List V) (j : Nat) (h : 2 * j + 1 < xs.length), pairsD (xs.take (2 * (j + 1))) = pairsD (xs.take (2 * j)) ++ [.agg [xs[2 * j].d, xs[2 * j + 1].d]]
  | x :: y :: r, 0, _ => by simp [pairsD]
  | x :: y :: r, j + 1, h => by
    have := pairsD_take r j (by simp at h; omega)
    have e1 : (x :: y :: r).take (2 * (j + 1 + 1)) = x :: y :: r.take (2 * (j + 1)) := by
      rw [show 2 * (j + 1 + 1) = 2 * (j + 1) + 1 + 1 by omega]; rfl
    have e2 : (x :: y :: r).take (2 * (j + 1)) = x :: y :: r.take (2 * j) := by
      rw [show 2 * (j + 1) = 2 * j + 1 + 1 by omega]; rfl
    rw [e1, e2, pairsD, pairsD, this]
    rfl
theorem pairsD_odd : ∀ (xs : List V) (j : Nat), xs.length = 2 * j + 1 → pairsD (xs.take (2 * j)) = pairsD xs
  | [], j, h => by simp at h
  | [x], j, h => by
    obtain rfl : j = 0 := by simp at h; omega
    rfl
  | x :: y :: r, 0, h => by simp at h
  | x :: y :: r, j + 1, h => by
    have := pairsD_odd r j (by simp at h; omega)
    have e2 : (x :: y :: r).take (2 * (j + 1)) = x :: y :: r.take (2 * j) := by
      rw [show 2 * (j + 1) = 2 * j + 1 + 1 by omega]; rfl
    rw [e2, pairsD, pairsD, this]
theorem pairsD_get : ∀ (xs : List V) (j : Nat) (h : 2 * j + 1 < xs.length), (pairsD xs)[j]'(by rw [pairsD_length]; omega) = .agg [xs[2 * j].d, xs[2 * j + 1].d]
  | x :: y :: r, 0, _ => rfl
  | x :: y :: r, j + 1, h => by
    have := pairsD_get r j (by simp at h; omega)
    simp only [pairsD, List.getElem_cons_succ, this]; rfl
theorem pairsD_width : ∀ (xs : List V), ∀ d ∈ pairsD xs, D.width d = 10
  | [], d, h => by simp [pairsD] at h
  | [_], d, h => by simp [pairsD] at h
  | x :: y :: r, d, h => by
    simp only [pairsD, List.mem_cons] at h
    rcases h with rfl | h
    · simp [D.width, D.widths, V.width]
    · exact pairsD_width r d h
end Go.Proofs.YtkeieeogkeonfaaGreatDoor

/- The pairs of a map: the program's pairsOf. -/
namespace Go.Proofs.YtkeieeogkeonfaaGreatDoor
open Go.RowKit

theorem tyPr : ElemTy Tryz.prog 91 94 10 128 := ElemTy.mk' (z := .agg #[.int .i64 0, .int .i64 0, .int .i64 0, .string ⟨#[]⟩, .slice none 0 0, .int .i64 0, .int .i64 0, .int .i64 0, .string ⟨#[]⟩, .slice none 0 0]) Tryz.underlying91 (by kernel_rfl) rfl (by decide)
set_option maxHeartbeats 2000000 in
set_option maxRecDepth 10000 in
theorem pairsOf_any (N : Nat) (x : V) (cs : List Value) (w : World) (h0 : RepC (· < N) w x.d cs) (hN : N ≤ w.heap.size) (hl : x.kids.length ≤ 4294967295) :
    Calls Tryz.prog 70 #[.agg cs.toArray] w fun e w' => ∃ v', e = .returned v' ∧ Below w.heap.size w w' ∧ RepC (fun b => b < N ∨ w.heap.size ≤ b) w' (.sl 10 (pairsD x.kids)) [v'] := by
  obtain ⟨k, n, e, s0, xs, v1, rfl, rfl, h⟩ := V.layS h0
  obtain ⟨a, c, rfl, hg⟩ := RepC.values h
  simp only [V.kids] at hl ⊢
  obtain ⟨W0, hW0⟩ : ∃ W0, W0 = (w.alloc (.cells #[.int .i64 k, .int .i64 n, .int .i64 e, .string ⟨s0.toArray⟩, .slice a xs.length c] 35)).alloc (.cells #[] 94) := ⟨_, rfl⟩
  have HW := Lib.hid hW0
  have hA0 : Below w.heap.size w W0 := by rw [hW0]; exact ((Below.refl _ _).alloc (Nat.le_refl _) _).alloc (by simp) _
  obtain ⟨B, hBd⟩ : ∃ B, B = w.heap.size + 1 := ⟨_, rfl⟩
  have hz0 : w.heap.size < B := by omega
  have hzB : W0.heap.size = B + 1 := by rw [hW0, hBd]; simp
  have hst : RdSl N B W0 94 10 (.slice (some ⟨w.heap.size + 1, 0, none⟩) 0 0) [] := by
    rw [hW0]
    have := RdSl.made (N := N) (B := B) (w := w.alloc (.cells #[.int .i64 k, .int .i64 n, .int .i64 e, .string ⟨s0.toArray⟩, .slice a xs.length c] 35)) (e := 94) (n := 10) (cs := #[]) (cap := 0) (by omega) (by rw [hBd]; simp) (by decide) rfl
    simpa using this
  have HST := Lib.hid hst
  have KB : Hid (∀ W, Below B W0 W → W.cell? ⟨w.heap.size, 4, none⟩ = some (.slice a xs.length c)) := by
    intro W hb
    rw [hb.cell (p := ⟨w.heap.size, 4, none⟩) hz0]
    subst hW0; simp
  clear hW0 hst h0 hBd
  go_enter Tryz.func70, Tryz.ntmps70
  go_wp2_with fail
  rw [← HW.out]
  go_loopw [3, 4] (fun v i wr => ∃ j : Nat, 2 * j ≤ xs.length ∧ i = .int .i64 ((2 * j : Nat) : Int) ∧ RdSl N B wr 94 10 v (pairsD (xs.take (2 * j))) ∧ Below B W0 wr) (fun _ i _ => xs.length + 2 - (intOf i).toNat)
  case atStart => exact ⟨0, by omega, rfl, by simpa [pairsD] using HST.out, Below.refl _ _⟩
  case round =>
    obtain ⟨j, hj, rfl, hown, hbel⟩ := hrel
    obtain ⟨av, cv, rfl⟩ := hown.form
    have hdl : (pairsD (xs.take (2 * j))).length = j := by rw [pairsD_length, List.length_take]; omega
    rw [hdl] at hown ⊢
    have hsz := hbel.size
    obtain ⟨q, hq⟩ : ∃ q, q = 2 * j := ⟨_, rfl⟩
    have HQ := Lib.hid hq
    have p4 := KB.out _ hbel
    by_cases hlt : q + 1 < xs.length
    · have hlt0 : q < xs.length := Nat.lt_of_succ_lt hlt
      have HS := Lib.hid (show pairsD (xs.take (2 * (j + 1))) = pairsD (xs.take (2 * j)) ++ [.agg [(xs[q]'hlt0).d, (xs[q + 1]'hlt).d]] by subst hq; exact pairsD_take xs j hlt)
      obtain ⟨_, _, b, o, rfl, hb, hcell⟩ := hg (by intro e; rw [e] at hlt; simp at hlt)
      obtain ⟨v0, v1, v2, v3, v4, hr, d0, d1, d2, d3, d4⟩ := hcell q (by omega)
      obtain ⟨u0, u1, u2, u3, u4, hr', e0, e1, e2, e3, e4⟩ := hcell (q + 1) hlt
      clear hcell hg
      obtain ⟨k1, k2, k3, s4, a5, n5, m5, hcs⟩ := V.formS hr
      simp only [List.cons.injEq, and_true] at hcs
      obtain ⟨rfl, rfl, rfl, rfl, rfl⟩ := hcs
      obtain ⟨l1, l2, l3, t4, b5, r5, z5, hcs⟩ := V.formS hr'
      simp only [List.cons.injEq, and_true] at hcs
      obtain ⟨rfl, rfl, rfl, rfl, rfl⟩ := hcs
      have hbw : Below w.heap.size w wr := hA0.trans (hbel.mono (by omega))
      have hrB : RepCs (· < N) wr [.agg [xs[q].d, xs[q + 1].d]] [.int .i64 k1, .int .i64 k2, .int .i64 k3, .string ⟨s4.toArray⟩, .slice a5 n5 m5, .int .i64 l1, .int .i64 l2, .int .i64 l3, .string ⟨t4.toArray⟩, .slice b5 r5 z5] := by
        have g1 : RepC (· < N) wr xs[q].d _ := RepC.frame (S := (· < N)) (fun b hlt => hbw.block b (Nat.lt_of_lt_of_le hlt hN)) hr
        have g2 : RepC (· < N) wr xs[q + 1].d _ := RepC.frame (S := (· < N)) (fun b hlt => hbw.block b (Nat.lt_of_lt_of_le hlt hN)) hr'
        simp only [RepCs, RepC]
        exact ⟨_, [], by simp, by simp [D.width, D.widths, V.width], ⟨_, _, rfl, by simp [V.width], g1, _, [], rfl, by simp [V.width], g2, rfl⟩, rfl⟩
      have hbc := (bcell hbw).1
      rw [← hbc _ _ (Nat.lt_of_lt_of_le hb hN)] at d0 d1 d2 d3 d4 e0 e1 e2 e3 e4
      have i1 : (0 : Int) ≤ q := by omega
      have i2 : (q : Int) + 1 < xs.length := by omega
      have i3 : (q : Int) < xs.length := by omega
      have i4 : IntKind.i64.wrap ((q : Int) + 1) = (q : Int) + 1 := IntWalk.i64_in _ (by omega)
      have i5 : (0 : Int) ≤ (q : Int) + 1 := by omega
      have i6 : ((q : Int) + 1).toNat = q + 1 := by omega
      have hj2 : j + 1 ≤ 4294967296 := by omega
      have HJ1 := Lib.hid (show 2 * (j + 1) ≤ xs.length ∧ ((q : Int) + 2 = ((2 * (j + 1) : Nat) : Int)) ∧ q + 2 ≤ xs.length + 1 by omega)
      have hsS := fun W (hW : W.heap = wr.heap ∨ Below wr.heap.size wr W) => True
      have hw0 := Below.refl B wr
      have KR : Hid (∀ W, Below B wr W → W.cell? ⟨w.heap.size, 4, none⟩ = some (.slice (some ⟨b, o, none⟩) xs.length c) ∧ (W.cell? ⟨b, o + q * 5, none⟩ = some (.int .i64 k1) ∧ W.cell? ⟨b, o + q * 5 + 1, none⟩ = some (.int .i64 k2) ∧ W.cell? ⟨b, o + q * 5 + 2, none⟩ = some (.int .i64 k3) ∧ W.cell? ⟨b, o + q * 5 + 3, none⟩ = some (.string ⟨s4.toArray⟩) ∧ W.cell? ⟨b, o + q * 5 + 4, none⟩ = some (.slice a5 n5 m5)) ∧
          (W.cell? ⟨b, o + (q + 1) * 5, none⟩ = some (.int .i64 l1) ∧ W.cell? ⟨b, o + (q + 1) * 5 + 1, none⟩ = some (.int .i64 l2) ∧ W.cell? ⟨b, o + (q + 1) * 5 + 2, none⟩ = some (.int .i64 l3) ∧ W.cell? ⟨b, o + (q + 1) * 5 + 3, none⟩ = some (.string ⟨t4.toArray⟩) ∧ W.cell? ⟨b, o + (q + 1) * 5 + 4, none⟩ = some (.slice b5 r5 z5))) := by
        intro W hW
        have hc : ∀ b o, b < B → W.cell? ⟨b, o, none⟩ = wr.cell? ⟨b, o, none⟩ := fun b o h => hW.cell (p := ⟨b, o, none⟩) h
        have g1 : b < B := by omega
        have g2 : w.heap.size < B := by omega
        simp only [hc _ _ g1, hc _ _ g2]
        exact ⟨p4, ⟨d0, d1, d2, d3, d4⟩, e0, e1, e2, e3, e4⟩
      rw [← hq]
      clear hsS hr hr' hbc hq hj d0 d1 d2 d3 d4 e0 e1 e2 e3 e4
      go_wp2_with fail
      clear p4
      go_region_held3 (fun W => W.cell? ⟨w.heap.size, 4, none⟩ = some (.slice (some ⟨b, o, none⟩) xs.length c) ∧ (W.cell? ⟨b, o + q * 5, none⟩ = some (.int .i64 k1) ∧ W.cell? ⟨b, o + q * 5 + 1, none⟩ = some (.int .i64 k2) ∧ W.cell? ⟨b, o + q * 5 + 2, none⟩ = some (.int .i64 k3) ∧ W.cell? ⟨b, o + q * 5 + 3, none⟩ = some (.string ⟨s4.toArray⟩) ∧ W.cell? ⟨b, o + q * 5 + 4, none⟩ = some (.slice a5 n5 m5)) ∧
          (W.cell? ⟨b, o + (q + 1) * 5, none⟩ = some (.int .i64 l1) ∧ W.cell? ⟨b, o + (q + 1) * 5 + 1, none⟩ = some (.int .i64 l2) ∧ W.cell? ⟨b, o + (q + 1) * 5 + 2, none⟩ = some (.int .i64 l3) ∧ W.cell? ⟨b, o + (q + 1) * 5 + 3, none⟩ = some (.string ⟨t4.toArray⟩) ∧ W.cell? ⟨b, o + (q + 1) * 5 + 4, none⟩ = some (.slice b5 r5 z5)))
        (first | exact KR.out _ hw0 | exact KR.out _ hw0.drew | exact KR.out _ (hw0.drew.alloc (by simp; omega) _) | exact KR.out _ (hw0.drew.trans hbel2))
        ((refine step_appR2 (w1 := wr.drew) (ds' := [.agg [xs[q].d, xs[q + 1].d]]) tyPr rfl rfl N B hown.drew (by simp; omega) (RepCs.drew hrB) (by intro d hd; simp at hd; subst hd; simp [D.width, D.widths, V.width]) (by simp) (by simp [Value.oneCell']) rfl 1 rfl (by rw [hdl]; simp; omega) (by decide) ?_; intro g cap w2 hown2 hbel2))
      all_goals
        go_wp2
        go_roundw
        case rel => exact ⟨j + 1, HJ1.out.1, by first | rw [← HJ1.out.2.1] | (rw [← HJ1.out.2.1]; rfl), by rw [HS.out]; simpa [hdl] using hown2, hbel.trans (hw0.drew.trans hbel2)⟩
        case measure => have := HJ1.out.2.2; simp [intOf]; omega
    · have hp : j = xs.length / 2 := by omega
      have hta : pairsD (xs.take (2 * j)) = pairsD xs := by
        by_cases h2 : 2 * j = xs.length
        · rw [h2, List.take_length]
        · have hl' : xs.length = 2 * j + 1 := by omega
          exact pairsD_odd xs j hl'
      rw [hta] at hown
      have i1 : (0 : Int) ≤ q := by omega
      have i2 : ¬ (q : Int) + 1 < xs.length := by omega
      have hq9 : q ≤ 4294967297 := by omega
      have hrd := RepC.mono (T := fun b => b < N ∨ w.heap.size ≤ b) (fun b _ hb => hb.imp id (fun h => by omega)) (hown.rd (by decide))
      have hfin : Below w.heap.size w wr := hA0.trans (hbel.mono (by omega))
      rw [← hq]
      clear hq hp hta hown hdl hj hlt
      go_wp2
      go_ret
      exact ⟨_, rfl, hfin, hrd⟩
end Go.Proofs.YtkeieeogkeonfaaGreatDoor
