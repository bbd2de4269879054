/- The steps so far, cloned and lengthened; the closure that the program's wrong hands to elements. -/
import Derived.Test.YtkeieeogkeonfaaGreatDoorSteps
import Derived.Test.YtkeieeogkeonfaaGreatDoorStep
import Derived.Test.YtkeieeogkeonfaaGreatDoorKeep
import Derived.Test.YtkeieeogkeonfaaGreatDoorDec
import Derived.Test.YtkeieeogkeonfaaGreatDoorTexts
import Derived.Test.YtkeieeogkeonfaaGreatDoorPrefS0
import Derived.Deep.RegionHeld3
import Derived.Deep.RegionLaw
import Derived.Lib.LazyBuf
import Derived.Test.YtkeieeogkeonfaaGreatDoorPairs
import Derived.Test.YtkeieeogkeonfaaGreatDoorShapeForm
import Derived.Deep.DeepCutAuto
import Derived.Test.YtkeieeogkeonfaaGreatDoorHeldI
import Derived.Deep.QuietTactic
import Derived.BigQuiet
namespace Go.Proofs.YtkeieeogkeonfaaGreatDoor
open Go.RowKit

/-- a row of texts that begins a block, or nil -/
def StrN (w : World) (v : Value) (st : List (List UInt8)) : Prop := (v = .slice none 0 0 ∧ st = []) ∨ StrA w v st
theorem StrN.nil {w : World} : StrN w (.slice none 0 0) [] := .inl ⟨rfl, rfl⟩
theorem StrN.row {w : World} {v : Value} {st : List (List UInt8)} (h : StrN w v st) : StrRow w v st := by
  rcases h with ⟨rfl, rfl⟩ | h
  · exact ⟨none, 0, rfl, fun h => absurd rfl h⟩
  · exact h.row
theorem StrN.below {w w' : World} {v : Value} {st : List (List UInt8)} (h : StrN w v st) (hb : Below w.heap.size w w') : StrN w' v st := h.imp id fun h => h.below hb
theorem StrN.form {w : World} {v : Value} {st : List (List UInt8)} (h : StrN w v st) : ∃ a n c, v = .slice a n c := by
  rcases h with ⟨rfl, _⟩ | ⟨g, c, rfl, _⟩
  · exact ⟨_, _, _, rfl⟩
  · exact ⟨_, _, _, rfl⟩
theorem OwnR.strN {w : World} {B e : Nat} {v : Value} {ls : List (List UInt8)} (h : OwnR w B e v (ls.map strV)) : StrN w v ls := by
  rcases h.form with ⟨h1, h2⟩ | ⟨g, c, h2, _⟩
  · exact .inl ⟨h1, by simpa using h2⟩
  · exact .inr (h.strA (by rw [h2]; simp))
/-- a store into a cell that held no text leaves a row of texts as it was -/
theorem StrN.setCell {w : World} {v u u0 : Value} {st : List (List UInt8)} {b : Nat} (h : StrN w v st) (hc : w.cell? ⟨b, 0, none⟩ = some u0) (hu : ∀ s, u0 ≠ .string s) : StrN (w.setCell ⟨b, 0, none⟩ u) v st := by
  rcases h with h | ⟨g, c, rfl, h⟩
  · exact .inl h
  · refine .inr ⟨g, c, rfl, fun k hk => ?_⟩
    have h0 := h 0 (by omega)
    have hgb : g ≠ b := by
      rintro rfl; rw [hc] at h0; simp only [Option.some.injEq] at h0; exact hu _ h0
    have := h k hk
    rw [← this]
    exact World.cell?_of_block (a := ⟨g, k, none⟩) (Below.heap_setCell w ⟨b, 0, none⟩ u g hgb)

set_option maxHeartbeats 1000000 in
set_option maxRecDepth 10000 in
theorem clone_any (st : List (List UInt8)) (v : Value) (w : World) (h : StrN w v st) (hl : st.length ≤ 4294967290) :
    Calls Tryz.prog 45 #[v] w fun e w' => ∃ v', e = .returned v' ∧ Below w.heap.size w w' ∧ OwnR w' w.heap.size 9 v' (st.map strV) := by
  have q24 : ∀ (w : World) (a : Option Addr) (n c : Nat), (binOp .eql 25 (.slice a n c) (.slice none 0 0)).run Tryz.prog w = .ok (.bool a.isNone) w := fun w a n c => Lib.run_eql_slice_nil w _ _ a n c 0 0 Tryz.underlying25
  rcases h with ⟨rfl, rfl⟩ | ⟨g, c, rfl, hc⟩
  · go_enter Tryz.func45, Tryz.ntmps45
    go_wp2
    go_ret
    exact ⟨_, rfl, Below.refl _ _, OwnR.nil⟩
  · have hA1 : Below w.heap.size w (w.alloc (.cells #[] 9)) := (Below.refl _ _).alloc (Nat.le_refl _) _
    have HN := Lib.hid (StrA.news (w := w.alloc (.cells #[] 9)) (g := g) (st := st) fun k hk => by have := hc k hk; rw [(bcell hA1).1 _ _ (cell_lt this)]; exact this)
    clear hc
    go_enter Tryz.func45, Tryz.ntmps45
    go_wp2_with (at_builtin; refine wp_appR (ys := st.map strV) tyStr rfl rfl w.heap.size OwnR.start rfl ⟨g, 0, none⟩ c (by simp; rfl) HN.out (strV_one st) (by simp; omega) (by decide) (by simp) ?_)
    intro v1 w1 hown1 hgr1 hn1
    have hb1 := OwnR.grown OwnR.start hA1 hgr1 (by simp)
    go_wp2
    go_ret
    exact ⟨_, rfl, hb1, by simpa using hown1⟩

def strBox (w : World) (g : Nat) (v : Value) : Prop := w.heap[g]? = some (.cells #[v] 25 (0, 0))
def boolBox (w : World) (g : Nat) (x : Bool) : Prop := w.heap[g]? = some (.cells #[.bool x] 4 (0, 0))
theorem strBox.cell {w : World} {g : Nat} {v : Value} (h : strBox w g v) : w.cell? ⟨g, 0, none⟩ = some v := cell_of_one h
theorem boolBox.cell {w : World} {g : Nat} {x : Bool} (h : boolBox w g x) : w.cell? ⟨g, 0, none⟩ = some (.bool x) := cell_of_one h
theorem strBox.free {w : World} {g : Nat} {v : Value} (h : strBox w g v) : w.frozen? ⟨g, 0, none⟩ = false := free_of_one h
theorem boolBox.free {w : World} {g : Nat} {x : Bool} (h : boolBox w g x) : w.frozen? ⟨g, 0, none⟩ = false := free_of_one h
theorem strBox.lt {w : World} {g : Nat} {v : Value} (h : strBox w g v) : g < w.heap.size := lt_of_block h
theorem boolBox.lt {w : World} {g : Nat} {x : Bool} (h : boolBox w g x) : g < w.heap.size := lt_of_block h
theorem strBox.below {w w' : World} {g : Nat} {v : Value} (h : strBox w g v) (hb : Below w.heap.size w w') : strBox w' g v := (hb.block g h.lt).trans h
theorem boolBox.below {w w' : World} {g : Nat} {x : Bool} (h : boolBox w g x) (hb : Below w.heap.size w w') : boolBox w' g x := (hb.block g h.lt).trans h

theorem strBox.set {w : World} {g : Nat} {v : Value} (h : strBox w g v) (u : Value) : strBox (w.setCell ⟨g, 0, none⟩ u) g u := one_setCell h
theorem boolBox.set {w : World} {g : Nat} {x : Bool} (h : boolBox w g x) (y : Bool) : boolBox (w.setCell ⟨g, 0, none⟩ (.bool y)) g y := one_setCell h
theorem strBox.other {w : World} {g b : Nat} {v : Value} (h : strBox w g v) (hb : g ≠ b) (u : Value) : strBox (w.setCell ⟨b, 0, none⟩ u) g v := (Below.heap_setCell w ⟨b, 0, none⟩ u g hb).trans h
theorem boolBox.other {w : World} {g b : Nat} {x : Bool} (h : boolBox w g x) (hb : g ≠ b) (u : Value) : boolBox (w.setCell ⟨b, 0, none⟩ u) g x := (Below.heap_setCell w ⟨b, 0, none⟩ u g hb).trans h
/-- one of the two boxes -/
def Two (bo bf : Nat) (b : Nat) : Prop := b = bo ∨ b = bf
/-- the two stores at the end of the closure, in either order -/
theorem two_stores {w w3 : World} {bo bf : Nat} {vo v3 : Value} {fo b : Bool} (hk : Below w.heap.size w w3) (h1 : strBox w3 bo vo) (h2 : boolBox w3 bf fo) (hvo : ∃ a n c, vo = .slice a n c) (hne : bo ≠ bf) {W : World}
    (hW : W = (w3.setCell ⟨bo, 0, none⟩ v3).setCell ⟨bf, 0, none⟩ (.bool b) ∨ W = (w3.setCell ⟨bf, 0, none⟩ (.bool b)).setCell ⟨bo, 0, none⟩ v3) :
    Keep (Two bo bf) w W ∧ strBox W bo v3 ∧ boolBox W bf b ∧ ∀ v st, StrN w3 v st → StrN W v st := by
  obtain ⟨a, n, c, rfl⟩ := hvo
  rcases hW with rfl | rfl
  · refine ⟨((Keep.of_below hk).setCell (.inl (.inl rfl)) _).setCell (.inl (.inr rfl)) _, (h1.set v3).other hne _, (h2.other (Ne.symm hne) _).set b, fun v st h => ?_⟩
    exact (h.setCell h1.cell (by intro s; simp)).setCell (h2.other (Ne.symm hne) _).cell (by intro s; simp)
  · refine ⟨((Keep.of_below hk).setCell (.inl (.inr rfl)) _).setCell (.inl (.inl rfl)) _, (h1.other hne _).set v3, (h2.set b).other (Ne.symm hne) _, fun v st h => ?_⟩
    exact (h.setCell h2.cell (by intro s; simp)).setCell (h1.other hne _).cell (by intro s; simp)

theorem lit_kept {w0 w1 : World} {u : Value} {e : TypeId} {g : Nat} (hg : g = w0.heap.size) (hb : Below (w0.alloc (.cells #[u] e)).heap.size (w0.alloc (.cells #[u] e)) w1) : ∀ j x, [u][j]? = some x → w1.cell? ((⟨g, 0, none⟩ : Addr).add j) = some x := by
  intro j x hj
  subst hg
  have h := cell_one_of (w := w0) (e := e) j x hj
  rw [add_plain] at h ⊢
  rw [(bcell hb).1 _ _ (by simp)]; exact h

theorem cell_set_ne {w : World} {b o g : Nat} {u : Value} (h : b ≠ g) : (w.setCell ⟨g, 0, none⟩ u).cell? ⟨b, o, none⟩ = w.cell? ⟨b, o, none⟩ := World.cell?_of_block (a := ⟨b, o, none⟩) (Below.heap_setCell w ⟨g, 0, none⟩ u b h)
/-- what the program's wrong does -/
def WrI (N : Nat) : Prop := ∀ (x : V) (sh : Sh) (st : List (List UInt8)) (cs ch : List Value) (vs : Value) (d d' : Int) (w : World), sh.nodes ≤ N → Rd w x.d cs → Rd w sh.d ch → StrN w vs st → x.wf → sh.wf → x.bulk ≤ 4294967295 → sh.bulk ≤ 4294967295 → V.rightBy pairsOk d x = true → Sh.right d' sh = true → st.length + N ≤ 1000 → TenTab w →
  Calls Tryz.prog 23 #[.agg cs.toArray, .agg ch.toArray, vs] w fun e w' => ∃ vo, e = .returned (.tuple #[vo, .bool (wrg N x sh).isSome]) ∧ Below w.heap.size w w' ∧ (∃ a n c, vo = .slice a n c) ∧ ∀ p, wrg N x sh = some p → StrN w' vo (st ++ p)

set_option maxHeartbeats 2000000 in
set_option maxRecDepth 10000 in
theorem yield_any {N : Nat} (hI : WrI N) (s : List UInt8) (y : V) (sh : Sh) (st : List (List UInt8)) (cs ch : List Value) (vs vo : Value) (fo : Bool) (bs bo bf : Nat) (d d' : Int) (w : World) (hn : sh.nodes ≤ N) (hx : Rd w y.d cs) (hs : Rd w sh.d ch)
    (hbs : w.cell? ⟨bs, 0, none⟩ = some vs) (hst : StrN w vs st) (hbo : strBox w bo vo) (hvo : ∃ a n c, vo = .slice a n c) (hbf : boolBox w bf fo) (hso : bs ≠ bo) (hsf : bs ≠ bf) (hne : bo ≠ bf)
    (hxw : y.wf) (hsw : sh.wf) (hxb : y.bulk ≤ 4294967295) (hsb : sh.bulk ≤ 4294967295) (hV : V.rightBy pairsOk d y = true) (hR : Sh.right d' sh = true) (hlen : st.length + 1 + N ≤ 1000) (hT : TenTab w) :
    Calls Tryz.prog 44 #[.string ⟨s.toArray⟩, .agg cs.toArray, .agg ch.toArray, .pointer (some ⟨bs, 0, none⟩), .pointer (some ⟨bo, 0, none⟩), .pointer (some ⟨bf, 0, none⟩)] w fun e w' => e = .returned (.bool (wrg N y sh).isNone) ∧ Keep (Two bo bf) w w' ∧
      (∃ v', strBox w' bo v' ∧ (∃ a n c, v' = .slice a n c) ∧ ∀ p, wrg N y sh = some p → StrN w' v' (st ++ s :: p)) ∧ boolBox w' bf (wrg N y sh).isSome := by
  obtain ⟨k, n, e, s0, a1, n1, c1, rfl⟩ := V.form hx
  obtain ⟨k', l, hi, a4, n4, c4, m, a6, n6, c6, rfl⟩ := Sh.form hs
  obtain ⟨W0, hW0⟩ : ∃ W0, W0 = (w.alloc (.cells #[.int .i64 k, .int .i64 n, .int .i64 e, .string ⟨s0.toArray⟩, .slice a1 n1 c1] 35)).alloc (.cells #[.int .i64 k', .int .i64 l, .int .i64 hi, .slice a4 n4 c4, .int .i64 m, .slice a6 n6 c6] 39) := ⟨_, rfl⟩
  have HW := Lib.hid hW0
  have hA0 : Below w.heap.size w W0 := by rw [hW0]; exact ((Below.refl _ _).alloc (Nat.le_refl _) _).alloc (by simp) _
  have hz : W0.heap.size = w.heap.size + 2 := by rw [hW0]; simp
  have KB : Hid (∀ W, Below W0.heap.size W0 W → (W.cell? ⟨w.heap.size, 0, none⟩ = some (.int .i64 k) ∧ W.cell? ⟨w.heap.size, 1, none⟩ = some (.int .i64 n) ∧ W.cell? ⟨w.heap.size, 2, none⟩ = some (.int .i64 e) ∧ W.cell? ⟨w.heap.size, 3, none⟩ = some (.string ⟨s0.toArray⟩) ∧ W.cell? ⟨w.heap.size, 4, none⟩ = some (.slice a1 n1 c1)) ∧ (W.cell? ⟨w.heap.size + 1, 0, none⟩ = some (.int .i64 k') ∧ W.cell? ⟨w.heap.size + 1, 1, none⟩ = some (.int .i64 l) ∧ W.cell? ⟨w.heap.size + 1, 2, none⟩ = some (.int .i64 hi) ∧ W.cell? ⟨w.heap.size + 1, 3, none⟩ = some (.slice a4 n4 c4) ∧ W.cell? ⟨w.heap.size + 1, 4, none⟩ = some (.int .i64 m) ∧ W.cell? ⟨w.heap.size + 1, 5, none⟩ = some (.slice a6 n6 c6)) ∧ W.cell? ⟨bs, 0, none⟩ = some vs) := by
    intro W hb
    obtain ⟨hc, _⟩ := bcell hb
    have h1 : W0.cell? ⟨bs, 0, none⟩ = some vs := by rw [(bcell hA0).1 _ _ (cell_lt hbs)]; exact hbs
    have hb1 : bs < W0.heap.size := by have := cell_lt hbs; omega
    simp only [hc _ _ (show w.heap.size < W0.heap.size by omega), hc _ _ (show w.heap.size + 1 < W0.heap.size by omega), hc _ _ hb1, h1]
    subst hW0; simp [go_sem]
  have HRV := Lib.hid (show ∀ W, Below W0.heap.size W0 W → Rd W y.d [.int .i64 k, .int .i64 n, .int .i64 e, .string ⟨s0.toArray⟩, .slice a1 n1 c1] from fun W hb => hx.below (below2 hA0 hb (Nat.le_refl _)))
  have HRS := Lib.hid (show ∀ W, Below W0.heap.size W0 W → Rd W sh.d [.int .i64 k', .int .i64 l, .int .i64 hi, .slice a4 n4 c4, .int .i64 m, .slice a6 n6 c6] from fun W hb => hs.below (below2 hA0 hb (Nat.le_refl _)))
  have HB0 := Lib.hid (show ∀ W W2, Below W0.heap.size W0 W → Below W.heap.size W W2 → Below W0.heap.size W0 W2 from fun W W2 a b => below2 a b (Nat.le_refl _))
  have HCL := fun W (hb : Below W0.heap.size W0 W) => Lib.hid (clone_any st vs W (hst.below (below2 hA0 hb (Nat.le_refl _))) (by omega))
  have HC := fun W (hb : Below W0.heap.size W0 W) (vt : Value) (hvt : StrN W vt (st ++ [s])) => Lib.hid (hI y sh (st ++ [s]) _ _ vt d d' W hn (HRV.out _ hb) (HRS.out _ hb) hvt hxw hsw hxb hsb hV hR (by simp; omega) (hT.below (below2 hA0 hb (Nat.le_refl _))))
  obtain ⟨ow, how⟩ : ∃ ow, wrg N y sh = ow := ⟨_, rfl⟩
  rw [how] at HC ⊢
  have HBX := Lib.hid (show ∀ W, Below W0.heap.size W0 W → strBox W bo vo ∧ boolBox W bf fo from fun W hb => ⟨hbo.below (below2 hA0 hb (Nat.le_refl _)), hbf.below (below2 hA0 hb (Nat.le_refl _))⟩)
  have hB := Below.refl W0.heap.size W0
  have hstl : st.length ≤ 1000 := by omega
  have hz1 : bs < W0.heap.size := by have := cell_lt hbs; omega
  have hz2 : bs < w.heap.size + 2 := by omega
  have hz6 := hbo.lt
  have hz7 := hbf.lt
  clear hW0 hx hs hst hbs how
  go_enter Tryz.func44, Tryz.ntmps44
  go_wp2_with fail
  rw [← HW.out]
  go_region_held3 (fun W => (W.cell? ⟨w.heap.size, 0, none⟩ = some (.int .i64 k) ∧ W.cell? ⟨w.heap.size, 1, none⟩ = some (.int .i64 n) ∧ W.cell? ⟨w.heap.size, 2, none⟩ = some (.int .i64 e) ∧ W.cell? ⟨w.heap.size, 3, none⟩ = some (.string ⟨s0.toArray⟩) ∧ W.cell? ⟨w.heap.size, 4, none⟩ = some (.slice a1 n1 c1)) ∧ (W.cell? ⟨w.heap.size + 1, 0, none⟩ = some (.int .i64 k') ∧ W.cell? ⟨w.heap.size + 1, 1, none⟩ = some (.int .i64 l) ∧ W.cell? ⟨w.heap.size + 1, 2, none⟩ = some (.int .i64 hi) ∧ W.cell? ⟨w.heap.size + 1, 3, none⟩ = some (.slice a4 n4 c4) ∧ W.cell? ⟨w.heap.size + 1, 4, none⟩ = some (.int .i64 m) ∧ W.cell? ⟨w.heap.size + 1, 5, none⟩ = some (.slice a6 n6 c6)) ∧ W.cell? ⟨bs, 0, none⟩ = some vs)
    (first | exact KB.out _ hB | exact KB.out _ hB.drew | exact KB.out _ (hB.alloc hB.size _) | exact KB.out _ (hB.alloc hB.size _).drew | exact KB.out _ (hB.drew.alloc (by have := hB.size; simp; omega) _) | exact KB.out _ hB1 | exact KB.out _ hB1.drew | exact KB.out _ (hB1.alloc hB1.size _) | exact KB.out _ (hB1.alloc hB1.size _).drew | exact KB.out _ hgrB | exact KB.out _ hgrB.drew | exact KB.out _ hB3 | exact KB.out _ hB3.drew | exact hS4 _ | exact hS5 _ _)
    (first
      | (go_at_call 45; with_reducible refine (HCL _ (by first | exact hB | exact hB.drew)).out.mono ?_; rintro e1 w1 ⟨v1, rfl, hb1, hown0⟩; have hown1 := hown0.mono (B' := W0.heap.size) (by first | exact Nat.le_refl _ | exact hB.size | (have := hB.size; simp <;> omega)); have hB1 := HB0.out _ _ (by first | exact hB | exact hB.drew) hb1; have hz3 : bs < w1.heap.size := Nat.lt_of_lt_of_le hz1 hB1.size; have hz4 : w.heap.size < w1.heap.size := (by have := hB1.size; omega); have hz5 : w.heap.size + 1 < w1.heap.size := (by have := hB1.size; omega))
      | (go_at_call 45; with_reducible refine (HCL _ (hB.alloc hB.size _).drew).out.mono ?_; rintro e1 w1 ⟨v1, rfl, hb1, hown0⟩; have hown1 := hown0.mono (B' := W0.heap.size) (by simp); have hsrc := lit_kept (w0 := W0) (w1 := w1) (g := w.heap.size + 2) hz.symm (((Below.refl _ _).drew).trans (hb1.mono (Nat.le_refl _))); have hB1 := HB0.out _ _ (hB.alloc hB.size _).drew hb1)
      | (refine step_appR (ys := [.string ⟨s.toArray⟩]) tyStr rfl rfl W0.heap.size (by first | exact hown1.alloc _ | exact (hown1.alloc _).below (Below.refl _ _).drew) rfl ⟨_, 0, none⟩ 1 rfl (by first | exact cell_one_of | exact fun j x h => cell_one_of (w := w1) j x h) (by simp [Value.oneCell']) (by simp) (by simp; omega) (by decide) (by have := hB1.size; simp; omega) ?_; intro v2 w2 hown2 hgr2; have hgrB := OwnR.grown (by first | exact hown1.alloc _ | exact (hown1.alloc _).below (Below.refl _ _).drew) (by first | exact hB1.alloc hB1.size _ | exact (hB1.alloc hB1.size _).drew) hgr2 (by have := hB1.size; simp; omega))
      | (refine step_appR (ys := [.string ⟨s.toArray⟩]) tyStr rfl rfl W0.heap.size hown1 rfl ⟨w.heap.size + 2, 0, none⟩ 1 rfl hsrc (by simp [Value.oneCell']) (by simp) (by simp; omega) (by decide) hB1.size ?_; intro v2 w2 hown2 hgr2; have hgrB := OwnR.grown hown1 hB1 hgr2 hB1.size)
      | (go_at_call 23; with_reducible refine (HC _ (by first | exact hgrB | exact hgrB.drew) _ (by first | exact OwnR.strN (by simpa [strV] using hown2) | exact (OwnR.strN (by simpa [strV] using hown2)).below (Below.refl _ _).drew)).out.mono ?_; rintro e1 w3 ⟨v3, rfl, hb3, hf3, hp3⟩; obtain ⟨x1, x2, x3, rfl⟩ := hf3; have hB3 := HB0.out _ _ (by first | exact hgrB | exact hgrB.drew) hb3; obtain ⟨hbo3, hbf3⟩ := HBX.out _ hB3; have cb1 := hbo3.cell; have cb2 := hbf3.cell; have cb3 := hbo3.free; have cb4 := hbf3.free; have hS4 : (∀ u, (fun W : World => (W.cell? ⟨w.heap.size, 0, none⟩ = some (.int .i64 k) ∧ W.cell? ⟨w.heap.size, 1, none⟩ = some (.int .i64 n) ∧ W.cell? ⟨w.heap.size, 2, none⟩ = some (.int .i64 e) ∧ W.cell? ⟨w.heap.size, 3, none⟩ = some (.string ⟨s0.toArray⟩) ∧ W.cell? ⟨w.heap.size, 4, none⟩ = some (.slice a1 n1 c1)) ∧ (W.cell? ⟨w.heap.size + 1, 0, none⟩ = some (.int .i64 k') ∧ W.cell? ⟨w.heap.size + 1, 1, none⟩ = some (.int .i64 l) ∧ W.cell? ⟨w.heap.size + 1, 2, none⟩ = some (.int .i64 hi) ∧ W.cell? ⟨w.heap.size + 1, 3, none⟩ = some (.slice a4 n4 c4) ∧ W.cell? ⟨w.heap.size + 1, 4, none⟩ = some (.int .i64 m) ∧ W.cell? ⟨w.heap.size + 1, 5, none⟩ = some (.slice a6 n6 c6)) ∧ W.cell? ⟨bs, 0, none⟩ = some vs) (w3.setCell ⟨bo, 0, none⟩ u)) := (fun u => by have h1 := KB.out _ hB3; simp only [cell_set_ne hso, cell_set_ne (show w.heap.size ≠ bo by omega), cell_set_ne (show w.heap.size + 1 ≠ bo by omega)]; exact h1); have hS5 : (∀ u u', (fun W : World => (W.cell? ⟨w.heap.size, 0, none⟩ = some (.int .i64 k) ∧ W.cell? ⟨w.heap.size, 1, none⟩ = some (.int .i64 n) ∧ W.cell? ⟨w.heap.size, 2, none⟩ = some (.int .i64 e) ∧ W.cell? ⟨w.heap.size, 3, none⟩ = some (.string ⟨s0.toArray⟩) ∧ W.cell? ⟨w.heap.size, 4, none⟩ = some (.slice a1 n1 c1)) ∧ (W.cell? ⟨w.heap.size + 1, 0, none⟩ = some (.int .i64 k') ∧ W.cell? ⟨w.heap.size + 1, 1, none⟩ = some (.int .i64 l) ∧ W.cell? ⟨w.heap.size + 1, 2, none⟩ = some (.int .i64 hi) ∧ W.cell? ⟨w.heap.size + 1, 3, none⟩ = some (.slice a4 n4 c4) ∧ W.cell? ⟨w.heap.size + 1, 4, none⟩ = some (.int .i64 m) ∧ W.cell? ⟨w.heap.size + 1, 5, none⟩ = some (.slice a6 n6 c6)) ∧ W.cell? ⟨bs, 0, none⟩ = some vs) ((w3.setCell ⟨bo, 0, none⟩ u).setCell ⟨bf, 0, none⟩ u')) := (fun u u' => by have h1 := hS4 u; simp only [cell_set_ne hsf, cell_set_ne (show w.heap.size ≠ bf by omega), cell_set_ne (show w.heap.size + 1 ≠ bf by omega)] at h1 ⊢; exact h1); have cb5 := (hbf3.other (Ne.symm hne) (.slice x1 x2 x3)).cell; have cb6 := (hbf3.other (Ne.symm hne) (.slice x1 x2 x3)).free))
  all_goals
    go_wp2
    go_ret
    obtain ⟨hK, hX, hY, hS⟩ := two_stores (below2 hA0 hB3 (Nat.le_refl _)) hbo3 hbf3 hvo hne (.inl rfl)
    exact ⟨rfl, hK, ⟨_, hX, ⟨_, _, _, rfl⟩, fun p hp => by have := hS _ _ (hp3 p hp); rwa [List.append_assoc] at this⟩, hY⟩
end Go.Proofs.YtkeieeogkeonfaaGreatDoor

/- The program's elements, calling wrong's closure. -/
namespace Go.Proofs.YtkeieeogkeonfaaGreatDoor
open Go.RowKit

theorem RepC.pair2 {S : Nat → Prop} {w : World} {xs : List V} {v : Value} (h : RepC S w (.sl 10 (pairsD xs)) [v]) : ∃ a c, v = .slice a (xs.length / 2) c ∧ ∀ j (hj : 2 * j + 1 < xs.length), ∃ b o v0 v1 v2 v3 v4 u0 u1 u2 u3 u4, a = some ⟨b, o, none⟩ ∧ S b ∧
    RepC S w (xs[2 * j]'(by omega)).d [v0, v1, v2, v3, v4] ∧ RepC S w xs[2 * j + 1].d [u0, u1, u2, u3, u4] ∧
    w.cell? ⟨b, o + j * 10, none⟩ = some v0 ∧ w.cell? ⟨b, o + j * 10 + 1, none⟩ = some v1 ∧ w.cell? ⟨b, o + j * 10 + 2, none⟩ = some v2 ∧ w.cell? ⟨b, o + j * 10 + 3, none⟩ = some v3 ∧ w.cell? ⟨b, o + j * 10 + 4, none⟩ = some v4 ∧
    w.cell? ⟨b, o + j * 10 + 5, none⟩ = some u0 ∧ w.cell? ⟨b, o + j * 10 + 6, none⟩ = some u1 ∧ w.cell? ⟨b, o + j * 10 + 7, none⟩ = some u2 ∧ w.cell? ⟨b, o + j * 10 + 8, none⟩ = some u3 ∧ w.cell? ⟨b, o + j * 10 + 9, none⟩ = some u4 := by
  obtain ⟨a, c, rfl, hg⟩ := RepC.slice h
  rw [pairsD_length]
  refine ⟨a, c, rfl, fun j hj => ?_⟩
  have hne : pairsD xs ≠ [] := by intro e; have := congrArg List.length e; rw [pairsD_length] at this; simp at this; omega
  obtain ⟨_, _, _, b, o, rfl, hb, hcell⟩ := hg hne
  obtain ⟨cs, hl, hr, hc⟩ := hcell j (by rw [pairsD_length]; omega)
  rw [pairsD_get xs j hj] at hr
  simp only [RepC, RepCs] at hr
  obtain ⟨c1, c2, rfl, l1, h1, c3, c4, rfl, l3, h3, rfl⟩ := hr
  rw [V.width] at l1 l3
  match c1, l1, c3, l3 with
  | [v0, v1, v2, v3, v4], _, [u0, u1, u2, u3, u4], _ =>
    rw [Nat.mul_comm 10 j] at hc
    exact ⟨b, o, v0, v1, v2, v3, v4, u0, u1, u2, u3, u4, rfl, hb, h1, h3, hc 0 _ rfl, hc 1 _ rfl, hc 2 _ rfl, hc 3 _ rfl, hc 4 _ rfl, hc 5 _ rfl, hc 6 _ rfl, hc 7 _ rfl, hc 8 _ rfl, hc 9 _ rfl⟩
/-- the first wrong element -/
def elemW (N : Nat) (x : V) (sh : Sh) : Option (List (List UInt8)) :=
  if sh.kind = 7 then wrL (fun y => wrg N y (sh.kids.headD shNil)) 0 x.kids
  else if sh.kind = 8 then wrM (fun s y => wrg N y (sh.kids.getD (ixF sh.keys s 0).toNat shNil)) x.kids
  else none

set_option maxHeartbeats 4000000 in
set_option maxRecDepth 10000 in
theorem elements_any {N : Nat} (hI : WrI N) (x : V) (sh : Sh) (st : List (List UInt8)) (cs ch : List Value) (vs vo : Value) (bs bo bf NN : Nat) (d d' : Int) (w : World) (hn : Sh.nodess sh.kids ≤ N) (hx : RdN NN w x.d cs) (hs : RdN NN w sh.d ch)
    (HST : Hid (∀ W, Below NN w W → StrN W vs st)) (HTT : Hid (∀ W, Below NN w W → TenTab W)) (hbs : w.cell? ⟨bs, 0, none⟩ = some vs) (hbo : strBox w bo vo) (hvo : ∃ a n c, vo = .slice a n c) (hbf : boolBox w bf false) (hso : bs ≠ bo) (hsf : bs ≠ bf) (hne : bo ≠ bf) (hNo : NN ≤ bo) (hNf : NN ≤ bf)
    (hxw : x.wf) (hsw : sh.wf) (hxb : x.bulk ≤ 4294967295) (hsb : sh.bulk ≤ 4294967295) (hV : V.rightBy pairsOk d x = true) (hR : Sh.right d' sh = true) (hlen : st.length + 1 + N ≤ 1000) (hh : heldB x sh = true) :
    Calls Tryz.prog 43 #[.agg cs.toArray, .agg ch.toArray, .func (.func 44) #[] #[.pointer (some ⟨bs, 0, none⟩), .pointer (some ⟨bo, 0, none⟩), .pointer (some ⟨bf, 0, none⟩)]] w fun e w' => e = .returned (.tuple #[]) ∧ Keep (Two bo bf) w w' ∧
      (∃ v', strBox w' bo v' ∧ (∃ a n c, v' = .slice a n c) ∧ ∀ p, elemW N x sh = some p → StrN w' v' (st ++ p)) ∧ boolBox w' bf (elemW N x sh).isSome := by
  obtain ⟨k, n, e, s0, kids, v1, rfl, rfl, hvk⟩ := V.layS hx
  obtain ⟨k', l, hi, ks, m, hkids, u1, u2, rfl, rfl, hsk, hsh⟩ := Sh.layS hs
  obtain ⟨a1, c1, rfl, hg1⟩ := RepC.values hvk
  obtain ⟨a4, c4, rfl⟩ := Rd.sl_form (Rd.of hsk)
  obtain ⟨a6, c6, rfl, hg2⟩ := RepC.shapes hsh
  rw [List.length_map] at hsk hs ⊢
  have hself : Sh.self (.mk k' l hi ks m hkids) = true := by simp only [Sh.right, Bool.and_eq_true] at hR; exact hR.2.2
  have hrk : ∀ y ∈ hkids, Sh.right (d' - 1) y = true := by
    intro y hy; simp only [Sh.right, Bool.and_eq_true] at hR; have h1 := hR.1; rw [Sh.rights_all, List.all_eq_true] at h1; exact h1 y hy
  have hvr : ∀ y ∈ kids, V.rightBy pairsOk (d - 1) y = true := by
    intro y hy; simp only [V.rightBy, Bool.and_eq_true] at hV; have h1 := hV.1; rw [V.rightsBy_all, List.all_eq_true] at h1; exact h1 y hy
  have hkw : Sh.wfs hkids := hsw.2.2.2.2.2.2
  have hvw : V.wfs kids := hxw.2.2.2.2.2
  have hkb : hkids.length + Sh.bulks hkids ≤ 4294967295 := by unfold Sh.bulk at hsb; omega
  have hkkb : ks.length ≤ 4294967295 := by unfold Sh.bulk at hsb; omega
  have hvb : kids.length + V.bulks kids ≤ 4294967295 := by unfold V.bulk at hxb; omega
  simp only [Sh.kids] at hn
  have hbow := hbo.lt
  have hbfw := hbf.lt
  have hbsw : bs < w.heap.size := cell_lt hbs
  have hNw : NN ≤ w.heap.size := by omega
  have hsN : ∀ q, q < NN → ¬ Two bo bf q := by intro q hq h; rcases h with h | h <;> omega
  obtain ⟨W0, hW0⟩ : ∃ W0, W0 = (w.alloc (.cells #[.int .i64 k, .int .i64 n, .int .i64 e, .string ⟨s0.toArray⟩, .slice a1 kids.length c1] 35)).alloc (.cells #[.int .i64 k', .int .i64 l, .int .i64 hi, .slice a4 ks.length c4, .int .i64 m, .slice a6 hkids.length c6] 39) := ⟨_, rfl⟩
  have HW := Lib.hid hW0
  have hA0 : Below w.heap.size w W0 := by rw [hW0]; exact ((Below.refl _ _).alloc (Nat.le_refl _) _).alloc (by simp) _
  have hz : W0.heap.size = w.heap.size + 2 := by rw [hW0]; simp
  have KB : Hid (∀ W, Keep (Two bo bf) W0 W → (W.cell? ⟨w.heap.size, 0, none⟩ = some (.int .i64 k) ∧ W.cell? ⟨w.heap.size, 1, none⟩ = some (.int .i64 n) ∧ W.cell? ⟨w.heap.size, 2, none⟩ = some (.int .i64 e) ∧ W.cell? ⟨w.heap.size, 3, none⟩ = some (.string ⟨s0.toArray⟩) ∧ W.cell? ⟨w.heap.size, 4, none⟩ = some (.slice a1 kids.length c1)) ∧ (W.cell? ⟨w.heap.size + 1, 0, none⟩ = some (.int .i64 k') ∧ W.cell? ⟨w.heap.size + 1, 1, none⟩ = some (.int .i64 l) ∧ W.cell? ⟨w.heap.size + 1, 2, none⟩ = some (.int .i64 hi) ∧ W.cell? ⟨w.heap.size + 1, 3, none⟩ = some (.slice a4 ks.length c4) ∧ W.cell? ⟨w.heap.size + 1, 4, none⟩ = some (.int .i64 m) ∧ W.cell? ⟨w.heap.size + 1, 5, none⟩ = some (.slice a6 hkids.length c6)) ∧ W.cell? ⟨bs, 0, none⟩ = some vs ∧ w.heap.size + 2 ≤ W.heap.size) := by
    intro W hb
    have e1 : W0.cell? ⟨bs, 0, none⟩ = some vs := by rw [(bcell hA0).1 _ _ hbsw]; exact hbs
    have hc : ∀ b o, b < W0.heap.size → b ≠ bo → b ≠ bf → W.cell? ⟨b, o, none⟩ = W0.cell? ⟨b, o, none⟩ := fun b o h1 h2 h3 => hb.cell h1 (by rintro (h | h) <;> omega)
    have hsz := hb.size
    simp only [hc _ _ (show w.heap.size < W0.heap.size by omega) (by omega) (by omega), hc _ _ (show w.heap.size + 1 < W0.heap.size by omega) (by omega) (by omega), hc _ _ (show bs < W0.heap.size by omega) hso hsf, e1]
    refine ⟨?_, ?_, by first | trivial | rfl, by omega⟩ <;> (subst hW0; simp [go_sem])
  have HKN := Lib.hid (show ∀ W, Keep (Two bo bf) W0 W → Below NN w W from fun W hb => (Keep.of_below hA0 |>.trans hb).below hNw hsN)
  have HKS := Lib.hid (show ∀ W, Keep (Two bo bf) W0 W → StrRow W (.slice a4 ks.length c4) ks from fun W hb => (Rd.of ((RdN.below (N := NN) hsk (HKN.out W hb)))).strRow)
  have HRD := Lib.hid (show ∀ (dd : D) (cc : List Value) W, Keep (Two bo bf) W0 W → RepC (· < NN) w dd cc → Rd W dd cc from fun dd cc W hb h => (RdN.below (N := NN) h (HKN.out W hb)).rd)
  have HCC := Lib.hid (show ∀ W b o, Keep (Two bo bf) W0 W → b < NN → W.cell? ⟨b, o, none⟩ = w.cell? ⟨b, o, none⟩ from fun W b o hb h => World.cell?_of_block (a := ⟨b, o, none⟩) ((HKN.out W hb).block b h))
  have HG1 := Lib.hid hg1
  have HG2 := Lib.hid hg2
  have hB : Keep (Two bo bf) W0 W0 := Keep.refl _ _
  have hbo0 : strBox W0 bo vo := hbo.below hA0
  have hbf0 : boolBox W0 bf false := hbf.below hA0
  have HSELF := Lib.hid hself
  have HP := Lib.hid (pairsOf_any NN (.mk k n e s0 kids) _ W0 (RdN.below (N := NN) hx (HKN.out _ hB)) (by omega) (by simp only [V.kids]; omega))
  obtain ⟨tot, htot⟩ : ∃ tot, elemW N (.mk k n e s0 kids) (.mk k' l hi ks m hkids) = tot := ⟨_, rfl⟩
  rw [htot]
  have HTOT := Lib.hid htot
  have HHB := Lib.hid hh
  have HK0 := Lib.hid (show Keep (Two bo bf) w W0 from Keep.of_below hA0)
  clear hW0 htot hself hx hs hg1 hg2 hvk hsk hsh hbs hh hbo hbf
  obtain ⟨⟨p0, p1, p2, p3, p4⟩, ⟨q0, q1, q2, q3, q4, q5⟩, ps, hsz0⟩ := KB.out _ hB
  go_enter Tryz.func43, Tryz.ntmps43
  go_upto_region 1 with fail
  rw [← HW.out]
  by_cases hk7 : k' = 7
  · subst hk7
    obtain ⟨kid, rfl⟩ := sh_self7 HSELF.out
    simp only [List.length_singleton] at *
    have HW7 := Lib.hid (show wrL (fun x => wrg N x kid) 0 kids = tot by rw [← HTOT.out]; unfold elemW; rw [if_pos (show Sh.kind (.mk 7 l hi ks m [kid]) = 7 from rfl)]; rfl)
    obtain ⟨_, _, b2, o2, rfl, hbb2, hcell2⟩ := HG2.out (by simp)
    obtain ⟨v0, v1, v2, v3, v4, v5, hr6, d0, d1, d2, d3, d4, d5⟩ := hcell2 0 (by simp)
    obtain ⟨f1, f2, f3, t4, t5, t6, f5, h4, h5, h6, hcs⟩ := Sh.formS hr6
    simp only [List.cons.injEq, and_true] at hcs
    obtain ⟨rfl, rfl, rfl, rfl, rfl, rfl⟩ := hcs
    simp only [Nat.zero_mul, Nat.add_zero, List.getElem_cons_zero] at hr6 d0 d1 d2 d3 d4 d5
    have KH : Hid (∀ W, Keep (Two bo bf) W0 W → W.cell? ⟨b2, o2, none⟩ = some (.int .i64 f1) ∧ W.cell? ⟨b2, o2 + 1, none⟩ = some (.int .i64 f2) ∧ W.cell? ⟨b2, o2 + 2, none⟩ = some (.int .i64 f3) ∧ W.cell? ⟨b2, o2 + 3, none⟩ = some (.slice t4 t5 t6) ∧ W.cell? ⟨b2, o2 + 4, none⟩ = some (.int .i64 f5) ∧ W.cell? ⟨b2, o2 + 5, none⟩ = some (.slice h4 h5 h6)) := by
      intro W hW
      exact ⟨by rw [HCC.out W _ _ hW hbb2]; exact d0, by rw [HCC.out W _ _ hW hbb2]; exact d1, by rw [HCC.out W _ _ hW hbb2]; exact d2, by rw [HCC.out W _ _ hW hbb2]; exact d3, by rw [HCC.out W _ _ hW hbb2]; exact d4, by rw [HCC.out W _ _ hW hbb2]; exact d5⟩
    clear d0 d1 d2 d3 d4 d5 hcell2
    have HR6 := Lib.hid hr6
    clear hr6
    go_wp2_with fail
    go_loopw [17] (fun i wr => ∃ j : Nat, j ≤ kids.length ∧ i = .int .i64 j ∧ wrL (fun x => wrg N x kid) j (kids.drop j) = tot ∧ (∃ v', strBox wr bo v' ∧ (∃ a n c, v' = .slice a n c)) ∧ boolBox wr bf false ∧ Keep (Two bo bf) W0 wr) (fun i _ => kids.length - (intOf i).toNat)
    case atStart => exact ⟨0, Nat.zero_le _, rfl, HW7.out, ⟨vo, hbo0, hvo⟩, hbf0, hB⟩
    case round =>
      obtain ⟨j, hj, rfl, htot, ⟨v9, hbo9, hv9⟩, hbf9, hbel⟩ := hrel
      have HT0 := Lib.hid htot; clear htot
      have i1 : (0 : Int) ≤ j := by omega
      clear p0 p1 p2 p3 p4 q0 q1 q2 q3 q4 q5 ps hsz0
      obtain ⟨⟨p0, p1, p2, p3, p4⟩, ⟨q0, q1, q2, q3, q4, q5⟩, ps, hsz0⟩ := KB.out _ hbel
      by_cases hlt : j < kids.length
      · have i2 : (j : Int) < kids.length := by omega
        obtain ⟨_, _, b, o, rfl, hbb, hcell⟩ := HG1.out (by intro e; rw [e] at hlt; simp at hlt)
        obtain ⟨v0, v1, v2, v3, v4, hr5, d0, d1, d2, d3, d4⟩ := hcell j hlt
        obtain ⟨y1, y2, y3, y4, g4, g5, g6, hcs⟩ := V.formS hr5
        simp only [List.cons.injEq, and_true] at hcs
        obtain ⟨rfl, rfl, rfl, rfl, rfl⟩ := hcs
        rw [← HCC.out _ _ _ hbel hbb] at d0 d1 d2 d3 d4
        clear hcell
        obtain ⟨W1, hW1⟩ : ∃ W1, W1 = wr.alloc (.cells #[.int .i64 y1, .int .i64 y2, .int .i64 y3, .string ⟨y4.toArray⟩, .slice g4 g5 g6] 35) := ⟨_, rfl⟩
        have HW1 := Lib.hid hW1
        have hE : Keep (Two bo bf) W0 W1 := by rw [hW1]; exact hbel.alloc _
        have hb1 : Below wr.heap.size wr W1 := by rw [hW1]; exact (Below.refl _ _).alloc (Nat.le_refl _) _
        have hz1 : wr.heap.size < W1.heap.size := by rw [hW1]; simp
        have hnt : ¬ Two bo bf wr.heap.size := by rintro (h | h) <;> omega
        have KV : Hid (∀ W, Keep (Two bo bf) W1 W → (W.cell? ⟨wr.heap.size, 0, none⟩ = some (.int .i64 y1) ∧ W.cell? ⟨wr.heap.size, 1, none⟩ = some (.int .i64 y2) ∧ W.cell? ⟨wr.heap.size, 2, none⟩ = some (.int .i64 y3) ∧ W.cell? ⟨wr.heap.size, 3, none⟩ = some (.string ⟨y4.toArray⟩) ∧ W.cell? ⟨wr.heap.size, 4, none⟩ = some (.slice g4 g5 g6)) ∧ W.cell? ⟨w.heap.size + 1, 5, none⟩ = some (.slice (some ⟨b2, o2, none⟩) 1 c6) ∧ (W.cell? ⟨b2, o2, none⟩ = some (.int .i64 f1) ∧ W.cell? ⟨b2, o2 + 1, none⟩ = some (.int .i64 f2) ∧ W.cell? ⟨b2, o2 + 2, none⟩ = some (.int .i64 f3) ∧ W.cell? ⟨b2, o2 + 3, none⟩ = some (.slice t4 t5 t6) ∧ W.cell? ⟨b2, o2 + 4, none⟩ = some (.int .i64 f5) ∧ W.cell? ⟨b2, o2 + 5, none⟩ = some (.slice h4 h5 h6))) := by
          intro W hW
          have hK := hE.trans hW
          have hcc : ∀ o, W.cell? ⟨wr.heap.size, o, none⟩ = W1.cell? ⟨wr.heap.size, o, none⟩ := fun o => hW.cell hz1 hnt
          refine ⟨?_, (KB.out _ hK).2.1.2.2.2.2.2, KH.out _ hK⟩
          simp only [hcc]
          subst hW1; simp [go_sem]
        have hj2 : i64ok (j : Int) := by unfold i64ok; omega
        obtain ⟨tx, htx⟩ : ∃ tx, Lib.itoa (j : Int) = tx := ⟨_, rfl⟩
        have HD := fun W (hW : Below W1.heap.size W1 W) => Lib.hid (decText_impl (j : Int) W hj2 (HTT.out _ (HKN.out _ (hE.then hW))))
        rw [htx] at HD
        have HC := fun W (hW : Below W1.heap.size W1 W) => Lib.hid (yield_any hI tx kids[j] kid st _ _ vs v9 false bs bo bf (d - 1) (d' - 1) W (by simp only [Sh.nodess] at hn; omega) (HRD.out _ _ _ (hE.then hW) hr5) (HRD.out _ _ _ (hE.then hW) HR6.out) (KB.out _ (hE.then hW)).2.2.1 (HST.out _ (HKN.out _ (hE.then hW))) ((hbo9.below hb1).below hW) hv9 ((hbf9.below hb1).below hW) hso hsf hne (V.wfs_get hvw j hlt) hkw.1 (by have := V.bulk_in kids j hlt; omega) (by simp only [Sh.bulks] at hkb; omega) (hvr _ (List.getElem_mem hlt)) (hrk _ (by simp)) hlen (HTT.out _ (HKN.out _ (hE.then hW))))
        have HSTP := Lib.hid (wrL_step (f := fun x => wrg N x kid) hlt)
        obtain ⟨ow, how⟩ : ∃ ow, wrg N kids[j] kid = ow := ⟨_, rfl⟩
        have HOW := Lib.hid how
        rw [how] at HC
        clear how hW1
        have HTX := Lib.hid htx; clear htx
        have hX := Below.refl W1.heap.size W1
        have HX0 := Lib.hid (show ∀ W W2, Below W1.heap.size W1 W → Below W.heap.size W W2 → Below W1.heap.size W1 W2 from fun W W2 a b => below2 a b (Nat.le_refl _))
        go_wp2_with fail
        rw [← HW1.out]
        clear p0 p1 p2 p3 p4 q0 q1 q2 q3 q4 q5 ps d0 d1 d2 d3 d4
        cases ow with
        | some p =>
          have HF := Lib.hid (show tot = some (tx :: p) by rw [← HT0.out, HSTP.out, HOW.out, HTX.out])
          go_region_held3 (fun W => (W.cell? ⟨wr.heap.size, 0, none⟩ = some (.int .i64 y1) ∧ W.cell? ⟨wr.heap.size, 1, none⟩ = some (.int .i64 y2) ∧ W.cell? ⟨wr.heap.size, 2, none⟩ = some (.int .i64 y3) ∧ W.cell? ⟨wr.heap.size, 3, none⟩ = some (.string ⟨y4.toArray⟩) ∧ W.cell? ⟨wr.heap.size, 4, none⟩ = some (.slice g4 g5 g6)) ∧ W.cell? ⟨w.heap.size + 1, 5, none⟩ = some (.slice (some ⟨b2, o2, none⟩) 1 c6) ∧ (W.cell? ⟨b2, o2, none⟩ = some (.int .i64 f1) ∧ W.cell? ⟨b2, o2 + 1, none⟩ = some (.int .i64 f2) ∧ W.cell? ⟨b2, o2 + 2, none⟩ = some (.int .i64 f3) ∧ W.cell? ⟨b2, o2 + 3, none⟩ = some (.slice t4 t5 t6) ∧ W.cell? ⟨b2, o2 + 4, none⟩ = some (.int .i64 f5) ∧ W.cell? ⟨b2, o2 + 5, none⟩ = some (.slice h4 h5 h6)))
            (first | exact KV.out _ (Keep.of_below hX) | exact KV.out _ (Keep.of_below hX.drew) | exact KV.out _ hK1 | exact KV.out _ hK1.drew)
            (first | (go_at_call 69; with_reducible refine (HD _ (by first | exact hX | exact hX.drew)).out.mono ?_; rintro e1 w2 ⟨rfl, hb2⟩; replace hX := HX0.out _ _ (by first | exact hX | exact hX.drew) hb2) | (go_at_call 44; with_reducible refine (HC _ (by first | exact hX | exact hX.drew)).out.mono ?_; rintro e1 w3 ⟨rfl, hK3, ⟨v2, hbo2, hv2, hp2⟩, hbf2⟩; have hK1 : Keep (Two bo bf) W1 w3 := (by first | exact (Keep.of_below hX).trans hK3 | exact (Keep.of_below hX.drew).trans hK3); have hK2 : Keep (Two bo bf) W0 w3 := hE.trans hK1))
          all_goals
            go_wp2
            first | go_end0 | (refine bodyPost_ret (results_none rfl _ _ _) rfl ?_)
            exact ⟨rfl, HK0.out.trans hK2, ⟨v2, hbo2, hv2, fun p' hp' => by rw [HF.out] at hp'; cases hp'; exact hp2 p rfl⟩, by rw [HF.out]; exact hbf2⟩
        | none =>
          have HT := Lib.hid (show wrL (fun x => wrg N x kid) (j + 1) (kids.drop (j + 1)) = tot by rw [← HT0.out, HSTP.out, HOW.out])
          go_region_held3 (fun W => (W.cell? ⟨wr.heap.size, 0, none⟩ = some (.int .i64 y1) ∧ W.cell? ⟨wr.heap.size, 1, none⟩ = some (.int .i64 y2) ∧ W.cell? ⟨wr.heap.size, 2, none⟩ = some (.int .i64 y3) ∧ W.cell? ⟨wr.heap.size, 3, none⟩ = some (.string ⟨y4.toArray⟩) ∧ W.cell? ⟨wr.heap.size, 4, none⟩ = some (.slice g4 g5 g6)) ∧ W.cell? ⟨w.heap.size + 1, 5, none⟩ = some (.slice (some ⟨b2, o2, none⟩) 1 c6) ∧ (W.cell? ⟨b2, o2, none⟩ = some (.int .i64 f1) ∧ W.cell? ⟨b2, o2 + 1, none⟩ = some (.int .i64 f2) ∧ W.cell? ⟨b2, o2 + 2, none⟩ = some (.int .i64 f3) ∧ W.cell? ⟨b2, o2 + 3, none⟩ = some (.slice t4 t5 t6) ∧ W.cell? ⟨b2, o2 + 4, none⟩ = some (.int .i64 f5) ∧ W.cell? ⟨b2, o2 + 5, none⟩ = some (.slice h4 h5 h6)))
            (first | exact KV.out _ (Keep.of_below hX) | exact KV.out _ (Keep.of_below hX.drew) | exact KV.out _ hK1 | exact KV.out _ hK1.drew)
            (first | (go_at_call 69; with_reducible refine (HD _ (by first | exact hX | exact hX.drew)).out.mono ?_; rintro e1 w2 ⟨rfl, hb2⟩; replace hX := HX0.out _ _ (by first | exact hX | exact hX.drew) hb2) | (go_at_call 44; with_reducible refine (HC _ (by first | exact hX | exact hX.drew)).out.mono ?_; rintro e1 w3 ⟨rfl, hK3, ⟨v2, hbo2, hv2, hp2⟩, hbf2⟩; have hK1 : Keep (Two bo bf) W1 w3 := (by first | exact (Keep.of_below hX).trans hK3 | exact (Keep.of_below hX.drew).trans hK3); have hK2 : Keep (Two bo bf) W0 w3 := hE.trans hK1))
          all_goals
            go_wp2
            go_roundw
            case rel => exact ⟨j + 1, by omega, by go_num, HT.out, ⟨v2, hbo2, hv2⟩, hbf2, hK2⟩
            case measure => simp [intOf]; omega
      · obtain rfl : j = kids.length := by omega
        have HF := Lib.hid (show tot = none by rw [← HT0.out, List.drop_length]; rfl)
        have i2 : ¬ ((kids.length : Int) < kids.length) := by omega
        go_wp2
        first | go_end0 | (refine bodyPost_ret (results_none rfl _ _ _) rfl ?_)
        exact ⟨rfl, HK0.out.trans hbel, ⟨v9, hbo9, hv9, fun p hp => by rw [HF.out] at hp; cases hp⟩, by rw [HF.out]; exact hbf9⟩
  by_cases hk8 : k' = 8
  · subst hk8
    have HW8 := Lib.hid (show wrM (fun s y => wrg N y (hkids.getD (ixF ks s 0).toNat shNil)) kids = tot by rw [← HTOT.out]; unfold elemW; rw [if_neg (show ¬ Sh.kind (.mk 8 l hi ks m hkids) = 7 by simp [Sh.kind]), if_pos (show Sh.kind (.mk 8 l hi ks m hkids) = 8 from rfl)]; rfl)
    have hkl : hkids.length = ks.length := (sh_self8 HSELF.out).2.1
    have HKEY : Hid (∀ j (h : 2 * j < kids.length), 2 * j + 1 < kids.length ∧ (kids[2 * j]).text ∈ ks) := by
      intro j h
      have := heldB_key (x := .mk k n e s0 kids) (h := .mk 8 l hi ks m hkids) rfl HHB.out j h
      exact ⟨this.1, this.2.2⟩
    go_wp2_with (go_at_call 70; refine HP.out.mono ?_; rintro e1 WP ⟨vp, rfl, hbp, hpr⟩; obtain ⟨pa, pc, rfl, hpg⟩ := RepC.pair2 hpr)
    simp only [V.kids] at hpg ⊢
    have HPG := Lib.hid hpg
    clear hpr hpg p0 p1 p2 p3 p4 q0 q1 q2 q3 q4 q5 ps hsz0
    have hKP : Keep (Two bo bf) W0 WP := Keep.of_below hbp
    go_loopw [38] (fun i wr => ∃ j : Nat, j ≤ kids.length / 2 ∧ i = .int .i64 j ∧ wrM (fun s y => wrg N y (hkids.getD (ixF ks s 0).toNat shNil)) (kids.drop (2 * j)) = tot ∧ (∃ v', strBox wr bo v' ∧ (∃ a n c, v' = .slice a n c)) ∧ boolBox wr bf false ∧ Keep (Two bo bf) WP wr) (fun i _ => kids.length - (intOf i).toNat)
    case atStart => exact ⟨0, Nat.zero_le _, rfl, HW8.out, ⟨vo, hbo0.below hbp, hvo⟩, hbf0.below hbp, Keep.refl _ _⟩
    case round =>
      obtain ⟨j, hj, rfl, htot, ⟨v9, hbo9, hv9⟩, hbf9, hbelP⟩ := hrel
      have HT0 := Lib.hid htot; clear htot
      have hbel : Keep (Two bo bf) W0 wr := hKP.trans hbelP
      have i1 : (0 : Int) ≤ j := by omega
      obtain ⟨⟨p0, p1, p2, p3, p4⟩, ⟨q0, q1, q2, q3, q4, q5⟩, ps, hsz0⟩ := KB.out _ hbel
      by_cases hlt : j < kids.length / 2
      · have hlt1 : 2 * j < kids.length := by omega
        have hlt2 : 2 * j + 1 < kids.length := by omega
        have hkin := (HKEY.out j hlt1).2
        have i2 : (j : Int) < ((kids.length / 2 : Nat) : Int) := by omega
        obtain ⟨bp, op, z0', z1', z2', z3', z4', u0', u1', u2', u3', u4', rfl, hbp9, hrx, hry, d0, d1, d2, d3, d4, d5, d6, d7, d8, d9⟩ := HPG.out j hlt2
        obtain ⟨z1, z2, z3, ky, i4, i5, i6, hcs⟩ := V.formS hrx
        simp only [List.cons.injEq, and_true] at hcs
        obtain ⟨rfl, rfl, rfl, rfl, rfl⟩ := hcs
        obtain ⟨y1, y2, y3, y4, g4, g5, g6, hcs⟩ := V.formS hry
        simp only [List.cons.injEq, and_true] at hcs
        obtain ⟨rfl, rfl, rfl, rfl, rfl⟩ := hcs
        have HKY := Lib.hid (show (kids[2 * j]).text = ky by
          obtain ⟨_, _, _, s4', _, _, hxk, hcs', _⟩ := V.layS hrx
          simp only [List.cons.injEq, and_true, Value.string.injEq] at hcs'
          have h4 := hcs'.2.2.2.1
          rw [hxk]; simp only [V.text]; simpa using h4.symm)
        rw [HKY.out] at hkin
        have hbn : ¬ Two bo bf bp := by rintro (rfl | rfl) <;> (rcases hbp9 with h | h <;> omega)
        have hbp8 : bp < WP.heap.size := cell_lt d0
        have hkc : ∀ o, wr.cell? ⟨bp, o, none⟩ = WP.cell? ⟨bp, o, none⟩ := fun o => hbelP.cell hbp8 hbn
        rw [← hkc] at d0 d1 d2 d3 d4 d5 d6 d7 d8 d9
        have HRY := Lib.hid (show ∀ W, Keep (Two bo bf) WP W → Rd W kids[2 * j + 1].d [.int .i64 y1, .int .i64 y2, .int .i64 y3, .string ⟨y4.toArray⟩, .slice g4 g5 g6] from fun W hW => Rd.of (RepC.frame (S := fun b => b < WP.heap.size ∧ ¬ Two bo bf b) (fun b hb => hW.block b hb.1 hb.2) (RepC.mono (fun b h1 h2 => ⟨h1, by rintro (rfl | rfl) <;> (rcases h2 with h | h <;> omega)⟩) hry)))
        obtain ⟨t, htk, htl⟩ : ∃ t : Nat, ixF ks ky 0 = (t : Int) ∧ t < ks.length := by
          have h1 := (ixF_mem ks ky 0).2 hkin
          rcases ixF_bd ks ky 0 with h2 | ⟨h2, h3⟩
          · omega
          · exact ⟨(ixF ks ky 0).toNat, by omega, by omega⟩
        have htl2 : t < hkids.length := by omega
        have t1 : (0 : Int) ≤ t := by omega
        have t2 : (t : Int) < hkids.length := by omega
        obtain ⟨_, _, b2, o2, rfl, hbb2, hcell2⟩ := HG2.out (by intro e; rw [e] at htl2; simp at htl2)
        obtain ⟨w0', w1', w2', w3', w4', w5', hr6, c0, c1', c2, c3, c4', c5⟩ := hcell2 t htl2
        obtain ⟨f1, f2, f3, t4, t5, t6, f5, h4, h5, h6, hcs⟩ := Sh.formS hr6
        simp only [List.cons.injEq, and_true] at hcs
        obtain ⟨rfl, rfl, rfl, rfl, rfl, rfl⟩ := hcs
        clear hcell2
        obtain ⟨W1, hW1⟩ : ∃ W1, W1 = wr.alloc (.cells #[.int .i64 z1, .int .i64 z2, .int .i64 z3, .string ⟨ky.toArray⟩, .slice i4 i5 i6, .int .i64 y1, .int .i64 y2, .int .i64 y3, .string ⟨y4.toArray⟩, .slice g4 g5 g6] 94) := ⟨_, rfl⟩
        have HW1 := Lib.hid hW1
        have hEP : Keep (Two bo bf) WP W1 := by rw [hW1]; exact hbelP.alloc _
        have hE : Keep (Two bo bf) W0 W1 := hKP.trans hEP
        have hb1 : Below wr.heap.size wr W1 := by rw [hW1]; exact (Below.refl _ _).alloc (Nat.le_refl _) _
        have hz1 : wr.heap.size < W1.heap.size := by rw [hW1]; simp
        have hnt : ¬ Two bo bf wr.heap.size := by rintro (h | h) <;> omega
        have KV : Hid (∀ W, Keep (Two bo bf) W1 W → (W.cell? ⟨wr.heap.size, 3, none⟩ = some (.string ⟨ky.toArray⟩) ∧ W.cell? ⟨wr.heap.size, 5, none⟩ = some (.int .i64 y1) ∧ W.cell? ⟨wr.heap.size, 6, none⟩ = some (.int .i64 y2) ∧ W.cell? ⟨wr.heap.size, 7, none⟩ = some (.int .i64 y3) ∧ W.cell? ⟨wr.heap.size, 8, none⟩ = some (.string ⟨y4.toArray⟩) ∧ W.cell? ⟨wr.heap.size, 9, none⟩ = some (.slice g4 g5 g6)) ∧ (W.cell? ⟨w.heap.size + 1, 3, none⟩ = some (.slice a4 ks.length c4) ∧ W.cell? ⟨w.heap.size + 1, 5, none⟩ = some (.slice (some ⟨b2, o2, none⟩) hkids.length c6)) ∧ (W.cell? ⟨b2, o2 + t * 6, none⟩ = some (.int .i64 f1) ∧ W.cell? ⟨b2, o2 + t * 6 + 1, none⟩ = some (.int .i64 f2) ∧ W.cell? ⟨b2, o2 + t * 6 + 2, none⟩ = some (.int .i64 f3) ∧ W.cell? ⟨b2, o2 + t * 6 + 3, none⟩ = some (.slice t4 t5 t6) ∧ W.cell? ⟨b2, o2 + t * 6 + 4, none⟩ = some (.int .i64 f5) ∧ W.cell? ⟨b2, o2 + t * 6 + 5, none⟩ = some (.slice h4 h5 h6))) := by
          intro W hW
          have hK := hE.trans hW
          have hcc : ∀ o, W.cell? ⟨wr.heap.size, o, none⟩ = W1.cell? ⟨wr.heap.size, o, none⟩ := fun o => hW.cell hz1 hnt
          refine ⟨?_, ⟨(KB.out _ hK).2.1.2.2.2.1, (KB.out _ hK).2.1.2.2.2.2.2⟩, by rw [HCC.out W _ _ hK hbb2]; exact c0, by rw [HCC.out W _ _ hK hbb2]; exact c1', by rw [HCC.out W _ _ hK hbb2]; exact c2, by rw [HCC.out W _ _ hK hbb2]; exact c3, by rw [HCC.out W _ _ hK hbb2]; exact c4', by rw [HCC.out W _ _ hK hbb2]; exact c5⟩
          simp only [hcc]
          subst hW1; simp [go_sem]
        have HAT := fun W (hW : Below W1.heap.size W1 W) => Lib.hid (slicesIndex_any ks _ ky W (HKS.out _ (hE.then hW)) (by omega))
        rw [htk] at HAT
        have HC := fun W (hW : Below W1.heap.size W1 W) => Lib.hid (yield_any hI ky kids[2 * j + 1] hkids[t] st _ _ vs v9 false bs bo bf (d - 1) (d' - 1) W (Nat.le_trans (Sh.nodes_get hkids t htl2) hn) (HRY.out _ (hEP.then hW)) (HRD.out _ _ _ (hE.then hW) hr6) (KB.out _ (hE.then hW)).2.2.1 (HST.out _ (HKN.out _ (hE.then hW))) ((hbo9.below hb1).below hW) hv9 ((hbf9.below hb1).below hW) hso hsf hne (V.wfs_get hvw _ hlt2) (Sh.wfs_get hkw _ htl2) (by have := V.bulk_in kids _ hlt2; omega) (by have := Sh.bulk_in hkids t htl2; omega) (hvr _ (List.getElem_mem hlt2)) (hrk _ (List.getElem_mem htl2)) hlen (HTT.out _ (HKN.out _ (hE.then hW))))
        have HSTP := Lib.hid (wrM_step (f := fun s y => wrg N y (hkids.getD (ixF ks s 0).toNat shNil)) hlt2)
        obtain ⟨ow, how⟩ : ∃ ow, wrg N kids[2 * j + 1] hkids[t] = ow := ⟨_, rfl⟩
        have HGD := Lib.hid (show wrg N kids[2 * j + 1] (hkids.getD (ixF ks (kids[2 * j]).text 0).toNat shNil) = ow by rw [HKY.out, htk, ← how]; simp [List.getD, List.getElem?_eq_getElem htl2])
        rw [how] at HC
        clear how hW1 htk hkin
        have hX := Below.refl W1.heap.size W1
        have HX0 := Lib.hid (show ∀ W W2, Below W1.heap.size W1 W → Below W.heap.size W W2 → Below W1.heap.size W1 W2 from fun W W2 a b => below2 a b (Nat.le_refl _))
        go_wp2_with fail
        rw [← HW1.out]
        clear p0 p1 p2 p3 p4 q0 q1 q2 q3 q4 q5 ps d0 d1 d2 d3 d4 d5 d6 d7 d8 d9 hkc
        cases ow with
        | some p =>
          have HF := Lib.hid (show tot = some (ky :: p) by rw [← HT0.out, HSTP.out, HGD.out, HKY.out])
          go_region_held3 (fun W => (W.cell? ⟨wr.heap.size, 3, none⟩ = some (.string ⟨ky.toArray⟩) ∧ W.cell? ⟨wr.heap.size, 5, none⟩ = some (.int .i64 y1) ∧ W.cell? ⟨wr.heap.size, 6, none⟩ = some (.int .i64 y2) ∧ W.cell? ⟨wr.heap.size, 7, none⟩ = some (.int .i64 y3) ∧ W.cell? ⟨wr.heap.size, 8, none⟩ = some (.string ⟨y4.toArray⟩) ∧ W.cell? ⟨wr.heap.size, 9, none⟩ = some (.slice g4 g5 g6)) ∧ (W.cell? ⟨w.heap.size + 1, 3, none⟩ = some (.slice a4 ks.length c4) ∧ W.cell? ⟨w.heap.size + 1, 5, none⟩ = some (.slice (some ⟨b2, o2, none⟩) hkids.length c6)) ∧ (W.cell? ⟨b2, o2 + t * 6, none⟩ = some (.int .i64 f1) ∧ W.cell? ⟨b2, o2 + t * 6 + 1, none⟩ = some (.int .i64 f2) ∧ W.cell? ⟨b2, o2 + t * 6 + 2, none⟩ = some (.int .i64 f3) ∧ W.cell? ⟨b2, o2 + t * 6 + 3, none⟩ = some (.slice t4 t5 t6) ∧ W.cell? ⟨b2, o2 + t * 6 + 4, none⟩ = some (.int .i64 f5) ∧ W.cell? ⟨b2, o2 + t * 6 + 5, none⟩ = some (.slice h4 h5 h6)))
            (first | exact KV.out _ (Keep.of_below hX) | exact KV.out _ (Keep.of_below hX.drew) | exact KV.out _ hK1 | exact KV.out _ hK1.drew)
            (first | (go_at_call 71; with_reducible refine (HAT _ (by first | exact hX | exact hX.drew)).out.mono ?_; rintro e1 w2 ⟨rfl, hb2⟩; replace hX := HX0.out _ _ (by first | exact hX | exact hX.drew) hb2) | (go_at_call 44; with_reducible refine (HC _ (by first | exact hX | exact hX.drew)).out.mono ?_; rintro e1 w3 ⟨rfl, hK3, ⟨v2, hbo2, hv2, hp2⟩, hbf2⟩; have hK1 : Keep (Two bo bf) W1 w3 := (by first | exact (Keep.of_below hX).trans hK3 | exact (Keep.of_below hX.drew).trans hK3); have hK2 : Keep (Two bo bf) W0 w3 := hE.trans hK1; have hKPx : Keep (Two bo bf) WP w3 := hEP.trans hK1))
          all_goals
            go_wp2
            first | go_end0 | (refine bodyPost_ret (results_none rfl _ _ _) rfl ?_)
            exact ⟨rfl, HK0.out.trans hK2, ⟨v2, hbo2, hv2, fun p' hp' => by rw [HF.out] at hp'; cases hp'; exact hp2 p rfl⟩, by rw [HF.out]; exact hbf2⟩
        | none =>
          have HT := Lib.hid (show wrM (fun s y => wrg N y (hkids.getD (ixF ks s 0).toNat shNil)) (kids.drop (2 * (j + 1))) = tot by rw [← HT0.out, HSTP.out, HGD.out])
          go_region_held3 (fun W => (W.cell? ⟨wr.heap.size, 3, none⟩ = some (.string ⟨ky.toArray⟩) ∧ W.cell? ⟨wr.heap.size, 5, none⟩ = some (.int .i64 y1) ∧ W.cell? ⟨wr.heap.size, 6, none⟩ = some (.int .i64 y2) ∧ W.cell? ⟨wr.heap.size, 7, none⟩ = some (.int .i64 y3) ∧ W.cell? ⟨wr.heap.size, 8, none⟩ = some (.string ⟨y4.toArray⟩) ∧ W.cell? ⟨wr.heap.size, 9, none⟩ = some (.slice g4 g5 g6)) ∧ (W.cell? ⟨w.heap.size + 1, 3, none⟩ = some (.slice a4 ks.length c4) ∧ W.cell? ⟨w.heap.size + 1, 5, none⟩ = some (.slice (some ⟨b2, o2, none⟩) hkids.length c6)) ∧ (W.cell? ⟨b2, o2 + t * 6, none⟩ = some (.int .i64 f1) ∧ W.cell? ⟨b2, o2 + t * 6 + 1, none⟩ = some (.int .i64 f2) ∧ W.cell? ⟨b2, o2 + t * 6 + 2, none⟩ = some (.int .i64 f3) ∧ W.cell? ⟨b2, o2 + t * 6 + 3, none⟩ = some (.slice t4 t5 t6) ∧ W.cell? ⟨b2, o2 + t * 6 + 4, none⟩ = some (.int .i64 f5) ∧ W.cell? ⟨b2, o2 + t * 6 + 5, none⟩ = some (.slice h4 h5 h6)))
            (first | exact KV.out _ (Keep.of_below hX) | exact KV.out _ (Keep.of_below hX.drew) | exact KV.out _ hK1 | exact KV.out _ hK1.drew)
            (first | (go_at_call 71; with_reducible refine (HAT _ (by first | exact hX | exact hX.drew)).out.mono ?_; rintro e1 w2 ⟨rfl, hb2⟩; replace hX := HX0.out _ _ (by first | exact hX | exact hX.drew) hb2) | (go_at_call 44; with_reducible refine (HC _ (by first | exact hX | exact hX.drew)).out.mono ?_; rintro e1 w3 ⟨rfl, hK3, ⟨v2, hbo2, hv2, hp2⟩, hbf2⟩; have hK1 : Keep (Two bo bf) W1 w3 := (by first | exact (Keep.of_below hX).trans hK3 | exact (Keep.of_below hX.drew).trans hK3); have hK2 : Keep (Two bo bf) W0 w3 := hE.trans hK1; have hKPx : Keep (Two bo bf) WP w3 := hEP.trans hK1))
          all_goals
            go_wp2
            go_roundw
            case rel => exact ⟨j + 1, by omega, by go_num, HT.out, ⟨v2, hbo2, hv2⟩, hbf2, hKPx⟩
            case measure => simp [intOf]; omega
      · have hje : 2 * j = kids.length := by
          rcases Nat.lt_or_ge (2 * j) kids.length with h | h
          · have := (HKEY.out j h).1; omega
          · omega
        have HF := Lib.hid (show tot = none by rw [← HT0.out, hje, List.drop_length]; rfl)
        have i2 : ¬ ((j : Int) < ((kids.length / 2 : Nat) : Int)) := by omega
        clear hje
        go_wp2
        first | go_end0 | (refine bodyPost_ret (results_none rfl _ _ _) rfl ?_)
        exact ⟨rfl, HK0.out.trans hbel, ⟨v9, hbo9, hv9, fun p hp => by rw [HF.out] at hp; cases hp⟩, by rw [HF.out]; exact hbf9⟩
  · have HF := Lib.hid (show tot = none by rw [← HTOT.out]; unfold elemW; rw [if_neg (show ¬ Sh.kind (.mk k' l hi ks m hkids) = 7 from hk7), if_neg (show ¬ Sh.kind (.mk k' l hi ks m hkids) = 8 from hk8)])
    have b7 : (k' == 7) = false := by simpa using hk7
    have b8 : (k' == 8) = false := by simpa using hk8
    clear hk7 hk8
    go_wp2
    first | go_end0 | (refine bodyPost_ret (results_none rfl _ _ _) rfl ?_)
    exact ⟨rfl, HK0.out, ⟨vo, hbo0, hvo, fun p hp => by rw [HF.out] at hp; cases hp⟩, by rw [HF.out]; exact hbf0⟩
end Go.Proofs.YtkeieeogkeonfaaGreatDoor

/- The program's wrong and isOf. -/
namespace Go.Proofs.YtkeieeogkeonfaaGreatDoor
open Go.RowKit

set_option maxHeartbeats 800000 in
set_option maxRecDepth 10000 in
theorem isOf_any {N : Nat} (hI : WrI N) (x : V) (sh : Sh) (cs ch : List Value) (d d' : Int) (w : World) (hn : sh.nodes ≤ N) (hx : Rd w x.d cs) (hs : Rd w sh.d ch) (hxw : x.wf) (hxb : x.bulk ≤ 4294967295) (hV : V.rightBy pairsOk d x = true) (hsw : sh.wf) (hsb : sh.bulk ≤ 4294967295) (hR : Sh.right d' sh = true) (hN : N ≤ 1000) (hT : TenTab w) :
    Calls Tryz.prog 41 #[.agg cs.toArray, .agg ch.toArray] w fun e w' => e = .returned (.bool (wrg N x sh).isNone) ∧ Below w.heap.size w w' := by
  obtain ⟨k, n, e, s0, a1, n1, c1, rfl⟩ := V.form hx
  obtain ⟨k', l, hi, a4, n4, c4, m, a6, n6, c6, rfl⟩ := Sh.form hs
  obtain ⟨W0, hW0⟩ : ∃ W0, W0 = (w.alloc (.cells #[.int .i64 k, .int .i64 n, .int .i64 e, .string ⟨s0.toArray⟩, .slice a1 n1 c1] 35)).alloc (.cells #[.int .i64 k', .int .i64 l, .int .i64 hi, .slice a4 n4 c4, .int .i64 m, .slice a6 n6 c6] 39) := ⟨_, rfl⟩
  have HW := Lib.hid hW0
  have hA0 : Below w.heap.size w W0 := by rw [hW0]; exact ((Below.refl _ _).alloc (Nat.le_refl _) _).alloc (by simp) _
  have HC := Lib.hid (hI x sh [] _ _ (.slice none 0 0) d d' W0 hn (hx.below hA0) (hs.below hA0) StrN.nil hxw hsw hxb hsb hV hR (by simp; omega) (hT.below hA0))
  obtain ⟨ow, how⟩ : ∃ ow, wrg N x sh = ow := ⟨_, rfl⟩
  rw [how] at HC ⊢
  have KB : (W0.cell? ⟨w.heap.size, 0, none⟩ = some (.int .i64 k) ∧ W0.cell? ⟨w.heap.size, 1, none⟩ = some (.int .i64 n) ∧ W0.cell? ⟨w.heap.size, 2, none⟩ = some (.int .i64 e) ∧ W0.cell? ⟨w.heap.size, 3, none⟩ = some (.string ⟨s0.toArray⟩) ∧ W0.cell? ⟨w.heap.size, 4, none⟩ = some (.slice a1 n1 c1)) ∧ (W0.cell? ⟨w.heap.size + 1, 0, none⟩ = some (.int .i64 k') ∧ W0.cell? ⟨w.heap.size + 1, 1, none⟩ = some (.int .i64 l) ∧ W0.cell? ⟨w.heap.size + 1, 2, none⟩ = some (.int .i64 hi) ∧ W0.cell? ⟨w.heap.size + 1, 3, none⟩ = some (.slice a4 n4 c4) ∧ W0.cell? ⟨w.heap.size + 1, 4, none⟩ = some (.int .i64 m) ∧ W0.cell? ⟨w.heap.size + 1, 5, none⟩ = some (.slice a6 n6 c6)) := by rw [hW0]; simp [go_sem]
  obtain ⟨⟨p0, p1, p2, p3, p4⟩, q0, q1, q2, q3, q4, q5⟩ := KB
  clear hW0 hx hs how
  go_enter Tryz.func41, Tryz.ntmps41
  go_upto_region 1 with fail
  rw [← HW.out]
  go_wp2_with (go_at_call 23; refine HC.out.mono ?_; rintro e1 w1 ⟨vo, rfl, hb1, hf1, hp1⟩)
  go_ret
  exact ⟨ret_bool (by cases ow <;> rfl), below2 hA0 hb1 (Nat.le_refl _)⟩

set_option maxHeartbeats 800000 in
set_option maxRecDepth 10000 in
theorem one_any {N : Nat} (hI : WrI N) (x : V) (sh : Sh) (cs ch : List Value) (bv : Nat) (d d' : Int) (w : World) (hn : sh.nodes ≤ N) (hx : Rd w x.d cs) (hv : ∀ i u, cs[i]? = some u → w.cell? ⟨bv, i, none⟩ = some u) (hs : Rd w sh.d ch) (hxw : x.wf) (hxb : x.bulk ≤ 4294967295) (hV : V.rightBy pairsOk d x = true) (hsw : sh.wf) (hsb : sh.bulk ≤ 4294967295) (hR : Sh.right d' sh = true) (hN : N ≤ 1000) (hT : TenTab w) :
    Calls Tryz.prog 40 #[.agg ch.toArray, .pointer (some ⟨bv, 0, none⟩)] w fun e w' => e = .returned (.bool (wrg N x sh).isNone) ∧ Below w.heap.size w w' := by
  obtain ⟨k, n, e, s0, a1, n1, c1, rfl⟩ := V.form hx
  obtain ⟨k', l, hi, a4, n4, c4, m, a6, n6, c6, rfl⟩ := Sh.form hs
  have v0 := hv 0 _ rfl
  have v1 := hv 1 _ rfl
  have v2 := hv 2 _ rfl
  have v3 := hv 3 _ rfl
  have v4 := hv 4 _ rfl
  have hbv := cell_lt v0
  obtain ⟨W0, hW0⟩ : ∃ W0, W0 = w.alloc (.cells #[.int .i64 k', .int .i64 l, .int .i64 hi, .slice a4 n4 c4, .int .i64 m, .slice a6 n6 c6] 39) := ⟨_, rfl⟩
  have HW := Lib.hid hW0
  have hA0 : Below w.heap.size w W0 := by rw [hW0]; exact (Below.refl _ _).alloc (Nat.le_refl _) _
  have HC := Lib.hid (isOf_any hI x sh _ _ d d' W0 hn (hx.below hA0) (hs.below hA0) hxw hxb hV hsw hsb hR hN (hT.below hA0))
  obtain ⟨r, hr⟩ : ∃ r, (wrg N x sh).isNone = r := ⟨_, rfl⟩
  rw [hr] at HC ⊢
  rw [← (bcell hA0).1 _ _ hbv] at v0 v1 v2 v3 v4
  have KB : W0.cell? ⟨w.heap.size, 0, none⟩ = some (.int .i64 k') ∧ W0.cell? ⟨w.heap.size, 1, none⟩ = some (.int .i64 l) ∧ W0.cell? ⟨w.heap.size, 2, none⟩ = some (.int .i64 hi) ∧ W0.cell? ⟨w.heap.size, 3, none⟩ = some (.slice a4 n4 c4) ∧ W0.cell? ⟨w.heap.size, 4, none⟩ = some (.int .i64 m) ∧ W0.cell? ⟨w.heap.size, 5, none⟩ = some (.slice a6 n6 c6) := by rw [hW0]; simp [go_sem]
  obtain ⟨q0, q1, q2, q3, q4, q5⟩ := KB
  clear hW0 hx hs hr hv
  go_enter Tryz.func40, Tryz.ntmps40
  go_upto_region 1 with fail
  rw [← HW.out]
  go_wp2_with (go_at_call 41; refine HC.out.mono ?_; rintro e1 w1 ⟨rfl, hb1⟩)
  go_ret
  exact ⟨rfl, below2 hA0 hb1 (Nat.le_refl _)⟩

set_option maxHeartbeats 1600000 in
set_option maxRecDepth 10000 in
theorem oneIx_any {N : Nat} (hI : WrI N) (x : V) (xs : List Sh) (cs : List Value) (va : Value) (bv : Nat) (d d' : Int) (w : World) (hn : Sh.nodess xs ≤ N) (hx : Rd w x.d cs) (hv : ∀ i u, cs[i]? = some u → w.cell? ⟨bv, i, none⟩ = some u) (hs : Rd w (.sl 6 (Sh.ds xs)) [va]) (hxw : x.wf) (hxb : x.bulk ≤ 4294967295) (hV : V.rightBy pairsOk d x = true) (hsw : Sh.wfs xs) (hsb : xs.length + Sh.bulks xs ≤ 4294967295) (hR : ∀ y ∈ xs, Sh.right d' y = true) (hN : N ≤ 1000) (hT : TenTab w) :
    Calls Tryz.prog 62 #[va, .func (.func 40) #[] #[.pointer (some ⟨bv, 0, none⟩)]] w fun e w' => (∃ r : Int, e = .returned (.int .i64 r) ∧ decide (0 ≤ r) = xs.any (fun y => (wrg N x y).isNone)) ∧ Below w.heap.size w w' := by
  obtain ⟨a, c, rfl, hg⟩ := hs.shapes
  obtain ⟨ok, hok⟩ : ∃ ok, xs.any (fun y => (wrg N x y).isNone) = ok := ⟨_, rfl⟩
  rw [hok]
  have HOK := Lib.hid hok; clear hok
  have HG := Lib.hid hg; clear hg
  have HV := Lib.hid hv; clear hv
  have hcl : ∀ {i u}, cs[i]? = some u → bv < w.heap.size := fun h => cell_lt (HV.out _ _ h)
  have HH := fun (y : Sh) (ch : List Value) W (hW : Below w.heap.size w W) (h1 : y.nodes ≤ N) (h2 : Rd W y.d ch) (h3 : y.wf) (h4 : y.bulk ≤ 4294967295) (h5 : Sh.right d' y = true) => Lib.hid (one_any hI x y cs ch bv d d' W h1 (hx.below hW) (fun i u h => by rw [(bcell hW).1 _ _ (hcl h)]; exact HV.out i u h) h2 hxw hxb hV h3 h4 h5 hN (hT.below hW))
  go_enter Tryz.func62, Tryz.ntmps62
  go_wp2
  go_loopw [8] (fun i wr => ∃ (k : Nat), k ≤ xs.length ∧ i = .int .i64 k ∧ (xs.take k).any (fun y => (wrg N x y).isNone) = false ∧ Below w.heap.size w wr) (fun i _ => xs.length - (intOf i).toNat)
  case atStart => exact ⟨0, Nat.zero_le _, rfl, by simp, Below.refl _ _⟩
  case round =>
    obtain ⟨k, hk, rfl, hgd, hbel⟩ := hrel
    have HGD := Lib.hid hgd; clear hgd
    by_cases hlt : k < xs.length
    · obtain ⟨_, _, b, o, rfl, hb, hcell⟩ := HG.out (by intro e; rw [e] at hlt; simp at hlt)
      obtain ⟨v0, v1, v2, v3, v4, v5, hr, d0, d1, d2, d3, d4, d5⟩ := hcell k hlt
      clear hcell
      obtain ⟨f1, f2, f3, t4, t5, t6, f5, h4, h5, h6, hcs⟩ := Sh.form hr
      simp only [List.cons.injEq, and_true] at hcs
      obtain ⟨rfl, rfl, rfl, rfl, rfl, rfl⟩ := hcs
      rw [← (bcell hbel).1 _ _ hb] at d0 d1 d2 d3 d4 d5
      have hi1 : (0 : Int) ≤ k := by omega
      have hi3 : (k : Int) < xs.length := by omega
      have HC := HH xs[k] _ _ hbel (Nat.le_trans (Sh.nodes_get xs k hlt) hn) (hr.below hbel) (Sh.wfs_get hsw k hlt) (by have := Sh.bulk_in xs k hlt; omega) (hR _ (List.getElem_mem hlt))
      have HSN := Lib.hid (show (xs.take (k + 1)).any (fun y => (wrg N x y).isNone) = (wrg N x xs[k]).isNone by rw [List.take_succ_eq_append_getElem hlt, List.any_append, HGD.out]; simp)
      have HAN := Lib.hid (fun (h : (wrg N x xs[k]).isNone = true) => show ok = true by rw [← HOK.out, List.any_eq_true]; exact ⟨xs[k], List.getElem_mem hlt, h⟩)
      obtain ⟨ob, hob⟩ : ∃ ob, (wrg N x xs[k]).isNone = ob := ⟨_, rfl⟩
      rw [hob] at HC HSN HAN
      clear hob hr
      cases ob with
      | false =>
        go_wp2_with (go_at_call 40; refine HC.out.mono ?_; rintro e1 w1 ⟨rfl, hb1⟩)
        go_roundw
        case rel => exact ⟨k + 1, by omega, by go_num, HSN.out, below2 hbel hb1 (Nat.le_refl _)⟩
        case measure => simp [intOf]; omega
      | true =>
        go_wp2_with (go_at_call 40; refine HC.out.mono ?_; rintro e1 w1 ⟨rfl, hb1⟩)
        go_ret
        exact ⟨⟨_, rfl, by rw [show ok = true by first | exact HAN.out rfl | exact HAN.out trivial]; simp⟩, below2 hbel hb1 (Nat.le_refl _)⟩
    · obtain rfl : k = xs.length := by omega
      have h1 := HGD.out
      rw [List.take_length] at h1
      have HF := Lib.hid (show ok = false by rw [← HOK.out]; exact h1)
      clear h1
      go_wp2
      go_ret
      exact ⟨⟨_, rfl, by rw [HF.out]; rfl⟩, hbel⟩
set_option maxHeartbeats 400000 in
theorem oneF_any {N : Nat} (hI : WrI N) (x : V) (xs : List Sh) (cs : List Value) (va : Value) (bv : Nat) (d d' : Int) (w : World) (hn : Sh.nodess xs ≤ N) (hx : Rd w x.d cs) (hv : ∀ i u, cs[i]? = some u → w.cell? ⟨bv, i, none⟩ = some u) (hs : Rd w (.sl 6 (Sh.ds xs)) [va]) (hxw : x.wf) (hxb : x.bulk ≤ 4294967295) (hV : V.rightBy pairsOk d x = true) (hsw : Sh.wfs xs) (hsb : xs.length + Sh.bulks xs ≤ 4294967295) (hR : ∀ y ∈ xs, Sh.right d' y = true) (hN : N ≤ 1000) (hT : TenTab w) :
    Calls Tryz.prog 39 #[va, .func (.func 40) #[] #[.pointer (some ⟨bv, 0, none⟩)]] w fun e w' => e = .returned (.bool (xs.any (fun y => (wrg N x y).isNone))) ∧ Below w.heap.size w w' := by
  have HC := Lib.hid (oneIx_any hI x xs cs va bv d d' w hn hx hv hs hxw hxb hV hsw hsb hR hN hT)
  obtain ⟨ok, hok⟩ : ∃ ok, xs.any (fun y => (wrg N x y).isNone) = ok := ⟨_, rfl⟩
  rw [hok] at HC ⊢
  clear hv hs hok hx
  go_enter Tryz.func39, Tryz.ntmps39
  go_wp2_with (go_at_call 62; refine HC.out.mono ?_; rintro e1 w1 ⟨⟨r, rfl, hr⟩, hb1⟩; have HR := Lib.hid hr; clear hr)
  go_ret
  exact ⟨by rw [← HR.out]; rfl, hb1⟩

theorem wrg_nine {N : Nat} {x : V} {sh : Sh} (h : sh.kind = 9) : wrg (N + 1) x sh = if sh.kids.any (fun y => (wrg N x y).isNone) = true then none else some [] := by rw [wrg, if_pos h]
theorem wrg_no {N : Nat} {x : V} {sh : Sh} (h : sh.kind ≠ 9) (hh : heldB x sh = false) : wrg (N + 1) x sh = some [] := by rw [wrg, if_neg h, if_pos hh]
theorem wrg_el {N : Nat} {x : V} {sh : Sh} (h : sh.kind ≠ 9) (hh : heldB x sh = true) : wrg (N + 1) x sh = elemW N x sh := by rw [wrg, if_neg h, if_neg (by rw [hh]; decide)]; rfl

set_option maxHeartbeats 2000000 in
set_option maxRecDepth 10000 in
theorem WrI_of {N : Nat} (hI : WrI N) (hN : N + 1 ≤ 1000) : WrI (N + 1) := by
  intro x sh st cs ch vs d d' w hn hx hs hst hxw hsw hxb hsb hV hR hlen hT
  obtain ⟨b1, b2, b3, rfl⟩ := hst.form
  have hx0 := hx
  have hs0 := hs
  obtain ⟨k, n, e, s0, a1, n1, c1, rfl⟩ := V.form hx
  obtain ⟨k', l, hi, ks, m, hkids, u1, u2, rfl, rfl, hsk, hsh⟩ := Sh.lay hs
  obtain ⟨a4, n4, c4, rfl⟩ := hsk.sl_any
  obtain ⟨a6, n6, c6, rfl⟩ := hsh.sl_any
  have hnk : Sh.nodess hkids ≤ N := by simp only [Sh.nodes] at hn; omega
  have hkw : Sh.wfs hkids := hsw.2.2.2.2.2.2
  have hkb : hkids.length + Sh.bulks hkids ≤ 4294967295 := by unfold Sh.bulk at hsb; omega
  have hrk : ∀ y ∈ hkids, Sh.right (d' - 1) y = true := by
    intro y hy; have hR2 := hR; simp only [Sh.right, Bool.and_eq_true] at hR2; have h1 := hR2.1; rw [Sh.rights_all, List.all_eq_true] at h1; exact h1 y hy
  obtain ⟨sh, hse⟩ : ∃ sh, sh = Sh.mk k' l hi ks m hkids := ⟨_, rfl⟩
  rw [← hse] at hs hs0 hsw hsb hR hn ⊢
  have HSE := Lib.hid hse
  have hkd : sh.kind = k' := by rw [hse]; rfl
  have hkk : sh.kids = hkids := by rw [hse]; rfl
  obtain ⟨W0, hW0⟩ : ∃ W0, W0 = ((w.alloc (.cells #[.int .i64 k, .int .i64 n, .int .i64 e, .string ⟨s0.toArray⟩, .slice a1 n1 c1] 35)).alloc (.cells #[.int .i64 k', .int .i64 l, .int .i64 hi, .slice a4 n4 c4, .int .i64 m, .slice a6 n6 c6] 39)).alloc (.cells #[.slice b1 b2 b3] 25) := ⟨_, rfl⟩
  have HW := Lib.hid hW0
  have hA0 : Below w.heap.size w W0 := by rw [hW0]; exact (((Below.refl _ _).alloc (Nat.le_refl _) _).alloc (by simp) _).alloc (by simp <;> omega) _
  have hz : W0.heap.size = w.heap.size + 3 := by rw [hW0]; simp
  have KB : Hid (∀ W, Below W0.heap.size W0 W → (W.cell? ⟨w.heap.size, 0, none⟩ = some (.int .i64 k) ∧ W.cell? ⟨w.heap.size, 1, none⟩ = some (.int .i64 n) ∧ W.cell? ⟨w.heap.size, 2, none⟩ = some (.int .i64 e) ∧ W.cell? ⟨w.heap.size, 3, none⟩ = some (.string ⟨s0.toArray⟩) ∧ W.cell? ⟨w.heap.size, 4, none⟩ = some (.slice a1 n1 c1)) ∧ (W.cell? ⟨w.heap.size + 1, 0, none⟩ = some (.int .i64 k') ∧ W.cell? ⟨w.heap.size + 1, 1, none⟩ = some (.int .i64 l) ∧ W.cell? ⟨w.heap.size + 1, 2, none⟩ = some (.int .i64 hi) ∧ W.cell? ⟨w.heap.size + 1, 3, none⟩ = some (.slice a4 n4 c4) ∧ W.cell? ⟨w.heap.size + 1, 4, none⟩ = some (.int .i64 m) ∧ W.cell? ⟨w.heap.size + 1, 5, none⟩ = some (.slice a6 n6 c6)) ∧ W.cell? ⟨w.heap.size + 1 + 1, 0, none⟩ = some (.slice b1 b2 b3)) := by
    intro W hb
    obtain ⟨hc, _⟩ := bcell hb
    simp only [hc _ _ (show w.heap.size < W0.heap.size by omega), hc _ _ (show w.heap.size + 1 < W0.heap.size by omega), hc _ _ (show w.heap.size + 1 + 1 < W0.heap.size by omega)]
    subst hW0; simp [go_sem]
  have HRV := Lib.hid (show ∀ W, Below W0.heap.size W0 W → RdN w.heap.size W x.d [.int .i64 k, .int .i64 n, .int .i64 e, .string ⟨s0.toArray⟩, .slice a1 n1 c1] from fun W hb => (Rd.rdN hx0).below (below2 hA0 hb (Nat.le_refl _)))
  have HRS := Lib.hid (show ∀ W, Below W0.heap.size W0 W → RdN w.heap.size W sh.d [.int .i64 k', .int .i64 l, .int .i64 hi, .slice a4 n4 c4, .int .i64 m, .slice a6 n6 c6] from fun W hb => (Rd.rdN hs0).below (below2 hA0 hb (Nat.le_refl _)))
  have HRK := Lib.hid (show ∀ W, Below W0.heap.size W0 W → Rd W (.sl 6 (Sh.ds hkids)) [.slice a6 n6 c6] from fun W hb => hsh.below (below2 hA0 hb (Nat.le_refl _)))
  have HB0 := Lib.hid (show ∀ W W2, Below W0.heap.size W0 W → Below W.heap.size W W2 → Below W0.heap.size W0 W2 from fun W W2 a b => below2 a b (Nat.le_refl _))
  have HST := Lib.hid (show ∀ W, Below w.heap.size w W → StrN W (.slice b1 b2 b3) st from fun W hb => hst.below hb)
  have HTT := Lib.hid (show ∀ W, Below w.heap.size w W → TenTab W from fun W hb => hT.below hb)
  have hB := Below.refl W0.heap.size W0
  have hN2 : N ≤ 1000 := by omega
  obtain ⟨tot, htot⟩ : ∃ tot, wrg (N + 1) x sh = tot := ⟨_, rfl⟩
  rw [htot]
  have HTOT := Lib.hid htot
  clear hW0 hx hs hx0 hs0 hst hT htot hsk hsh
  obtain ⟨⟨p0, p1, p2, p3, p4⟩, ⟨q0, q1, q2, q3, q4, q5⟩, ps⟩ := KB.out _ hB
  go_enter Tryz.func23, Tryz.ntmps23
  go_upto_region 1 with fail
  rw [← HW.out]
  by_cases hk9 : k' = 9
  · subst hk9
    have e99 : ((9 : Int) == 9) = true := rfl
    have HF0 := wrg_nine (N := N) (x := x) (sh := sh) hkd
    rw [hkk, HTOT.out] at HF0
    have HC := fun W (hW : Below W0.heap.size W0 W) => Lib.hid (oneF_any hI x hkids [.int .i64 k, .int .i64 n, .int .i64 e, .string ⟨s0.toArray⟩, .slice a1 n1 c1] (.slice a6 n6 c6) w.heap.size d (d' - 1) W hnk (HRV.out _ hW).rd (by
      intro i u h
      obtain ⟨⟨r0, r1, r2, r3, r4⟩, _⟩ := KB.out _ hW
      match i, h with
      | 0, h => simp at h; subst h; exact r0
      | 1, h => simp at h; subst h; exact r1
      | 2, h => simp at h; subst h; exact r2
      | 3, h => simp at h; subst h; exact r3
      | 4, h => simp at h; subst h; exact r4
      | i + 5, h => simp at h) (HRK.out _ hW) hxw hxb hV hkw hkb hrk hN2 (HTT.out _ (below2 hA0 hW (Nat.le_refl _))))
    obtain ⟨ok, hok⟩ : ∃ ok, hkids.any (fun y => (wrg N x y).isNone) = ok := ⟨_, rfl⟩
    rw [hok] at HC HF0
    have HF := Lib.hid HF0
    clear HF0 hok
    have hE := hB
    go_wp2_with fail
    clear p0 p1 p2 p3 p4 q0 q1 q2 q3 q4 q5 ps
    go_region_held3 (fun W => W.cell? ⟨w.heap.size + 1, 5, none⟩ = some (.slice a6 n6 c6) ∧ W.cell? ⟨w.heap.size + 1 + 1, 0, none⟩ = some (.slice b1 b2 b3))
      (first | exact ⟨(KB.out _ hE).2.1.2.2.2.2.2, (KB.out _ hE).2.2⟩ | exact ⟨(KB.out _ hE.drew).2.1.2.2.2.2.2, (KB.out _ hE.drew).2.2⟩)
      (first | (go_at_call 39; with_reducible refine (HC _ (by first | exact hE | exact hE.drew)).out.mono ?_; rintro e1 w1 ⟨rfl, hb1⟩; replace hE := HB0.out _ _ (by first | exact hE | exact hE.drew) hb1))
    all_goals
      go_wp2
      go_ret2
      exact ⟨.slice b1 b2 b3, by rw [HF.out]; cases ok <;> rfl, below2 hA0 hE (Nat.le_refl _), ⟨_, _, _, rfl⟩, fun p hp => by
        have hpe : p = [] := by rw [HF.out] at hp; cases ok <;> simp at hp; first | exact hp | exact hp.symm
        rw [hpe, List.append_nil]; exact HST.out _ (below2 hA0 hE (Nat.le_refl _))⟩
  · have hk9s : sh.kind ≠ 9 := by rw [hkd]; exact hk9
    have b9 : (k' == 9) = false := by simpa using hk9
    have HH := Lib.hid (held_impl x sh _ _ d d' W0 (HRV.out _ hB).rd (HRS.out _ hB).rd hxw hsw hxb hsb hV hR hk9s)
    clear hk9
    cases hhd : heldB x sh with
    | false =>
      have HF := Lib.hid (show tot = some [] by rw [← HTOT.out]; exact wrg_no hk9s hhd)
      rw [hhd] at HH
      clear hhd
      go_wp2_with (go_at_call 42; refine HH.out.mono ?_; rintro e1 w1 ⟨rfl, hb1⟩; obtain ⟨⟨p0', p1', p2', p3', p4'⟩, ⟨q0', q1', q2', q3', q4', q5'⟩, ps'⟩ := KB.out _ hb1)
      go_ret2
      exact ⟨.slice b1 b2 b3, by rw [HF.out]; rfl, below2 hA0 hb1 (Nat.le_refl _), ⟨_, _, _, rfl⟩, fun p hp => by
        have hpe : p = [] := by rw [HF.out] at hp; simp at hp; first | exact hp | exact hp.symm
        rw [hpe, List.append_nil]; exact HST.out _ (below2 hA0 hb1 (Nat.le_refl _))⟩
    | true =>
      have HF := Lib.hid (show tot = elemW N x sh by rw [← HTOT.out]; exact wrg_el hk9s hhd)
      rw [hhd] at HH
      have HHD := Lib.hid hhd
      clear hhd
      go_upto_region 5 with (go_at_call 42; refine HH.out.mono ?_; rintro e1 w1 ⟨rfl, hb1⟩; obtain ⟨⟨p0', p1', p2', p3', p4'⟩, ⟨q0', q1', q2', q3', q4', q5'⟩, ps'⟩ := KB.out _ hb1)
      have hz1 := hb1.size
      have hbw : Below w.heap.size w w1 := below2 hA0 hb1 (Nat.le_refl _)
      clear p0 p1 p2 p3 p4 q0 q1 q2 q3 q4 q5 ps p0' p1' p2' p3' p4' q0' q1' q2' q3' q4' q5' ps'
      obtain ⟨W1, hW1⟩ : ∃ W1, W1 = (w1.alloc (.cells #[.slice none 0 0] 25)).alloc (.cells #[.bool false] 4) := ⟨_, rfl⟩
      have HW1 := Lib.hid hW1
      have hA1 : Below w1.heap.size w1 W1 := by rw [hW1]; exact ((Below.refl _ _).alloc (Nat.le_refl _) _).alloc (by simp) _
      have hB1 : Below W0.heap.size W0 W1 := HB0.out _ _ hb1 hA1
      have hbW : Below w.heap.size w W1 := below2 hA0 hB1 (Nat.le_refl _)
      have hbo : strBox W1 w1.heap.size (.slice none 0 0) := by
        rw [hW1]; unfold strBox; rw [Below.heap_alloc _ _ _ (by simp)]; exact heap_alloc_new _ _
      have hbf : boolBox W1 (w1.heap.size + 1) false := by
        rw [hW1]; have := heap_alloc_new (w1.alloc (.cells #[.slice none 0 0] 25)) (.cells #[.bool false] 4); simpa [boolBox] using this
      obtain ⟨⟨p0, p1, p2, p3, p4⟩, ⟨q0, q1, q2, q3, q4, q5⟩, ps⟩ := KB.out _ hB1
      have HE := Lib.hid (elements_any hI x sh st _ _ (.slice b1 b2 b3) (.slice none 0 0) (w.heap.size + 1 + 1) w1.heap.size (w1.heap.size + 1) w.heap.size d d' W1 (by rw [hkk]; exact hnk) (HRV.out _ hB1) (HRS.out _ hB1) (fun W hW => HST.out _ (hbW.trans hW)) (fun W hW => HTT.out _ (hbW.trans hW)) ps hbo ⟨_, _, _, rfl⟩ hbf (by omega) (by omega) (by omega) (by omega) (by omega) hxw hsw hxb hsb hV hR (by omega) HHD.out)
      rw [← HF.out] at HE
      have hzW : W1.heap.size = w1.heap.size + 2 := by rw [hW1]; simp
      clear hW1
      go_upto_region 7 with fail
      rw [← HW1.out]
      go_wp2_with (go_at_call 43; refine HE.out.mono ?_; rintro e1 w2 ⟨rfl, hK2, ⟨v2, hbo2, hv2, hp2⟩, hbf2⟩; have cb1 := hbo2.cell; have cb2 := hbf2.cell)
      have hBw2 : Below w.heap.size w w2 := hbW.trans (hK2.below (by omega) (by intro q hq h; rcases h with h | h <;> omega))
      go_quiet (fail)
      go_wp2
      go_ret2
      exact ⟨v2, rfl, by first | exact hBw2 | exact hBw2.drew | exact below_drewN hBw2 _, hv2, fun p hp => by first | exact hp2 p hp | exact (hp2 p hp).below (Below.refl _ _).drew | exact (hp2 p hp).below (below_drewN (Below.refl _ _) _)⟩
theorem WrI_all : ∀ N, N ≤ 1000 → WrI N
  | 0, _ => fun x sh st cs ch vs d d' w hn => absurd sh.nodes_pos (by omega)
  | N + 1, h => WrI_of (WrI_all N (by omega)) h
end Go.Proofs.YtkeieeogkeonfaaGreatDoor
