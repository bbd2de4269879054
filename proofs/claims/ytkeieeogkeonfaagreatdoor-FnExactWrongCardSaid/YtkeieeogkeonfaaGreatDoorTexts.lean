/- Whether a value is of a shape, and the way to the first part that is not. No program in sight. -/
import Derived.Test.YtkeieeogkeonfaaGreatDoorShapeDef
import Derived.Test.YtkeieeogkeonfaaGreatDoorValueDef
import Derived.Test.YtkeieeogkeonfaaGreatDoorFind
import Derived.Lib.ItoaNum
import Derived.Test.YtkeieeogkeonfaaGreatDoorValueTo
import Derived.Test.YtkeieeogkeonfaaGreatDoorPrefS0
import Derived.Test.YtkeieeogkeonfaaGreatDoorKeep
import Derived.Test.YtkeieeogkeonfaaGreatDoorSub
import Derived.Deep.RegionHeld3
import Derived.Deep.QuietTactic
import Derived.BigQuiet
import Derived.StillTailTactics
namespace Go.Proofs.YtkeieeogkeonfaaGreatDoor
open Go.RowKit

/-- the texts among the keys of a map -/
def keysL : List V → List (List UInt8)
  | [] => []
  | [x] => if x.kind = 5 then [x.text] else []
  | x :: _ :: r => if x.kind = 5 then x.text :: keysL r else keysL r
def V.keys (v : V) : List (List UInt8) := if v.kind = 8 then keysL v.kids else []
def V.texts (v : V) : Bool := decide (v.kind = 8) && decide (2 * v.keys.length = v.kids.length)
def Sh.kind : Sh → Int | .mk k _ _ _ _ _ => k
def Sh.low : Sh → Int | .mk _ l _ _ _ _ => l
def Sh.high : Sh → Int | .mk _ _ h _ _ _ => h
def Sh.keys : Sh → List (List UInt8) | .mk _ _ _ ks _ _ => ks
def Sh.must : Sh → Int | .mk _ _ _ _ m _ => m
def Sh.kids : Sh → List Sh | .mk _ _ _ _ _ ks => ks
def allIn (a b : List (List UInt8)) : Bool := a.all fun x => decide (x ∈ b)
/-- a value is of a shape that is no choice, but for its parts -/
def heldB (v : V) (h : Sh) : Bool :=
  if h.kind = 0 then true
  else if h.kind = 1 then decide (v.kind = 0)
  else if h.kind = 2 then decide (v.kind = 1) || decide (v.kind = 2)
  else if h.kind = 3 then decide (v.kind = 3) && inR v.num h.low h.high
  else if h.kind = 4 then decide (v.kind = 3) || decide (v.kind = 4)
  else if h.kind = 5 then decide (v.kind = 5) && inR v.text.length h.low h.high
  else if h.kind = 6 then decide (v.kind = 6) && inR v.text.length h.low h.high
  else if h.kind = 7 then decide (v.kind = 7) && inR v.kids.length h.low h.high
  else v.texts && (allIn v.keys h.keys && allIn (h.keys.take h.must.toNat) v.keys)
def shNil : Sh := .mk 0 0 0 [] 0 []
theorem sh_self7 {l hi m : Int} {ks : List (List UInt8)} {kids : List Sh} (h : Sh.self (.mk 7 l hi ks m kids) = true) : ∃ kid, kids = [kid] := by
  have : kids.length = 1 := by
    unfold Sh.self at h; simp at h; exact h.2.2
  match kids, this with
  | [kid], _ => exact ⟨kid, rfl⟩
theorem sh_self8 {l hi m : Int} {ks : List (List UInt8)} {kids : List Sh} (h : Sh.self (.mk 8 l hi ks m kids) = true) : keysOk ks = true ∧ kids.length = ks.length ∧ 0 ≤ m ∧ m ≤ ks.length := by
  unfold Sh.self at h; simp [Sh.fields] at h; exact ⟨h.2.2.1, h.2.2.2.1, h.2.2.2.2⟩
/-- the first that is wrong among the kids of a list from the i-th on -/
def wrL (f : V → Option (List (List UInt8))) : Nat → List V → Option (List (List UInt8))
  | _, [] => none
  | i, x :: r => match f x with | some p => some (Lib.itoa i :: p) | none => wrL f (i + 1) r
/-- the first that is wrong among the pairs of a map -/
def wrM (f : List UInt8 → V → Option (List (List UInt8))) : List V → Option (List (List UInt8))
  | x :: y :: r => match f x.text y with | some p => some (x.text :: p) | none => wrM f r
  | _ => none
theorem wrL_step {f : V → Option (List (List UInt8))} {xs : List V} {j : Nat} (h : j < xs.length) : wrL f j (xs.drop j) = (match f xs[j] with | some p => some (Lib.itoa j :: p) | none => wrL f (j + 1) (xs.drop (j + 1))) := by
  rw [List.drop_eq_getElem_cons h]; rfl
theorem wrM_step {f : List UInt8 → V → Option (List (List UInt8))} {xs : List V} {j : Nat} (h : 2 * j + 1 < xs.length) : wrM f (xs.drop (2 * j)) = (match f (xs[2 * j]'(by omega)).text xs[2 * j + 1] with | some p => some ((xs[2 * j]'(by omega)).text :: p) | none => wrM f (xs.drop (2 * (j + 1)))) := by
  rw [List.drop_eq_getElem_cons (show 2 * j < xs.length by omega), List.drop_eq_getElem_cons h, show 2 * j + 1 + 1 = 2 * (j + 1) by omega]; rfl
/-- the way to what is wrong -/
def wrg : Nat → V → Sh → Option (List (List UInt8))
  | 0, _, _ => none
  | n + 1, v, h =>
    if h.kind = 9 then (if h.kids.any (fun k => (wrg n v k).isNone) then none else some [])
    else if heldB v h = false then some []
    else if h.kind = 7 then wrL (fun x => wrg n x (h.kids.headD shNil)) 0 v.kids
    else if h.kind = 8 then wrM (fun s y => wrg n y (h.kids.getD (ixF h.keys s 0).toNat shNil)) v.kids
    else none
theorem Sh.ds_length (xs : List Sh) : (Sh.ds xs).length = xs.length := by rw [Sh.ds_map, List.length_map]
theorem Sh.bulk_in : ∀ (vs : List Sh) i (h : i < vs.length), Sh.bulk vs[i] ≤ Sh.bulks vs
  | v :: vs, 0, _ => by simp [Sh.bulks]
  | v :: vs, i + 1, hi => by have := Sh.bulk_in vs i (by simpa using hi); simp only [Sh.bulks, List.getElem_cons_succ]; omega
theorem V.bulk_in : ∀ (vs : List V) i (h : i < vs.length), V.bulk vs[i] ≤ V.bulks vs
  | v :: vs, 0, _ => by simp [V.bulks]
  | v :: vs, i + 1, hi => by have := V.bulk_in vs i (by simpa using hi); simp only [V.bulks, List.getElem_cons_succ]; omega
theorem keysL_half : ∀ xs : List V, 2 * (keysL xs).length ≤ xs.length + 1
  | [] => by simp [keysL]
  | [x] => by simp only [keysL]; split <;> simp
  | x :: y :: r => by
    have := keysL_half r
    simp only [keysL]; split <;> simp only [List.length_cons] <;> omega
/-- where all keys are texts, each of them is one -/
theorem keysL_all : ∀ (xs : List V), 2 * (keysL xs).length = xs.length → ∀ i (h : 2 * i < xs.length), 2 * i + 1 < xs.length ∧ (xs[2 * i]).kind = 5 ∧ (xs[2 * i]).text ∈ keysL xs
  | [], _, i, h => absurd h (by simp)
  | [x], he, i, h => by simp only [keysL] at he; split at he <;> simp at he
  | x :: y :: r, he, i, h => by
    have hh := keysL_half r
    simp only [keysL] at he ⊢
    by_cases hk : x.kind = 5
    · rw [if_pos hk] at he ⊢
      cases i with
      | zero => exact ⟨by simp, hk, List.mem_cons_self⟩
      | succ i =>
        have := keysL_all r (by simp only [List.length_cons] at he; omega) i (by simp only [List.length_cons] at h; omega)
        have e1 : (x :: y :: r)[2 * (i + 1)]'h = r[2 * i]'(by simp only [List.length_cons] at h; omega) := by simp [show 2 * (i + 1) = 2 * i + 1 + 1 by omega]
        refine ⟨by simp only [List.length_cons]; omega, ?_, ?_⟩
        · rw [e1]; exact this.2.1
        · rw [e1]; exact List.mem_cons_of_mem _ this.2.2
    · rw [if_neg hk] at he
      simp only [List.length_cons] at he; omega
theorem V.texts_key {x : V} (h : x.texts = true) (i : Nat) (hi : 2 * i < x.kids.length) : 2 * i + 1 < x.kids.length ∧ (x.kids[2 * i]).kind = 5 ∧ (x.kids[2 * i]).text ∈ x.keys := by
  unfold V.texts at h; simp only [Bool.and_eq_true, decide_eq_true_eq] at h
  unfold V.keys at h ⊢; rw [if_pos h.1] at h ⊢
  exact keysL_all _ h.2 i hi
/-- a map of a shape: each of its keys is one of the shape's -/
theorem heldB_key {x : V} {h : Sh} (hk : h.kind = 8) (hh : heldB x h = true) (i : Nat) (hi : 2 * i < x.kids.length) : 2 * i + 1 < x.kids.length ∧ (x.kids[2 * i]).kind = 5 ∧ (x.kids[2 * i]).text ∈ h.keys := by
  unfold heldB at hh
  rw [if_neg (by omega), if_neg (by omega), if_neg (by omega), if_neg (by omega), if_neg (by omega), if_neg (by omega), if_neg (by omega), if_neg (by omega)] at hh
  simp only [Bool.and_eq_true] at hh
  obtain ⟨h1, h2, _⟩ := hh
  obtain ⟨a, b, c⟩ := V.texts_key h1 i hi
  unfold allIn at h2; rw [List.all_eq_true] at h2
  exact ⟨a, b, of_decide_eq_true (h2 _ c)⟩
end Go.Proofs.YtkeieeogkeonfaaGreatDoor

/- The texts among the keys of a map: Keys of both sides, l09Texts, keysIn. -/
namespace Go.Proofs.YtkeieeogkeonfaaGreatDoor
open Go.RowKit

instance : Inhabited V := ⟨.mk 0 0 0 [] []⟩
theorem keysL_length : ∀ xs : List V, (keysL xs).length ≤ xs.length
  | [] => by simp [keysL]
  | [x] => by simp only [keysL]; split <;> simp
  | x :: y :: r => by have := keysL_length r; simp only [keysL]; split <;> simp <;> omega
theorem keysL_step (xs : List V) (j : Nat) (h : j < xs.length) : keysL (xs.drop j) = (if (xs[j]!).kind = 5 then [(xs[j]!).text] else []) ++ keysL (xs.drop (j + 2)) := by
  rw [List.drop_eq_getElem_cons h, getElem!_pos xs j h]
  by_cases h2 : j + 1 < xs.length
  · rw [List.drop_eq_getElem_cons h2, keysL]; split <;> simp
  · rw [List.drop_eq_nil_of_le (show xs.length ≤ j + 1 by omega), List.drop_eq_nil_of_le (show xs.length ≤ j + 2 by omega), keysL]; split <;> simp_all [keysL]

set_option maxHeartbeats 1000000 in
set_option maxRecDepth 10000 in
theorem keys_spec (x : V) (cs : List Value) (w : World) (h0 : Rd w x.d cs) (hl : x.kids.length ≤ 4294967295) :
    Calls Tryz.prog 79 #[.agg cs.toArray] w fun e w' => ∃ v', e = .returned v' ∧ Below w.heap.size w w' ∧ OwnR w' w.heap.size 9 v' (x.keys.map strV) := by
  obtain ⟨k, n, e, s0, xs, v1, rfl, rfl, h⟩ := V.lay h0
  obtain ⟨a, c, rfl, hg⟩ := h.values
  simp only [V.kids] at hl
  have HK := Lib.hid (show V.keys (.mk k n e s0 xs) = if k = 8 then keysL xs else [] from rfl)
  rw [HK.out]
  obtain ⟨tot, htot⟩ : ∃ tot, (if k = 8 then keysL xs else []) = tot := ⟨_, rfl⟩
  rw [htot]
  obtain ⟨W0, hW0⟩ : ∃ W0, W0 = (w.alloc (.cells #[.int .i64 k, .int .i64 n, .int .i64 e, .string ⟨s0.toArray⟩, .slice a xs.length c] 35)).alloc (.cells #[] 9) := ⟨_, rfl⟩
  have HW := Lib.hid hW0
  have hA0 : Below w.heap.size w W0 := by rw [hW0]; exact ((Below.refl _ _).alloc (Nat.le_refl _) _).alloc (by simp) _
  obtain ⟨B, hBd⟩ : ∃ B, B = w.heap.size + 1 := ⟨_, rfl⟩
  have hz0 : w.heap.size < B := by omega
  have hzB : W0.heap.size = B + 1 := by rw [hW0, hBd]; simp
  have hst : OwnR W0 B 9 (.slice (some ⟨w.heap.size + 1, 0, none⟩) 0 0) [] := by
    rw [hW0, hBd]
    have := OwnR.start (w := w.alloc (.cells #[.int .i64 k, .int .i64 n, .int .i64 e, .string ⟨s0.toArray⟩, .slice a xs.length c] 35)) (e := 9)
    simpa using this
  have HST := Lib.hid hst
  have KB : Hid (∀ W, Below B W0 W → W.cell? ⟨w.heap.size, 0, none⟩ = some (.int .i64 k) ∧ W.cell? ⟨w.heap.size, 4, none⟩ = some (.slice a xs.length c)) := by
    intro W hb
    rw [hb.cell (p := ⟨w.heap.size, 0, none⟩) hz0, hb.cell (p := ⟨w.heap.size, 4, none⟩) hz0]
    subst hW0; simp
  have hBw : w.heap.size ≤ B := by omega
  have hgc : ∀ (j : Nat), j < xs.length → ∃ b o, a = some ⟨b, o, none⟩ ∧ b < w.heap.size ∧ w.cell? ⟨b, o + j * 5, none⟩ = some (.int .i64 (xs[j]!).kind) ∧ w.cell? ⟨b, o + j * 5 + 3, none⟩ = some (.string ⟨(xs[j]!).text.toArray⟩) := by
    intro j hj
    obtain ⟨_, _, b, o, rfl, hb, hcell⟩ := hg (by intro e; rw [e] at hj; simp at hj)
    obtain ⟨v0, v1, v2, v3, v4, hr, d0, d1, d2, d3, d4⟩ := hcell j hj
    obtain ⟨k', n', e', s', kids', u, hxe, hcs, _⟩ := V.lay hr
    simp only [List.cons.injEq, and_true] at hcs
    obtain ⟨rfl, rfl, rfl, rfl, rfl⟩ := hcs
    rw [getElem!_pos xs j hj, hxe]
    exact ⟨b, o, rfl, hb, d0, d3⟩
  have HG := Lib.hid hgc
  clear hW0 hst h0 hBd h hg hgc
  go_enter Tryz.func79, Tryz.ntmps79
  go_wp2_with fail
  rw [← HW.out]
  by_cases hk8 : k = 8
  · subst hk8
    rw [if_pos rfl] at htot
    have HTL := Lib.hid (show tot.length ≤ xs.length by rw [← htot]; exact keysL_length xs)
    go_loopw [3, 4] (fun v i wr => ∃ (j : Nat) (acc : List (List UInt8)), 2 * j ≤ xs.length + 1 ∧ i = .int .i64 ((2 * j : Nat) : Int) ∧ OwnR wr B 9 v (acc.map strV) ∧ acc ++ keysL (xs.drop (2 * j)) = tot ∧ Below B W0 wr) (fun _ i _ => xs.length + 2 - (intOf i).toNat)
    case atStart => exact ⟨0, [], by omega, rfl, by simpa using HST.out, by simpa using htot, Below.refl _ _⟩
    case round =>
      obtain ⟨j, acc, hj, rfl, hown, hacc, hbel⟩ := hrel
      obtain ⟨av, cv, rfl⟩ := hown.any
      rw [List.length_map] at hown ⊢
      have hal : acc.length ≤ xs.length := by have := HTL.out; rw [← hacc, List.length_append] at this; omega
      have HA := Lib.hid hacc; clear hacc
      obtain ⟨q, hq⟩ : ∃ q, q = 2 * j := ⟨_, rfl⟩
      have HQ := Lib.hid hq
      rw [← hq]
      obtain ⟨p0, p4⟩ := KB.out _ hbel
      have hsz := hbel.size
      have i1 : (0 : Int) ≤ q := by omega
      have hq9 : q ≤ 4294967297 := by omega
      by_cases hlt : q < xs.length
      · obtain ⟨b, o, rfl, hb, d0, d3⟩ := HG.out q hlt
        have hbw : Below w.heap.size w wr := hA0.trans (hbel.mono hBw)
        rw [← (bcell hbw).1 _ _ hb] at d0 d3
        have i2 : (q : Int) < xs.length := by omega
        have hst := keysL_step xs (2 * j) (by omega)
        have HSTEP := Lib.hid (show keysL (xs.drop (2 * j)) = (if (xs[q]!).kind = 5 then [(xs[q]!).text] else []) ++ keysL (xs.drop (2 * (j + 1))) by rw [hst, HQ.out]; rfl)
        have HJ1 := Lib.hid (show 2 * (j + 1) ≤ xs.length + 1 ∧ ((q : Int) + 2 = ((2 * (j + 1) : Nat) : Int)) ∧ q + 2 ≤ xs.length + 1 by omega)
        clear hst hq hj
        generalize xs[q]! = y at *
        by_cases h5 : y.kind = 5
        · have h5b : (y.kind == 5) = true := by simpa using h5
          have HN := Lib.hid (show (acc ++ [y.text]) ++ keysL (xs.drop (2 * (j + 1))) = tot by rw [← HA.out, HSTEP.out, if_pos h5]; simp)
          rw [h5] at d0
          clear h5
          go_wp2_with (at_builtin; refine wp_appR (ys := [.string ⟨y.text.toArray⟩]) tyStr rfl rfl B (hown.alloc _) rfl ⟨wr.heap.size, 0, none⟩ 1 rfl (cell_one_new _ _ _) (by simp [Value.oneCell']) (by simp; omega) (by decide) (by simp; omega) ?_)
          intro v' w2 hown1 hgr _
          have hbel1 := OwnR.grown (hown.alloc _) (hbel.alloc (by omega) _) hgr (by simp; omega)
          go_wp2
          go_roundw
          case rel => exact ⟨j + 1, acc ++ [y.text], HJ1.out.1, by first | rw [← HJ1.out.2.1] | (rw [← HJ1.out.2.1]; rfl), by simpa [strV] using hown1, HN.out, hbel1⟩
          case measure => have := HJ1.out.2.2; simp [intOf]; omega
        · have h5b : (y.kind == 5) = false := by simpa using h5
          have HN := Lib.hid (show acc ++ keysL (xs.drop (2 * (j + 1))) = tot by rw [← HA.out, HSTEP.out, if_neg h5]; simp)
          clear h5
          go_wp2
          go_roundw
          case rel => exact ⟨j + 1, acc, HJ1.out.1, by first | rw [← HJ1.out.2.1] | (rw [← HJ1.out.2.1]; rfl), hown, HN.out, hbel⟩
          case measure => have := HJ1.out.2.2; simp [intOf]; omega
      · have HE := Lib.hid (show acc = tot by rw [← HA.out, List.drop_eq_nil_of_le (by omega)]; simp [keysL])
        have i2 : ¬ (q : Int) < xs.length := by omega
        have hfin : Below w.heap.size w wr := hA0.trans (hbel.mono hBw)
        clear hq
        go_wp2
        go_ret
        exact ⟨_, rfl, hfin, by rw [← HE.out]; exact ⟨hown.1, hown.2.imp id fun ⟨g, c, cur, h1, h2, h3⟩ => ⟨g, c, cur, h1, Nat.le_trans hBw h2, h3⟩⟩⟩
  · rw [if_neg hk8] at htot
    subst htot
    have hkb : (k == 8) = false := by simpa using hk8
    obtain ⟨p0, p4⟩ := KB.out _ (Below.refl _ _)
    have hfin := hA0
    clear hk8
    go_loopw [3, 4] (fun v i wr => v = .slice (some ⟨w.heap.size + 1, 0, none⟩) 0 0 ∧ i = .int .i64 0 ∧ wr = W0) (fun _ _ _ => 0)
    case atStart => exact ⟨rfl, rfl, rfl⟩
    case round =>
      obtain ⟨rfl, rfl, rfl⟩ := hrel
      by_cases hlt : (0 : Int) < xs.length
      · go_wp2
        go_ret
        exact ⟨_, rfl, hfin, ⟨HST.out.1, HST.out.2.imp id fun ⟨g, c, cur, h1, h2, h3⟩ => ⟨g, c, cur, h1, Nat.le_trans hBw h2, h3⟩⟩⟩
      · go_wp2
        go_ret
        exact ⟨_, rfl, hfin, ⟨HST.out.1, HST.out.2.imp id fun ⟨g, c, cur, h1, h2, h3⟩ => ⟨g, c, cur, h1, Nat.le_trans hBw h2, h3⟩⟩⟩

set_option maxHeartbeats 1000000 in
set_option maxRecDepth 10000 in
theorem keys_impl (x : V) (cs : List Value) (w : World) (h0 : Rd w x.d cs) (hl : x.kids.length ≤ 4294967295) :
    Calls Tryz.prog 87 #[.agg cs.toArray] w fun e w' => ∃ v', e = .returned v' ∧ Below w.heap.size w w' ∧ OwnR w' w.heap.size 9 v' (x.keys.map strV) := by
  obtain ⟨k, n, e, s0, xs, v1, rfl, rfl, h⟩ := V.lay h0
  obtain ⟨a, c, rfl, hg⟩ := h.values
  simp only [V.kids] at hl
  have HK := Lib.hid (show V.keys (.mk k n e s0 xs) = if k = 8 then keysL xs else [] from rfl)
  rw [HK.out]
  obtain ⟨tot, htot⟩ : ∃ tot, (if k = 8 then keysL xs else []) = tot := ⟨_, rfl⟩
  rw [htot]
  obtain ⟨W0, hW0⟩ : ∃ W0, W0 = (w.alloc (.cells #[.int .i64 k, .int .i64 n, .int .i64 e, .string ⟨s0.toArray⟩, .slice a xs.length c] 35)).alloc (.cells #[] 9) := ⟨_, rfl⟩
  have HW := Lib.hid hW0
  have hA0 : Below w.heap.size w W0 := by rw [hW0]; exact ((Below.refl _ _).alloc (Nat.le_refl _) _).alloc (by simp) _
  obtain ⟨B, hBd⟩ : ∃ B, B = w.heap.size + 1 := ⟨_, rfl⟩
  have hz0 : w.heap.size < B := by omega
  have hzB : W0.heap.size = B + 1 := by rw [hW0, hBd]; simp
  have hst : OwnR W0 B 9 (.slice (some ⟨w.heap.size + 1, 0, none⟩) 0 0) [] := by
    rw [hW0, hBd]
    have := OwnR.start (w := w.alloc (.cells #[.int .i64 k, .int .i64 n, .int .i64 e, .string ⟨s0.toArray⟩, .slice a xs.length c] 35)) (e := 9)
    simpa using this
  have HST := Lib.hid hst
  have KB : Hid (∀ W, Below B W0 W → W.cell? ⟨w.heap.size, 0, none⟩ = some (.int .i64 k) ∧ W.cell? ⟨w.heap.size, 4, none⟩ = some (.slice a xs.length c)) := by
    intro W hb
    rw [hb.cell (p := ⟨w.heap.size, 0, none⟩) hz0, hb.cell (p := ⟨w.heap.size, 4, none⟩) hz0]
    subst hW0; simp
  have hBw : w.heap.size ≤ B := by omega
  have hgc : ∀ (j : Nat), j < xs.length → ∃ b o, a = some ⟨b, o, none⟩ ∧ b < w.heap.size ∧ w.cell? ⟨b, o + j * 5, none⟩ = some (.int .i64 (xs[j]!).kind) ∧ w.cell? ⟨b, o + j * 5 + 3, none⟩ = some (.string ⟨(xs[j]!).text.toArray⟩) := by
    intro j hj
    obtain ⟨_, _, b, o, rfl, hb, hcell⟩ := hg (by intro e; rw [e] at hj; simp at hj)
    obtain ⟨v0, v1, v2, v3, v4, hr, d0, d1, d2, d3, d4⟩ := hcell j hj
    obtain ⟨k', n', e', s', kids', u, hxe, hcs, _⟩ := V.lay hr
    simp only [List.cons.injEq, and_true] at hcs
    obtain ⟨rfl, rfl, rfl, rfl, rfl⟩ := hcs
    rw [getElem!_pos xs j hj, hxe]
    exact ⟨b, o, rfl, hb, d0, d3⟩
  have HG := Lib.hid hgc
  clear hW0 hst h0 hBd h hg hgc
  go_enter Tryz.func87, Tryz.ntmps87
  go_wp2_with fail
  rw [← HW.out]
  by_cases hk8 : k = 8
  · subst hk8
    rw [if_pos rfl] at htot
    have HTL := Lib.hid (show tot.length ≤ xs.length by rw [← htot]; exact keysL_length xs)
    go_loopw [3, 4] (fun v i wr => ∃ (j : Nat) (acc : List (List UInt8)), 2 * j ≤ xs.length + 1 ∧ i = .int .i64 ((2 * j : Nat) : Int) ∧ OwnR wr B 9 v (acc.map strV) ∧ acc ++ keysL (xs.drop (2 * j)) = tot ∧ Below B W0 wr) (fun _ i _ => xs.length + 2 - (intOf i).toNat)
    case atStart => exact ⟨0, [], by omega, rfl, by simpa using HST.out, by simpa using htot, Below.refl _ _⟩
    case round =>
      obtain ⟨j, acc, hj, rfl, hown, hacc, hbel⟩ := hrel
      obtain ⟨av, cv, rfl⟩ := hown.any
      rw [List.length_map] at hown ⊢
      have hal : acc.length ≤ xs.length := by have := HTL.out; rw [← hacc, List.length_append] at this; omega
      have HA := Lib.hid hacc; clear hacc
      obtain ⟨q, hq⟩ : ∃ q, q = 2 * j := ⟨_, rfl⟩
      have HQ := Lib.hid hq
      rw [← hq]
      obtain ⟨p0, p4⟩ := KB.out _ hbel
      have hsz := hbel.size
      have i1 : (0 : Int) ≤ q := by omega
      have hq9 : q ≤ 4294967297 := by omega
      by_cases hlt : q < xs.length
      · obtain ⟨b, o, rfl, hb, d0, d3⟩ := HG.out q hlt
        have hbw : Below w.heap.size w wr := hA0.trans (hbel.mono hBw)
        rw [← (bcell hbw).1 _ _ hb] at d0 d3
        have i2 : (q : Int) < xs.length := by omega
        have hst := keysL_step xs (2 * j) (by omega)
        have HSTEP := Lib.hid (show keysL (xs.drop (2 * j)) = (if (xs[q]!).kind = 5 then [(xs[q]!).text] else []) ++ keysL (xs.drop (2 * (j + 1))) by rw [hst, HQ.out]; rfl)
        have HJ1 := Lib.hid (show 2 * (j + 1) ≤ xs.length + 1 ∧ ((q : Int) + 2 = ((2 * (j + 1) : Nat) : Int)) ∧ q + 2 ≤ xs.length + 1 by omega)
        clear hst hq hj
        generalize xs[q]! = y at *
        by_cases h5 : y.kind = 5
        · have h5b : (y.kind == 5) = true := by simpa using h5
          have HN := Lib.hid (show (acc ++ [y.text]) ++ keysL (xs.drop (2 * (j + 1))) = tot by rw [← HA.out, HSTEP.out, if_pos h5]; simp)
          rw [h5] at d0
          clear h5
          go_wp2_with (at_builtin; refine wp_appR (ys := [.string ⟨y.text.toArray⟩]) tyStr rfl rfl B (hown.alloc _) rfl ⟨wr.heap.size, 0, none⟩ 1 rfl (cell_one_new _ _ _) (by simp [Value.oneCell']) (by simp; omega) (by decide) (by simp; omega) ?_)
          intro v' w2 hown1 hgr _
          have hbel1 := OwnR.grown (hown.alloc _) (hbel.alloc (by omega) _) hgr (by simp; omega)
          go_wp2
          go_roundw
          case rel => exact ⟨j + 1, acc ++ [y.text], HJ1.out.1, by first | rw [← HJ1.out.2.1] | (rw [← HJ1.out.2.1]; rfl), by simpa [strV] using hown1, HN.out, hbel1⟩
          case measure => have := HJ1.out.2.2; simp [intOf]; omega
        · have h5b : (y.kind == 5) = false := by simpa using h5
          have HN := Lib.hid (show acc ++ keysL (xs.drop (2 * (j + 1))) = tot by rw [← HA.out, HSTEP.out, if_neg h5]; simp)
          clear h5
          go_wp2
          go_roundw
          case rel => exact ⟨j + 1, acc, HJ1.out.1, by first | rw [← HJ1.out.2.1] | (rw [← HJ1.out.2.1]; rfl), hown, HN.out, hbel⟩
          case measure => have := HJ1.out.2.2; simp [intOf]; omega
      · have HE := Lib.hid (show acc = tot by rw [← HA.out, List.drop_eq_nil_of_le (by omega)]; simp [keysL])
        have i2 : ¬ (q : Int) < xs.length := by omega
        have hfin : Below w.heap.size w wr := hA0.trans (hbel.mono hBw)
        clear hq
        go_wp2
        go_ret
        exact ⟨_, rfl, hfin, by rw [← HE.out]; exact ⟨hown.1, hown.2.imp id fun ⟨g, c, cur, h1, h2, h3⟩ => ⟨g, c, cur, h1, Nat.le_trans hBw h2, h3⟩⟩⟩
  · rw [if_neg hk8] at htot
    subst htot
    have hkb : (k == 8) = false := by simpa using hk8
    obtain ⟨p0, p4⟩ := KB.out _ (Below.refl _ _)
    have hfin := hA0
    clear hk8
    go_loopw [3, 4] (fun v i wr => v = .slice (some ⟨w.heap.size + 1, 0, none⟩) 0 0 ∧ i = .int .i64 0 ∧ wr = W0) (fun _ _ _ => 0)
    case atStart => exact ⟨rfl, rfl, rfl⟩
    case round =>
      obtain ⟨rfl, rfl, rfl⟩ := hrel
      by_cases hlt : (0 : Int) < xs.length
      · go_wp2
        go_ret
        exact ⟨_, rfl, hfin, ⟨HST.out.1, HST.out.2.imp id fun ⟨g, c, cur, h1, h2, h3⟩ => ⟨g, c, cur, h1, Nat.le_trans hBw h2, h3⟩⟩⟩
      · go_wp2
        go_ret
        exact ⟨_, rfl, hfin, ⟨HST.out.1, HST.out.2.imp id fun ⟨g, c, cur, h1, h2, h3⟩ => ⟨g, c, cur, h1, Nat.le_trans hBw h2, h3⟩⟩⟩
end Go.Proofs.YtkeieeogkeonfaaGreatDoor

/- Whether all keys of a map are texts: l09Texts, keysIn. -/
namespace Go.Proofs.YtkeieeogkeonfaaGreatDoor
open Go.RowKit

theorem V.keys_length (x : V) : x.keys.length ≤ x.kids.length := by
  unfold V.keys; split
  · exact keysL_length _
  · simp
theorem OwnR.mono {w : World} {B B' e : Nat} {v : Value} {xs : List Value} (h : OwnR w B e v xs) (hB : B' ≤ B) : OwnR w B' e v xs :=
  ⟨h.1, h.2.imp id fun ⟨g, c, cur, h1, h2, h3⟩ => ⟨g, c, cur, h1, Nat.le_trans hB h2, h3⟩⟩
set_option maxHeartbeats 1000000 in
set_option maxRecDepth 10000 in
theorem texts_spec (x : V) (cs : List Value) (w : World) (h : Rd w x.d cs) (hl : x.kids.length ≤ 4294967295) :
    Calls Tryz.prog 53 #[.agg cs.toArray] w fun e w' => e = .returned (.bool x.texts) ∧ Below w.heap.size w w' := by
  obtain ⟨k, n, e, s0, xs, v1, rfl, rfl, h1⟩ := V.lay h
  obtain ⟨a, c, rfl⟩ := Rd.sl_form h1
  rw [V.ds_length] at h h1 ⊢
  simp only [V.kids] at hl
  obtain ⟨W0, hW0⟩ : ∃ W0, W0 = w.alloc (.cells #[.int .i64 k, .int .i64 n, .int .i64 e, .string ⟨s0.toArray⟩, .slice a xs.length c] 35) := ⟨_, rfl⟩
  have HW := Lib.hid hW0
  have hA0 : Below w.heap.size w W0 := by rw [hW0]; exact (Below.refl _ _).alloc (Nat.le_refl _) _
  have hz : w.heap.size < W0.heap.size := by rw [hW0]; simp
  have KB : Hid (∀ W, Below W0.heap.size W0 W → W.cell? ⟨w.heap.size, 0, none⟩ = some (.int .i64 k) ∧ W.cell? ⟨w.heap.size, 1, none⟩ = some (.int .i64 n) ∧ W.cell? ⟨w.heap.size, 2, none⟩ = some (.int .i64 e) ∧ W.cell? ⟨w.heap.size, 3, none⟩ = some (.string ⟨s0.toArray⟩) ∧ W.cell? ⟨w.heap.size, 4, none⟩ = some (.slice a xs.length c)) := by
    intro W hb
    obtain ⟨hc, _⟩ := bcell hb
    simp only [hc _ _ hz]
    subst hW0; simp [go_sem]
  have HX := Lib.hid (show V.texts (.mk k n e s0 xs) = (decide (k = 8) && decide (2 * (V.keys (.mk k n e s0 xs)).length = xs.length)) from rfl)
  rw [HX.out]
  obtain ⟨ks, hks⟩ : ∃ ks, V.keys (.mk k n e s0 xs) = ks := ⟨_, rfl⟩
  rw [hks]
  have hkl : ks.length ≤ xs.length := by rw [← hks]; exact V.keys_length _
  have HC := fun W (hb : Below W0.heap.size W0 W) => Lib.hid (keys_spec (.mk k n e s0 xs) _ W (h.below (below2 hA0 hb (Nat.le_refl _))) (by simpa only [V.kids] using hl))
  rw [hks] at HC
  have hB := Below.refl W0.heap.size W0
  clear hW0 h h1 hks
  go_enter Tryz.func53, Tryz.ntmps53
  go_wp2_with fail
  rw [← HW.out]
  obtain ⟨p0, p1, p2, p3, p4⟩ := KB.out _ hB
  by_cases hk : k = 8
  · subst hk
    have e1 : IntKind.i64.wrap (2 * (ks.length : Int)) = 2 * (ks.length : Int) := IntWalk.i64_in _ (by omega)
    clear p0 p1 p2 p3 p4
    go_region_held3 (fun W => W.cell? ⟨w.heap.size, 0, none⟩ = some (.int .i64 8) ∧ W.cell? ⟨w.heap.size, 1, none⟩ = some (.int .i64 n) ∧ W.cell? ⟨w.heap.size, 2, none⟩ = some (.int .i64 e) ∧ W.cell? ⟨w.heap.size, 3, none⟩ = some (.string ⟨s0.toArray⟩) ∧ W.cell? ⟨w.heap.size, 4, none⟩ = some (.slice a xs.length c))
      (first | exact KB.out _ hB | exact KB.out _ hB.drew)
      (first | (go_at_call 79; with_reducible refine (HC _ (by first | exact hB | exact hB.drew)).out.mono ?_; rintro e1 w1 ⟨v', rfl, hb1, hown⟩; obtain ⟨av, cv, rfl⟩ := hown.any; rw [List.length_map]; replace hB := below2 (by first | exact hB | exact hB.drew) hb1 (Nat.le_refl _)))
    go_wp2
    go_ret
    refine ⟨?_, below2 hA0 hB (Nat.le_refl _)⟩
    simp only [decide_true, Bool.true_and]
    first | (congr 2; rw [Bool.eq_iff_iff]; simp; omega) | (simp; rw [Bool.eq_iff_iff]; simp; omega)
  · have hkb : (k == 8) = false := by simpa using hk
    go_region
    all_goals
      go_wp2
      go_ret
      exact ⟨by rw [decide_eq_false hk]; rfl, by first | exact hA0 | exact hA0.drew⟩
set_option maxHeartbeats 1000000 in
set_option maxRecDepth 10000 in
theorem keysIn_any (x : V) (cs : List Value) (w : World) (h : Rd w x.d cs) (hl : x.kids.length ≤ 4294967295) :
    Calls Tryz.prog 64 #[.agg cs.toArray] w fun e w' => ∃ v', e = .returned (.tuple #[v', .bool x.texts]) ∧ Below w.heap.size w w' ∧ OwnR w' w.heap.size 9 v' (x.keys.map strV) := by
  obtain ⟨k, n, e, s0, xs, v1, rfl, rfl, h1⟩ := V.lay h
  obtain ⟨a, c, rfl⟩ := Rd.sl_form h1
  rw [V.ds_length] at h h1 ⊢
  simp only [V.kids] at hl
  obtain ⟨W0, hW0⟩ : ∃ W0, W0 = w.alloc (.cells #[.int .i64 k, .int .i64 n, .int .i64 e, .string ⟨s0.toArray⟩, .slice a xs.length c] 35) := ⟨_, rfl⟩
  have HW := Lib.hid hW0
  have hA0 : Below w.heap.size w W0 := by rw [hW0]; exact (Below.refl _ _).alloc (Nat.le_refl _) _
  have hz : w.heap.size < W0.heap.size := by rw [hW0]; simp
  have KB : Hid (∀ W, Below W0.heap.size W0 W → W.cell? ⟨w.heap.size, 0, none⟩ = some (.int .i64 k) ∧ W.cell? ⟨w.heap.size, 1, none⟩ = some (.int .i64 n) ∧ W.cell? ⟨w.heap.size, 2, none⟩ = some (.int .i64 e) ∧ W.cell? ⟨w.heap.size, 3, none⟩ = some (.string ⟨s0.toArray⟩) ∧ W.cell? ⟨w.heap.size, 4, none⟩ = some (.slice a xs.length c)) := by
    intro W hb
    obtain ⟨hc, _⟩ := bcell hb
    simp only [hc _ _ hz]
    subst hW0; simp [go_sem]
  have HX := Lib.hid (show V.texts (.mk k n e s0 xs) = (decide (k = 8) && decide (2 * (V.keys (.mk k n e s0 xs)).length = xs.length)) from rfl)
  rw [HX.out]
  obtain ⟨ks, hks⟩ : ∃ ks, V.keys (.mk k n e s0 xs) = ks := ⟨_, rfl⟩
  rw [hks]
  have hkl : ks.length ≤ xs.length := by rw [← hks]; exact V.keys_length _
  have HC := fun W (hb : Below W0.heap.size W0 W) => Lib.hid (keys_impl (.mk k n e s0 xs) _ W (h.below (below2 hA0 hb (Nat.le_refl _))) (by simpa only [V.kids] using hl))
  rw [hks] at HC
  have hB := Below.refl W0.heap.size W0
  clear hW0 h h1 hks
  go_enter Tryz.func64, Tryz.ntmps64
  go_wp2_with fail
  rw [← HW.out]
  obtain ⟨p0, p1, p2, p3, p4⟩ := KB.out _ hB
  go_wp2_with (go_at_call 87; refine (HC _ hB).out.mono ?_; rintro e1 w1 ⟨v', rfl, hb1, hown⟩; obtain ⟨av, cv, rfl⟩ := hown.any; rw [List.length_map])
  have hz1 := hb1.size
  clear p0 p1 p2 p3 p4
  obtain ⟨p0, p1, p2, p3, p4⟩ := KB.out _ hb1
  have hownB : OwnR w1 w.heap.size 9 (.slice av ks.length cv) (ks.map strV) := by have := hown.mono (B' := w.heap.size) (by omega); rwa [List.length_map] at this
  by_cases hk : k = 8
  · subst hk
    have e1 : IntKind.i64.wrap (2 * (ks.length : Int)) = 2 * (ks.length : Int) := IntWalk.i64_in _ (by omega)
    go_quiet (fail)
    go_wp2
    go_ret2
    refine ⟨.slice av ks.length cv, ?_, by first | exact below2 hA0 hb1 (Nat.le_refl _) | exact (below2 hA0 hb1 (Nat.le_refl _)).drew | exact below_drewN (below2 hA0 hb1 (Nat.le_refl _)) _, by first | exact hownB | exact hownB.below ((Below.refl _ _).drew) | exact hownB.below (below_drewN (Below.refl _ _) _)⟩
    simp only [decide_true, Bool.true_and]
    first | rfl | (simp; omega) | (congr 3; rw [Bool.eq_iff_iff]; simp; omega) | (simp; rw [Bool.eq_iff_iff]; simp; omega)
  · have hkb : (k == 8) = false := by simpa using hk
    go_region
    all_goals
      go_wp2
      go_ret2
      exact ⟨.slice av ks.length cv, by rw [decide_eq_false hk]; rfl, by first | exact below2 hA0 hb1 (Nat.le_refl _) | exact (below2 hA0 hb1 (Nat.le_refl _)).drew, by first | exact hownB | exact hownB.below ((Below.refl _ _).drew)⟩
end Go.Proofs.YtkeieeogkeonfaaGreatDoor
