/- strings.Builder: WriteString at this program (the shelf's own laying of it falls here). -/
import Derived.Test.YtkeieeogkeonfaaGreatDoorOwn
import Derived.Test.YtkeieeogkeonfaaGreatDoorShelf
import Derived.Lib.Builder
import Derived.Lib.AppendStr
import Derived.Lib.UnsafeStr
import Derived.Laws.Externs
import Derived.Test.YtkeieeogkeonfaaGreatDoorWrongU
import Derived.Test.YtkeieeogkeonfaaGreatDoorValueOkS
import Derived.Test.YtkeieeogkeonfaaGreatDoorShapeOkS
import Derived.Test.YtkeieeogkeonfaaGreatDoorSteps
import Derived.Lib.ReplaceLaws
import Derived.Test.YtkeieeogkeonfaaGreatDoorTextI
import Derived.Test.YtkeieeogkeonfaaGreatDoorShapeForm
import Derived.Test.YtkeieeogkeonfaaGreatDoorMaxC
import Derived.Test.YtkeieeogkeonfaaGreatDoorWrongI
import Derived.Test.YtkeieeogkeonfaaGreatDoorValueIs
import Derived.Test.YtkeieeogkeonfaaGreatDoorShapeIs
import Derived.Test.YtkeieeogkeonfaaGreatDoorValueSz
import Derived.Test.YtkeieeogkeonfaaGreatDoorValueTo
import Derived.Test.YtkeieeogkeonfaaGreatDoorValueEq
import Derived.Test.YtkeieeogkeonfaaGreatDoorShapeSz
import Derived.Test.YtkeieeogkeonfaaGreatDoorShapeTo
import Derived.Test.YtkeieeogkeonfaaGreatDoorShapeEq
import Derived.Deep.RegionHeld3
import Derived.Test.YtkeieeogkeonfaaGreatDoorValueRead
import Derived.Test.YtkeieeogkeonfaaGreatDoorShapeRead
namespace Go.Proofs.YtkeieeogkeonfaaGreatDoor
open Go.RowKit

theorem sizeBld : (Tryz.prog.info? 77).map (·.size) = some 2 := by kernel_rfl
theorem liesBld : liesAt Tryz.prog Tryz.prog.depth 77 (2 / Tryz.prog.cellsOf 77) 0 77 1 = true := by kernel_rfl
theorem infoByteB : (Tryz.prog.info? 5).map (fun i => (i.zero, i.size, i.bytes)) = some (some (.int .u8 0), 1, 1) := by kernel_rfl

set_option maxHeartbeats 1000000 in
set_option maxRecDepth 100000 in
theorem copyCheck_used (b : Nat) (w : World) (h0 : w.cell? ⟨b, 0, none⟩ = some (.pointer (some ⟨b, 0, none⟩))) :
    Calls Tryz.prog 74 #[.pointer (some ⟨b, 0, none⟩)] w fun e w' => e = .returned (.tuple #[]) ∧ w' = w := by
  obtain ⟨j, hj, _⟩ := Option.map_eq_some_iff.1 sizeBld
  go_enter Tryz.func74, Tryz.ntmps74
  go_wp2
  rw [Lib.run_neq_ptr_same w _ Tryz.underlying74 hj]
  go_wp2
  go_end0
  exact ⟨rfl, rfl⟩
set_option maxHeartbeats 1000000 in
set_option maxRecDepth 100000 in
theorem copyCheck_fresh (b : Nat) (w : World) (h0 : w.cell? ⟨b, 0, none⟩ = some (.pointer none)) (hsh : w.shape? b = some (77, 2)) (hfz : w.frozen? ⟨b, 0, none⟩ = false) :
    Calls Tryz.prog 74 #[.pointer (some ⟨b, 0, none⟩)] w fun e w' => e = .returned (.tuple #[]) ∧ w' = w.setCell ⟨b, 0, none⟩ (.pointer (some ⟨b, 0, none⟩)) := by
  obtain ⟨j, hj, hjs⟩ := Option.map_eq_some_iff.1 sizeBld
  go_enter Tryz.func74, Tryz.ntmps74
  go_wp2
  rw [Lib.run_to_unsafe w ⟨b, 0, none⟩ Tryz.underlying74 Tryz.underlying105 hj (by rw [hjs]; decide) hsh (Nat.zero_lt_succ 1)]
  simp only [Result.andThen]
  rw [Oper.upon_value]
  go_wp2
  rw [run_callFunc_extern Tryz.func91 (by kernel_rfl) (by kernel_rfl) (by kernel_rfl) (e := Extern.AbiNoEscape.same) (by kernel_rfl)]
  rw [Lib.run_noEscape]
  simp only [Result.andThen]
  rw [Oper.upon_value]
  go_wp2
  rw [Lib.run_from_unsafe w ⟨b, 0, none⟩ Tryz.underlying105 Tryz.underlying74 hj hsh liesBld]
  simp only [Result.andThen]
  rw [Oper.upon_value]
  go_wp2
  go_end0
  exact ⟨rfl, rfl⟩
theorem copyCheck_any (B b : Nat) (bs : List Value) (w : World) (h : Lib.IsBuilder 77 5 B b bs w) :
    Calls Tryz.prog 74 #[.pointer (some ⟨b, 0, none⟩)] w fun e w' => e = .returned (.tuple #[]) ∧ (Lib.BuilderAt 77 5 B b (.pointer (some ⟨b, 0, none⟩)) bs w' ∧ Below B w w') := by
  rcases h with h | h
  · refine (copyCheck_fresh b w h.cell0 h.shape h.frozen0).mono ?_
    rintro e w' ⟨rfl, rfl⟩
    exact ⟨rfl, h.used _, (Below.refl B w).setCell (p := ⟨b, 0, none⟩) h.1 _⟩
  · refine (copyCheck_used b w h.cell0).mono ?_
    rintro e w' ⟨rfl, rfl⟩
    exact ⟨rfl, h, Below.refl B _⟩

set_option maxHeartbeats 2000000 in
set_option maxRecDepth 100000 in
theorem writeString_any (B b : Nat) (l s : List UInt8) (w : World) (h : Lib.IsBuilder 77 5 B b (Lib.byteCells l) w) (hlen : l.length + s.length ≤ 140737488355328) (hBw : B ≤ w.heap.size) :
    Calls Tryz.prog 47 #[.pointer (some ⟨b, 0, none⟩), .string ⟨s.toArray⟩] w fun e w' => e = .returned (.tuple #[.int .i64 s.length, .nilIface]) ∧ (Lib.BuilderAt 77 5 B b (.pointer (some ⟨b, 0, none⟩)) (Lib.byteCells (l ++ s)) w' ∧ Below B w w') := by
  obtain ⟨i0, hi, hz0, hz1, hz2⟩ := info_parts infoByteB
  have HC := Lib.hid (copyCheck_any B b _ w h)
  have hbl : (Lib.byteCells l).length = l.length := Lib.byteCells_length l
  have hss : (⟨s.toArray⟩ : ByteArray).size = s.length := by simp [ByteArray.size]
  clear h
  go_enter Tryz.func47, Tryz.ntmps47
  go_wp2_with (go_at_call 74; refine HC.out.mono ?_)
  rintro e w1 ⟨rfl, h1, hb1⟩
  obtain ⟨hB, v, hbk, hown, hne⟩ := h1
  have c0 : w1.cell? ⟨b, 0, none⟩ = some (.pointer (some ⟨b, 0, none⟩)) := by rw [Lib.cell_of_heap hbk]; rfl
  have c1 : w1.cell? ⟨b, 1, none⟩ = some v := by rw [Lib.cell_of_heap hbk]; rfl
  go_wp2_with (at_builtin; refine Lib.wpList_append_own_string _ rfl _ _ 75 9 rfl B 5 i0 Tryz.underlying75 Tryz.underlying9 hi hz0 hz1 hz2 _ _ _ rfl hown ⟨s.toArray⟩ rfl ?c3 ?c4 ?c5 ?_)
  case c3 => unfold maxLen; rw [hbl, hss]; omega
  case c4 => rw [hbl, hss]; omega
  case c5 => have := hb1.size; omega
  intro v' w2 hown' hgrow _
  have hlt : b < w1.heap.size := by
    rcases Nat.lt_or_ge b w1.heap.size with h' | h'
    · exact h'
    · simp [Array.getElem?_eq_none h'] at hbk
  have hb2 : w2.heap[b]? = some (.cells #[.pointer (some ⟨b, 0, none⟩), v] 77 (0, 0)) := by
    rw [hgrow.block b hlt (fun e => hne e.symm)]
    exact hbk
  have d0 : w2.cell? ⟨b, 0, none⟩ = some (.pointer (some ⟨b, 0, none⟩)) := by rw [Lib.cell_of_heap hb2]; rfl
  have d1 : w2.cell? ⟨b, 1, none⟩ = some v := by rw [Lib.cell_of_heap hb2]; rfl
  have f1 : w2.frozen? ⟨b, 1, none⟩ = false := Lib.frozen_of_heap hb2 1
  obtain ⟨ao, n', cap, rfl⟩ : ∃ ao n' cap, v' = .slice ao n' cap := by
    rcases hown'.2 with ⟨hv, _⟩ | ⟨g, cap, cur, hv, _⟩
    · exact ⟨_, _, _, hv⟩
    · exact ⟨_, _, _, hv⟩
  go_wp2
  go_ret2
  refine ⟨by simp, ?_, ?_⟩
  · exact Lib.BuilderAt.put (T := 77) (e := 5) hB hb2 (bs' := Lib.byteCells (l ++ s)) (by rw [Lib.byteCells_append]; simpa [Lib.strCells_eq, Lib.byteCells_length] using hown') (by decide)
  · exact (hb1.grown hgrow (by have := hb1.size; omega) (fun k hk => (hown.lt k hk).1)).setCell (p := ⟨b, 1, none⟩) hB _
end Go.Proofs.YtkeieeogkeonfaaGreatDoor

/- The way to what is wrong, told as a path: the reference's Wrong. -/
namespace Go.Proofs.YtkeieeogkeonfaaGreatDoor
open Go.RowKit

def wrongV (x : V) (sh : Sh) : Value := if (x.ok && sh.ok) = true then wrOutS [] (wrg sh.nodes x sh) else .tuple #[.string ⟨#[]⟩, .bool false]
set_option maxHeartbeats 1000000 in
set_option maxRecDepth 10000 in
theorem wrong_spec (x : V) (sh : Sh) (cs ch : List Value) (w : World) (hx : Rd w x.d cs) (hs : Rd w sh.d ch) (hxw : x.wf) (hsw : sh.wf) (hxb : x.bulk ≤ 4294967295) (hsb : sh.bulk ≤ 4294967295) :
    Calls Tryz.prog 6 #[.agg cs.toArray, .agg ch.toArray] w fun e w' => e = .returned (wrongV x sh) ∧ Below w.heap.size w w' := by
  obtain ⟨k, n, e, s0, a1, n1, c1, rfl⟩ := V.form hx
  obtain ⟨k', l, hi, a4, n4, c4, m, a6, n6, c6, rfl⟩ := Sh.form hs
  obtain ⟨W0, hW0⟩ : ∃ W0, W0 = (w.alloc (.cells #[.int .i64 k, .int .i64 n, .int .i64 e, .string ⟨(s0 : List UInt8).toArray⟩, .slice a1 n1 c1] 35)).alloc (.cells #[.int .i64 k', .int .i64 l, .int .i64 hi, .slice a4 n4 c4, .int .i64 m, .slice a6 n6 c6] 39) := ⟨_, rfl⟩
  have HW := Lib.hid hW0
  have hA0 : Below w.heap.size w W0 := by rw [hW0]; exact ((Below.refl _ _).alloc (Nat.le_refl _) _).alloc (by simp) _
  have hz : W0.heap.size = w.heap.size + 2 := by rw [hW0]; simp
  have KB : Hid (∀ W, Below W0.heap.size W0 W → (W.cell? ⟨w.heap.size, 0, none⟩ = some (.int .i64 k) ∧ W.cell? ⟨w.heap.size, 1, none⟩ = some (.int .i64 n) ∧ W.cell? ⟨w.heap.size, 2, none⟩ = some (.int .i64 e) ∧ W.cell? ⟨w.heap.size, 3, none⟩ = some (.string ⟨(s0 : List UInt8).toArray⟩) ∧ W.cell? ⟨w.heap.size, 4, none⟩ = some (.slice a1 n1 c1)) ∧ (W.cell? ⟨w.heap.size + 1, 0, none⟩ = some (.int .i64 k') ∧ W.cell? ⟨w.heap.size + 1, 1, none⟩ = some (.int .i64 l) ∧ W.cell? ⟨w.heap.size + 1, 2, none⟩ = some (.int .i64 hi) ∧ W.cell? ⟨w.heap.size + 1, 3, none⟩ = some (.slice a4 n4 c4) ∧ W.cell? ⟨w.heap.size + 1, 4, none⟩ = some (.int .i64 m) ∧ W.cell? ⟨w.heap.size + 1, 5, none⟩ = some (.slice a6 n6 c6))) := by
    intro W hb
    obtain ⟨hc, _⟩ := bcell hb
    simp only [hc _ _ (show w.heap.size < W0.heap.size by omega), hc _ _ (show w.heap.size + 1 < W0.heap.size by omega)]
    subst hW0; simp [go_sem]
  have HRV := Lib.hid (show ∀ W, Below W0.heap.size W0 W → Rd W x.d [.int .i64 k, .int .i64 n, .int .i64 e, .string ⟨(s0 : List UInt8).toArray⟩, .slice a1 n1 c1] from fun W hb => hx.below (below2 hA0 hb (Nat.le_refl _)))
  have HRS := Lib.hid (show ∀ W, Below W0.heap.size W0 W → Rd W sh.d [.int .i64 k', .int .i64 l, .int .i64 hi, .slice a4 n4 c4, .int .i64 m, .slice a6 n6 c6] from fun W hb => hs.below (below2 hA0 hb (Nat.le_refl _)))
  have HB0 := Lib.hid (show ∀ W W2, Below W0.heap.size W0 W → Below W.heap.size W W2 → Below W0.heap.size W0 W2 from fun W W2 a b => below2 a b (Nat.le_refl _))
  have hB := Below.refl W0.heap.size W0
  have HO1 := fun W (hb : Below W0.heap.size W0 W) => Lib.hid (valueOk_spec x _ W (HRV.out _ hb) hxw hxb)
  have HO2 := fun W (hb : Below W0.heap.size W0 W) => Lib.hid (shapeOk_spec sh _ W (HRS.out _ hb) hsw hsb)
  obtain ⟨⟨p0, p1, p2, p3, p4⟩, q0, q1, q2, q3, q4, q5⟩ := KB.out _ hB
  clear hW0 hx hs
  cases hv : x.ok with
  | false =>
    have HV := Lib.hid hv
    have HF := Lib.hid (show wrongV x sh = .tuple #[.string ⟨#[]⟩, .bool false] by unfold wrongV; rw [hv]; rfl)
    rw [HF.out]
    clear hv
    go_enter Tryz.func6, Tryz.ntmps6
    go_wp2_with fail
    rw [← HW.out]
    go_wp2_with (go_at_call 15; refine (HO1 _ hB).out.mono ?_; rw [HV.out]; rintro e1 w1 ⟨rfl, hb1⟩)
    go_ret2
    exact ⟨rfl, below2 hA0 hb1 (Nat.le_refl _)⟩
  | true =>
    have HV := Lib.hid hv
    cases hh : sh.ok with
    | false =>
      have HH := Lib.hid hh
      have HF := Lib.hid (show wrongV x sh = .tuple #[.string ⟨#[]⟩, .bool false] by unfold wrongV; rw [hv, hh]; rfl)
      rw [HF.out]
      clear hv hh
      go_enter Tryz.func6, Tryz.ntmps6
      go_wp2_with fail
      rw [← HW.out]
      go_wp2_with (first | (go_at_call 15; refine (HO1 _ hB).out.mono ?_; rw [HV.out]; rintro e1 w1 ⟨rfl, hb1⟩; obtain ⟨⟨p0, p1, p2, p3, p4⟩, q0, q1, q2, q3, q4, q5⟩ := KB.out _ hb1) | (go_at_call 16; refine (HO2 _ hb1).out.mono ?_; rw [HH.out]; rintro e1 w2 ⟨rfl, hb2⟩))
      go_ret2
      exact ⟨rfl, below2 hA0 (HB0.out _ _ hb1 hb2) (Nat.le_refl _)⟩
    | true =>
      have HH := Lib.hid hh
      have hV2 := ok_right hv
      have hR2 := sh_ok_right hh
      obtain ⟨ow, how⟩ : ∃ ow, wrg sh.nodes x sh = ow := ⟨_, rfl⟩
      have HF := Lib.hid (show wrongV x sh = wrOutS [] ow by unfold wrongV; rw [hv, hh, how]; rfl)
      rw [HF.out]
      have HX := fun W (hb : Below W0.heap.size W0 W) (vs : Value) (hvs : StrA W vs []) => Lib.hid (WrS_all sh.nodes (by have := hR2.2; omega) x sh [] _ _ vs 12 8 W (Nat.le_refl _) (HRV.out _ hb) (HRS.out _ hb) hvs hxw hsw hxb hsb hV2 hR2.1 (by have := hR2.2; simp; omega) (by simp))
      rw [how] at HX
      clear hv hh how
      go_enter Tryz.func6, Tryz.ntmps6
      go_wp2_with fail
      rw [← HW.out]
      cases ow with
      | none =>
        have HF3 := Lib.hid (show wrOutS [] none = .tuple #[.string ⟨#[]⟩, .bool false] from rfl)
        go_wp2_with (first | (go_at_call 15; refine (HO1 _ hB).out.mono ?_; rw [HV.out]; rintro e1 w1 ⟨rfl, hb1⟩; obtain ⟨⟨r0, r1, r2, r3, r4⟩, t0, t1, t2, t3, t4, t5⟩ := KB.out _ hb1; have hz1 := hb1.size) | (go_at_call 16; refine (HO2 _ hb1).out.mono ?_; rw [HH.out]; rintro e1 w2 ⟨rfl, hb2⟩; have hb12 := HB0.out _ _ hb1 hb2; obtain ⟨⟨p0, p1, p2, p3, p4⟩, q0, q1, q2, q3, q4, q5⟩ := KB.out _ hb12; have hz2 := hb12.size) | (go_at_call 17; refine (HX _ (hb12.alloc (by omega) _) _ StrA.empty).out.mono ?_; rw [HF3.out]; rintro e1 w3 ⟨rfl, hb3⟩))
        go_ret2
        exact ⟨rfl, below2 hA0 (HB0.out _ _ (hb12.alloc (by omega) _) hb3) (Nat.le_refl _)⟩
      | some p =>
        have HF3 := Lib.hid (show wrOutS [] (some p) = .tuple #[.string ⟨(putPath ([] ++ p)).toArray⟩, .bool true] from rfl)
        go_wp2_with (first | (go_at_call 15; refine (HO1 _ hB).out.mono ?_; rw [HV.out]; rintro e1 w1 ⟨rfl, hb1⟩; obtain ⟨⟨r0, r1, r2, r3, r4⟩, t0, t1, t2, t3, t4, t5⟩ := KB.out _ hb1; have hz1 := hb1.size) | (go_at_call 16; refine (HO2 _ hb1).out.mono ?_; rw [HH.out]; rintro e1 w2 ⟨rfl, hb2⟩; have hb12 := HB0.out _ _ hb1 hb2; obtain ⟨⟨p0, p1, p2, p3, p4⟩, q0, q1, q2, q3, q4, q5⟩ := KB.out _ hb12; have hz2 := hb12.size) | (go_at_call 17; refine (HX _ (hb12.alloc (by omega) _) _ StrA.empty).out.mono ?_; rw [HF3.out]; rintro e1 w3 ⟨rfl, hb3⟩))
        go_ret2
        exact ⟨rfl, below2 hA0 (HB0.out _ _ (hb12.alloc (by omega) _) hb3) (Nat.le_refl _)⟩
end Go.Proofs.YtkeieeogkeonfaaGreatDoor

/- strings.ReplaceAll at one byte; a step's text as two replacements. No program in sight. -/
namespace Go.Proofs.YtkeieeogkeonfaaGreatDoor
open Go.RowKit

theorem replaceK_cons (c b : UInt8) (new : List UInt8) (h : b ≠ c) (l : List UInt8) : ∀ k : Nat, Lib.replaceK [c] new k (b :: l) = b :: Lib.replaceK [c] new k l
  | 0 => rfl
  | k + 1 => by
    have hp : ([c] : List UInt8).isPrefixOf (b :: l) = false := by simp [List.isPrefixOf, Ne.symm h]
    have hix : Lib.index (b :: l) [c] = if Lib.index l [c] == -1 then -1 else Lib.index l [c] + 1 := by rw [Lib.index, hp]; simp
    by_cases hm : Lib.index l [c] = -1
    · have h2 : Lib.index (b :: l) [c] = -1 := by rw [hix, hm]; rfl
      rw [Lib.replaceK, Lib.replaceK, hm, h2]; rfl
    · have hge := Lib.index_ge l [c]
      obtain ⟨i, hi⟩ : ∃ i : Nat, Lib.index l [c] = i := ⟨(Lib.index l [c]).toNat, by omega⟩
      have h2 : Lib.index (b :: l) [c] = ((i + 1 : Nat) : Int) := by rw [hix, if_neg (fun e => hm (beq_iff_eq.1 e)), hi]; omega
      rw [Lib.replaceK_hit _ _ _ _ _ hi, Lib.replaceK_hit _ _ _ _ _ h2]
      simp
theorem replaceK_one (c : UInt8) (new : List UInt8) : ∀ l : List UInt8, Lib.replaceK [c] new (Lib.count l [c]) l = l.flatMap fun b => if b = c then new else [b]
  | [] => by rw [Lib.count_one]; rfl
  | b :: l => by
    have ih := replaceK_one c new l
    by_cases h : b = c
    · subst h
      have hix : Lib.index (b :: l) [b] = ((0 : Nat) : Int) := by rw [Lib.index]; simp [List.isPrefixOf]
      rw [Lib.count_cons_eq, Nat.add_comm, Lib.replaceK_hit _ _ _ _ _ hix]
      simp [ih]
    · rw [Lib.count_cons_ne b c l h, replaceK_cons c b new h, ih]
      simp [h]
theorem replaceAll_one (c : UInt8) (new s : List UInt8) (hne : ([c] == new) = false) : Lib.replaceAll s [c] new = s.flatMap fun b => if b = c then new else [b] := by
  unfold Lib.replaceAll Lib.replace Lib.replaceNum
  rw [hne, if_neg (by decide), if_pos (.inl (by decide))]
  exact replaceK_one c new s
theorem esc_repl (s : List UInt8) : Lib.replaceAll (Lib.replaceAll s [126] [126, 48]) [47] [126, 49] = esc s := by
  rw [replaceAll_one _ _ _ (by decide), replaceAll_one _ _ _ (by decide), List.flatMap_assoc]
  unfold esc
  congr 1
  funext b
  unfold esc1
  by_cases h : b = 126
  · subst h; rfl
  · rw [if_neg h, if_neg h]; simp
theorem tilde_len : ∀ s : List UInt8, (s.flatMap fun b => if b = 126 then [126, 48] else [b]).length ≤ 2 * s.length
  | [] => by simp
  | b :: s => by
    have ih := tilde_len s
    rw [List.flatMap_cons, List.length_append, List.length_cons]
    by_cases h : b = 126
    · rw [if_pos h, List.length_cons, List.length_cons, List.length_nil]; omega
    · rw [if_neg h, List.length_cons, List.length_nil]; omega
theorem repl_tilde_len (s : List UInt8) : (Lib.replaceAll s [126] [126, 48]).length ≤ 2 * s.length := by
  rw [replaceAll_one _ _ _ (by decide)]; exact tilde_len s
end Go.Proofs.YtkeieeogkeonfaaGreatDoor

/- The text of a path: the program's areSteps and PutPath. -/
namespace Go.Proofs.YtkeieeogkeonfaaGreatDoor
open Go.RowKit
open Go.Lib (validD)

set_option maxHeartbeats 400000 in
set_option maxRecDepth 10000 in
theorem step1_any (s : List UInt8) (w : World) (hl : s.length ≤ 4294967295) (hT : Tabs w) :
    Calls Tryz.prog 72 #[.string ⟨s.toArray⟩] w fun e w' => e = .returned (.bool (!stepOk s)) ∧ Below w.heap.size w w' := by
  have HC := Lib.hid (textOk_impl s w hl hT)
  by_cases h20 : s.length ≤ 2000
  · have i4 : ¬ (2000 : Int) < s.length := by omega
    have HS := Lib.hid (show stepOk s = validD s by unfold stepOk; rw [decide_eq_true h20, Bool.and_true])
    obtain ⟨r, hr⟩ : ∃ r, validD s = r := ⟨_, rfl⟩
    rw [HS.out]
    rw [hr] at HC ⊢
    clear hr hT
    go_enter Tryz.func72, Tryz.ntmps72
    go_wp2_with (go_at_call 73; refine HC.out.mono ?_; rintro e1 w1 ⟨rfl, hb1⟩)
    go_ret
    exact ⟨rfl, hb1⟩
  · have i4 : (2000 : Int) < s.length := by omega
    have HS := Lib.hid (show stepOk s = false by unfold stepOk; rw [decide_eq_false h20, Bool.and_false])
    rw [HS.out]
    clear hT HC
    go_enter Tryz.func72, Tryz.ntmps72
    go_wp2
    go_ret
    exact ⟨rfl, Below.refl _ _⟩
set_option maxHeartbeats 800000 in
set_option maxRecDepth 10000 in
theorem stepIx_any (st : List (List UInt8)) (va : Value) (w : World) (h : StrRow w va st) (hl : st.length ≤ 4294967295) (hs : ∀ s ∈ st, s.length ≤ 4294967295) (hT : Tabs w) :
    Calls Tryz.prog 88 #[va, .func (.func 72) #[] #[]] w fun e w' => (∃ r : Int, e = .returned (.int .i64 r) ∧ decide (0 ≤ r) = !st.all stepOk) ∧ Below w.heap.size w w' := by
  obtain ⟨a, c, rfl, hg⟩ := h
  obtain ⟨ok, hok⟩ : ∃ ok, st.all stepOk = ok := ⟨_, rfl⟩
  rw [hok]
  have HOK := Lib.hid hok; clear hok
  have HH := fun s (h1 : s.length ≤ 4294967295) W (hW : Below w.heap.size w W) => Lib.hid (step1_any s W h1 (hT.below hW))
  have HG := Lib.hid hg; clear hg hT
  go_enter Tryz.func88, Tryz.ntmps88
  go_wp2
  go_loopw [8] (fun i wr => ∃ (k : Nat), k ≤ st.length ∧ i = .int .i64 k ∧ (st.take k).all stepOk = true ∧ Below w.heap.size w wr) (fun i _ => st.length - (intOf i).toNat)
  case atStart => exact ⟨0, Nat.zero_le _, rfl, rfl, Below.refl _ _⟩
  case round =>
    obtain ⟨k, hk, rfl, hgd, hbel⟩ := hrel
    have HGD := Lib.hid hgd; clear hgd
    by_cases hlt : k < st.length
    · obtain ⟨b, o, rfl, hcell⟩ := HG.out (by intro e; rw [e] at hlt; simp at hlt)
      have hd := hcell k hlt
      have hbb := cell_lt hd
      rw [← (bcell hbel).1 _ _ hbb] at hd
      have hi1 : (0 : Int) ≤ k := by omega
      have hi3 : (k : Int) < st.length := by omega
      have HSN := Lib.hid (show (st.take (k + 1)).all stepOk = stepOk st[k] by rw [List.take_succ_eq_append_getElem hlt, List.all_append, HGD.out]; simp)
      have HNO := Lib.hid (fun (h : stepOk st[k] = false) => show ok = false by
        rw [← HOK.out, List.all_eq_false]; exact ⟨st[k], List.getElem_mem hlt, by rw [h]; decide⟩)
      have HC := HH st[k] (hs _ (List.getElem_mem hlt)) _ hbel
      obtain ⟨ob, hob⟩ : ∃ ob, stepOk st[k] = ob := ⟨_, rfl⟩
      rw [hob] at HC HSN HNO
      clear hcell hob
      cases ob with
      | true =>
        go_wp2_with (go_at_call 72; refine HC.out.mono ?_; rintro e1 w1 ⟨rfl, hb1⟩)
        go_roundw
        case rel => exact ⟨k + 1, by omega, by go_num, HSN.out, below2 hbel hb1 (Nat.le_refl _)⟩
        case measure => simp [intOf]; omega
      | false =>
        go_wp2_with (go_at_call 72; refine HC.out.mono ?_; rintro e1 w1 ⟨rfl, hb1⟩)
        go_ret
        exact ⟨⟨_, rfl, by rw [show ok = false by first | exact HNO.out rfl | exact HNO.out trivial]; simp⟩, below2 hbel hb1 (Nat.le_refl _)⟩
    · obtain rfl : k = st.length := by omega
      have h1 := HGD.out
      rw [List.take_length] at h1
      have HF := Lib.hid (show ok = true by rw [← HOK.out]; exact h1)
      clear h1
      go_wp2
      go_ret
      exact ⟨⟨_, rfl, by rw [HF.out]; rfl⟩, hbel⟩
set_option maxHeartbeats 400000 in
theorem stepF_any (st : List (List UInt8)) (va : Value) (w : World) (h : StrRow w va st) (hl : st.length ≤ 4294967295) (hs : ∀ s ∈ st, s.length ≤ 4294967295) (hT : Tabs w) :
    Calls Tryz.prog 65 #[va, .func (.func 72) #[] #[]] w fun e w' => e = .returned (.bool (!st.all stepOk)) ∧ Below w.heap.size w w' := by
  have HC := Lib.hid (stepIx_any st va w h hl hs hT)
  obtain ⟨ok, hok⟩ : ∃ ok, st.all stepOk = ok := ⟨_, rfl⟩
  rw [hok] at HC ⊢
  clear h hok hT
  go_enter Tryz.func65, Tryz.ntmps65
  go_wp2_with (go_at_call 88; refine HC.out.mono ?_; rintro e1 w1 ⟨⟨r, rfl, hr⟩, hb1⟩; have HR := Lib.hid hr; clear hr)
  go_ret
  exact ⟨by rw [← HR.out]; rfl, hb1⟩
def stepsOk (st : List (List UInt8)) : Bool := decide (st.length ≤ 12) && st.all stepOk
set_option maxHeartbeats 400000 in
theorem areSteps_any (st : List (List UInt8)) (va : Value) (w : World) (h : StrRow w va st) (hl : st.length ≤ 4294967295) (hs : ∀ s ∈ st, s.length ≤ 4294967295) (hT : Tabs w) :
    Calls Tryz.prog 46 #[va] w fun e w' => e = .returned (.bool (stepsOk st)) ∧ Below w.heap.size w w' := by
  have HC := Lib.hid (stepF_any st va w h hl hs hT)
  obtain ⟨a, c, rfl, _⟩ := h
  by_cases h12 : st.length ≤ 12
  · have i1 : (st.length : Int) ≤ 12 := by omega
    have HF := Lib.hid (show stepsOk st = st.all stepOk by unfold stepsOk; rw [decide_eq_true h12, Bool.true_and])
    obtain ⟨ok, hok⟩ : ∃ ok, st.all stepOk = ok := ⟨_, rfl⟩
    rw [HF.out]
    rw [hok] at HC ⊢
    clear hok hT
    go_enter Tryz.func46, Tryz.ntmps46
    go_wp2_with (go_at_call 65; refine HC.out.mono ?_; rintro e1 w1 ⟨rfl, hb1⟩)
    go_ret
    exact ⟨ret_bool (by simp), hb1⟩
  · have i1 : ¬ (st.length : Int) ≤ 12 := by omega
    have HF := Lib.hid (show stepsOk st = false by unfold stepsOk; rw [decide_eq_false h12, Bool.false_and])
    rw [HF.out]
    clear hT HC
    go_enter Tryz.func46, Tryz.ntmps46
    go_wp2
    go_ret
    exact ⟨rfl, Below.refl _ _⟩

theorem IsBuilder.below {T e B b : Nat} {bs : List Value} {w w' : World} (h : Lib.IsBuilder T e B b bs w) (hb : Below w.heap.size w w') : Lib.IsBuilder T e B b bs w' := by
  have hone : ∀ p, Lib.BuilderAt T e B b p bs w → Lib.BuilderAt T e B b p bs w' := by
    rintro p ⟨h1, v, h2, h3, h4⟩
    refine ⟨h1, v, by rw [hb.block b (heap_lt h2)]; exact h2, ?_, h4⟩
    refine ⟨h3.1, h3.2.imp id ?_⟩
    rintro ⟨g, cap, cur, hv, hg, hh, r⟩
    exact ⟨g, cap, cur, hv, hg, by rw [hb.block g (heap_lt hh)]; exact hh, r⟩
  exact h.imp (hone _) (hone _)
theorem builder_new {w : World} : Lib.IsBuilder 77 5 w.heap.size w.heap.size (Lib.byteCells []) (w.alloc (.cells #[.pointer none, .slice none 0 0] 77)) :=
  .inl ⟨Nat.le_refl _, .slice none 0 0, heap_alloc_new _ _, World.ownsRow_nil _ _ _ _, by simp [Value.ownBlock]⟩

set_option maxHeartbeats 2000000 in
set_option maxRecDepth 10000 in
theorem putPath_impl (st : List (List UInt8)) (va : Value) (M : Int) (w : World) (h : StrRow w va st) (hl : st.length ≤ 4294967295) (hs : ∀ s ∈ st, s.length ≤ 4294967295) (hT : Tabs w) (hM : MaxCell M w) :
    Calls Tryz.prog 24 #[va] w fun e w' => e = .returned (.string ⟨(putPath st).toArray⟩) ∧ Below w.heap.size w w' := by
  have HC := Lib.hid (areSteps_any st va w h hl hs hT)
  obtain ⟨a, c, rfl, hg⟩ := h
  have HG := Lib.hid hg; clear hg
  cases hso : stepsOk st with
  | false =>
    have HF := Lib.hid (show putPath st = [] by
      unfold stepsOk at hso; unfold putPath
      rw [if_neg]; rintro ⟨h1, h2⟩; rw [decide_eq_true h1, h2] at hso; cases hso)
    rw [HF.out]
    rw [hso] at HC
    clear hso hT
    go_enter Tryz.func24, Tryz.ntmps24
    go_wp2_with (go_at_call 46; refine HC.out.mono ?_; rintro e1 w1 ⟨rfl, hb1⟩)
    go_ret
    exact ⟨rfl, hb1⟩
  | true =>
    have hok : st.length ≤ 12 ∧ st.all stepOk = true := by unfold stepsOk at hso; simp only [Bool.and_eq_true, decide_eq_true_eq] at hso; exact hso
    have HF := Lib.hid (show putPath st = pathL st by unfold putPath; rw [if_pos hok])
    have h20 : ∀ s ∈ st, s.length ≤ 2000 := by
      intro s hs1; have := List.all_eq_true.1 hok.2 s hs1; unfold stepOk at this; simp only [Bool.and_eq_true, decide_eq_true_eq] at this; exact this.2
    have hl12 := hok.1
    have HALL := Lib.hid (show ∀ j, (pathL (st.take j)).length ≤ 48012 by
      intro j
      have h1 := pathL_length (st.take j) (by rw [List.all_eq_true]; intro s hs1; exact List.all_eq_true.1 hok.2 s (List.mem_of_mem_take hs1))
      rw [List.length_take] at h1; omega)
    have HM := Lib.hid (show ∀ W, Below w.heap.size w W → MaxCell M W from fun W hb => hM.below hb)
    rw [HF.out]
    rw [hso] at HC
    clear hso hT hok hM
    go_enter Tryz.func24, Tryz.ntmps24
    go_wp2_with (go_at_call 46; refine HC.out.mono ?_; rintro e1 w1 ⟨rfl, hb1⟩)
    have hz1 := hb1.size
    obtain ⟨W0, hW0⟩ : ∃ W0, W0 = w1.alloc (.cells #[.pointer none, .slice none 0 0] 77) := ⟨_, rfl⟩
    have hA0 : Below w.heap.size w W0 := by rw [hW0]; exact hb1.alloc hz1 _
    have hb0 : Lib.IsBuilder 77 5 w1.heap.size w1.heap.size (Lib.byteCells []) W0 := by rw [hW0]; exact builder_new
    have hzW : w1.heap.size < W0.heap.size := by rw [hW0]; simp
    rw [← hW0]
    obtain ⟨bb, hbb⟩ : ∃ bb, bb = w1.heap.size := ⟨_, rfl⟩
    rw [← hbb] at hb0 ⊢
    have hbw : w.heap.size ≤ bb := by omega
    have hbW : bb < W0.heap.size := by omega
    clear hW0 hb1 hzW hz1 hbb
    go_loopw [11] (fun i wr => ∃ j : Nat, j ≤ st.length ∧ i = .int .i64 j ∧ Lib.IsBuilder 77 5 bb bb (Lib.byteCells (pathL (st.take j))) wr ∧ Below w.heap.size w wr ∧ bb < wr.heap.size) (fun i _ => st.length - (intOf i).toNat)
    case atStart => exact ⟨0, Nat.zero_le _, rfl, by simpa [pathL] using hb0, hA0, hbW⟩
    case round =>
      obtain ⟨j, hj, rfl, hbu, hbel, hbs⟩ := hrel
      have HBU := Lib.hid hbu; clear hbu
      by_cases hlt : j < st.length
      · have i1 : (0 : Int) ≤ j := by omega
        have i2 : (j : Int) < st.length := by omega
        obtain ⟨b, o, rfl, hcell⟩ := HG.out (by intro e; rw [e] at hlt; simp at hlt)
        have hd := hcell j hlt
        have hdb := cell_lt hd
        rw [← (bcell hbel).1 _ _ hdb] at hd
        obtain ⟨s, hsj⟩ : ∃ s, st[j] = s := ⟨_, rfl⟩
        have hsl : s.length ≤ 2000 := by rw [← hsj]; exact h20 _ (List.getElem_mem hlt)
        have HPT := Lib.hid (show pathL (st.take (j + 1)) = pathL (st.take j) ++ (47 :: esc s) by rw [pathL_take st j hlt, hsj])
        rw [hsj] at hd
        have hpj := HALL.out j
        obtain ⟨pre, hpre⟩ : ∃ pre, pathL (st.take j) = pre := ⟨_, rfl⟩
        rw [hpre] at HBU HPT hpj
        obtain ⟨r1, hr1⟩ : ∃ r1, Lib.replaceAll s [126] [126, 48] = r1 := ⟨_, rfl⟩
        have hr1l : r1.length ≤ 4000 := by rw [← hr1]; have := repl_tilde_len s; omega
        obtain ⟨es, hes⟩ : ∃ es, esc s = es := ⟨_, rfl⟩
        have hesl : es.length ≤ 4000 := by rw [← hes]; have := esc_length s; omega
        rw [hes] at HPT
        have hrr : Lib.replaceAll r1 [47] [126, 49] = es := by rw [← hr1, esc_repl, hes]
        have hsz : ∀ l : List UInt8, (⟨l.toArray⟩ : ByteArray).size = l.length := fun l => by simp [ByteArray.size]
        have HR1 : ∀ W, Below w.heap.size w W → Hid (Calls Tryz.prog 48 #[.string ⟨s.toArray⟩, .string ⟨#[126]⟩, .string ⟨#[126, 48]⟩] W fun e w' => e = .returned (.string ⟨r1.toArray⟩) ∧ Below W.heap.size W w') := fun W hW => by
          rw [← hr1]
          exact Lib.hid (Tryz.strings_ReplaceAll ⟨s.toArray⟩ ⟨#[126]⟩ ⟨#[126, 48]⟩ M W (by rw [hsz]; omega) (HM.out W hW) (by decide) (by
            have h1 := Lib.countB_le ⟨#[126]⟩ (by decide) _ ⟨s.toArray⟩ (Nat.le_refl _)
            have h2 : (⟨#[126, 48]⟩ : ByteArray).size = 2 := rfl
            rw [hsz] at h1 ⊢; rw [h2]; omega))
        have HR2 : ∀ W, Below w.heap.size w W → Hid (Calls Tryz.prog 48 #[.string ⟨r1.toArray⟩, .string ⟨#[47]⟩, .string ⟨#[126, 49]⟩] W fun e w' => e = .returned (.string ⟨es.toArray⟩) ∧ Below W.heap.size W w') := fun W hW => by
          rw [← hrr]
          exact Lib.hid (Tryz.strings_ReplaceAll ⟨r1.toArray⟩ ⟨#[47]⟩ ⟨#[126, 49]⟩ M W (by rw [hsz]; omega) (HM.out W hW) (by decide) (by
            have h1 := Lib.countB_le ⟨#[47]⟩ (by decide) _ ⟨r1.toArray⟩ (Nat.le_refl _)
            have h2 : (⟨#[126, 49]⟩ : ByteArray).size = 2 := rfl
            rw [hsz] at h1 ⊢; rw [h2]; omega))
        have HWS := fun W (hW : Below wr.heap.size wr W) => Lib.hid (writeString_any bb bb pre (47 :: es) W (IsBuilder.below HBU.out hW) (by simp; omega) (by have := hW.size; omega))
        have L1 : ¬ 9223372036854775807 < 1 + es.length := by omega
        have L2 : ¬ 9223372036854775807 < es.length + 1 := by omega
        clear hcell hsj hpre hr1 hes hrr hsz
        go_wp2_with (first
          | (go_at_call 48; with_reducible refine (HR1 _ hbel).out.mono ?_; rintro e1 w2 ⟨rfl, hb2⟩; have hbel2 := below2 hbel hb2 (Nat.le_refl _))
          | (go_at_call 48; with_reducible refine (HR2 _ hbel2).out.mono ?_; rintro e1 w3 ⟨rfl, hb3⟩; have hbel3 := below2 hbel2 hb3 (Nat.le_refl _); have hrr3 := below2 hb2 hb3 (Nat.le_refl _))
          | (go_at_call 47; refine (HWS _ hrr3).out.mono ?_; rintro e1 w4 ⟨rfl, hbld, hb4⟩))
        have hz4 : w3.heap.size ≤ w4.heap.size := hb4.size
        go_roundw
        case rel => exact ⟨j + 1, by omega, by go_num, by rw [HPT.out]; exact .inr hbld, hbel3.trans (hb4.mono hbw), by have := hrr3.size; omega⟩
        case measure => simp [intOf]; omega
      · obtain rfl : j = st.length := by omega
        have hb5 := HBU.out
        rw [List.take_length] at hb5
        have HS := Lib.hid (Tryz.Builder_String_any bb bb _ wr hb5 (by omega))
        have i2 : ¬ ((st.length : Int) < st.length) := by omega
        clear hb5
        go_wp2_with (go_at_call 49; refine HS.out.mono ?_; rintro e1 w2 ⟨rfl, hb2⟩)
        go_ret
        exact ⟨rfl, hbel.trans (hb2.mono hbw)⟩
end Go.Proofs.YtkeieeogkeonfaaGreatDoor

/- The way to what is wrong, told as a path: the program's Wrong. -/
namespace Go.Proofs.YtkeieeogkeonfaaGreatDoor
open Go.RowKit

/-- what the program's tables hold -/
def JTab (w : World) : Prop := Tabs w ∧ TenTab w ∧ ∃ M, MaxCell M w
theorem JTab.below {w w' : World} (h : JTab w) (hb : Below w.heap.size w w') : JTab w' := ⟨h.1.below hb, h.2.1.below hb, h.2.2.imp fun M hM => hM.below hb⟩
/-- a path of few and short steps -/
def Sm (K : Nat) (p : List (List UInt8)) : Prop := p.length ≤ K ∧ ∀ s ∈ p, s.length ≤ 4294967290
theorem Sm.nil {K : Nat} : Sm K [] := ⟨by simp, by simp⟩
theorem Sm.cons {K : Nat} {s : List UInt8} {p : List (List UInt8)} (hs : s.length ≤ 4294967290) (h : Sm K p) : Sm (K + 1) (s :: p) :=
  ⟨by have := h.1; simp; omega, by intro t ht; rcases List.mem_cons.1 ht with rfl | ht; exact hs; exact h.2 t ht⟩
theorem wrL_sm {f : V → Option (List (List UInt8))} {K : Nat} : ∀ (xs : List V) (i : Nat), i + xs.length ≤ 4294967295 → (∀ x ∈ xs, ∀ p, f x = some p → Sm K p) → ∀ p, wrL f i xs = some p → Sm (K + 1) p
  | [], _, _, _, p, h => by cases h
  | x :: r, i, hi, hf, p, h => by
    unfold wrL at h
    simp only [List.length_cons] at hi
    cases hx : f x with
    | some q =>
      rw [hx] at h; simp at h; subst h
      exact Sm.cons (by have := Lib.itoa_length_le (i : Int) (by omega) (by omega); omega) (hf x (by simp) q hx)
    | none => rw [hx] at h; exact wrL_sm r (i + 1) (by omega) (fun y hy => hf y (by simp [hy])) p h
theorem wrM_sm {f : List UInt8 → V → Option (List (List UInt8))} {K : Nat} : ∀ (xs : List V), (∀ x ∈ xs, x.text.length ≤ 4294967290) → (∀ s, ∀ y ∈ xs, ∀ p, f s y = some p → Sm K p) → ∀ p, wrM f xs = some p → Sm (K + 1) p
  | [], _, _, p, h => by cases h
  | [_], _, _, p, h => by cases h
  | x :: y :: r, hxs, hf, p, h => by
    unfold wrM at h
    cases hx : f x.text y with
    | some q =>
      rw [hx] at h; simp at h; subst h
      exact Sm.cons (hxs x (by simp)) (hf _ y (by simp) q hx)
    | none => rw [hx] at h; exact wrM_sm r (fun z hz => hxs z (by simp [hz])) (fun s z hz => hf s z (by simp [hz])) p h
theorem V.text_bulk : ∀ x : V, x.text.length ≤ x.bulk
  | .mk .. => by simp only [V.text, V.bulk]; omega
theorem V.kid_bulk {x : V} : ∀ y ∈ x.kids, y.bulk ≤ x.bulk := by
  obtain ⟨k, n, e, s0, kids⟩ := x
  intro y hy
  obtain ⟨i, hi, rfl⟩ := List.getElem_of_mem hy
  have h1 := V.bulk_in kids i hi
  show kids[i].bulk ≤ V.bulk (.mk k n e s0 kids)
  simp only [V.bulk]; omega
theorem V.kids_bulk {x : V} : x.kids.length ≤ x.bulk := by
  obtain ⟨k, n, e, s0, kids⟩ := x; unfold V.bulk; simp only [V.kids]; omega
theorem wrg_sm : ∀ (N : Nat) (x : V) (sh : Sh) (p : List (List UInt8)), x.bulk ≤ 4294967290 → wrg N x sh = some p → Sm N p
  | 0, x, sh, p, _, h => by cases h
  | N + 1, x, sh, p, hb, h => by
    rw [wrg] at h
    have hk : ∀ y ∈ x.kids, y.bulk ≤ 4294967290 := fun y hy => Nat.le_trans (V.kid_bulk y hy) hb
    have hl := V.kids_bulk (x := x)
    split at h
    · split at h
      · cases h
      · simp at h; subst h; exact Sm.nil
    · split at h
      · simp at h; subst h; exact Sm.nil
      · split at h
        · exact wrL_sm x.kids 0 (by omega) (fun y hy q hq => wrg_sm N y _ q (hk y hy) hq) p h
        · split at h
          · exact wrM_sm x.kids (fun y hy => Nat.le_trans y.text_bulk (hk y hy)) (fun s y hy q hq => wrg_sm N y _ q (hk y hy) hq) p h
          · cases h

/-- what Wrong tells -/
def wrongP (x : V) (sh : Sh) : List UInt8 × Bool := if (x.ok && sh.ok) = true then (match wrg sh.nodes x sh with | none => ([], false) | some p => (putPath p, true)) else ([], false)
theorem wrongV_eq (x : V) (sh : Sh) : wrongV x sh = .tuple #[.string ⟨(wrongP x sh).1.toArray⟩, .bool (wrongP x sh).2] := by
  unfold wrongV wrongP
  split
  · cases wrg sh.nodes x sh <;> rfl
  · rfl
theorem wrong_spec2 (x : V) (sh : Sh) (cs ch : List Value) (w : World) (hx : Rd w x.d cs) (hs : Rd w sh.d ch) (hxw : x.wf) (hsw : sh.wf) (hxb : x.bulk ≤ 4294967295) (hsb : sh.bulk ≤ 4294967295) :
    Calls Tryz.prog 6 #[.agg cs.toArray, .agg ch.toArray] w fun e w' => e = .returned (.tuple #[.string ⟨(wrongP x sh).1.toArray⟩, .bool (wrongP x sh).2]) ∧ Below w.heap.size w w' := by
  rw [← wrongV_eq]; exact wrong_spec x sh cs ch w hx hs hxw hsw hxb hsb

set_option maxHeartbeats 1000000 in
set_option maxRecDepth 10000 in
theorem wrong_impl (x : V) (sh : Sh) (cs ch : List Value) (w : World) (hx : Rd w x.d cs) (hs : Rd w sh.d ch) (hxw : x.wf) (hsw : sh.wf) (hxb : x.bulk ≤ 4294967290) (hsb : sh.bulk ≤ 4294967295) (hT : JTab w) :
    Calls Tryz.prog 9 #[.agg cs.toArray, .agg ch.toArray] w fun e w' => e = .returned (.tuple #[.string ⟨(wrongP x sh).1.toArray⟩, .bool (wrongP x sh).2]) ∧ Below w.heap.size w w' := by
  obtain ⟨k, n, e, s0, a1, n1, c1, rfl⟩ := V.form hx
  obtain ⟨k', l, hi, a4, n4, c4, m, a6, n6, c6, rfl⟩ := Sh.form hs
  obtain ⟨W0, hW0⟩ : ∃ W0, W0 = (w.alloc (.cells #[.int .i64 k, .int .i64 n, .int .i64 e, .string ⟨(s0 : List UInt8).toArray⟩, .slice a1 n1 c1] 35)).alloc (.cells #[.int .i64 k', .int .i64 l, .int .i64 hi, .slice a4 n4 c4, .int .i64 m, .slice a6 n6 c6] 39) := ⟨_, rfl⟩
  have HW := Lib.hid hW0
  have hA0 : Below w.heap.size w W0 := by rw [hW0]; exact ((Below.refl _ _).alloc (Nat.le_refl _) _).alloc (by simp) _
  have hz : W0.heap.size = w.heap.size + 2 := by rw [hW0]; simp
  have KB : Hid (∀ W, Below W0.heap.size W0 W → (W.cell? ⟨w.heap.size, 0, none⟩ = some (.int .i64 k) ∧ W.cell? ⟨w.heap.size, 1, none⟩ = some (.int .i64 n) ∧ W.cell? ⟨w.heap.size, 2, none⟩ = some (.int .i64 e) ∧ W.cell? ⟨w.heap.size, 3, none⟩ = some (.string ⟨(s0 : List UInt8).toArray⟩) ∧ W.cell? ⟨w.heap.size, 4, none⟩ = some (.slice a1 n1 c1)) ∧ (W.cell? ⟨w.heap.size + 1, 0, none⟩ = some (.int .i64 k') ∧ W.cell? ⟨w.heap.size + 1, 1, none⟩ = some (.int .i64 l) ∧ W.cell? ⟨w.heap.size + 1, 2, none⟩ = some (.int .i64 hi) ∧ W.cell? ⟨w.heap.size + 1, 3, none⟩ = some (.slice a4 n4 c4) ∧ W.cell? ⟨w.heap.size + 1, 4, none⟩ = some (.int .i64 m) ∧ W.cell? ⟨w.heap.size + 1, 5, none⟩ = some (.slice a6 n6 c6))) := by
    intro W hb
    obtain ⟨hc, _⟩ := bcell hb
    simp only [hc _ _ (show w.heap.size < W0.heap.size by omega), hc _ _ (show w.heap.size + 1 < W0.heap.size by omega)]
    subst hW0; simp [go_sem]
  have HRV := Lib.hid (show ∀ W, Below W0.heap.size W0 W → Rd W x.d [.int .i64 k, .int .i64 n, .int .i64 e, .string ⟨(s0 : List UInt8).toArray⟩, .slice a1 n1 c1] from fun W hb => hx.below (below2 hA0 hb (Nat.le_refl _)))
  have HRS := Lib.hid (show ∀ W, Below W0.heap.size W0 W → Rd W sh.d [.int .i64 k', .int .i64 l, .int .i64 hi, .slice a4 n4 c4, .int .i64 m, .slice a6 n6 c6] from fun W hb => hs.below (below2 hA0 hb (Nat.le_refl _)))
  have HTT := Lib.hid (show ∀ W, Below W0.heap.size W0 W → JTab W from fun W hb => hT.below (below2 hA0 hb (Nat.le_refl _)))
  have HB0 := Lib.hid (show ∀ W W2, Below W0.heap.size W0 W → Below W.heap.size W W2 → Below W0.heap.size W0 W2 from fun W W2 a b => below2 a b (Nat.le_refl _))
  have hB := Below.refl W0.heap.size W0
  have HO1 := fun W (hb : Below W0.heap.size W0 W) => Lib.hid (valueOk_impl x _ W (HRV.out _ hb) hxw (by omega) (HTT.out _ hb).1)
  have HO2 := fun W (hb : Below W0.heap.size W0 W) => Lib.hid (shapeOk_impl sh _ W (HRS.out _ hb) hsw hsb (HTT.out _ hb).1)
  obtain ⟨⟨p0, p1, p2, p3, p4⟩, q0, q1, q2, q3, q4, q5⟩ := KB.out _ hB
  clear hW0 hx hs hT
  cases hv : x.ok with
  | false =>
    have HV := Lib.hid hv
    have HF := Lib.hid (show wrongP x sh = ([], false) by unfold wrongP; rw [hv]; rfl)
    rw [HF.out]
    clear hv
    go_enter Tryz.func9, Tryz.ntmps9
    go_upto_region 1 with fail
    rw [← HW.out]
    go_wp2_with (go_at_call 21; with_reducible refine (HO1 _ hB).out.mono ?_; rw [HV.out]; rintro e1 w1 ⟨rfl, hb1⟩; obtain ⟨⟨r0, r1, r2, r3, r4⟩, t0, t1, t2, t3, t4, t5⟩ := KB.out _ hb1)
    go_ret2
    exact ⟨rfl, below2 hA0 hb1 (Nat.le_refl _)⟩
  | true =>
    have HV := Lib.hid hv
    cases hh : sh.ok with
    | false =>
      have HH := Lib.hid hh
      have HF := Lib.hid (show wrongP x sh = ([], false) by unfold wrongP; rw [hv, hh]; rfl)
      rw [HF.out]
      clear hv hh
      go_enter Tryz.func9, Tryz.ntmps9
      go_upto_region 1 with fail
      rw [← HW.out]
      go_wp2_with (first | (go_at_call 21; with_reducible refine (HO1 _ hB).out.mono ?_; rw [HV.out]; rintro e1 w1 ⟨rfl, hb1⟩; obtain ⟨⟨r0, r1, r2, r3, r4⟩, t0, t1, t2, t3, t4, t5⟩ := KB.out _ hb1) | (go_at_call 22; with_reducible refine (HO2 _ hb1).out.mono ?_; rw [HH.out]; rintro e1 w2 ⟨rfl, hb2⟩; have hb12 := HB0.out _ _ hb1 hb2; obtain ⟨⟨x0, x1, x2, x3, x4⟩, y0, y1, y2, y3, y4, y5⟩ := KB.out _ hb12))
      go_ret2
      exact ⟨rfl, below2 hA0 hb12 (Nat.le_refl _)⟩
    | true =>
      have HH := Lib.hid hh
      have hV2 := ok_right hv
      have hR2 := sh_ok_right hh
      have hN : sh.nodes ≤ 1000 := by have := hR2.2; omega
      obtain ⟨ow, how⟩ : ∃ ow, wrg sh.nodes x sh = ow := ⟨_, rfl⟩
      have HX := fun W (hb : Below W0.heap.size W0 W) => Lib.hid (WrI_all sh.nodes hN x sh [] _ _ (.slice none 0 0) 12 8 W (Nat.le_refl _) (HRV.out _ hb) (HRS.out _ hb) StrN.nil hxw hsw (by omega) hsb hV2 hR2.1 (by simp; omega) (HTT.out _ hb).2.1)
      rw [how] at HX
      cases ow with
      | none =>
        have HF := Lib.hid (show wrongP x sh = ([], false) by unfold wrongP; rw [hv, hh, how]; rfl)
        rw [HF.out]
        clear hv hh how
        go_enter Tryz.func9, Tryz.ntmps9
        go_upto_region 1 with fail
        rw [← HW.out]
        go_wp2_with (first | (go_at_call 21; with_reducible refine (HO1 _ hB).out.mono ?_; rw [HV.out]; rintro e1 w1 ⟨rfl, hb1⟩; obtain ⟨⟨r0, r1, r2, r3, r4⟩, t0, t1, t2, t3, t4, t5⟩ := KB.out _ hb1) | (go_at_call 22; with_reducible refine (HO2 _ hb1).out.mono ?_; rw [HH.out]; rintro e1 w2 ⟨rfl, hb2⟩; have hb12 := HB0.out _ _ hb1 hb2; obtain ⟨⟨x0, x1, x2, x3, x4⟩, y0, y1, y2, y3, y4, y5⟩ := KB.out _ hb12) | (go_at_call 23; with_reducible refine (HX _ hb12).out.mono ?_; rintro e1 w3 ⟨vo, rfl, hb3, hf3, hp3⟩))
        go_ret2
        exact ⟨rfl, below2 hA0 (HB0.out _ _ hb12 hb3) (Nat.le_refl _)⟩
      | some p =>
        have HF := Lib.hid (show wrongP x sh = (putPath p, true) by unfold wrongP; rw [hv, hh, how]; rfl)
        have hsm := wrg_sm sh.nodes x sh p hxb how
        rw [HF.out]
        have HPP := fun W (hb : Below W0.heap.size W0 W) (vo : Value) (h : StrN W vo ([] ++ p)) => Lib.hid (putPath_impl p vo _ W (by simpa using h.row) (by have := hsm.1; omega) (fun s hs => by have := hsm.2 s hs; omega) (HTT.out _ hb).1 (HTT.out _ hb).2.2.choose_spec)
        clear hv hh how
        go_enter Tryz.func9, Tryz.ntmps9
        go_upto_region 1 with fail
        rw [← HW.out]
        go_wp2_with (first | (go_at_call 21; with_reducible refine (HO1 _ hB).out.mono ?_; rw [HV.out]; rintro e1 w1 ⟨rfl, hb1⟩; obtain ⟨⟨r0, r1, r2, r3, r4⟩, t0, t1, t2, t3, t4, t5⟩ := KB.out _ hb1) | (go_at_call 22; with_reducible refine (HO2 _ hb1).out.mono ?_; rw [HH.out]; rintro e1 w2 ⟨rfl, hb2⟩; have hb12 := HB0.out _ _ hb1 hb2; obtain ⟨⟨x0, x1, x2, x3, x4⟩, y0, y1, y2, y3, y4, y5⟩ := KB.out _ hb12) | (go_at_call 23; with_reducible refine (HX _ hb12).out.mono ?_; rintro e1 w3 ⟨vo, rfl, hb3, hf3, hp3⟩; have hb123 := HB0.out _ _ hb12 hb3) | (go_at_call 24; with_reducible refine (HPP _ hb123 _ (hp3 p rfl)).out.mono ?_; rintro e1 w4 ⟨rfl, hb4⟩))
        go_ret2
        exact ⟨rfl, below2 hA0 (HB0.out _ _ hb123 hb4) (Nat.le_refl _)⟩
end Go.Proofs.YtkeieeogkeonfaaGreatDoor

/- The walk of FnExactWrong. -/
namespace Go.Proofs.YtkeieeogkeonfaaGreatDoor
open Go.RowKit

set_option maxHeartbeats 4000000 in
set_option maxRecDepth 100000 in
theorem exactWrong (x0 : V) (cs0 : List Value) (x1 : Sh) (cs1 : List Value) (w : World) (hT : JTab w) (r0 : Rd w x0.d cs0) (f0 : x0.wf) (r1 : Rd w x1.d cs1) (f1 : x1.wf) :
    Calls Tryz.prog 3 #[.agg cs0.toArray, .agg cs1.toArray] w fun e w' => e = .returned (.bool true) ∧ Below w.heap.size w w' := by
  obtain ⟨kA0, lA0, jA0, sA0, aA0, nA0, cA0, rfl⟩ := V.form r0
  obtain ⟨kA1, lA1, jA1, aA1, nA1, cA1, mA1, bA1, pA1, qA1, rfl⟩ := Sh.form r1
  obtain ⟨W0, hW0⟩ : ∃ W0, W0 = ((w.alloc (.cells #[.int .i64 kA0, .int .i64 lA0, .int .i64 jA0, .string ⟨(sA0 : List UInt8).toArray⟩, .slice aA0 nA0 cA0] 24)).alloc (.cells #[.int .i64 kA1, .int .i64 lA1, .int .i64 jA1, .slice aA1 nA1 cA1, .int .i64 mA1, .slice bA1 pA1 qA1] 28)) := ⟨_, rfl⟩
  have HW := Lib.hid hW0
  have hA : Below w.heap.size w W0 := by rw [hW0]; exact (((Below.refl _ _).alloc (by simp <;> omega) _).alloc (by simp <;> omega) _)
  have RX0 := Lib.hid (show ∀ W, Below W0.heap.size W0 W → Rd W x0.d [.int .i64 kA0, .int .i64 lA0, .int .i64 jA0, .string ⟨(sA0 : List UInt8).toArray⟩, .slice aA0 nA0 cA0] from fun W hb => r0.below (below2 hA hb (Nat.le_refl _)))
  have RX1 := Lib.hid (show ∀ W, Below W0.heap.size W0 W → Rd W x1.d [.int .i64 kA1, .int .i64 lA1, .int .i64 jA1, .slice aA1 nA1 cA1, .int .i64 mA1, .slice bA1 pA1 qA1] from fun W hb => r1.below (below2 hA hb (Nat.le_refl _)))
  have HT := Lib.hid (show ∀ W, Below W0.heap.size W0 W → JTab W from fun W hb => hT.below (below2 hA hb (Nat.le_refl _)))
  have z0 : w.heap.size < W0.heap.size := by rw [hW0]; simp <;> omega
  have z1 : w.heap.size + 1 < W0.heap.size := by rw [hW0]; simp <;> omega
  have KB : Hid (∀ W, Below W0.heap.size W0 W → (W.cell? ⟨w.heap.size, 0, none⟩ = some (.int .i64 kA0) ∧ W.cell? ⟨w.heap.size, 1, none⟩ = some (.int .i64 lA0) ∧ W.cell? ⟨w.heap.size, 2, none⟩ = some (.int .i64 jA0) ∧ W.cell? ⟨w.heap.size, 3, none⟩ = some (.string ⟨(sA0 : List UInt8).toArray⟩) ∧ W.cell? ⟨w.heap.size, 4, none⟩ = some (.slice aA0 nA0 cA0)) ∧ (W.cell? ⟨w.heap.size + 1, 0, none⟩ = some (.int .i64 kA1) ∧ W.cell? ⟨w.heap.size + 1, 1, none⟩ = some (.int .i64 lA1) ∧ W.cell? ⟨w.heap.size + 1, 2, none⟩ = some (.int .i64 jA1) ∧ W.cell? ⟨w.heap.size + 1, 3, none⟩ = some (.slice aA1 nA1 cA1) ∧ W.cell? ⟨w.heap.size + 1, 4, none⟩ = some (.int .i64 mA1) ∧ W.cell? ⟨w.heap.size + 1, 5, none⟩ = some (.slice bA1 pA1 qA1))) := by
    intro W hb
    obtain ⟨hc, _⟩ := bcell hb
    simp only [hc _ _ z0, hc _ _ z1]
    subst hW0; simp [go_sem]
  clear hW0 hT r0 r1
  have hB : Below W0.heap.size W0 W0 := Below.refl _ _
  go_enter Tryz.func3, Tryz.ntmps3
  go_wp2_with fail
  rw [← HW.out]
  refine (szValue_any x0 _ _ _ (RX0.out _ hB) f0 (by omega)).mono ?_
  by_cases s0 : x0.bulk ≤ 1048576
  · rw [take'_yes (by omega)]
    rintro e w1 ⟨rfl, hb1⟩
    replace hB := below2 hB hb1 (Nat.le_refl _)
    obtain ⟨⟨c0_0, c0_1, c0_2, c0_3, c0_4⟩, ⟨c1_0, c1_1, c1_2, c1_3, c1_4, c1_5⟩⟩ := KB.out _ hB
    go_wp2_with fail
    refine (szShape_any x1 _ _ _ (RX1.out _ hB) f1 (by omega)).mono ?_
    by_cases s1 : x0.bulk + x1.bulk ≤ 1048576
    · rw [take'_yes (by omega)]
      rintro e w2 ⟨rfl, hb2⟩
      replace hB := below2 hB hb2 (Nat.le_refl _)
      clear c0_0 c0_1 c0_2 c0_3 c0_4 c1_0 c1_1 c1_2 c1_3 c1_4 c1_5
      have y0 : x0.bulk ≤ 1048576 := by omega
      have y1 : x1.bulk ≤ 1048576 := by omega
      go_wp2_with fail
      go_region_held3 (fun W => (W.cell? ⟨w.heap.size, 0, none⟩ = some (.int .i64 kA0) ∧ W.cell? ⟨w.heap.size, 1, none⟩ = some (.int .i64 lA0) ∧ W.cell? ⟨w.heap.size, 2, none⟩ = some (.int .i64 jA0) ∧ W.cell? ⟨w.heap.size, 3, none⟩ = some (.string ⟨(sA0 : List UInt8).toArray⟩) ∧ W.cell? ⟨w.heap.size, 4, none⟩ = some (.slice aA0 nA0 cA0)) ∧ (W.cell? ⟨w.heap.size + 1, 0, none⟩ = some (.int .i64 kA1) ∧ W.cell? ⟨w.heap.size + 1, 1, none⟩ = some (.int .i64 lA1) ∧ W.cell? ⟨w.heap.size + 1, 2, none⟩ = some (.int .i64 jA1) ∧ W.cell? ⟨w.heap.size + 1, 3, none⟩ = some (.slice aA1 nA1 cA1) ∧ W.cell? ⟨w.heap.size + 1, 4, none⟩ = some (.int .i64 mA1) ∧ W.cell? ⟨w.heap.size + 1, 5, none⟩ = some (.slice bA1 pA1 qA1))) (first | exact KB.out _ hB | exact KB.out _ hB.drew)
        (first | (go_at_call 7; with_reducible refine (toValue_any x0 _ _ (by first | exact RX0.out _ hB | exact RX0.out _ hB.drew) y0).mono ?_; rintro e v0 ⟨ds0, rfl, hbv0, ho0⟩; replace hB := below2 (by first | exact hB | exact hB.drew) hbv0 (Nat.le_refl _)) | (go_at_call 8; with_reducible refine (toShape_any x1 _ _ (by first | exact RX1.out _ hB | exact RX1.out _ hB.drew) y1).mono ?_; rintro e v1 ⟨ds1, rfl, hbv1, ho1⟩; replace hB := below2 (by first | exact hB | exact hB.drew) hbv1 (Nat.le_refl _)) | (go_at_call 6; refine (wrong_spec2 x0 x1 _ _ _ (ho0.rd.below hbv1) ho1.rd f0 f1 (by omega) (by omega)).mono ?_; rintro e ws ⟨rfl, hbs⟩; replace hB := below2 hB hbs (Nat.le_refl _)))
      obtain ⟨⟨c0_0, c0_1, c0_2, c0_3, c0_4⟩, ⟨c1_0, c1_1, c1_2, c1_3, c1_4, c1_5⟩⟩ := KB.out _ hB
      go_wp2_with fail
      refine (toValue_any x0 _ _ (RX0.out _ hB) y0).mono ?_
      rintro e u0 ⟨es0, rfl, hbu0, hu0⟩
      replace hB := below2 hB hbu0 (Nat.le_refl _)
      obtain ⟨kB0, lB0, jB0, sB0, aB0, nB0, cB0, rfl⟩ := V.form hu0.rd
      clear c0_0 c0_1 c0_2 c0_3 c0_4 c1_0 c1_1 c1_2 c1_3 c1_4 c1_5
      obtain ⟨W1, hW1⟩ : ∃ W1, W1 = u0.alloc (.cells #[.int .i64 kB0, .int .i64 lB0, .int .i64 jB0, .string ⟨(sB0 : List UInt8).toArray⟩, .slice aB0 nB0 cB0] 35) := ⟨_, rfl⟩
      have HW1 := Lib.hid hW1
      have hB1 : Below W0.heap.size W0 W1 := by rw [hW1]; exact hB.alloc hB.size _
      have t1 : u0.heap.size < W1.heap.size := by rw [hW1]; simp
      have hX0 := Lib.hid (show ∀ W, Below W1.heap.size W1 W → Rd W x0.d [.int .i64 kB0, .int .i64 lB0, .int .i64 jB0, .string ⟨(sB0 : List UInt8).toArray⟩, .slice aB0 nB0 cB0] from fun W hb => (show Rd W1 x0.d [.int .i64 kB0, .int .i64 lB0, .int .i64 jB0, .string ⟨(sB0 : List UInt8).toArray⟩, .slice aB0 nB0 cB0] by rw [hW1]; exact hu0.rd.alloc _).below hb)
      have KB1 : Hid (∀ W, Below W1.heap.size W1 W → ((W.cell? ⟨w.heap.size, 0, none⟩ = some (.int .i64 kA0) ∧ W.cell? ⟨w.heap.size, 1, none⟩ = some (.int .i64 lA0) ∧ W.cell? ⟨w.heap.size, 2, none⟩ = some (.int .i64 jA0) ∧ W.cell? ⟨w.heap.size, 3, none⟩ = some (.string ⟨(sA0 : List UInt8).toArray⟩) ∧ W.cell? ⟨w.heap.size, 4, none⟩ = some (.slice aA0 nA0 cA0)) ∧ (W.cell? ⟨w.heap.size + 1, 0, none⟩ = some (.int .i64 kA1) ∧ W.cell? ⟨w.heap.size + 1, 1, none⟩ = some (.int .i64 lA1) ∧ W.cell? ⟨w.heap.size + 1, 2, none⟩ = some (.int .i64 jA1) ∧ W.cell? ⟨w.heap.size + 1, 3, none⟩ = some (.slice aA1 nA1 cA1) ∧ W.cell? ⟨w.heap.size + 1, 4, none⟩ = some (.int .i64 mA1) ∧ W.cell? ⟨w.heap.size + 1, 5, none⟩ = some (.slice bA1 pA1 qA1))) ∧ (W.cell? ⟨u0.heap.size, 0, none⟩ = some (.int .i64 kB0) ∧ W.cell? ⟨u0.heap.size, 1, none⟩ = some (.int .i64 lB0) ∧ W.cell? ⟨u0.heap.size, 2, none⟩ = some (.int .i64 jB0) ∧ W.cell? ⟨u0.heap.size, 3, none⟩ = some (.string ⟨(sB0 : List UInt8).toArray⟩) ∧ W.cell? ⟨u0.heap.size, 4, none⟩ = some (.slice aB0 nB0 cB0))) := by
        intro W hb
        obtain ⟨hc, _⟩ := bcell hb
        refine ⟨KB.out _ (below2 hB1 hb (Nat.le_refl _)), ?_⟩
        simp only [hc _ _ t1]; subst hW1; simp [go_sem]
      clear hW1
      have hC1 : Below W1.heap.size W1 W1 := Below.refl _ _
      obtain ⟨⟨c0_0, c0_1, c0_2, c0_3, c0_4⟩, ⟨c1_0, c1_1, c1_2, c1_3, c1_4, c1_5⟩⟩ := KB.out _ hB
      have zu0 : w.heap.size < u0.heap.size := Nat.lt_of_lt_of_le z0 hB.size
      have zu1 : w.heap.size + 1 < u0.heap.size := Nat.lt_of_lt_of_le z1 hB.size
      go_wp2_with fail
      rw [← HW1.out]
      refine (toShape_any x1 _ _ (RX1.out _ (below2 hB1 hC1 (Nat.le_refl _))) y1).mono ?_
      rintro e u1 ⟨es1, rfl, hbu1, hu1⟩
      replace hC1 := below2 hC1 hbu1 (Nat.le_refl _)
      have hE1 := hC1
      obtain ⟨kB1, lB1, jB1, aB1, nB1, cB1, mB1, bB1, pB1, qB1, rfl⟩ := Sh.form hu1.rd
      clear c0_0 c0_1 c0_2 c0_3 c0_4 c1_0 c1_1 c1_2 c1_3 c1_4 c1_5
      obtain ⟨W2, hW2⟩ : ∃ W2, W2 = u1.alloc (.cells #[.int .i64 kB1, .int .i64 lB1, .int .i64 jB1, .slice aB1 nB1 cB1, .int .i64 mB1, .slice bB1 pB1 qB1] 39) := ⟨_, rfl⟩
      have HW2 := Lib.hid hW2
      have hB2 : Below W0.heap.size W0 W2 := by rw [hW2]; exact (below2 hB1 hC1 (Nat.le_refl _)).alloc (below2 hB1 hC1 (Nat.le_refl _)).size _
      have hD2 : Below W1.heap.size W1 W2 := by rw [hW2]; exact hC1.alloc hC1.size _
      have t2 : u1.heap.size < W2.heap.size := by rw [hW2]; simp
      have hX1 := Lib.hid (show ∀ W, Below W2.heap.size W2 W → Rd W x1.d [.int .i64 kB1, .int .i64 lB1, .int .i64 jB1, .slice aB1 nB1 cB1, .int .i64 mB1, .slice bB1 pB1 qB1] from fun W hb => (show Rd W2 x1.d [.int .i64 kB1, .int .i64 lB1, .int .i64 jB1, .slice aB1 nB1 cB1, .int .i64 mB1, .slice bB1 pB1 qB1] by rw [hW2]; exact hu1.rd.alloc _).below hb)
      have KB2 : Hid (∀ W, Below W2.heap.size W2 W → (((W.cell? ⟨w.heap.size, 0, none⟩ = some (.int .i64 kA0) ∧ W.cell? ⟨w.heap.size, 1, none⟩ = some (.int .i64 lA0) ∧ W.cell? ⟨w.heap.size, 2, none⟩ = some (.int .i64 jA0) ∧ W.cell? ⟨w.heap.size, 3, none⟩ = some (.string ⟨(sA0 : List UInt8).toArray⟩) ∧ W.cell? ⟨w.heap.size, 4, none⟩ = some (.slice aA0 nA0 cA0)) ∧ (W.cell? ⟨w.heap.size + 1, 0, none⟩ = some (.int .i64 kA1) ∧ W.cell? ⟨w.heap.size + 1, 1, none⟩ = some (.int .i64 lA1) ∧ W.cell? ⟨w.heap.size + 1, 2, none⟩ = some (.int .i64 jA1) ∧ W.cell? ⟨w.heap.size + 1, 3, none⟩ = some (.slice aA1 nA1 cA1) ∧ W.cell? ⟨w.heap.size + 1, 4, none⟩ = some (.int .i64 mA1) ∧ W.cell? ⟨w.heap.size + 1, 5, none⟩ = some (.slice bA1 pA1 qA1))) ∧ (W.cell? ⟨u0.heap.size, 0, none⟩ = some (.int .i64 kB0) ∧ W.cell? ⟨u0.heap.size, 1, none⟩ = some (.int .i64 lB0) ∧ W.cell? ⟨u0.heap.size, 2, none⟩ = some (.int .i64 jB0) ∧ W.cell? ⟨u0.heap.size, 3, none⟩ = some (.string ⟨(sB0 : List UInt8).toArray⟩) ∧ W.cell? ⟨u0.heap.size, 4, none⟩ = some (.slice aB0 nB0 cB0))) ∧ (W.cell? ⟨u1.heap.size, 0, none⟩ = some (.int .i64 kB1) ∧ W.cell? ⟨u1.heap.size, 1, none⟩ = some (.int .i64 lB1) ∧ W.cell? ⟨u1.heap.size, 2, none⟩ = some (.int .i64 jB1) ∧ W.cell? ⟨u1.heap.size, 3, none⟩ = some (.slice aB1 nB1 cB1) ∧ W.cell? ⟨u1.heap.size, 4, none⟩ = some (.int .i64 mB1) ∧ W.cell? ⟨u1.heap.size, 5, none⟩ = some (.slice bB1 pB1 qB1))) := by
        intro W hb
        obtain ⟨hc, _⟩ := bcell hb
        refine ⟨KB1.out _ (below2 hD2 hb (Nat.le_refl _)), ?_⟩
        simp only [hc _ _ t2]; subst hW2; simp [go_sem]
      clear hW2
      have hC2 : Below W2.heap.size W2 W2 := Below.refl _ _
      obtain ⟨⟨⟨o0_0, o0_1, o0_2, o0_3, o0_4⟩, ⟨o1_0, o1_1, o1_2, o1_3, o1_4, o1_5⟩⟩, ⟨r0_0, r0_1, r0_2, r0_3, r0_4⟩⟩ := KB1.out _ hE1
      have zv0 : w.heap.size < u1.heap.size := Nat.lt_of_lt_of_le (Nat.lt_of_lt_of_le z0 hB1.size) hE1.size
      have zv1 : w.heap.size + 1 < u1.heap.size := Nat.lt_of_lt_of_le (Nat.lt_of_lt_of_le z1 hB1.size) hE1.size
      have zv9 : u0.heap.size < u1.heap.size := Nat.lt_of_lt_of_le t1 hE1.size
      obtain ⟨⟨⟨⟨c0_0, c0_1, c0_2, c0_3, c0_4⟩, ⟨c1_0, c1_1, c1_2, c1_3, c1_4, c1_5⟩⟩, ⟨d0_0, d0_1, d0_2, d0_3, d0_4⟩⟩, ⟨d1_0, d1_1, d1_2, d1_3, d1_4, d1_5⟩⟩ := KB2.out _ hC2
      go_wp2_with fail
      rw [← HW2.out]
      clear o0_0 o0_1 o0_2 o0_3 o0_4 o1_0 o1_1 o1_2 o1_3 o1_4 o1_5 r0_0 r0_1 r0_2 r0_3 r0_4
      refine (wrong_impl x0 x1 _ _ _ (hX0.out _ (below2 hD2 hC2 (Nat.le_refl _))) (hX1.out _ hC2) f0 f1 (by omega) (by omega) (HT.out _ (below2 hB2 hC2 (Nat.le_refl _)))).mono ?_
      rintro e wi ⟨rfl, hbi⟩
      replace hC2 := below2 hC2 hbi (Nat.le_refl _)
      clear c0_0 c0_1 c0_2 c0_3 c0_4 c1_0 c1_1 c1_2 c1_3 c1_4 c1_5 d0_0 d0_1 d0_2 d0_3 d0_4 d1_0 d1_1 d1_2 d1_3 d1_4 d1_5
      obtain ⟨⟨⟨⟨c0_0, c0_1, c0_2, c0_3, c0_4⟩, ⟨c1_0, c1_1, c1_2, c1_3, c1_4, c1_5⟩⟩, ⟨d0_0, d0_1, d0_2, d0_3, d0_4⟩⟩, ⟨d1_0, d1_1, d1_2, d1_3, d1_4, d1_5⟩⟩ := KB2.out _ hC2
      go_wp2_with fail
      clear c0_0 c0_1 c0_2 c0_3 c0_4 c1_0 c1_1 c1_2 c1_3 c1_4 c1_5 d0_0 d0_1 d0_2 d0_3 d0_4 d1_0 d1_1 d1_2 d1_3 d1_4 d1_5
      go_region_held3 (fun W => (((W.cell? ⟨w.heap.size, 0, none⟩ = some (.int .i64 kA0) ∧ W.cell? ⟨w.heap.size, 1, none⟩ = some (.int .i64 lA0) ∧ W.cell? ⟨w.heap.size, 2, none⟩ = some (.int .i64 jA0) ∧ W.cell? ⟨w.heap.size, 3, none⟩ = some (.string ⟨(sA0 : List UInt8).toArray⟩) ∧ W.cell? ⟨w.heap.size, 4, none⟩ = some (.slice aA0 nA0 cA0)) ∧ (W.cell? ⟨w.heap.size + 1, 0, none⟩ = some (.int .i64 kA1) ∧ W.cell? ⟨w.heap.size + 1, 1, none⟩ = some (.int .i64 lA1) ∧ W.cell? ⟨w.heap.size + 1, 2, none⟩ = some (.int .i64 jA1) ∧ W.cell? ⟨w.heap.size + 1, 3, none⟩ = some (.slice aA1 nA1 cA1) ∧ W.cell? ⟨w.heap.size + 1, 4, none⟩ = some (.int .i64 mA1) ∧ W.cell? ⟨w.heap.size + 1, 5, none⟩ = some (.slice bA1 pA1 qA1))) ∧ (W.cell? ⟨u0.heap.size, 0, none⟩ = some (.int .i64 kB0) ∧ W.cell? ⟨u0.heap.size, 1, none⟩ = some (.int .i64 lB0) ∧ W.cell? ⟨u0.heap.size, 2, none⟩ = some (.int .i64 jB0) ∧ W.cell? ⟨u0.heap.size, 3, none⟩ = some (.string ⟨(sB0 : List UInt8).toArray⟩) ∧ W.cell? ⟨u0.heap.size, 4, none⟩ = some (.slice aB0 nB0 cB0))) ∧ (W.cell? ⟨u1.heap.size, 0, none⟩ = some (.int .i64 kB1) ∧ W.cell? ⟨u1.heap.size, 1, none⟩ = some (.int .i64 lB1) ∧ W.cell? ⟨u1.heap.size, 2, none⟩ = some (.int .i64 jB1) ∧ W.cell? ⟨u1.heap.size, 3, none⟩ = some (.slice aB1 nB1 cB1) ∧ W.cell? ⟨u1.heap.size, 4, none⟩ = some (.int .i64 mB1) ∧ W.cell? ⟨u1.heap.size, 5, none⟩ = some (.slice bB1 pB1 qB1))) (first | exact KB2.out _ hC2 | exact KB2.out _ hC2.drew)
        (first | (go_at_call 7; with_reducible refine (toValue_any x0 _ _ (by first | exact RX0.out _ (below2 hB2 hC2 (Nat.le_refl _)) | exact RX0.out _ (below2 hB2 hC2.drew (Nat.le_refl _))) y0).mono ?_; rintro e p0 ⟨ps0, rfl, hbp0, hop0⟩; replace hC2 := below2 (by first | exact hC2 | exact hC2.drew) hbp0 (Nat.le_refl _)) | (go_at_call 10; refine (eqValue_any x0 x0 _ _ _ (hX0.out _ (below2 hD2 hC2 (Nat.le_refl _))) hop0.rd y0 y0).mono ?_; rintro e q0 ⟨rfl, hbq0⟩; replace hC2 := below2 hC2 hbq0 (Nat.le_refl _)))
      go_wp2_with fail
      go_region_held3 (fun W => (((W.cell? ⟨w.heap.size, 0, none⟩ = some (.int .i64 kA0) ∧ W.cell? ⟨w.heap.size, 1, none⟩ = some (.int .i64 lA0) ∧ W.cell? ⟨w.heap.size, 2, none⟩ = some (.int .i64 jA0) ∧ W.cell? ⟨w.heap.size, 3, none⟩ = some (.string ⟨(sA0 : List UInt8).toArray⟩) ∧ W.cell? ⟨w.heap.size, 4, none⟩ = some (.slice aA0 nA0 cA0)) ∧ (W.cell? ⟨w.heap.size + 1, 0, none⟩ = some (.int .i64 kA1) ∧ W.cell? ⟨w.heap.size + 1, 1, none⟩ = some (.int .i64 lA1) ∧ W.cell? ⟨w.heap.size + 1, 2, none⟩ = some (.int .i64 jA1) ∧ W.cell? ⟨w.heap.size + 1, 3, none⟩ = some (.slice aA1 nA1 cA1) ∧ W.cell? ⟨w.heap.size + 1, 4, none⟩ = some (.int .i64 mA1) ∧ W.cell? ⟨w.heap.size + 1, 5, none⟩ = some (.slice bA1 pA1 qA1))) ∧ (W.cell? ⟨u0.heap.size, 0, none⟩ = some (.int .i64 kB0) ∧ W.cell? ⟨u0.heap.size, 1, none⟩ = some (.int .i64 lB0) ∧ W.cell? ⟨u0.heap.size, 2, none⟩ = some (.int .i64 jB0) ∧ W.cell? ⟨u0.heap.size, 3, none⟩ = some (.string ⟨(sB0 : List UInt8).toArray⟩) ∧ W.cell? ⟨u0.heap.size, 4, none⟩ = some (.slice aB0 nB0 cB0))) ∧ (W.cell? ⟨u1.heap.size, 0, none⟩ = some (.int .i64 kB1) ∧ W.cell? ⟨u1.heap.size, 1, none⟩ = some (.int .i64 lB1) ∧ W.cell? ⟨u1.heap.size, 2, none⟩ = some (.int .i64 jB1) ∧ W.cell? ⟨u1.heap.size, 3, none⟩ = some (.slice aB1 nB1 cB1) ∧ W.cell? ⟨u1.heap.size, 4, none⟩ = some (.int .i64 mB1) ∧ W.cell? ⟨u1.heap.size, 5, none⟩ = some (.slice bB1 pB1 qB1))) (first | exact KB2.out _ hC2 | exact KB2.out _ hC2.drew)
        (first | (go_at_call 8; with_reducible refine (toShape_any x1 _ _ (by first | exact RX1.out _ (below2 hB2 hC2 (Nat.le_refl _)) | exact RX1.out _ (below2 hB2 hC2.drew (Nat.le_refl _))) y1).mono ?_; rintro e p1 ⟨ps1, rfl, hbp1, hop1⟩; replace hC2 := below2 (by first | exact hC2 | exact hC2.drew) hbp1 (Nat.le_refl _)) | (go_at_call 11; refine (eqShape_any x1 x1 _ _ _ (hX1.out _ hC2) hop1.rd y1 y1).mono ?_; rintro e q1 ⟨rfl, hbq1⟩; replace hC2 := below2 hC2 hbq1 (Nat.le_refl _)))
      go_wp2_with fail
      go_ret
      exact ⟨rfl, below2 hA (below2 hB2 hC2 (Nat.le_refl _)) (Nat.le_refl _)⟩
    · rw [take'_no (by omega)]
      rintro e w2 ⟨rfl, hb2⟩
      clear c0_0 c0_1 c0_2 c0_3 c0_4 c1_0 c1_1 c1_2 c1_3 c1_4 c1_5
      go_wp2
      go_ret
      exact ⟨rfl, below2 hA (below2 hB hb2 (Nat.le_refl _)) (Nat.le_refl _)⟩
  · rw [take'_no (by omega)]
    rintro e w1 ⟨rfl, hb1⟩
    go_wp2
    go_ret
    exact ⟨rfl, below2 hA (below2 hB hb1 (Nat.le_refl _)) (Nat.le_refl _)⟩
end Go.Proofs.YtkeieeogkeonfaaGreatDoor

/- The walk of FnExactWrong, under the facts on the program's tables one by one. -/
namespace Go.Proofs.YtkeieeogkeonfaaGreatDoor
open Go.RowKit

theorem exactWrongW (x0 : V) (cs0 : List Value) (x1 : Sh) (cs1 : List Value) (w : World) (hm : ∃ m, w.cell? ⟨2, 0, none⟩ = some (.int .i64 m)) (hT : Tabs w) (hTen : TenTab w) (r0 : Rd w x0.d cs0) (f0 : x0.wf) (r1 : Rd w x1.d cs1) (f1 : x1.wf) :
    Calls Tryz.prog 3 #[.agg cs0.toArray, .agg cs1.toArray] w fun e w' => e = .returned (.bool true) ∧ Below w.heap.size w w' := exactWrong x0 cs0 x1 cs1 w ⟨hT, hTen, hm⟩ r0 f0 r1 f1
end Go.Proofs.YtkeieeogkeonfaaGreatDoor
